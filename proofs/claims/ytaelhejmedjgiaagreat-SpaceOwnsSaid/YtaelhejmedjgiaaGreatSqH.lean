/- SpaceOwns in memory: a pager's disk crashed and opened anew; the pages that are somebody's. -/
import Derived.Test.YtaelhejmedjgiaaGreatSqG
import Derived.Test.YtaelhejmedjgiaaGreatLift
import Derived.ArgAppend
set_option linter.unusedVariables false
set_option linter.unusedSimpArgs false
namespace Go.Proofs.YtaelhejmedjgiaaGreat
open Go.RowKit Go.Maps
set_option maxRecDepth 20000
section
variable {w W W' : World} {pb l b : Nat} {p : Pg} {g g' : Lg} {d d' : Dsk} {X X' : Nat → Prop}
theorem PgX.dsk (h : PgX w W pb l b p g d X) : ∃ F, DiskAt W b F d ∧ (∀ k, F.own k ∨ F.sh k → ¬ X k ∧ w.heap.size ≤ k) ∧ ∀ w' d', Did W b F d' w' → PgX w w' pb l b p g d' X ∧ ∀ k, X k → w'.heap[k]? = W.heap[k]? := by
 obtain ⟨⟨F, G, K, nv, sv, h1, h2, h3, h4⟩, hb, hx⟩ := h
 exact ⟨F, h1.disk, fun k hk => ⟨(h4 k (.inl (hk.elim .inl fun e => .inr (.inl e)))).2, (h4 k (.inl (hk.elim .inl fun e => .inr (.inl e)))).1⟩, fun w' d' hd => pgx_log h1 h2 h3 h4 hb hx (h1.did hd)⟩
theorem px_crash (h : PgX w W pb l b p g d X) (kv : Value) (keep : List Bool) (hk : KeepAt W kv keep) (hkb : ∀ q, keepBlk kv keep = some q → q < w.heap.size) (hs : d.Small 1099511627776) (hkl : keep.length ≤ 1099511627776) :
  Calls Tryz.prog 12 #[.pointer (some ⟨b, 0, none⟩), kv] W fun e w' => e = .returned (.int .i64 0) ∧ PgX w w' pb l b p g (crashM d keep) X ∧ ∀ k, X k → w'.heap[k]? = W.heap[k]? := by
 obtain ⟨F, hF, hFx, hgo⟩ := h.dsk
 exact (crash_any hF kv keep hk (fun q hq => ⟨fun e => by have := (hFx q (.inl e)).2; have := hkb q hq; omega, Nat.lt_of_lt_of_le (hkb q hq) h.bel.size⟩) hs hkl).mono fun r w' hh => ⟨hh.1, hgo _ _ hh.2⟩
theorem px_again {g0 : Lg} {p' : Pg} (h : PgX w W pb l b p' g0 d X) (ho : lopenM d = (some g, 0)) : Calls Tryz.prog 7 #[.pointer (some ⟨b, 0, none⟩)] W fun e w' => ∃ pb2 l2, e = .returned (.tuple #[.pointer (some ⟨pb2, 0, none⟩), .int .i64 0]) ∧ PgX w w' pb2 l2 b p0 g d X ∧ ∀ k, X k → w'.heap[k]? = W.heap[k]? := by
 obtain ⟨F, hF, hge, -⟩ := h.dsk
 have hb := h.bel
 have hxl := h.xlt
 have OP := lopen_any hF
 rw [ho] at OP
 have OP := hid OP
 have HF := hid hge
 have HB := hid hb
 have HX := hid hxl
 clear h hF ho hge hb hxl
 go_enter Tryz.func7, Tryz.ntmps7
 go_wp2_with (first
  | (go_at_call 20; refine (OP.out).mono ?_; rintro e w1 ⟨hb2, l, G, rfl, h3, h4⟩; have HB2 := hid hb2; have H3 := hid h3; have H4 := hid h4; clear hb2 h3 h4)
  | go_in)
 go_ret2
 have h1 := H3.out
 have hsz := HB.out.size
 have hsz2 := HB2.out.size
 have hb1 : Below w1.heap.size w1 (w1.alloc (.cells #[.pointer (some ⟨l, 0, none⟩), .pointer none, .slice none 0 0, .int .i64 0] 72)) := (Below.refl _ w1).alloc (Nat.le_refl _) _
 have hn1 := heap_alloc_new w1 (.cells #[.pointer (some ⟨l, 0, none⟩), .pointer none, .slice none 0 0, .int .i64 0] 72)
 have hbel : Below W.heap.size W (w1.alloc (.cells #[.pointer (some ⟨l, 0, none⟩), .pointer none, .slice none 0 0, .int .i64 0] 72)) := HB2.out.trans (hb1.mono hsz2)
 refine ⟨w1.heap.size, l, rfl, ⟨⟨F, G, ⟨fun k => k = w1.heap.size, fun _ => False⟩, .pointer none, .slice none 0 0, h1.below hb1, ⟨hn1, rfl, ⟨[], rfl, World.ownsRow_nil _ _ _ _, (fun k hk => by cases hk), (fun x hx => by cases hx)⟩, (fun nb e => by cases e), rfl, (fun k hk => by rw [hk]; exact lt_of_block hn1), (fun k hk => hk.elim), (fun k _ hk => hk), ⟨(fun t ht => by cases ht), (fun t ht => by cases ht), by simp [p0], fun _ => rfl⟩⟩, fun k hk => ?_, fun k hk => ?_⟩, HB.out.trans (hbel.mono hsz), fun k hk => Nat.lt_of_lt_of_le (HX.out k hk) hbel.size⟩, fun k hk => hbel.block k (HX.out k hk)⟩
 ·rcases hk with hk | hk
  ·subst hk
   refine ⟨fun f => ?_, fun f => ?_, fun f => ?_⟩
   ·have := h1.flt (k := w1.heap.size) (.inl f); omega
   ·have := h1.flt (k := w1.heap.size) (.inr (.inl f)); omega
   ·have := h1.flt (k := w1.heap.size) (.inr (.inr f)); omega
  ·exact hk.elim
 ·rcases hk with (hk | hk | hk) | hk | hk
  ·exact ⟨(HF.out k (.inl hk)).2, (HF.out k (.inl hk)).1⟩
  ·exact ⟨(HF.out k (.inr hk)).2, (HF.out k (.inr hk)).1⟩
  ·exact ⟨Nat.le_trans hsz (H4.out k hk), fun e => by have := HX.out k e; have := H4.out k hk; omega⟩
  ·have hk : k = w1.heap.size := hk
   exact ⟨by omega, fun e => by have := HX.out k e; omega⟩
  ·exact hk.elim
theorem spc_small {N : Nat} (hg : g.head.pages ≤ 256) (h : d.Small N) (p : Pg) : (spCommitM p g d).2.2.2.Small (N + 8519680) := by
 have hm := h.mono (M := N + 8519680) (by omega)
 unfold spCommitM
 split
 ·exact hm
 split
 ·exact hm
 ·exact commit_small N hg h _
end
theorem erase_perm {P : List Nat} {i : Nat} (hi : i < P.length) : List.Perm (P[i] :: P.eraseIdx i) P := by
 have e : P = P.take i ++ P[i] :: P.drop (i + 1) := by rw [← List.drop_eq_getElem_cons hi, List.take_append_drop]
 rw [List.eraseIdx_eq_take_drop_succ]
 conv => rhs; rw [e]
 exact List.perm_middle.symm
structure Owned (h : Hdr) (M : List (List UInt8)) (F P : List Nat) : Prop where
 spc : Spc h M F
 nodup : (F ++ P).Nodup
 all : F.length + P.length = M.length
 range : ∀ x ∈ P, 2 ≤ x ∧ x ≤ M.length + 1
def OwT (p : Pg) (g : Lg) (d : Dsk) (P : List Nat) : Prop := ∃ t h M F L, Tx p g d t (hdrPg h :: M) ∧ Owned h M F P ∧ Sure g d L
def OwC (g : Lg) (d : Dsk) (P : List Nat) : Prop := ∃ L h M F, Sure g d L ∧ ((L = [] ∧ h = hdr0 ∧ M = [] ∧ F = []) ∨ (L = hdrPg h :: M ∧ Spc h M F)) ∧ Owned h M F P
theorem owc_new : OwC exG0 newM [] := ⟨[], hdr0, [], [], sure_new, .inl ⟨rfl, rfl, rfl, rfl⟩, spc_new, List.nodup_nil, rfl, (fun x hx => by cases hx)⟩
section
variable {w W W' : World} {pb l b N : Nat} {p : Pg} {g g' : Lg} {d d' : Dsk} {X X' : Nat → Prop} {P : List Nat}
theorem owt_alloc (hx : PgX w W pb l b p g d X) (h : OwT p g d P) (hP : P.length ≤ 200) : Calls Tryz.prog 9 #[.pointer (some ⟨pb, 0, none⟩)] W fun e w' => ∃ (n : Nat) (p' : Pg), e = .returned (.tuple #[.int .i64 (n : Int), .int .i64 0]) ∧ (2 ≤ n ∧ n ≤ 257 ∧ n ∉ P) ∧ PgX w w' pb l b p' g d X ∧ OwT p' g d (P ++ [n]) ∧ ∀ k, X k → w'.heap[k]? = W.heap[k]? := by
 obtain ⟨t, h, M, F, L, hT, hO, hS⟩ := h
 have hd := hO.spc.hd
 have hall := hO.all
 cases F with
 | nil =>
  rw [List.length_nil, Nat.zero_add] at hall
  obtain ⟨t', a1, a2, a3⟩ := spc_alloc0 hT hO.spc (by omega)
  have hz : (readySM p g d).1.free = 0 := by rw [(tx_ready hT hd).2]; exact hO.spc.free
  have A := alloc0_any hx hz
  rw [a1] at A
  have hn : M.length + 2 ∉ P := fun e => by have := hO.range _ e; omega
  refine A.mono ?_
  rintro e w' ⟨rfl, h1, h2⟩
  refine ⟨M.length + 2, _, by rw [Int.natCast_add]; rfl, ⟨by omega, by omega, hn⟩, h1, ⟨t', h, M ++ [zeros 512], [], L, a2, ⟨a3, ?_, by simp; omega, fun x hx => ?_⟩, hS⟩, h2⟩
  ·have hn2 := hO.nodup
   rw [List.nil_append] at hn2 ⊢
   exact List.nodup_append.2 ⟨hn2, by simp, fun a ha b hb e => hn (by rw [List.mem_singleton.1 hb] at e; exact e ▸ ha)⟩
  ·rw [List.length_append, List.length_singleton]
   rcases List.mem_append.1 hx with e | e
   ·have := hO.range x e; omega
   ·rw [List.mem_singleton.1 e]; omega
 | cons x r =>
  obtain ⟨f1, f2, f3, f4, f5⟩ := spc_free hT hO.spc
  obtain ⟨t', a1, a2, a3⟩ := spc_alloc1 hT hO.spc
  have A := alloc1_any hx f1 f2 f3 ((r.headD 0 : Nat) : Int) (by omega) (by omega) f4
  rw [a1] at A
  have hn := hO.nodup
  rw [List.cons_append, List.nodup_cons] at hn
  have hr := hO.spc.range x List.mem_cons_self
  have hf := hO.spc.few
  rw [List.length_cons] at hall
  refine A.mono ?_
  rintro e w' ⟨rfl, h1, h2⟩
  refine ⟨x, _, rfl, ⟨hr.1, by omega, fun e => hn.1 (List.mem_append.2 (.inr e))⟩, h1, ⟨t', _, M, r, L, a2, ⟨a3, ?_, by simp; omega, fun y hy => ?_⟩, hS⟩, h2⟩
  ·have hp : List.Perm (r ++ (P ++ [x])) (x :: (r ++ P)) := by
    rw [← List.append_assoc]
    exact List.perm_append_comm
   exact hp.nodup_iff.2 (List.nodup_cons.2 hn)
  ·rcases List.mem_append.1 hy with e | e
   ·exact hO.range y e
   ·rw [List.mem_singleton.1 e]; exact hr
theorem owt_free (hx : PgX w W pb l b p g d X) (h : OwT p g d P) {i : Nat} (hi : i < P.length) : Calls Tryz.prog 10 #[.pointer (some ⟨pb, 0, none⟩), .int .i64 (P[i] : Int)] W fun e w' => ∃ p' : Pg, e = .returned (.int .i64 0) ∧ PgX w w' pb l b p' g d X ∧ OwT p' g d (P.eraseIdx i) ∧ ∀ k, X k → w'.heap[k]? = W.heap[k]? := by
 obtain ⟨t, h, M, F, L, hT, hO, hS⟩ := h
 have hr := hO.range P[i] (List.getElem_mem hi)
 have hf := hO.spc.few
 have hn := hO.nodup
 have hF : P[i] ∉ F := fun e => (List.nodup_append.1 hn).2.2 _ e _ (List.getElem_mem hi) rfl
 obtain ⟨t', a1, a2, a3⟩ := spc_give hT hO.spc hr.1 hr.2 hF
 have A := sfree_any hx (P[i] : Int) (by unfold in64; omega)
 rw [a1] at A
 have hall := hO.all
 have hp : List.Perm (P[i] :: P.eraseIdx i) P := erase_perm hi
 refine A.mono ?_
 rintro e w' ⟨rfl, h1, h2⟩
 refine ⟨_, rfl, h1, ⟨t', _, _, _, L, a2, ⟨a3, ?_, ?_, fun y hy => ?_⟩, hS⟩, h2⟩
 ·have hq : List.Perm ((P[i] :: F) ++ P.eraseIdx i) (F ++ P) := by
   refine List.Perm.trans ?_ (List.Perm.append_left F hp)
   rw [List.cons_append]
   exact List.perm_middle.symm
  exact hq.nodup_iff.2 hn
 ·have hl := hp.length_eq
  rw [List.length_cons] at hl ⊢
  rw [List.length_set]
  omega
 ·rw [List.length_set]
  exact hO.range y (List.mem_of_mem_eraseIdx hy)
theorem owt_commit (hx : PgX w W pb l b p g d X) (h : OwT p g d P) (hsm : d.Small N) (hN : N + 33554432 ≤ 1099511527776) : Calls Tryz.prog 11 #[.pointer (some ⟨pb, 0, none⟩)] W fun e w' => ∃ g' d', e = .returned (.int .i64 0) ∧ PgX w w' pb l b (emptied p) g' d' X ∧ OwC g' d' P ∧ d'.Small (N + 8519680) ∧ ∀ k, X k → w'.heap[k]? = W.heap[k]? := by
 obtain ⟨t, h, M, F, L, hT, hO, hS⟩ := h
 obtain ⟨g', d', a1, a2⟩ := sure_commit hT hO.spc.hd hS hx.oks.1 hO.spc.len
 have hs := spc_small (g := g) (d := d) (p := p) (by have := hS.db.pages; have := hS.db.many; omega) hsm
 have A := scommit_any hx N hsm hN
 rw [a1] at A hs
 refine A.mono ?_
 rintro e w' ⟨rfl, h1, h2⟩
 exact ⟨g', d', rfl, h1, ⟨_, _, _, _, a2, .inr ⟨rfl, spc_bumped hO.spc⟩, spc_bumped hO.spc, hO.nodup, hO.all, hO.range⟩, hs, h2⟩
theorem owc_crash (hx : PgX w W pb l b p g d X) (h : OwC g d P) (hsm : d.Small N) (hN : N ≤ 1099511627776) : Calls Tryz.prog 12 #[.pointer (some ⟨b, 0, none⟩), .slice none 0 0] W fun e w' => ∃ g' d', e = .returned (.int .i64 0) ∧ lopenM d' = (some g', 0) ∧ OwC g' d' P ∧ PgX w w' pb l b p g d' X ∧ d'.Small N ∧ ∀ k, X k → w'.heap[k]? = W.heap[k]? := by
 obtain ⟨L, h, M, F, hS, hL, hO⟩ := h
 obtain ⟨g', c1, c2⟩ := sure_crash hS
 have A := px_crash hx (.slice none 0 0) [] ⟨none, 0, rfl, .inl rfl⟩ (fun q e => by cases e) (hsm.mono hN) (Nat.zero_le _)
 refine A.mono ?_
 rintro e w' ⟨rfl, h1, h2⟩
 exact ⟨g', _, rfl, c1, ⟨L, h, M, F, c2, hL, hO⟩, h1, ⟨hsm.ops, Nat.zero_le _, Nat.zero_le _⟩, h2⟩
theorem owc_begin (hx : PgX w W pb l b p g d X) (hn : p.now = none) (ho : p.opn = 0) (h : OwC g d P) : Calls Tryz.prog 8 #[.pointer (some ⟨pb, 0, none⟩)] W fun e w' => ∃ p' : Pg, e = .returned (.int .i64 0) ∧ PgX w w' pb l b p' g d X ∧ OwT p' g d P ∧ ∀ k, X k → w'.heap[k]? = W.heap[k]? := by
 obtain ⟨L, h, M, F, hS, hL, hO⟩ := h
 obtain ⟨t', a1, a2, a3⟩ := spc_begin hS hL hn ho
 have A := sbegin_any hx
 rw [a1] at A
 refine A.mono ?_
 rintro e w' ⟨rfl, h1, h2⟩
 exact ⟨_, rfl, h1, ⟨t', h, M, F, L, a2, hO, hS⟩, h2⟩
theorem owt_sums (h : OwT p g d P) : ∃ (f c : Nat) (k : Int) (r : List Int), readHM p g d = (⟨f, c, k, r⟩, 0) ∧ r.length = 8 ∧ ppagesM p g = ((c + P.length + 1 : Nat) : Int) ∧ c ≤ 255 := by
 obtain ⟨t, h, M, F, L, hT, hO, hS⟩ := h
 have hw := hO.spc.hd.wf.len
 have hall := hO.all
 have hf := hO.spc.few
 have e1 := hO.spc.free
 have e2 := hO.spc.count
 obtain ⟨f, c, k, r⟩ := h
 dsimp only at e1 e2 hw
 subst e1 e2
 refine ⟨F.headD 0, F.length, k, r, (tx_ready hT hO.spc.hd).1, hw, ?_, by omega⟩
 rw [tx_pages hT]
 simp
 omega
end
def OwnI (W : World) (base : Nat) (v : Value) (xs : List Nat) : Prop :=
 W.ownsRow base 3 1 v xs.length (xs.map fun (x : Nat) => Value.int .i64 (x : Int)) ∨
 ∃ g cur, v = .slice (some ⟨g, 0, none⟩) xs.length xs.length ∧ base ≤ g ∧ W.heap[g]? = some (.cells cur 3 (0, 0)) ∧ cur.toList.take xs.length = (xs.map fun (x : Nat) => Value.int .i64 (x : Int)) ∧ xs.length ≤ maxLen
section
variable {W W' : World} {base : Nat} {v : Value} {xs : List Nat}
theorem OwnI.keep (h : OwnI W base v xs) (hk : ∀ k, v.ownBlock = some k → W'.heap[k]? = W.heap[k]?) : OwnI W' base v xs := by
 rcases h with h | ⟨g, cur, rfl, h1, h2, h3, h4⟩
 ·exact .inl (row_keep h hk)
 ·exact .inr ⟨g, cur, rfl, h1, (hk g rfl).trans h2, h3, h4⟩
theorem OwnI.get (h : OwnI W base v xs) : ∃ ao cap, v = .slice ao xs.length cap ∧ xs.length ≤ cap ∧ cap ≤ maxLen ∧ ∀ (i : Nat) (hi : i < xs.length), ∃ g, ao = some ⟨g, 0, none⟩ ∧ g < W.heap.size ∧ W.cell? ⟨g, i, none⟩ = some (.int .i64 (xs[i] : Int)) := by
 rcases h with ⟨h0, ⟨rfl, h1⟩ | ⟨g, cap, cur, rfl, h2, h3, h4, h5, h6, h7⟩⟩ | ⟨g, cur, rfl, h1, h2, h3, hl⟩
 ·exact ⟨none, 0, by rw [h1], by omega, by simp [maxLen], fun i hi => by omega⟩
 ·refine ⟨_, cap, rfl, h4, h5, fun i hi => ⟨g, rfl, lt_of_block h3, ?_⟩⟩
  rw [Nat.mul_one] at h7
  have e : cur.toList[i]? = some (.int .i64 (xs[i] : Int)) := by
   have e1 : (cur.toList.take xs.length)[i]? = some (.int .i64 (xs[i] : Int)) := by rw [h7]; simp [hi]
   rwa [List.getElem?_take_of_lt hi] at e1
  rw [cell_of_block h3]
  simpa using e
 ·refine ⟨_, xs.length, rfl, Nat.le_refl _, hl, fun i hi => ⟨g, rfl, lt_of_block h2, ?_⟩⟩
  have e : cur.toList[i]? = some (.int .i64 (xs[i] : Int)) := by
   have e1 : (cur.toList.take xs.length)[i]? = some (.int .i64 (xs[i] : Int)) := by rw [h3]; simp [hi]
   rwa [List.getElem?_take_of_lt hi] at e1
  rw [cell_of_block h2]
  simpa using e
end
end Go.Proofs.YtaelhejmedjgiaaGreat
