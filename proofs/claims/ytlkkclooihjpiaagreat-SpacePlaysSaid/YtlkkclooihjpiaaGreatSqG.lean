/- Space over a pager: Alloc where a page is free. -/
import Derived.Test.YtlkkclooihjpiaaGreatSpK
import Derived.Test.YtlkkclooihjpiaaGreatSpF
set_option linter.unusedVariables false
set_option linter.unusedSimpArgs false
namespace Go.Proofs.YtlkkclooihjpiaaGreat
open Go.RowKit Go.Maps
set_option maxRecDepth 20000
def usedH (h : Hdr) (x : Int) : Hdr := { h with free := x, count := h.count - 1 }
def alloc1M (p : Pg) (g : Lg) (d : Dsk) (x : Int) : Int × Int × Pg :=
 if (writeHM p (usedH (readySM p g d).1 x)).1 ≠ 0 then (0, 7, (writeHM p (usedH (readySM p g d).1 x)).2) else ((readySM p g d).1.free, 0, (writeHM p (usedH (readySM p g d).1 x)).2)
section
variable {w W W' : World} {pb l b : Nat} {p p' : Pg} {g g' : Lg} {d d' : Dsk} {X X' : Nat → Prop}
set_option maxHeartbeats 8000000 in
set_option maxRecDepth 20000 in
theorem alloc1_any (h : PgX w W pb l b p g d X) (he : (readySM p g d).2 = 0) (hf : (readySM p g d).1.free ≠ 0) (hc : (readySM p g d).1.count ≠ 0) (x : Int) (hx0 : 0 ≤ x) (hx1 : x ≤ 256) (hpg : preadM p g d (readySM p g d).1.free = (freePg x, 0)) :
  Calls Tryz.prog 12 #[.pointer (some ⟨pb, 0, none⟩)] W fun e w' => e = .returned (.tuple #[.int .i64 (alloc1M p g d x).1, .int .i64 (alloc1M p g d x).2.1]) ∧ PgX w w' pb l b (alloc1M p g d x).2.2 g d X ∧ ∀ k, X k → w'.heap[k]? = W.heap[k]? := by
 have SR := sready_any h
 have hwfQ := readySM_wf p g d
 have hmay := readySM_may he
 have PR := fun (W1 : World) (X1 : Nat → Prop) (hm : PgX w W1 pb l b p g d X1) => px_read hm (readySM p g d).1.free hwfQ.free
 simp only [hpg] at PR
 obtain ⟨R, hR⟩ : ∃ R, R = alloc1M p g d x := ⟨_, rfl⟩
 rw [← hR]
 unfold alloc1M at hR
 obtain ⟨Q, hQ⟩ : ∃ Q, Q = readySM p g d := ⟨_, rfl⟩
 simp only [← hQ] at hR hwfQ SR he hf hc hmay PR
 obtain ⟨H, E⟩ := Q
 obtain ⟨f, c, k, r0, r1, r2, r3, r4, r5, r6, r7, rfl⟩ := hdr_form hwfQ.len
 unfold hdrV hdrCells at SR
 simp only [List.map_cons, List.map_nil] at SR
 replace SR := hid SR
 dsimp only at hR hwfQ he hf hc hmay PR
 subst he
 obtain ⟨hm1, hm2, hm3⟩ := hdrMay_all hmay
 dsimp only at hm2 hm3
 have b1 : ((0 : Int) != 0) = false := rfl
 have b2 : (f == 0) = false := by simp [hf]
 have b3 : (c == 0) = false := by simp [hc]
 obtain ⟨m, hm⟩ : ∃ m, m = c - 1 := ⟨_, rfl⟩
 have hfh : usedH ⟨f, c, k, [r0, r1, r2, r3, r4, r5, r6, r7]⟩ x = ⟨x, m, k, [r0, r1, r2, r3, r4, r5, r6, r7]⟩ := by rw [hm]; rfl
 have hwf2 : (⟨x, m, k, [r0, r1, r2, r3, r4, r5, r6, r7]⟩ : Hdr).Wf := ⟨⟨by show _ ≤ x; omega, by show x ≤ _; omega⟩, ⟨by show _ ≤ m; omega, by show m ≤ _; omega⟩, hwfQ.commits, hwfQ.len, hwfQ.roots⟩
 rw [hfh] at hR
 have hcw : IntKind.i64.wrap (c - 1) = m := (IntWalk.i64_in _ (by omega)).trans hm.symm
 have hcv : wrap64 (c - 1) = m := by unfold wrap64; omega
 obtain ⟨s, hs⟩ : ∃ s, s = freePg x := ⟨_, rfl⟩
 have NT := fun W => ntake_free x hx0 hx1 W
 rw [← hs] at NT PR
 unfold freeCells at NT
 have PR := hid PR
 replace NT := hid NT
 obtain ⟨Wr, hWr⟩ : ∃ Wr, Wr = writeHM p ⟨x, m, k, [r0, r1, r2, r3, r4, r5, r6, r7]⟩ := ⟨_, rfl⟩
 rw [← hWr] at hR
 have SW := fun (W1 : World) (X1 : Nat → Prop) (hm : PgX w W1 pb l b p g d X1) => swrite_any hm ⟨x, m, k, [r0, r1, r2, r3, r4, r5, r6, r7]⟩ hwf2
 simp only [← hWr] at SW
 unfold hdrV hdrCells at SW
 simp only [List.map_cons, List.map_nil] at SW
 replace SW := hid SW
 have HX := hid h
 have HR := hid hR
 clear hR h hf hc hm1 hm2 hm3 hfh hwf2 hWr hm hwfQ hQ hs hx0 hx1 hpg hmay
 go_enter Tryz.func12, Tryz.ntmps12
 go_upto_region 13 with (first
  | (go_at_call 33; refine (SR.out).mono ?_; rintro e w1 ⟨rfl, hx, hk⟩; have HX1 := hid hx; have HK1 := hid hk; have HF1 := hid (px_fin hx ((Below.refl w1.heap.size w1).alloc (Nat.le_refl _) (.cells #[.int .i64 f, .int .i64 c, .int .u64 k, .int .i64 r0, .int .i64 r1, .int .i64 r2, .int .i64 r3, .int .i64 r4, .int .i64 r5, .int .i64 r6, .int .i64 r7] 38))); clear hx hk)
  | (go_at_call 28; refine (PR.out _ _ HF1.out.1).mono ?_; rintro e w3 ⟨rfl, hb3⟩; have Hb3 := hid hb3; have H13 := hid ((hb3.block _ (lt_of_block (heap_alloc_new w1 (.cells #[.int .i64 f, .int .i64 c, .int .u64 k, .int .i64 r0, .int .i64 r1, .int .i64 r2, .int .i64 r3, .int .i64 r4, .int .i64 r5, .int .i64 r6, .int .i64 r7] 38)))).trans (heap_alloc_new w1 (.cells #[.int .i64 f, .int .i64 c, .int .u64 k, .int .i64 r0, .int .i64 r1, .int .i64 r2, .int .i64 r3, .int .i64 r4, .int .i64 r5, .int .i64 r6, .int .i64 r7] 38))); clear hb3)
  | (go_at_call 34; refine (NT.out _).mono ?_; rintro e w4 ⟨rfl, hb4⟩; have Hb4 := hid hb4; have H14 := hid ((hb4.block _ (lt_of_block H13.out)).trans H13.out); clear hb4)
  | go_in)
 obtain ⟨⟨y0, y1, y2⟩, ⟨y3, y4, y5, y6, y7, y8, y9, y10⟩, yf⟩ := cells11 (heap_alloc_old (o := (.cells #[.int .u8 4, .int .i64 x, .slice none 0 0, .string ⟨#[]⟩] 93)) H14.out)
 obtain ⟨n0, n1, n2, n3⟩ := cells4' (heap_alloc_new w4 (.cells #[.int .u8 4, .int .i64 x, .slice none 0 0, .string ⟨#[]⟩] 93))
 have hsz : w1.heap.size < w4.heap.size := lt_of_block H14.out
 have h15 : (w4.alloc (.cells #[.int .u8 4, .int .i64 x, .slice none 0 0, .string ⟨#[]⟩] 93)).heap[w1.heap.size]? = _ := heap_alloc_old H14.out
 have hb5 : Below w1.heap.size w1 (w4.alloc (.cells #[.int .u8 4, .int .i64 x, .slice none 0 0, .string ⟨#[]⟩] 93)) := (((Below.refl w1.heap.size w1).alloc (Nat.le_refl _) _).trans (Hb3.out.mono (by simp))).trans (Hb4.out.mono (by have := Hb3.out.size; simp at this; omega)) |>.alloc (by omega) _
 obtain ⟨yb, hyb⟩ : ∃ yb, yb = w1.heap.size := ⟨_, rfl⟩
 obtain ⟨nb, hnb⟩ : ∃ nb, nb = w4.heap.size := ⟨_, rfl⟩
 obtain ⟨w5, hw5⟩ : ∃ w5, w5 = w4.alloc (.cells #[.int .u8 4, .int .i64 x, .slice none 0 0, .string ⟨#[]⟩] 93) := ⟨_, rfl⟩
 rw [← hyb, ← hw5] at y0 y1 y2 y3 y4 y5 y6 y7 y8 y9 y10 yf h15
 rw [← hnb, ← hw5] at n0 n1 n2 n3
 rw [← hw5] at hb5
 rw [← hyb, ← hnb, ← hw5]
 have H15 := hid h15
 have Hb5 := hid hb5
 have Hyb := hid hyb
 clear hw5 h15 hb5 H14 H13 Hb3 Hb4 hsz hyb hnb
 go_upto_region 17 with fail
 have hyb := Hyb.out
 have h8 : ((w5.setCell ⟨yb, 0, none⟩ (.int .i64 x)).setCell ⟨yb, 1, none⟩ (.int .i64 m)).heap[yb]? = some (.cells #[.int .i64 x, .int .i64 m, .int .u64 k, .int .i64 r0, .int .i64 r1, .int .i64 r2, .int .i64 r3, .int .i64 r4, .int .i64 r5, .int .i64 r6, .int .i64 r7] 38 (0, 0)) :=
  (heap_setCell_same (heap_setCell_same H15.out 0 (.int .i64 x)) 1 (.int .i64 m)).trans rfl
 have hb8 : Below w1.heap.size w1 ((w5.setCell ⟨yb, 0, none⟩ (.int .i64 x)).setCell ⟨yb, 1, none⟩ (.int .i64 m)) := (Hb5.out.setCell (by show _ ≤ yb; omega) _).setCell (by show _ ≤ yb; omega) _
 obtain ⟨w8, hw8⟩ : ∃ w8, w8 = (w5.setCell ⟨yb, 0, none⟩ (.int .i64 x)).setCell ⟨yb, 1, none⟩ (.int .i64 m) := ⟨_, rfl⟩
 rw [← hw8] at h8 hb8
 rw [← hw8]
 have hx8 := px_add (X' := fun k => X k ∨ k = yb) HX1.out hb8 (fun k hk => hk.elim .inl (fun e => .inr (by omega))) (fun k hk => hk.elim (fun e => Nat.lt_of_lt_of_le (HX1.out.xlt k e) hb8.size) (fun e => by rw [e]; exact lt_of_block h8))
 have SW8 := hid (SW.out _ _ hx8)
 have Hb8 := hid hb8
 clear y0 y1 y2 y3 y4 y5 y6 y7 y8 y9 y10 yf
 obtain ⟨⟨y0, y1, y2⟩, ⟨y3, y4, y5, y6, y7, y8, y9, y10⟩, yf⟩ := cells11 h8
 clear hw8 hyb h8 hb8 hx8 HF1 NT PR hcw hcv
 by_cases hE2 : Wr.1 = 0
 rotate_left
 ·have b4 : (Wr.1 != 0) = true := by simp [hE2]
  have hR := HR.out
  rw [if_pos hE2] at hR
  replace HR := hid hR
  clear hR hE2
  go_wp2_with (first
   | (go_at_call 32; refine (SW8.out).mono ?_; rintro e w9 ⟨rfl, hx, hk⟩; have HX9 := hid hx; have HK9 := hid hk; clear hx hk)
   | go_in)
  go_ret2
  rw [HR.out]
  exact ⟨rfl, HX9.out.to (fun k hk => .inl hk), fun k hk => (HK9.out k (.inl hk)).trans ((Hb8.out.block k (HX1.out.xlt k hk)).trans (HK1.out k hk))⟩
 ·have b4 : (Wr.1 != 0) = false := by simp [hE2]
  have hR := HR.out
  rw [if_neg (by simpa using hE2)] at hR
  replace HR := hid hR
  clear hR hE2
  go_wp2_with (first
   | (go_at_call 32; refine (SW8.out).mono ?_; rintro e w9 ⟨rfl, hx, hk⟩; have HX9 := hid hx; have HK9 := hid hk; clear hx hk)
   | go_in)
  go_ret2
  rw [HR.out]
  exact ⟨rfl, HX9.out.to (fun k hk => .inl hk), fun k hk => (HK9.out k (.inl hk)).trans ((Hb8.out.block k (HX1.out.xlt k hk)).trans (HK1.out k hk))⟩
end
end Go.Proofs.YtlkkclooihjpiaaGreat
/- Plain laws of space: the pages that are free, in a transaction, behind a commit and a crash. -/
namespace Go.Proofs.YtlkkclooihjpiaaGreat
open Go.RowKit Go.Maps
set_option maxRecDepth 20000
structure Sure (g : Lg) (d : Dsk) (L : List (List UInt8)) : Prop where
 inv : LgInv g d L (fun _ => False)
 calm : Calm d
 on : g.off = false
theorem sure_new : Sure exG0 newM [] := ⟨inv_new, new_calm, rfl⟩
section
variable {g g' : Lg} {d d' : Dsk} {p : Pg} {t : Tr} {L M : List (List UInt8)} {h h' : Hdr} {F r : List Nat} {x n : Nat}
theorem Sure.db (h : Sure g d L) : DbW g d L := h.inv.reads h.calm.on
theorem sure_crash (h : Sure g d L) : ∃ g', lopenM (crashM d []) = (some g', 0) ∧ Sure g' (crashM d []) L := by
 obtain ⟨g', L', c1, c2, c3, c4, c5⟩ := inv_crash h.inv []
 obtain rfl : L' = L := c5.resolve_right id
 exact ⟨g', c1, c2, ⟨rfl, rfl, fun _ => rfl, h.calm.ops⟩, c4⟩
theorem sure_commit (hT : Tx p g d t (hdrPg h :: M)) (hh : HdOk h) (hS : Sure g d L) (hg : g.Ok) (hlen : ∀ s ∈ M, s.length = 512) : ∃ g' d', spCommitM p g d = (0, emptied p, g', d') ∧ Sure g' d' (hdrPg (bumped h) :: M) := by
 have hD := hS.db
 unfold spCommitM
 rw [(tx_ready hT hh).2]
 rw [if_neg (by simp)]
 obtain ⟨t1, w1, w2, w3⟩ := sp_writeH hT (bumped_ok hh)
 rw [w1, if_neg (by simp)]
 have hne : trImgs t1 ≠ [] := trImgs_some ⟨by decide, by decide⟩ w3
 have hkeys : keysOf t1.wr ≠ [] := fun e => hne (by unfold trImgs; rw [e]; rfl)
 have e : pcommitM { p with now := some t1 } g d = putM { p with now := some t1 } t1 g d := if_neg hkeys
 have hl : ∀ s ∈ hdrPg (bumped h) :: M, s.length = 512 := fun s hs => by
  rcases List.mem_cons.1 hs with e | e
  ·rw [e]; exact hdrPg_length _ (bumped_wf hh.wf).len
  ·exact hlen s e
 obtain ⟨f1, f2, f3⟩ := put_fine hS.calm hS.on hS.inv.ok.may hg w2.ok (p := { p with now := some t1 }) w2.opn hne
 obtain ⟨p1, p2, -⟩ := inv_put (p := { p with now := some t1 }) hS.inv w2.ok w2.pages hl (fun n n1 n2 => by
  rcases w2.page n n1 n2 with e | ⟨a, b, c⟩
  ·exact .inl e
  ·refine .inr ⟨a, b, ?_⟩
   have hp := hD.pages
   have := hD.page n n1 (by omega)
   rw [this] at c
   exact (congrArg (fun x => x.1) c).symm)
 show ∃ g' d', pcommitM { p with now := some t1 } g d = _ ∧ _
 rw [e]
 obtain ⟨R, hR⟩ : ∃ R, R = putM { p with now := some t1 } t1 g d := ⟨_, rfl⟩
 rw [← hR] at f1 f2 f3 p1 p2 ⊢
 obtain ⟨e0, p', g', d'⟩ := R
 have p1 : p' = emptied p := p1
 have f1 : e0 = 0 := f1
 subst p1 f1
 exact ⟨g', d', rfl, (p2 rfl).1, f2, f3⟩
end
def Chain (M : List (List UInt8)) : List Nat → Prop
 | [] => True
 | x :: r => M.getD (x - 2) [] = freePg ((r.headD 0 : Nat) : Int) ∧ Chain M r
theorem chain_set {M : List (List UInt8)} {n : Nat} {s : List UInt8} : ∀ {F : List Nat}, Chain M F → (∀ x ∈ F, 2 ≤ x) → 2 ≤ n → n ∉ F → Chain (M.set (n - 2) s) F
 | [], _, _, _, _ => trivial
 | x :: r, hc, h2, hn, hx => by
  refine ⟨?_, chain_set hc.2 (fun y hy => h2 y (List.mem_cons_of_mem _ hy)) hn (fun e => hx (List.mem_cons_of_mem _ e))⟩
  have hxn : n ≠ x := fun e => hx (by rw [e]; exact List.mem_cons_self)
  have hx2 := h2 x List.mem_cons_self
  rw [List.getD_eq_getElem?_getD, List.getElem?_set_ne (by omega), ← List.getD_eq_getElem?_getD]
  exact hc.1
structure Spc (h : Hdr) (M : List (List UInt8)) (F : List Nat) : Prop where
 hd : HdOk h
 len : ∀ s ∈ M, s.length = 512
 few : M.length ≤ 255
 free : h.free = ((F.headD 0 : Nat) : Int)
 count : h.count = (F.length : Int)
 chain : Chain M F
 nodup : F.Nodup
 range : ∀ x ∈ F, 2 ≤ x ∧ x ≤ M.length + 1
theorem spc_new : Spc hdr0 [] [] := ⟨hd0_ok, (fun s hs => by cases hs), by decide, rfl, rfl, trivial, List.nodup_nil, (fun x hx => by cases hx)⟩
theorem Spc.short {h : Hdr} {M : List (List UInt8)} {F : List Nat} (hs : Spc h M F) {O : List Nat} (hn : (F ++ O).Nodup) (ho : ∀ x ∈ O, 2 ≤ x ∧ x ≤ M.length + 1) : F.length + O.length ≤ M.length := by
 have h1 := nodup_below (M.length + 2) (0 :: 1 :: (F ++ O)) (by
  refine List.pairwise_cons.2 ⟨fun y hy => ?_, List.pairwise_cons.2 ⟨fun y hy => ?_, hn⟩⟩
  ·rcases List.mem_cons.1 hy with e | e
   ·omega
   ·rcases List.mem_append.1 e with e | e
    ·have := hs.range y e; omega
    ·have := ho y e; omega
  ·rcases List.mem_append.1 hy with e | e
   ·have := hs.range y e; omega
   ·have := ho y e; omega) (fun y hy => by
  rcases List.mem_cons.1 hy with e | e
  ·omega
  ·rcases List.mem_cons.1 e with e | e
   ·omega
   ·rcases List.mem_append.1 e with e | e
    ·have := hs.range y e; omega
    ·have := ho y e; omega)
 simp at h1
 omega
section
variable {g g' : Lg} {d d' : Dsk} {p : Pg} {t : Tr} {L M : List (List UInt8)} {h h' : Hdr} {F r : List Nat} {x n : Nat}
theorem spc_bumped (hs : Spc h M F) : Spc (bumped h) M F := ⟨bumped_ok hs.hd, hs.len, hs.few, hs.free, hs.count, hs.chain, hs.nodup, hs.range⟩
theorem pageB_nat {n : Int} (h0 : 0 ≤ n) (h1 : n ≤ 256) : pageB n = true := by unfold pageB; simp; omega
theorem hd_may (hh : HdOk h) {f c : Int} (f0 : 0 ≤ f) (f1 : f ≤ 256) (f2 : f ≠ 1) (c0 : 0 ≤ c) (c1 : c ≤ 256) : HdOk { h with free := f, count := c } := by
 have hm := hh.may
 refine ⟨?_, ⟨by show in64 f; unfold in64; omega, by show in64 c; unfold in64; omega, hh.wf.commits, hh.wf.len, hh.wf.roots⟩⟩
 unfold hdrMayB at hm ⊢
 simp only [Bool.and_eq_true] at hm ⊢
 exact ⟨hm.1, ⟨pageB_nat f0 f1, by simpa using f2⟩, pageB_nat c0 c1⟩
theorem spc_alloc0 (hT : Tx p g d t (hdrPg h :: M)) (hs : Spc h M []) (hr : M.length ≤ 254) : ∃ t', alloc0M p g d = ((M.length : Int) + 2, 0, { p with now := some t' }) ∧ Tx { p with now := some t' } g d t' (hdrPg h :: (M ++ [zeros 512])) ∧ Spc h (M ++ [zeros 512]) [] := by
 obtain ⟨t', r1, r2, -⟩ := tx_resize hT (n := M.length + 2) (by omega) (by omega)
 refine ⟨t', ?_, ?_, ⟨hs.hd, fun s hm => ?_, by simp; omega, hs.free, hs.count, trivial, List.nodup_nil, fun x hx => by cases hx⟩⟩
 ·unfold alloc0M
  rw [(tx_ready hT hs.hd).2, if_neg (by simp), tx_pages hT]
  have e : ((hdrPg h :: M).length : Int) + 1 = ((M.length + 2 : Nat) : Int) := by simp; omega
  rw [e, if_neg (by omega), r1]
  have e2 : ((M.length + 2 : Nat) : Int) = (M.length : Int) + 2 := by omega
  rw [e2]
 ·have e : (List.range (M.length + 2)).map (fun i => if i < (hdrPg h :: M).length then (hdrPg h :: M).getD i [] else zeros 512) = hdrPg h :: (M ++ [zeros 512]) := by
   apply List.ext_getElem
   ·simp
   ·intro i i1 i2
    have i3 : i < M.length + 2 := by simpa using i1
    simp only [List.getElem_map, List.getElem_range]
    by_cases hi : i < (hdrPg h :: M).length
    ·rw [if_pos hi, List.getD_eq_getElem?_getD, List.getElem?_eq_getElem hi, Option.getD_some]
     have e3 : hdrPg h :: (M ++ [zeros 512]) = (hdrPg h :: M) ++ [zeros 512] := rfl
     simp only [e3]
     rw [List.getElem_append_left hi]
    ·rw [if_neg hi]
     have e3 : hdrPg h :: (M ++ [zeros 512]) = (hdrPg h :: M) ++ [zeros 512] := rfl
     simp only [e3]
     rw [List.getElem_append_right (by omega)]
     simp
  rw [← e]
  exact r2
 ·rcases List.mem_append.1 hm with e | e
  ·exact hs.len s e
  ·rw [List.mem_singleton.1 e]
   rfl
theorem spc_free (hT : Tx p g d t (hdrPg h :: M)) (hs : Spc h M (x :: r)) : (readySM p g d).2 = 0 ∧ (readySM p g d).1.free ≠ 0 ∧ (readySM p g d).1.count ≠ 0 ∧ preadM p g d (readySM p g d).1.free = (freePg ((r.headD 0 : Nat) : Int), 0) ∧ r.headD 0 ≤ 256 := by
 have hx := hs.range x List.mem_cons_self
 have hf : h.free = (x : Int) := hs.free
 have hc := hs.count
 have hfw := hs.few
 rw [(tx_ready hT hs.hd).2]
 dsimp only
 refine ⟨rfl, by rw [hf]; omega, by rw [hc]; simp; omega, ?_, ?_⟩
 ·rw [hf, tx_read hT x (by omega) (by simp; omega)]
  have e : (hdrPg h :: M).getD (x - 1) [] = M.getD (x - 2) [] := by
   obtain ⟨k, rfl⟩ : ∃ k, x = k + 2 := ⟨x - 2, by omega⟩
   rfl
  rw [e, hs.chain.1]
 ·cases r with
  | nil => exact Nat.zero_le _
  | cons y r => have := hs.range y (by simp); show y ≤ 256; omega
theorem spc_alloc1 (hT : Tx p g d t (hdrPg h :: M)) (hs : Spc h M (x :: r)) : ∃ t', alloc1M p g d ((r.headD 0 : Nat) : Int) = ((x : Int), 0, { p with now := some t' }) ∧ Tx { p with now := some t' } g d t' (hdrPg (usedH h ((r.headD 0 : Nat) : Int)) :: M) ∧ Spc (usedH h ((r.headD 0 : Nat) : Int)) M r := by
 have hx := hs.range x List.mem_cons_self
 have hf : h.free = (x : Int) := hs.free
 have hc := hs.count
 have hfw := hs.few
 have hsh := hs.short (O := []) (by rw [List.append_nil]; exact hs.nodup) (fun y hy => by cases hy)
 have hl : (x :: r).length = r.length + 1 := rfl
 rw [hl] at hc hsh
 have hy : r.headD 0 = 0 ∨ (2 ≤ r.headD 0 ∧ r.headD 0 ≤ M.length + 1) := by
  cases r with
  | nil => exact .inl rfl
  | cons y r => exact .inr (hs.range y (by simp))
 have hok : HdOk (usedH h ((r.headD 0 : Nat) : Int)) := hd_may hs.hd (by omega) (by omega) (by omega) (by omega) (by omega)
 obtain ⟨t', w1, w2, -⟩ := sp_writeH hT hok
 refine ⟨t', ?_, w2, ⟨hok, hs.len, hs.few, rfl, ?_, hs.chain.2, (List.nodup_cons.1 hs.nodup).2, fun y hy => hs.range y (List.mem_cons_of_mem _ hy)⟩⟩
 ·unfold alloc1M
  rw [(tx_ready hT hs.hd).2]
  dsimp only
  rw [w1, if_neg (by simp), hf]
 ·show h.count - 1 = _
  omega
theorem spc_give (hT : Tx p g d t (hdrPg h :: M)) (hs : Spc h M F) (h2 : 2 ≤ n) (hn : n ≤ M.length + 1) (hF : n ∉ F) : ∃ t', freeM p g d n = (0, { p with now := some t' }) ∧ Tx { p with now := some t' } g d t' (hdrPg (freeH h n) :: M.set (n - 2) (freePg h.free)) ∧ Spc (freeH h n) (M.set (n - 2) (freePg h.free)) (n :: F) := by
 have hfw := hs.few
 have hnd : (n :: F).Nodup := List.nodup_cons.2 ⟨hF, hs.nodup⟩
 have hsh := hs.short (O := [n]) (by
  refine List.nodup_append.2 ⟨hs.nodup, by simp, fun a ha b hb e => ?_⟩
  rw [List.mem_singleton.1 hb] at e
  exact hF (e ▸ ha)) (fun y hy => by rw [List.mem_singleton.1 hy]; exact ⟨h2, hn⟩)
 have hl1 : [n].length = 1 := rfl
 rw [hl1] at hsh
 have hc := hs.count
 have hmin : min (h.count + 1) 256 = h.count + 1 := by omega
 have hok : HdOk (freeH h n) := hd_may hs.hd (by omega) (by omega) (by omega) (by rw [hmin]; omega) (by rw [hmin]; omega)
 obtain ⟨t1, w1, w2, -⟩ := tx_write hT (n := n) (s := freePg h.free) (by omega) (by simp; omega) (freePg_length _)
 have e : (hdrPg h :: M).set (n - 1) (freePg h.free) = hdrPg h :: M.set (n - 2) (freePg h.free) := by
  obtain ⟨k, rfl⟩ : ∃ k, n = k + 2 := ⟨n - 2, by omega⟩
  rfl
 rw [e] at w2
 obtain ⟨t2, v1, v2, -⟩ := sp_writeH w2 hok
 refine ⟨t2, ?_, v2, ⟨hok, fun s hm => ?_, by rw [List.length_set]; exact hs.few, rfl, ?_, ⟨?_, chain_set hs.chain (fun y hy => (hs.range y hy).1) h2 hF⟩, hnd, fun y hy => ?_⟩⟩
 ·unfold freeM
  rw [(tx_ready hT hs.hd).2]
  dsimp only
  rw [if_neg (by simp), if_neg (by rw [tx_pages hT]; simp; omega), w1]
  dsimp only
  rw [if_neg (by simp)]
  exact v1
 ·rcases List.mem_or_eq_of_mem_set hm with e | e
  ·exact hs.len s e
  ·rw [e]; exact freePg_length _
 ·show min (h.count + 1) 256 = ((F.length + 1 : Nat) : Int)
  rw [hmin, hc]
  omega
 ·rw [List.getD_eq_getElem?_getD, List.getElem?_set_self (by omega), Option.getD_some, hs.free]
 ·rw [List.length_set]
  rcases List.mem_cons.1 hy with e | e
  ·rw [e]; exact ⟨h2, hn⟩
  ·exact hs.range y e
theorem spc_begin (hS : Sure g d L) (hL : (L = [] ∧ h = hdr0 ∧ M = [] ∧ F = []) ∨ (L = hdrPg h :: M ∧ Spc h M F)) (hn : p.now = none) (ho : p.opn = 0) : ∃ t', spBeginM p g d = (0, { p with now := some t' }) ∧ Tx { p with now := some t' } g d t' (hdrPg h :: M) ∧ Spc h M F := by
 rcases hL with ⟨rfl, rfl, rfl, rfl⟩ | ⟨rfl, hs⟩
 ·obtain ⟨t', M', b1, b2, b3⟩ := sp_begin hS.db (.inl ⟨rfl, rfl⟩) hd0_ok hn ho
  rw [if_pos rfl] at b3
  rw [b3] at b2
  exact ⟨t', b1, b2, spc_new⟩
 ·obtain ⟨t', M', b1, b2, b3⟩ := sp_begin hS.db (.inr ⟨M, rfl⟩) hs.hd hn ho
  rw [if_neg (by simp)] at b3
  rw [b3] at b2
  exact ⟨t', b1, b2, hs⟩
end
end Go.Proofs.YtlkkclooihjpiaaGreat
