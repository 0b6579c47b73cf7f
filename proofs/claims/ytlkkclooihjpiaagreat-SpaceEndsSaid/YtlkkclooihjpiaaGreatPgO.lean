import Derived.Test.YtlkkclooihjpiaaGreatPgL
set_option linter.unusedVariables false
set_option linter.unusedSimpArgs false
namespace Go.Proofs.YtlkkclooihjpiaaGreat
open Go.RowKit Go.Maps
set_option maxRecDepth 20000
theorem read_len {d : Dsk} (h : d.Ok) (a : Int) : (readM d 0 a 8).1.length ≤ 512 := by
 have e : ((0 : Int).toNat) = 0 := rfl
 have e8 : ((8 : Int).toNat) = 8 := rfl
 unfold readM
 split
 ·simp
 split
 ·simp
 ·rename_i h1 h2
  rw [e] at h2
  have := flat_take (l := d.now 0) (h.ns 0 (by omega)) (a := a.toNat) (i := 8) (by omega)
  simp only [e, e8, this]
  omega
theorem page_len {g : Lg} {d : Dsk} (hg : g.Ok) (hd : d.Ok) (n mark : Int) : (pageM g d n mark).1.length ≤ 512 := by
 unfold pageM
 split
 ·simp
 split
 ·rename_i s hs
  obtain ⟨f, hf, rfl, -⟩ := lastAt_mem hs
  have := hg.data f hf
  unfold frOk at this
  simp only [Bool.and_eq_true, decide_eq_true_eq] at this
  exact Nat.le_of_eq this.2
 ·split
  ·exact Nat.le_of_eq List.length_replicate
  ·exact read_len hd _
section
variable {w W W' : World} {pb l b vb : Nat} {p p' : Pg} {g g' : Lg} {d d' : Dsk} {X X' : Nat → Prop}
theorem px_append (h : PgX w W pb l b p g d X) (N : Nat) (hsm : d.Small N) (hN : N + 1048576 ≤ 1099511527776) (pages : Int) (v : Value) (x : List Img) (hx : ImgsAt W v x) (hs : x.length ≤ 1099511627776) :
  Calls Tryz.prog 73 #[.pointer (some ⟨l, 0, none⟩), .int .i64 pages, v] W fun e w' => e = .returned (.int .i64 (lappendM pages x g d).1) ∧ PgX w w' pb l b p (lappendM pages x g d).2.1 (lappendM pages x g d).2.2 X ∧ ∀ k, X k → w'.heap[k]? = W.heap[k]? := by
 obtain ⟨⟨F, G, K, nv, sv, h1, h2, h3, h4⟩, hb, hX⟩ := h
 exact (lappend_any h1 N hsm hN pages v x hx hs).mono fun e w' ⟨he, hd⟩ => ⟨he, pgx_log h1 h2 h3 h4 hb hX hd⟩
theorem px_lcheck (h : PgX w W pb l b p g d X) (N : Nat) (hsm : d.Small N) (hN : N + 16777216 ≤ 1099511527776) :
  Calls Tryz.prog 72 #[.pointer (some ⟨l, 0, none⟩)] W fun e w' => e = .returned (.int .i64 (lcheckM g d).1) ∧ PgX w w' pb l b p (lcheckM g d).2.1 (lcheckM g d).2.2 X ∧ ∀ k, X k → w'.heap[k]? = W.heap[k]? := by
 obtain ⟨⟨F, G, K, nv, sv, h1, h2, h3, h4⟩, hb, hX⟩ := h
 exact (lcheck_any h1 N hsm hN).mono fun e w' ⟨he, hd⟩ => ⟨he, pgx_log h1 h2 h3 h4 hb hX hd⟩
theorem PgX.oks (h : PgX w W pb l b p g d X) : g.Ok ∧ d.Ok := by
 obtain ⟨⟨F, G, K, nv, sv, h1, h2, h3, h4⟩, hb, hX⟩ := h
 exact ⟨h1.ok, h1.disk.ok⟩
theorem PgX.grow {row : Option Nat} (h : PgX w W pb l b p g d X) (hg : W.grownBy W' row) (hr : ∀ k, row = some k → X k) (hw : ∀ k, row = some k → w.heap.size ≤ k) (hx : ∀ k, X' k → X k ∨ W.heap.size ≤ k) (hlt : ∀ k, X' k → k < W'.heap.size) : PgX w W' pb l b p g d X' := by
 obtain ⟨⟨F, G, K, nv, sv, h1, h2, h3, h4⟩, hb, hX⟩ := h
 have hs : LgStep ⟨fun k => row = some k, fun _ => False⟩ ⟨fun k => row = some k, fun _ => False⟩ (fun _ => False) (fun _ => False) W W' :=
  ⟨⟨hg.os, hg.tape, hg.output, hg.size, fun k hk hn => hg.block k hk (fun e => hn (.inl e.symm))⟩, fun k hk => .inl hk, fun k hk => .inl hk, fun k hk => .inl hk⟩
 refine ⟨⟨F, G, K, nv, sv, h1.other (b2 := 0) hs (fun k hk => ⟨fun e => (h4 k (.inl hk)).2 (hr k e), id⟩), h2.keep (fun k hk => hg.block k (h2.klt hk) (fun e => (h4 k (.inr hk)).2 (hr k e.symm))) hg.size, h3, fun k hk => ⟨(h4 k hk).1, fun e => ?_⟩⟩, ?_, hlt⟩
 ·rcases hx k e with e | e
  ·exact (h4 k hk).2 e
  ·rcases hk with hk | hk
   ·have := h1.flt hk; omega
   ·have := h2.klt hk; omega
 ·exact ⟨hg.os.trans hb.os, hg.tape.trans hb.tape, hg.output.trans hb.output, Nat.le_trans hb.size hg.size, fun k hk => (hg.block k (Nat.lt_of_lt_of_le hk hb.size) (fun e => by have := hw k e.symm; omega)).trans (hb.block k hk)⟩
def emptied (p : Pg) : Pg := ⟨none, [], p.opn⟩
def dropW (W : World) (pb : Nat) : World := (W.setCell ⟨pb, 1, none⟩ (.pointer none)).setCell ⟨pb, 2, none⟩ (.slice none 0 0)
structure Taken (w W : World) (pb l b : Nat) (p : Pg) (g : Lg) (d : Dsk) (X : Nat → Prop) (t : Tr) (nb mb : Nat) : Prop where
 c0 : W.cell? ⟨pb, 0, none⟩ = some (.pointer (some ⟨l, 0, none⟩))
 c1 : W.cell? ⟨pb, 1, none⟩ = some (.pointer (some ⟨nb, 0, none⟩))
 c2 : ∃ sv, W.cell? ⟨pb, 2, none⟩ = some sv
 fr : ∀ o, W.frozen? ⟨pb, o, none⟩ = false
 blk : W.heap[nb]? = some (.cells (trCells t mb).toArray 86 (0, 0))
 wr : WrAt W mb t.wr
 ok : t.Ok
 px : PgX w (dropW W pb) pb l b (emptied p) g d (fun k => X k ∨ k = nb ∨ k = mb)
 keep : ∀ k, X k ∨ k = nb ∨ k = mb → (dropW W pb).heap[k]? = W.heap[k]?
 new : w.heap.size ≤ mb
 nx : ¬ X mb
theorem px_drop (h : PgX w W pb l b p g d X) {t : Tr} (hp : p.now = some t) : ∃ nb mb, Taken w W pb l b p g d X t nb mb := by
 obtain ⟨⟨F, G, K, nv, sv, h1, h2, h3, h4⟩, hb, hX⟩ := h
 have hnow := h2.now
 rw [hp] at hnow
 obtain ⟨nb, mb, hnv, hnb, hwr, ho1, ho2⟩ := hnow
 obtain ⟨es, c, hmb⟩ := hwr.block
 obtain ⟨c0, c1, c2, c3⟩ := h2.cell
 have pn : nb ≠ pb := ne_type hnb h2.blk (by decide)
 have pm : mb ≠ pb := (ne_cells h2.blk hmb).symm
 have hpb := heap_setCell_same (heap_setCell_same h2.blk 1 (.pointer none)) 2 (.slice none 0 0)
 have hok : ∀ k, k ≠ pb → (dropW W pb).heap[k]? = W.heap[k]? := fun k hk => (Below.heap_setCell _ ⟨pb, 2, none⟩ _ k hk).trans (Below.heap_setCell _ ⟨pb, 1, none⟩ _ k hk)
 have hs : (dropW W pb).heap.size = W.heap.size := by unfold dropW; simp
 have hf : Frm (fun k => k = pb) W (dropW W pb) := ((Frm.refl (fun k => k = pb) W).setCell (p := ⟨pb, 1, none⟩) (.inl rfl) _).setCell (p := ⟨pb, 2, none⟩) (.inl rfl) _
 have hxpb : ¬ X pb := (h4 pb (.inr (.inl h2.pown))).2
 have hst : LgStep ⟨fun k => k = pb, fun _ => False⟩ ⟨fun k => k = pb, fun _ => False⟩ (fun _ => False) (fun _ => False) W (dropW W pb) :=
  ⟨⟨hf.os, hf.tape, hf.output, hf.size, fun k hk hn => hf.block k hk (fun e => hn (.inl e))⟩, fun k hk => .inl hk, fun k hk => .inl hk, fun k hk => .inl hk⟩
 have hpa := h3 pb (.inl h2.pown)
 have hl : LgAt (dropW W pb) l b F G g d := h1.other (b2 := 0) hst (fun k hk => ⟨fun e => by
  have e : k = pb := e
  rw [e] at hk
  rcases hk with hk | hk | hk
  ·exact hpa.1 hk
  ·exact hpa.2.1 hk
  ·exact hpa.2.2 hk, id⟩)
 have hwp : w.heap.size ≤ pb := (h4 pb (.inr (.inl h2.pown))).1
 refine ⟨nb, mb, c0, by rw [c1, hnv], ⟨_, c2⟩, h2.free, hnb, hwr, h2.ok.now t hp, ⟨⟨F, G, ⟨fun k => k = pb, fun _ => False⟩, .pointer none, .slice none 0 0, hl, ⟨hpb.trans rfl, rfl, ⟨[], rfl, World.ownsRow_nil _ _ _ _, (fun k hk => by cases hk), (fun x hx => by cases hx)⟩, (fun nb e => by cases e), rfl, (fun k hk => by rw [hk, hs]; exact h2.olt pb h2.pown), (fun k hk => hk.elim), (fun k _ hk => hk), ⟨(fun t ht => by cases ht), (fun t ht => by cases ht), by simp [emptied], fun _ => rfl⟩⟩, fun k hk => ?_, fun k hk => ?_⟩, ?_, fun k hk => ?_⟩, fun k hk => hok k ?_, (h4 mb (.inr (.inl ho2))).1, (h4 mb (.inr (.inl ho2))).2⟩
 ·rcases hk with hk | hk
  ·have hk : k = pb := hk
   rw [hk]
   exact hpa
  ·exact hk.elim
 ·rcases hk with hk | hk | hk
  ·refine ⟨(h4 k (.inl hk)).1, ?_⟩
   rintro (e | e | e)
   ·exact (h4 k (.inl hk)).2 e
   ·have := h3 k (.inl (e ▸ ho1))
    rcases hk with hk | hk | hk
    ·exact this.1 hk
    ·exact this.2.1 hk
    ·exact this.2.2 hk
   ·have := h3 k (.inl (e ▸ ho2))
    rcases hk with hk | hk | hk
    ·exact this.1 hk
    ·exact this.2.1 hk
    ·exact this.2.2 hk
  ·have hk : k = pb := hk
   rw [hk]
   refine ⟨hwp, ?_⟩
   rintro (e | e | e)
   ·exact hxpb e
   ·exact pn e.symm
   ·exact pm e.symm
  ·exact hk.elim
 ·exact ⟨hf.os.trans hb.os, hf.tape.trans hb.tape, hf.output.trans hb.output, by rw [hs]; exact hb.size, fun k hk => (hok k (by omega)).trans (hb.block k hk)⟩
 ·rw [hs]
  rcases hk with hk | hk | hk
  ·exact hX k hk
  ·rw [hk]; exact h2.olt nb ho1
  ·rw [hk]; exact h2.olt mb ho2
 ·rintro rfl
  rcases hk with hk | hk | hk
  ·exact hxpb hk
  ·exact pn hk.symm
  ·exact pm hk.symm
end
end Go.Proofs.YtlkkclooihjpiaaGreat
namespace Go.Proofs.YtlkkclooihjpiaaGreat
open Go.RowKit Go.Maps
set_option maxRecDepth 20000
def trImgs (t : Tr) : List Img := (keysOf t.wr).map fun q => ⟨q, (t.wr q).getD []⟩
theorem trImgs_length (t : Tr) : (trImgs t).length ≤ 256 := by unfold trImgs; rw [List.length_map]; exact keysOf_length _
def withFirst (t : Tr) (s : List UInt8) : Tr := { t with wr := fun k => if k = 1 then some s else t.wr k }
def putM (p : Pg) (t : Tr) (g : Lg) (d : Dsk) : Int × Pg × Lg × Dsk :=
 if 256 < g.list.length + (trImgs t).length ∧ p.opn = 0 then
  (if (lcheckM g d).1 ≠ 0 then ((lcheckM g d).1, emptied p, (lcheckM g d).2) else ((lappendM t.pages (trImgs t) (lcheckM g d).2.1 (lcheckM g d).2.2).1, emptied p, (lappendM t.pages (trImgs t) (lcheckM g d).2.1 (lcheckM g d).2.2).2))
 else ((lappendM t.pages (trImgs t) g d).1, emptied p, (lappendM t.pages (trImgs t) g d).2)
def pcommitM (p : Pg) (g : Lg) (d : Dsk) : Int × Pg × Lg × Dsk := match p.now with
 | none => (9, p, g, d)
 | some t => if keysOf t.wr = [] then
   (if t.pages = g.head.pages then (0, emptied p, g, d)
    else if (pageM g d 1 g.list.length).2 ≠ 0 then ((pageM g d 1 g.list.length).2, emptied p, g, d)
    else putM p (withFirst t (pageM g d 1 g.list.length).1) g d)
  else putM p t g d
section
variable {w W W' : World} {pb l b vb : Nat} {p p' : Pg} {g g' : Lg} {d d' : Dsk} {X X' : Nat → Prop}
theorem PgX.ok (h : PgX w W pb l b p g d X) : p.Ok := by
 obtain ⟨⟨F, G, K, nv, sv, h1, h2, h3, h4⟩, hb, hX⟩ := h
 exact h2.ok
theorem px_ready (h : PgX w W pb l b p g d X) : Calls Tryz.prog 37 #[.pointer (some ⟨pb, 0, none⟩)] W fun e w' => e = .returned (.int .i64 (preadyM p)) ∧ w' = W := by
 obtain ⟨⟨F, G, K, nv, sv, h1, h2, h3, h4⟩, hb, hX⟩ := h
 exact pready_any h2
theorem says_len {D : DataW Unit} {f : Int → Option (List UInt8)} (h : MapSays D f) (hf : ∀ p s, f p = some s → 1 ≤ p ∧ p ≤ 256) (ht : Canon D) : Maps.size D = (keysOf f).length := by
 have hp := (says_keys h hf ht).length_eq
 obtain ⟨es, rfl, -⟩ := ht
 rw [hp]
 simp [Maps.size, intKeys]
theorem says_look1 {W : World} {mb : Nat} {f : Int → Option (List UInt8)} (h : WrAt W mb f) {p : Int} (hp : -9223372036854775808 ≤ p ∧ p ≤ 9223372036854775807) :
  (Instr.lookup 84 (.map (some mb)) (.int .i64 p) false).run Tryz.prog W = .ok (.string (bs ((f p).getD []))) W := by
 obtain ⟨D, h1, h2⟩ := h
 obtain ⟨v, ps, hrun, hR⟩ := h1.lookup (t := 84) (e := 9) keyI Tryz.underlying84 (z := .string (bs [])) (by kernel_rfl) (plainElem_string (H := Unit) (P := Tryz.prog) (e := 9) Tryz.underlying9 (s := bs []) (by rw [bs_size]; decide)) (key := .int .i64 p) (kl := ik p) (keyOf_int_mk Tryz.underlying3 (WalkArith.wf_i64 (by omega)))
 obtain ⟨s, rfl, h4, -⟩ := plainElem_string_inv Tryz.underlying9 hR
 obtain ⟨u, rfl⟩ := bs_of s
 refine hrun.trans ?_
 have h5 := (Prod.mk.inj h4).1
 have h6 := h2.2 p
 clear h4 hR hrun h1 h2
 cases hl : f p with
 | some t =>
  rw [hl] at h6
  have h6 : Maps.has D (ik p) = true ∧ ∀ z, D.atKey (ik p) z = .lit (.string t) := h6
  rw [h6.2] at h5
  have e : t = u := by
   injection h5 with h5
   injection h5
  rw [e, Option.getD_some]
 | none =>
  rw [hl] at h6
  have h6 : Maps.has D (ik p) = false := h6
  rw [atKey_of_not_has h6] at h5
  have e : ([] : List UInt8) = u := by
   injection h5 with h5
   injection h5
  rw [← e, Option.getD_none]
theorem sorted_keys {w : World} {mb : Nat} {f : Int → Option (List UInt8)} (h : WrAt w mb f) (hf : ∀ p s, f p = some s → 1 ≤ p ∧ p ≤ 256) :
  Calls Tryz.prog 70 #[.func (.func 98) #[] #[.pointer (some ⟨w.heap.size, 0, none⟩)]] (w.alloc (.cells #[.map (some mb)] 84)) fun e w' => ∃ (ao : Option Addr) (cap : Nat), e = .returned (.slice ao (keysOf f).length cap) ∧
   (∀ i (hi : i < (keysOf f).length), ∃ q, ao = some ⟨q, 0, none⟩ ∧ q < w'.heap.size ∧ w'.cell? ⟨q, i, none⟩ = some (.int .i64 (keysOf f)[i])) ∧ Below w.heap.size w w' := by
 obtain ⟨D, hm, hsay⟩ := h
 have hsz : Maps.size D ≤ 256 := by rw [says_len hsay hf (hm.canon keyI)]; exact keysOf_length f
 refine (sorted_any mb _ D w hm hsz).mono ?_
 rintro e w' ⟨v, ss, rfl, hS, hrow, hb⟩
 have hk := keys_sorted hsay hf (hm.canon keyI) hS
 have hl : ss.length = (keysOf f).length := by rw [← hk, List.length_mergeSort]
 rw [hk, hl] at hrow
 obtain ⟨ao, cap, rfl, hc⟩ := row_slice hrow
 refine ⟨ao, cap, rfl, fun i hi => ?_, hb⟩
 obtain ⟨q, rfl, hq⟩ := hc i (.int .i64 (keysOf f)[i]) (by omega) (by simp [encZ, hi])
 exact ⟨q, rfl, (row_base hrow (g := q) rfl).2, hq⟩
def ComMid (w W W1 : World) (pb l b : Nat) (p : Pg) (g : Lg) (d : Dsk) (X : Nat → Prop) (R : Int × Pg × Lg × Dsk) (nb mb : Nat) : Prop :=
 ∃ t : Tr, R = putM p t g d ∧ PgX w W1 pb l b (emptied p) g d (fun k => X k ∨ k = nb ∨ k = mb) ∧ (∀ k, X k → W1.heap[k]? = W.heap[k]?) ∧ W1.heap[nb]? = some (.cells (trCells t mb).toArray 86 (0, 0)) ∧ WrAt W1 mb t.wr ∧ ∀ q x, t.wr q = some x → 1 ≤ q ∧ q ≤ 256
set_option maxHeartbeats 4000000 in
theorem px_commit (h : PgX w W pb l b p g d X) (N : Nat) (hsm : d.Small N) (hN : N + 33554432 ≤ 1099511527776) : Calls Tryz.prog 47 #[.pointer (some ⟨pb, 0, none⟩)] W fun e w' => e = .returned (.int .i64 (pcommitM p g d).1) ∧ PgX w w' pb l b (pcommitM p g d).2.1 (pcommitM p g d).2.2.1 (pcommitM p g d).2.2.2 X ∧ ∀ k, X k → w'.heap[k]? = W.heap[k]? := by
 have RD := px_ready h
 obtain ⟨R, hR⟩ : ∃ R, R = pcommitM p g d := ⟨_, rfl⟩
 rw [← hR]
 unfold pcommitM at hR
 cases hp : p.now with
 | none =>
  have e : preadyM p = 9 := by unfold preadyM; rw [hp]
  rw [e] at RD
  have RD := hid RD
  have H := hid h
  rw [hp] at hR
  have HR := hid hR
  clear h e hp hR
  go_enter Tryz.func47, Tryz.ntmps47
  go_wp2_with (first
   | (go_at_call 37; refine (RD.out).mono ?_; rintro e w1 ⟨rfl, hw⟩; obtain rfl := hw.symm)
   | go_in)
  go_ret
  rw [HR.out]
  exact ⟨rfl, H.out, fun _ _ => rfl⟩
 | some t =>
  have e : preadyM p = 0 := by unfold preadyM; rw [hp]
  rw [e] at RD
  have RD := hid RD
  obtain ⟨nb, mb, hT⟩ := px_drop h hp
  have HT := hid hT
  have c0 := hT.c0
  have c1 := hT.c1
  obtain ⟨sv, c2⟩ := hT.c2
  have f1 := hT.fr 1
  have f2 := hT.fr 2
  have htok := hid hT.ok
  have hW1 : (W.setCell ⟨pb, 1, none⟩ (.pointer none)).setCell ⟨pb, 2, none⟩ (.slice none 0 0) = dropW W pb := rfl
  have HW1 := hid hW1
  rw [hp] at hR
  have HR := hid hR
  clear h e hp hT hW1 hR
  go_enter Tryz.func47, Tryz.ntmps47
  go_upto_region 6 with (first
   | (go_at_call 37; refine (RD.out).mono ?_; rintro e w1 ⟨rfl, hw⟩; obtain rfl := hw.symm)
   | go_in)
  rw [HW1.out]
  have PX := hid HT.out.px
  have HK := hid HT.out.keep
  have hnb := (HT.out.keep nb (.inr (.inl rfl))).trans HT.out.blk
  have hwr := HT.out.wr.keep (HT.out.keep mb (.inr (.inr rfl)))
  have hpb0 := PX.out.cell
  clear c0 c1 c2 f1 f2 HW1
  obtain ⟨W1, hW1⟩ : ∃ W1, W1 = dropW W pb := ⟨_, rfl⟩
  rw [← hW1] at PX HK hnb hwr hpb0 ⊢
  clear hW1
  obtain ⟨⟨nv1, sv1, hpb⟩, -⟩ := hpb0
  have p0 : W1.cell? ⟨pb, 0, none⟩ = some (.pointer (some ⟨l, 0, none⟩)) := (cell_of_block hpb 0).trans rfl
  have p3 : W1.cell? ⟨pb, 3, none⟩ = some (.int .i64 p.opn) := (cell_of_block hpb 3).trans rfl
  have n0 : W1.cell? ⟨nb, 0, none⟩ = some (.int .i64 t.pages) := (cell_of_block hnb 0).trans rfl
  have n1 : W1.cell? ⟨nb, 1, none⟩ = some (.map (some mb)) := (cell_of_block hnb 1).trans rfl
  have Hnb := hid hnb
  have Hpb := hid hpb
  have Hwr := hid hwr
  obtain ⟨D, hm, hsay⟩ := hwr
  have hdom : ∀ q x, t.wr q = some x → 1 ≤ q ∧ q ≤ 256 := fun q x hx => by have := htok.out.dom q x hx; have := htok.out.pages; omega
  have hsz := says_len hsay hdom (hm.canon keyI)
  have hlen := fun ty => hm.len (t := 84) (e := 9) Tryz.underlying84 ty
  rw [hsz] at hlen
  have Hm := hid hm
  have Hsay := hid hsay
  have Hsz := hid hsz
  obtain ⟨kl, hkl⟩ : ∃ kl, kl = (keysOf t.wr).length := ⟨_, rfl⟩
  rw [← hkl] at hlen Hsz
  have Hkl := hid hkl
  clear hm hsay hsz hnb hpb hdom hkl
  go_upto_if 31 with fail
  go_cut [] (fun wx => ∃ wy, wy = wx ∧ ComMid w W wy pb l b p g d X R nb mb)
  case first =>
   by_cases hk0 : kl = 0
   ·subst hk0
    have hnil : keysOf t.wr = [] := List.length_eq_zero_iff.1 Hkl.out.symm
    have hR := HR.out
    simp only [if_pos hnil] at hR
    replace HR := hid hR
    clear hnil hR
    go_upto_region 7 with fail
    have LP := mk_pages (PX.out.below (Below.refl _ _).drew).log.mk'
    obtain ⟨Q, hQ⟩ : ∃ Q, Q = g.head.pages := ⟨_, rfl⟩
    have hR := HR.out
    rw [← hQ] at LP hR
    have LP := hid LP
    have HQ := hid hQ
    clear hQ
    by_cases he : t.pages = Q
    ·have he1 : (t.pages == Q) = true := by simp [he]
     rw [if_pos he] at hR
     replace HR := hid hR
     have HN := hid (And.intro n0 p0)
     clear hR he
     refine wp_region_held_drew (S := fun W => W.cell? ⟨nb, 0, none⟩ = some (.int .i64 t.pages) ∧ W.cell? ⟨pb, 0, none⟩ = some (.pointer (some ⟨l, 0, none⟩))) (by kernel_rfl) ⟨n0, p0⟩ (fun hHeld => ?_)
     clear n0 p0
     refine held_take (v := ?fv0) 0 rfl (by kernel_rfl) (by kernel_rfl) (by kernel_rfl) (fun _ _ _ h => h) (by rfl) hHeld ?fy0 ?fr0
     case fy0 => (intro W hSw; obtain ⟨y0, y1⟩ := hSw; go_simp; with_reducible rfl)
     simp only [Act.put, List.setIfInBounds_toArray, List.set_cons_zero, List.set_cons_succ]
     refine held_take (v := ?fv1) 1 rfl (by kernel_rfl) (by kernel_rfl) (by kernel_rfl) (fun _ _ _ h => h) (by rfl) hHeld ?fy1 ?fr1
     case fy1 => (intro W hSw; obtain ⟨y0, y1⟩ := hSw; go_simp; with_reducible rfl)
     simp only [Act.put, List.setIfInBounds_toArray, List.set_cons_zero, List.set_cons_succ]
     refine held_take (v := ?fv2) 2 rfl (by kernel_rfl) (by kernel_rfl) (by kernel_rfl) (fun _ _ _ h => h) (by rfl) hHeld ?fy2 ?fr2
     case fy2 => (intro W hSw; obtain ⟨y0, y1⟩ := hSw; go_simp; with_reducible rfl)
     simp only [Act.put, List.setIfInBounds_toArray, List.set_cons_zero, List.set_cons_succ]
     refine held_take (v := ?fv3) 3 rfl (by kernel_rfl) (by kernel_rfl) (by kernel_rfl) (fun _ _ _ h => h) (by rfl) hHeld ?fy3 ?fr3
     case fy3 => (intro W hSw; obtain ⟨y0, y1⟩ := hSw; go_simp; with_reducible rfl)
     simp only [Act.put, List.setIfInBounds_toArray, List.set_cons_zero, List.set_cons_succ]
     refine held_take (v := ?fv4) 4 rfl (by kernel_rfl) (by kernel_rfl) (by kernel_rfl) (fun _ _ _ h => h) (by rfl) hHeld ?fy4 ?fr4
     case fy4 => (intro W hSw; obtain ⟨y0, y1⟩ := hSw; go_simp; with_reducible rfl)
     simp only [Act.put, List.setIfInBounds_toArray, List.set_cons_zero, List.set_cons_succ]
     refine held_take (v := ?fv5) 5 rfl (by kernel_rfl) (by kernel_rfl) (by kernel_rfl) (fun _ _ _ h => h) (by rfl) hHeld ?fy5 ?fr5
     case fy5 => (intro W hSw; obtain ⟨y0, y1⟩ := hSw; go_simp; with_reducible rfl)
     simp only [Act.put, List.setIfInBounds_toArray, List.set_cons_zero, List.set_cons_succ]
     refine held_take (v := ?fv6) 6 rfl (by kernel_rfl) (by kernel_rfl) (by kernel_rfl) (fun _ _ _ h => h) (by rfl) hHeld ?fy6 ?fr6
     case fy6 => (intro W hSw; obtain ⟨y0, y1⟩ := hSw; go_simp; with_reducible rfl)
     simp only [Act.put, List.setIfInBounds_toArray, List.set_cons_zero, List.set_cons_succ]
     refine held_take (v := ?fv7) 7 rfl (by kernel_rfl) (by kernel_rfl) (by kernel_rfl) (fun _ _ _ h => h) (by rfl) hHeld ?fy7 ?fr7
     case fy7 => (intro W hSw; obtain ⟨y0, y1⟩ := hSw; go_simp; with_reducible rfl)
     simp only [Act.put, List.setIfInBounds_toArray, List.set_cons_zero, List.set_cons_succ]
     refine held_one 8 (by kernel_rfl) rfl (fun K hK => ?_)
     go_simp
     refine (LP.out).mono ?_
     rintro e w3 ⟨rfl, hw⟩
     obtain rfl := hw.symm
     try dsimp only
     refine hK.out _ _ (HN.out) (fun hHeld => ?_)
     clear hK K
     try simp only [Act.put, List.setIfInBounds_toArray, List.set_cons_zero, List.set_cons_succ]
     refine held_take (v := ?fbv9) 9 rfl (by kernel_rfl) (by kernel_rfl) (by kernel_rfl) (fun _ _ _ h => h) (by rfl) hHeld ?fby9 ?fbr9
     case fby9 => (intro W hSw; obtain ⟨y0, y1⟩ := hSw; go_simp; with_reducible rfl)
     simp only [Act.put, List.setIfInBounds_toArray, List.set_cons_zero, List.set_cons_succ]
     clear hHeld
     refine wpAnyH_done (by kernel_rfl) ?_ _
     go_wp2_with fail
     go_ret
     rw [HR.out]
     refine ⟨rfl, ?_, fun k hk => ?_⟩
     ·obtain ⟨⟨F, G, K, nv, sv, h1, h2, h3, h4⟩, hb, hX⟩ := (PX.out.below (Below.refl _ _).drew)
      exact ⟨⟨F, G, K, nv, sv, h1, h2, h3, fun k hk => ⟨(h4 k hk).1, fun e => (h4 k hk).2 (.inl e)⟩⟩, hb, fun k hk => hX k (.inl hk)⟩
     ·exact HK.out k (.inl hk)
    ·have he1 : (t.pages == Q) = false := by simp [he]
     rw [if_neg he] at hR
     have HN := hid (And.intro n0 p0)
     clear he
     refine wp_region_held_drew (S := fun W => W.cell? ⟨nb, 0, none⟩ = some (.int .i64 t.pages) ∧ W.cell? ⟨pb, 0, none⟩ = some (.pointer (some ⟨l, 0, none⟩))) (by kernel_rfl) ⟨n0, p0⟩ (fun hHeld => ?_)
     clear n0 p0
     refine held_take (v := ?hv0) 0 rfl (by kernel_rfl) (by kernel_rfl) (by kernel_rfl) (fun _ _ _ h => h) (by rfl) hHeld ?hy0 ?hr0
     case hy0 => (intro W hSw; obtain ⟨y0, y1⟩ := hSw; go_simp; with_reducible rfl)
     simp only [Act.put, List.setIfInBounds_toArray, List.set_cons_zero, List.set_cons_succ]
     refine held_take (v := ?hv1) 1 rfl (by kernel_rfl) (by kernel_rfl) (by kernel_rfl) (fun _ _ _ h => h) (by rfl) hHeld ?hy1 ?hr1
     case hy1 => (intro W hSw; obtain ⟨y0, y1⟩ := hSw; go_simp; with_reducible rfl)
     simp only [Act.put, List.setIfInBounds_toArray, List.set_cons_zero, List.set_cons_succ]
     refine held_take (v := ?hv2) 2 rfl (by kernel_rfl) (by kernel_rfl) (by kernel_rfl) (fun _ _ _ h => h) (by rfl) hHeld ?hy2 ?hr2
     case hy2 => (intro W hSw; obtain ⟨y0, y1⟩ := hSw; go_simp; with_reducible rfl)
     simp only [Act.put, List.setIfInBounds_toArray, List.set_cons_zero, List.set_cons_succ]
     refine held_take (v := ?hv3) 3 rfl (by kernel_rfl) (by kernel_rfl) (by kernel_rfl) (fun _ _ _ h => h) (by rfl) hHeld ?hy3 ?hr3
     case hy3 => (intro W hSw; obtain ⟨y0, y1⟩ := hSw; go_simp; with_reducible rfl)
     simp only [Act.put, List.setIfInBounds_toArray, List.set_cons_zero, List.set_cons_succ]
     refine held_take (v := ?hv4) 4 rfl (by kernel_rfl) (by kernel_rfl) (by kernel_rfl) (fun _ _ _ h => h) (by rfl) hHeld ?hy4 ?hr4
     case hy4 => (intro W hSw; obtain ⟨y0, y1⟩ := hSw; go_simp; with_reducible rfl)
     simp only [Act.put, List.setIfInBounds_toArray, List.set_cons_zero, List.set_cons_succ]
     refine held_take (v := ?hv5) 5 rfl (by kernel_rfl) (by kernel_rfl) (by kernel_rfl) (fun _ _ _ h => h) (by rfl) hHeld ?hy5 ?hr5
     case hy5 => (intro W hSw; obtain ⟨y0, y1⟩ := hSw; go_simp; with_reducible rfl)
     simp only [Act.put, List.setIfInBounds_toArray, List.set_cons_zero, List.set_cons_succ]
     refine held_take (v := ?hv6) 6 rfl (by kernel_rfl) (by kernel_rfl) (by kernel_rfl) (fun _ _ _ h => h) (by rfl) hHeld ?hy6 ?hr6
     case hy6 => (intro W hSw; obtain ⟨y0, y1⟩ := hSw; go_simp; with_reducible rfl)
     simp only [Act.put, List.setIfInBounds_toArray, List.set_cons_zero, List.set_cons_succ]
     refine held_take (v := ?hv7) 7 rfl (by kernel_rfl) (by kernel_rfl) (by kernel_rfl) (fun _ _ _ h => h) (by rfl) hHeld ?hy7 ?hr7
     case hy7 => (intro W hSw; obtain ⟨y0, y1⟩ := hSw; go_simp; with_reducible rfl)
     simp only [Act.put, List.setIfInBounds_toArray, List.set_cons_zero, List.set_cons_succ]
     refine held_one 8 (by kernel_rfl) rfl (fun K hK => ?_)
     go_simp
     refine (LP.out).mono ?_
     rintro e w3 ⟨rfl, hw⟩
     obtain rfl := hw.symm
     try dsimp only
     refine hK.out _ _ (HN.out) (fun hHeld => ?_)
     clear hK K
     try simp only [Act.put, List.setIfInBounds_toArray, List.set_cons_zero, List.set_cons_succ]
     refine held_take (v := ?hbv9) 9 rfl (by kernel_rfl) (by kernel_rfl) (by kernel_rfl) (fun _ _ _ h => h) (by rfl) hHeld ?hby9 ?hbr9
     case hby9 => (intro W hSw; obtain ⟨y0, y1⟩ := hSw; go_simp; with_reducible rfl)
     simp only [Act.put, List.setIfInBounds_toArray, List.set_cons_zero, List.set_cons_succ]
     clear hHeld
     refine wpAnyH_done (by kernel_rfl) ?_ _
     have hb7 : Below W1.heap.size W1 W1.drew := (Below.refl _ _).drew
     have HPX7 := hid (PX.out.below hb7)
     have MK := mk_mark (HPX7.out.below (Below.refl _ _).drew).log.mk'
     have PA := mk_page (HPX7.out.below (Below.refl _ _).drew).log.mk' 1 (g.list.length : Int)
     obtain ⟨pgm, hpg⟩ : ∃ x, x = pageM g d 1 (g.list.length : Int) := ⟨_, rfl⟩
     rw [← hpg] at PA hR
     obtain ⟨gl, hgl⟩ : ∃ gl, gl = g.list.length := ⟨_, rfl⟩
     rw [← hgl] at PA MK
     have MK := hid MK
     have PA := hid PA
     replace HR := hid hR
     have Hpg := hid hpg
     clear hR hpg hgl hb7
     go_upto_region 9 with fail
     refine wp_region_held_drew (S := fun W => W.cell? ⟨pb, 0, none⟩ = some (.pointer (some ⟨l, 0, none⟩))) (by kernel_rfl) HN.out.2 (fun hHeld => ?_)
     refine held_take (v := ?mv0) 0 rfl (by kernel_rfl) (by kernel_rfl) (by kernel_rfl) (fun _ _ _ h => h) (by rfl) hHeld ?my0 ?mr0
     case my0 => (intro W hSw; go_simp; with_reducible rfl)
     simp only [Act.put, List.setIfInBounds_toArray, List.set_cons_zero, List.set_cons_succ]
     refine held_take (v := ?mv1) 1 rfl (by kernel_rfl) (by kernel_rfl) (by kernel_rfl) (fun _ _ _ h => h) (by rfl) hHeld ?my1 ?mr1
     case my1 => (intro W hSw; go_simp; with_reducible rfl)
     simp only [Act.put, List.setIfInBounds_toArray, List.set_cons_zero, List.set_cons_succ]
     refine held_take (v := ?mv2) 2 rfl (by kernel_rfl) (by kernel_rfl) (by kernel_rfl) (fun _ _ _ h => h) (by rfl) hHeld ?my2 ?mr2
     case my2 => (intro W hSw; go_simp; with_reducible rfl)
     simp only [Act.put, List.setIfInBounds_toArray, List.set_cons_zero, List.set_cons_succ]
     refine held_take (v := ?mv3) 3 rfl (by kernel_rfl) (by kernel_rfl) (by kernel_rfl) (fun _ _ _ h => h) (by rfl) hHeld ?my3 ?mr3
     case my3 => (intro W hSw; go_simp; with_reducible rfl)
     simp only [Act.put, List.setIfInBounds_toArray, List.set_cons_zero, List.set_cons_succ]
     refine held_take (v := ?mv4) 4 rfl (by kernel_rfl) (by kernel_rfl) (by kernel_rfl) (fun _ _ _ h => h) (by rfl) hHeld ?my4 ?mr4
     case my4 => (intro W hSw; go_simp; with_reducible rfl)
     simp only [Act.put, List.setIfInBounds_toArray, List.set_cons_zero, List.set_cons_succ]
     refine held_take (v := ?mv5) 5 rfl (by kernel_rfl) (by kernel_rfl) (by kernel_rfl) (fun _ _ _ h => h) (by rfl) hHeld ?my5 ?mr5
     case my5 => (intro W hSw; go_simp; with_reducible rfl)
     simp only [Act.put, List.setIfInBounds_toArray, List.set_cons_zero, List.set_cons_succ]
     refine held_take (v := ?mv6) 6 rfl (by kernel_rfl) (by kernel_rfl) (by kernel_rfl) (fun _ _ _ h => h) (by rfl) hHeld ?my6 ?mr6
     case my6 => (intro W hSw; go_simp; with_reducible rfl)
     simp only [Act.put, List.setIfInBounds_toArray, List.set_cons_zero, List.set_cons_succ]
     refine held_take (v := ?mv7) 7 rfl (by kernel_rfl) (by kernel_rfl) (by kernel_rfl) (fun _ _ _ h => h) (by rfl) hHeld ?my7 ?mr7
     case my7 => (intro W hSw; go_simp; with_reducible rfl)
     simp only [Act.put, List.setIfInBounds_toArray, List.set_cons_zero, List.set_cons_succ]
     refine held_one 8 (by kernel_rfl) rfl (fun K hK => ?_)
     go_simp
     refine (MK.out).mono ?_
     rintro e w3 ⟨rfl, hw⟩
     obtain rfl := hw.symm
     try dsimp only
     refine hK.out _ _ (HN.out.2) (fun hHeld => ?_)
     clear hK K
     try simp only [Act.put, List.setIfInBounds_toArray, List.set_cons_zero, List.set_cons_succ]
     refine held_one 9 (by kernel_rfl) rfl (fun K hK => ?_)
     go_simp
     refine (PA.out).mono ?_
     rintro e w3 ⟨rfl, hb3⟩
     have HB3 := hid (show Below W1.heap.size W1 w3 from ⟨hb3.os, hb3.tape, hb3.output, hb3.size, hb3.block⟩)
     have hp3 := (HB3.out.cell (p := ⟨pb, 0, none⟩) (lt_of_block Hpb.out)).trans HN.out.2
     clear hb3
     try dsimp only
     refine hK.out _ _ (hp3) (fun hHeld => ?_)
     clear hK K
     try simp only [Act.put, List.setIfInBounds_toArray, List.set_cons_zero, List.set_cons_succ]
     refine held_take (v := ?mbv10) 10 rfl (by kernel_rfl) (by kernel_rfl) (by kernel_rfl) (fun _ _ _ h => h) (by rfl) hHeld ?mby10 ?mbr10
     case mby10 => (intro W hSw; go_simp; with_reducible rfl)
     simp only [Act.put, List.setIfInBounds_toArray, List.set_cons_zero, List.set_cons_succ]
     refine held_take (v := ?mbv11) 11 rfl (by kernel_rfl) (by kernel_rfl) (by kernel_rfl) (fun _ _ _ h => h) (by rfl) hHeld ?mby11 ?mbr11
     case mby11 => (intro W hSw; go_simp; with_reducible rfl)
     simp only [Act.put, List.setIfInBounds_toArray, List.set_cons_zero, List.set_cons_succ]
     refine held_take (v := ?mbv12) 12 rfl (by kernel_rfl) (by kernel_rfl) (by kernel_rfl) (fun _ _ _ h => h) (by rfl) hHeld ?mby12 ?mbr12
     case mby12 => (intro W hSw; go_simp; with_reducible rfl)
     simp only [Act.put, List.setIfInBounds_toArray, List.set_cons_zero, List.set_cons_succ]
     refine held_take (v := ?mbv13) 13 rfl (by kernel_rfl) (by kernel_rfl) (by kernel_rfl) (fun _ _ _ h => h) (by rfl) hHeld ?mby13 ?mbr13
     case mby13 => (intro W hSw; go_simp; with_reducible rfl)
     simp only [Act.put, List.setIfInBounds_toArray, List.set_cons_zero, List.set_cons_succ]
     refine held_take (v := ?mbv14) 14 rfl (by kernel_rfl) (by kernel_rfl) (by kernel_rfl) (fun _ _ _ h => h) (by rfl) hHeld ?mby14 ?mbr14
     case mby14 => (intro W hSw; go_simp; with_reducible rfl)
     simp only [Act.put, List.setIfInBounds_toArray, List.set_cons_zero, List.set_cons_succ]
     clear hHeld hp3
     refine wpAnyH_done (by kernel_rfl) ?_ _
     by_cases hp0 : pgm.2 = 0
     ·have hp1 : (pgm.2 != 0) = false := by simp [hp0]
      have hR := HR.out
      rw [if_neg (by simpa using hp0)] at hR
      replace HR := hid hR
      have hb3 := HB3.out
      have PX3 := hid (PX.out.below hb3)
      have hnb3 := (hb3.block nb (lt_of_block Hnb.out)).trans Hnb.out
      have hm3 := map_keep Hm.out (hb3.block mb Hwr.out.lt)
      have n0 : w3.cell? ⟨nb, 0, none⟩ = some (.int .i64 t.pages) := (cell_of_block hnb3 0).trans rfl
      have n1 : w3.cell? ⟨nb, 1, none⟩ = some (.map (some mb)) := (cell_of_block hnb3 1).trans rfl
      have Hnb3 := hid hnb3
      have Hm3 := hid hm3
      have hmlen : Maps.size D < maxLen := by rw [Hsz.out]; unfold maxLen; omega
      have HiN := hid hmlen
      have Hkey := hid (keyOf_int_mk (P := Tryz.prog) (k := 3) (a := 1) Tryz.underlying3 (WalkArith.wf_i64 (by omega)))
      obtain ⟨ps, hps⟩ : ∃ ps, ps = pgm.1 := ⟨_, rfl⟩
      have hpsl : ps.length ≤ 512 := by rw [hps, Hpg.out]; exact page_len HPX7.out.oks.1 HPX7.out.oks.2 _ _
      rw [← hps] at hR
      replace HR := hid hR
      have Hps := hid hps
      rw [← hps]
      have Hval := hid (plainElem_string (H := Unit) (P := Tryz.prog) (e := 9) Tryz.underlying9 (s := bs ps) (by rw [bs_size]; unfold maxLen; omega))
      clear hR hp0 hb3 hnb3 hm3 hmlen hpsl hps
      go_wp2_with (first
       | (at_mapUpdate; refine wpList_mapUpdate_own _ rfl _ _ _ 84 rfl 3 9 keyI Tryz.underlying84 _ mb (Maps.size D) D rfl Hm3.out HiN.out _ _ (ik 1) rfl rfl Hkey.out _ [] Hval.out ?_; intro w5 hown5 hgrow5; have Hown5 := hid hown5; have Hgrow5 := hid hgrow5; clear hown5 hgrow5)
       | go_in)
      go_meet
      case rel =>
       have hg := Hgrow5.out
       have hne : nb ≠ mb := fun e => by obtain ⟨es, c, hb⟩ := Hwr.out.block; rw [← e, Hnb.out] at hb; cases hb
       have hk5 : ∀ k, k < w3.heap.size → k ≠ mb → w5.heap[k]? = w3.heap[k]? := fun k hk hn => hg.block k hk (fun e => hn (by injection e))
       refine ⟨_, rfl, withFirst t ps, HR.out, PX3.out.grow hg (fun k hk => .inr (.inr (by cases hk; rfl))) (fun k hk => by cases hk; exact HT.out.new) (fun k hk => .inl hk) (fun k hk => Nat.lt_of_lt_of_le (PX3.out.xlt k hk) hg.size), fun k hk => ?_, ?_, ⟨_, owns_exact Hown5.out, says_put Hsay.out Hm.out.isMap 1 ps⟩, fun q x hx => ?_⟩
       ·exact (hk5 k (PX3.out.xlt k (.inl hk)) (fun e => HT.out.nx (e ▸ hk))).trans ((HB3.out.block k (PX.out.xlt k (.inl hk))).trans (HK.out k (.inl hk)))
       ·exact (hk5 nb (lt_of_block Hnb3.out) hne).trans Hnb3.out
       ·by_cases e : q = 1
        ·omega
        ·have hx : (if q = 1 then some ps else t.wr q) = some x := hx
         rw [if_neg e] at hx
         have := htok.out.dom q x hx
         have := htok.out.pages
         omega
     ·have hp1 : (pgm.2 != 0) = true := by simp [hp0]
      have hR := HR.out
      rw [if_pos hp0] at hR
      replace HR := hid hR
      clear hR hp0
      go_wp2_with fail
      go_ret
      rw [HR.out]
      refine ⟨rfl, ?_, fun k hk => ?_⟩
      ·obtain ⟨⟨F, G, K, nv, sv, h1, h2, h3, h4⟩, hb, hX⟩ := (PX.out.below HB3.out)
       exact ⟨⟨F, G, K, nv, sv, h1, h2, h3, fun k hk => ⟨(h4 k hk).1, fun e => (h4 k hk).2 (.inl e)⟩⟩, hb, fun k hk => hX k (.inl hk)⟩
      ·exact (HB3.out.block k (PX.out.xlt k (.inl hk))).trans (HK.out k (.inl hk))
   ·have hk1 : ((kl : Int) == 0) = false := by simp; omega
    have hnn : keysOf t.wr ≠ [] := fun e => hk0 (by rw [Hkl.out, e]; rfl)
    have hR := HR.out
    simp only [if_neg hnn] at hR
    replace HR := hid hR
    clear hnn hk0 hR
    go_wp2_with fail
    go_meet
    case rel => exact ⟨_, rfl, t, HR.out, PX.out, fun k hk => HK.out k (.inl hk), Hnb.out, Hwr.out, fun q x hx => by have := htok.out.dom q x hx; have := htok.out.pages; omega⟩
  case rest =>
   clear PX HK Hnb Hpb Hwr p0 p3 n0 n1 hlen Hm Hsay Hsz Hkl HR htok
   obtain ⟨W1, rfl, t, hR, hPX, hHK, hnb, hwr, hdom⟩ := hcut
   have HR := hid hR
   have PX := hid hPX
   have HK := hid hHK
   have Hnb := hid hnb
   have Hwr := hid hwr
   have Hdom := hid hdom
   obtain ⟨⟨nv1, sv1, hpb⟩, -⟩ := PX.out.cell
   have p0 : W1.cell? ⟨pb, 0, none⟩ = some (.pointer (some ⟨l, 0, none⟩)) := (cell_of_block hpb 0).trans rfl
   have p3 : W1.cell? ⟨pb, 3, none⟩ = some (.int .i64 p.opn) := (cell_of_block hpb 3).trans rfl
   have n0 : W1.cell? ⟨nb, 0, none⟩ = some (.int .i64 t.pages) := (cell_of_block hnb 0).trans rfl
   have n1 : W1.cell? ⟨nb, 1, none⟩ = some (.map (some mb)) := (cell_of_block hnb 1).trans rfl
   have Hpb := hid hpb
   clear hR hPX hHK hnb hwr hdom hpb
   have SK := hid (sorted_keys Hwr.out (Hdom.out))
   go_upto_region 15 with (first
    | (go_at_call 71; refine (keys_any mb _).mono ?_; rintro e w2 ⟨rfl, rfl⟩)
    | (go_at_call 70; refine (SK.out).mono ?_; rintro e w2 ⟨ao, cap, rfl, hc, hb⟩; have HC := hid hc; have HB2 := hid hb; clear hc hb)
    | go_in)
   have hkb : (keysOf t.wr).length ≤ 256 := keysOf_length _
   have htl : (trImgs t).length = (keysOf t.wr).length := by unfold trImgs; rw [List.length_map]
   have Htl := hid htl
   obtain ⟨i0, hi0, hz0, hz1, hz2⟩ := info_parts (P := Tryz.prog) (e := 144) (z := .agg #[.int .i64 0, .string ⟨#[]⟩]) (size := 2) (bytes := 24) (by kernel_rfl)
   clear htl p0 p3 n0 n1
   go_wp2_with fail
   go_loopw [7, 70] (fun v7 v70 wr => ∃ i : Nat, i ≤ (keysOf t.wr).length ∧ v70 = .int .i64 (i : Int) ∧ ImgRow wr w2.heap.size v7 ((trImgs t).take i) ∧ Below w2.heap.size w2 wr) (fun _ v70 _ => (keysOf t.wr).length - (intOf v70).toNat)
   case atStart => exact ⟨0, Nat.zero_le _, rfl, imgRow_nil _ _, Below.refl _ _⟩
   case round =>
    obtain ⟨i, hi, rfl, hrow, hbw⟩ := hrel
    have Hrow := hid hrow
    have HBw := hid hbw
    have hb1w : Below W1.heap.size W1 wr := HB2.out.trans (hbw.mono HB2.out.size)
    have HB1w := hid hb1w
    have hnbw := (hb1w.block nb (lt_of_block Hnb.out)).trans Hnb.out
    have n0 : wr.cell? ⟨nb, 0, none⟩ = some (.int .i64 t.pages) := (cell_of_block hnbw 0).trans rfl
    have n1 : wr.cell? ⟨nb, 1, none⟩ = some (.map (some mb)) := (cell_of_block hnbw 1).trans rfl
    have hwrw := Hwr.out.keep (hb1w.block mb Hwr.out.lt)
    clear hrow hnbw hb1w
    by_cases hlt : i < (keysOf t.wr).length
    ·have hlti : (i : Int) < ((keysOf t.wr).length : Int) := by omega
     obtain ⟨q, rfl, hq, hcq⟩ := HC.out i hlt
     have hcw := (hbw.cell (p := ⟨q, i, none⟩) hq).trans hcq
     obtain ⟨y, hy⟩ : ∃ y, y = (keysOf t.wr)[i] := ⟨_, rfl⟩
     rw [← hy] at hcw
     have hyr : 1 ≤ y ∧ y ≤ 256 := (keysOf_mem.1 (by rw [hy]; exact List.getElem_mem hlt)).1
     have LK := says_look1 hwrw (p := y) (by omega)
     obtain ⟨s, hs⟩ : ∃ s, s = (t.wr y).getD [] := ⟨_, rfl⟩
     rw [← hs] at LK
     have Hys := hid (And.intro hy hs)
     have hll : ((trImgs t).take i).length = i := by rw [List.length_take, Htl.out]; omega
     clear hcq hy hs hbw hwrw
     go_wp2_with (first
      | (at_builtin; refine wpList_append_own_at _ rfl _ _ 138 rfl w2.heap.size 144 i0 _ 2 24 Tryz.underlying138 hi0 hz0 hz1 hz2 rfl (by omega) _ ((trImgs t).take i).length (imgsV ((trImgs t).take i)) rfl (Hrow.out.below ((Below.refl _ wr).alloc (Nat.le_refl _) (.cells #[.int .i64 y, .string (bs s)] 144))) ⟨wr.heap.size, 0, none⟩ 1 1 (imgCells ⟨y, s⟩) rfl rfl (World.news_of_block (cs := #[.int .i64 y, .string (bs s)]) (t := 144) (fr := (0, 0)) (heap_alloc_new wr _)) (imgCells_one _) (by unfold maxLen; omega) (by omega) (by have := HBw.out.size; simp; omega) ?_; intro v' w7 hown7 hgrow7 hnil7 hblk7; have Hown7 := hid hown7; have HB7 := hid ((HBw.out.alloc HBw.out.size (.cells #[.int .i64 y, .string (bs s)] 144)).grown hgrow7 (by simp; have := HBw.out.size; omega) (fun j hj => (row_base Hrow.out hj).1)); clear hown7 hgrow7 hnil7 hblk7)
      | go_in)
     go_roundw
     case rel =>
      refine ⟨i + 1, hlt, by simp, ?_, HB7.out⟩
      have hil : i < (trImgs t).length := by rw [Htl.out]; exact hlt
      have e1 : (trImgs t)[i]? = some ⟨y, s⟩ := by
       unfold trImgs
       rw [List.getElem?_map, List.getElem?_eq_getElem hlt, ← Hys.out.1, Option.map_some, ← Hys.out.2]
      have e : (trImgs t)[i] = ⟨y, s⟩ := by
       rw [List.getElem?_eq_getElem hil] at e1
       exact Option.some.inj e1
      rw [List.take_succ_eq_append_getElem hil, e]
      unfold ImgRow
      rw [imgsV_snoc, List.length_append]
      exact Hown7.out
     case measure => (simp [intOf]) <;> omega
    ·obtain rfl : i = (keysOf t.wr).length := by omega
     have hrowT : ImgRow wr w2.heap.size u7 (trImgs t) := by
      have := Hrow.out
      rwa [List.take_of_length_le (by rw [Htl.out]; exact Nat.le_refl _)] at this
     have PXw := hid (PX.out.below HB1w.out)
     have HrowT := hid hrowT
     have hpbw := (HB1w.out.block pb (lt_of_block Hpb.out)).trans Hpb.out
     have p0 : wr.cell? ⟨pb, 0, none⟩ = some (.pointer (some ⟨l, 0, none⟩)) := (cell_of_block hpbw 0).trans rfl
     have p3 : wr.cell? ⟨pb, 3, none⟩ = some (.int .i64 p.opn) := (cell_of_block hpbw 3).trans rfl
     clear hrowT hpbw hwrw hbw
     have u7s : ∃ ao cap, u7 = .slice ao (trImgs t).length cap := by obtain ⟨ao, cap, e, -⟩ := HrowT.out.get; exact ⟨ao, cap, e⟩
     obtain ⟨ao7, cap7, hu7⟩ := u7s
     subst hu7
     have MK := hid (mk_mark PXw.out.log.mk')
     obtain ⟨gl, hgl⟩ : ∃ gl, gl = g.list.length := ⟨_, rfl⟩
     rw [← hgl] at MK
     have Hgl := hid hgl
     have hgl256 : gl ≤ 256 := by rw [hgl]; exact PXw.out.log.mk'.okLg.many
     obtain ⟨tl, htl⟩ : ∃ tl, tl = (trImgs t).length := ⟨_, rfl⟩
     have Htl2 := hid htl
     have htl256 : tl ≤ 256 := by rw [htl]; exact trImgs_length t
     have HrowT2 := hid (show ImgRow wr w2.heap.size (.slice ao7 tl cap7) (trImgs t) by rw [htl]; exact HrowT.out)
     rw [← htl]
     clear hgl htl HrowT Hrow
     have hwsum : IntKind.i64.wrap ((gl : Int) + (tl : Int)) = (gl : Int) + (tl : Int) := IntWalk.i64_in _ (by omega)
     have AP := hid (px_append (PXw.out.below (Below.refl _ _).drew) N hsm (by omega) t.pages (.slice ao7 tl cap7) (trImgs t) (HrowT2.out.below (Below.refl _ _).drew).at (by have := trImgs_length t; omega))
     have CK := hid (px_lcheck PXw.out N hsm (by omega))
     by_cases hbig : 256 < gl + tl
     ·have hbig1 : decide (256 < (gl : Int) + (tl : Int)) = true := by simp; omega
      by_cases hop : p.opn = 0
      ·have hop1 : (p.opn == 0) = true := by simp [hop]
       have hR := HR.out
       unfold putM at hR
       rw [← Hgl.out, ← Htl2.out, if_pos ⟨hbig, hop⟩] at hR
       have hPXc := px_add (X' := fun k => (X k ∨ k = nb ∨ k = mb) ∨ (Value.slice ao7 tl cap7).ownBlock = some k) PX.out HB1w.out (fun k hk => hk.imp id (fun e => Nat.le_trans HB2.out.size (row_base HrowT2.out e).1)) (fun k hk => hk.elim (fun e => Nat.lt_of_lt_of_le (PX.out.xlt k e) HB1w.out.size) (fun e => (row_base HrowT2.out e).2))
       have CKc := px_lcheck hPXc N hsm (by omega)
       have hp256 := hPXc.log.mk'.okLg.pages
       obtain ⟨c, hc⟩ : ∃ c, c = lcheckM g d := ⟨_, rfl⟩
       have hcs : c.2.2.Small (N + 8388608) := by rw [hc]; exact ck_small _ _ _ _ (Nat.le_refl _) (by omega) hsm
       rw [← hc] at CKc hR
       have CKc := hid CKc
       clear hc hPXc hp256 hbig hop AP CK
       go_upto_region 21 with (first
        | (go_at_call 58; refine (MK.out).mono ?_; rintro e w3 ⟨rfl, hw⟩; obtain rfl := hw.symm)
        | (go_at_call 72; refine (CKc.out).mono ?_; rintro e w4 ⟨rfl, hpx, hkx⟩; have HPX4 := hid hpx; have HKX4 := hid hkx; clear hpx hkx)
        | go_in)
       by_cases hc0 : c.1 = 0
       ·have hc1 : (c.1 != 0) = false := by simp [hc0]
        rw [if_neg (by simpa using hc0)] at hR
        have hrow4 : ImgRow w4 w2.heap.size (.slice ao7 tl cap7) (trImgs t) := row_keep HrowT2.out fun j hj => HKX4.out j (.inr hj)
        have AP4 := px_append (HPX4.out.below (Below.refl _ _).drew) (N + 8388608) hcs (by omega) t.pages (.slice ao7 tl cap7) (trImgs t) (hrow4.below (Below.refl _ _).drew).at (by have := trImgs_length t; omega)
        obtain ⟨r, hr⟩ : ∃ r, r = lappendM t.pages (trImgs t) c.2.1 c.2.2 := ⟨_, rfl⟩
        rw [← hr] at AP4 hR
        have AP4 := hid AP4
        replace HR := hid hR
        obtain ⟨⟨nv4, sv4, hpb4⟩, -⟩ := HPX4.out.cell
        have hnb4 := (HKX4.out nb (.inl (.inr (.inl rfl)))).trans ((HB1w.out.block nb (lt_of_block Hnb.out)).trans Hnb.out)
        have hs4 := And.intro ((cell_of_block hpb4 0).trans rfl : w4.cell? ⟨pb, 0, none⟩ = some (.pointer (some ⟨l, 0, none⟩))) ((cell_of_block hnb4 0).trans rfl : w4.cell? ⟨nb, 0, none⟩ = some (.int .i64 t.pages))
        clear hR hr hrow4 hpb4 p0 p3 n0 n1
        go_upto_region 23 with fail
        refine wp_region_held_drew (S := fun W => W.cell? ⟨pb, 0, none⟩ = some (.pointer (some ⟨l, 0, none⟩)) ∧ W.cell? ⟨nb, 0, none⟩ = some (.int .i64 t.pages)) (by kernel_rfl) hs4 (fun hHeld => ?_)
        refine held_take (v := ?ev0) 0 rfl (by kernel_rfl) (by kernel_rfl) (by kernel_rfl) (fun _ _ _ h => h) (by rfl) hHeld ?ey0 ?er0
        case ey0 => (intro W hSw; obtain ⟨y0, y1⟩ := hSw; go_simp; with_reducible rfl)
        simp only [Act.put, List.setIfInBounds_toArray, List.set_cons_zero, List.set_cons_succ]
        refine held_take (v := ?ev1) 1 rfl (by kernel_rfl) (by kernel_rfl) (by kernel_rfl) (fun _ _ _ h => h) (by rfl) hHeld ?ey1 ?er1
        case ey1 => (intro W hSw; obtain ⟨y0, y1⟩ := hSw; go_simp; with_reducible rfl)
        simp only [Act.put, List.setIfInBounds_toArray, List.set_cons_zero, List.set_cons_succ]
        refine held_take (v := ?ev2) 2 rfl (by kernel_rfl) (by kernel_rfl) (by kernel_rfl) (fun _ _ _ h => h) (by rfl) hHeld ?ey2 ?er2
        case ey2 => (intro W hSw; obtain ⟨y0, y1⟩ := hSw; go_simp; with_reducible rfl)
        simp only [Act.put, List.setIfInBounds_toArray, List.set_cons_zero, List.set_cons_succ]
        refine held_take (v := ?ev3) 3 rfl (by kernel_rfl) (by kernel_rfl) (by kernel_rfl) (fun _ _ _ h => h) (by rfl) hHeld ?ey3 ?er3
        case ey3 => (intro W hSw; obtain ⟨y0, y1⟩ := hSw; go_simp; with_reducible rfl)
        simp only [Act.put, List.setIfInBounds_toArray, List.set_cons_zero, List.set_cons_succ]
        refine held_take (v := ?ev4) 4 rfl (by kernel_rfl) (by kernel_rfl) (by kernel_rfl) (fun _ _ _ h => h) (by rfl) hHeld ?ey4 ?er4
        case ey4 => (intro W hSw; obtain ⟨y0, y1⟩ := hSw; go_simp; with_reducible rfl)
        simp only [Act.put, List.setIfInBounds_toArray, List.set_cons_zero, List.set_cons_succ]
        refine held_take (v := ?ev5) 5 rfl (by kernel_rfl) (by kernel_rfl) (by kernel_rfl) (fun _ _ _ h => h) (by rfl) hHeld ?ey5 ?er5
        case ey5 => (intro W hSw; obtain ⟨y0, y1⟩ := hSw; go_simp; with_reducible rfl)
        simp only [Act.put, List.setIfInBounds_toArray, List.set_cons_zero, List.set_cons_succ]
        refine held_take (v := ?ev6) 6 rfl (by kernel_rfl) (by kernel_rfl) (by kernel_rfl) (fun _ _ _ h => h) (by rfl) hHeld ?ey6 ?er6
        case ey6 => (intro W hSw; obtain ⟨y0, y1⟩ := hSw; go_simp; with_reducible rfl)
        simp only [Act.put, List.setIfInBounds_toArray, List.set_cons_zero, List.set_cons_succ]
        refine held_take (v := ?ev7) 7 rfl (by kernel_rfl) (by kernel_rfl) (by kernel_rfl) (fun _ _ _ h => h) (by rfl) hHeld ?ey7 ?er7
        case ey7 => (intro W hSw; obtain ⟨y0, y1⟩ := hSw; go_simp; with_reducible rfl)
        simp only [Act.put, List.setIfInBounds_toArray, List.set_cons_zero, List.set_cons_succ]
        refine held_take (v := ?ev8) 8 rfl (by kernel_rfl) (by kernel_rfl) (by kernel_rfl) (fun _ _ _ h => h) (by rfl) hHeld ?ey8 ?er8
        case ey8 => (intro W hSw; obtain ⟨y0, y1⟩ := hSw; go_simp; with_reducible rfl)
        simp only [Act.put, List.setIfInBounds_toArray, List.set_cons_zero, List.set_cons_succ]
        refine held_one 9 (by kernel_rfl) rfl (fun K hK => ?_)
        go_simp
        refine (AP4.out).mono ?_
        rintro e w9 ⟨rfl, hpx, hkx⟩
        obtain ⟨⟨nv9, sv9, hpb9⟩, -⟩ := hpx.cell
        have hnb9 := (hkx nb (.inl (.inr (.inl rfl)))).trans hnb4
        have hs9 := And.intro ((cell_of_block hpb9 0).trans rfl : w9.cell? ⟨pb, 0, none⟩ = some (.pointer (some ⟨l, 0, none⟩))) ((cell_of_block hnb9 0).trans rfl : w9.cell? ⟨nb, 0, none⟩ = some (.int .i64 t.pages))
        have HPX9 := hid hpx
        have HKX9 := hid hkx
        clear hpx hkx hpb9 hnb9 hnb4
        try dsimp only
        refine hK.out _ _ (hs9) (fun hHeld => ?_)
        clear hK K
        try simp only [Act.put, List.setIfInBounds_toArray, List.set_cons_zero, List.set_cons_succ]
        refine held_take (v := ?ebv10) 10 rfl (by kernel_rfl) (by kernel_rfl) (by kernel_rfl) (fun _ _ _ h => h) (by rfl) hHeld ?eby10 ?ebr10
        case eby10 => (intro W hSw; obtain ⟨y0, y1⟩ := hSw; go_simp; with_reducible rfl)
        simp only [Act.put, List.setIfInBounds_toArray, List.set_cons_zero, List.set_cons_succ]
        clear hHeld hs9 hs4
        refine wpAnyH_done (by kernel_rfl) ?_ _
        go_wp2_with fail
        go_ret
        rw [HR.out]
        refine ⟨rfl, ?_, fun k hk => ?_⟩
        ·obtain ⟨⟨F, G, K, nv, sv, h1, h2, h3, h4⟩, hb, hX⟩ := HPX9.out
         exact ⟨⟨F, G, K, nv, sv, h1, h2, h3, fun k hk => ⟨(h4 k hk).1, fun e => (h4 k hk).2 (.inl (.inl e))⟩⟩, hb, fun k hk => hX k (.inl (.inl hk))⟩
        ·exact ((HKX9.out k (.inl (.inl hk))).trans (HKX4.out k (.inl (.inl hk)))).trans ((HB1w.out.block k (PX.out.xlt k (.inl hk))).trans (HK.out k hk))
       ·have hc1 : (c.1 != 0) = true := by simp [hc0]
        rw [if_pos hc0] at hR
        replace HR := hid hR
        clear hR
        go_wp2_with fail
        go_ret
        rw [HR.out]
        refine ⟨rfl, ?_, fun k hk => ?_⟩
        ·obtain ⟨⟨F, G, K, nv, sv, h1, h2, h3, h4⟩, hb, hX⟩ := HPX4.out
         exact ⟨⟨F, G, K, nv, sv, h1, h2, h3, fun k hk => ⟨(h4 k hk).1, fun e => (h4 k hk).2 (.inl (.inl e))⟩⟩, hb, fun k hk => hX k (.inl (.inl hk))⟩
        ·exact (HKX4.out k (.inl (.inl hk))).trans ((HB1w.out.block k (PX.out.xlt k (.inl hk))).trans (HK.out k hk))
      ·have hop1 : (p.opn == 0) = false := by simp [hop]
       have hR := HR.out
       unfold putM at hR
       rw [← Hgl.out, ← Htl2.out, if_neg (fun e => hop e.2)] at hR
       replace HR := hid hR
       clear hR hbig hop
       go_upto_region 23 with (first
        | (go_at_call 58; refine (MK.out).mono ?_; rintro e w3 ⟨rfl, hw⟩; obtain rfl := hw.symm)
        | go_in)
       obtain ⟨r, hr⟩ : ∃ r, r = lappendM t.pages (trImgs t) g d := ⟨_, rfl⟩
       have hR := HR.out
       rw [← hr] at AP hR
       replace HR := hid hR
       clear hR hr
       refine wp_region_held_drew (S := fun W => W.cell? ⟨pb, 0, none⟩ = some (.pointer (some ⟨l, 0, none⟩)) ∧ W.cell? ⟨nb, 0, none⟩ = some (.int .i64 t.pages)) (by kernel_rfl) ⟨p0, n0⟩ (fun hHeld => ?_)
       clear p0 p3 n0 n1
       refine held_take (v := ?cv0) 0 rfl (by kernel_rfl) (by kernel_rfl) (by kernel_rfl) (fun _ _ _ h => h) (by rfl) hHeld ?cy0 ?cr0
       case cy0 => (intro W hSw; obtain ⟨y0, y1⟩ := hSw; go_simp; with_reducible rfl)
       simp only [Act.put, List.setIfInBounds_toArray, List.set_cons_zero, List.set_cons_succ]
       refine held_take (v := ?cv1) 1 rfl (by kernel_rfl) (by kernel_rfl) (by kernel_rfl) (fun _ _ _ h => h) (by rfl) hHeld ?cy1 ?cr1
       case cy1 => (intro W hSw; obtain ⟨y0, y1⟩ := hSw; go_simp; with_reducible rfl)
       simp only [Act.put, List.setIfInBounds_toArray, List.set_cons_zero, List.set_cons_succ]
       refine held_take (v := ?cv2) 2 rfl (by kernel_rfl) (by kernel_rfl) (by kernel_rfl) (fun _ _ _ h => h) (by rfl) hHeld ?cy2 ?cr2
       case cy2 => (intro W hSw; obtain ⟨y0, y1⟩ := hSw; go_simp; with_reducible rfl)
       simp only [Act.put, List.setIfInBounds_toArray, List.set_cons_zero, List.set_cons_succ]
       refine held_take (v := ?cv3) 3 rfl (by kernel_rfl) (by kernel_rfl) (by kernel_rfl) (fun _ _ _ h => h) (by rfl) hHeld ?cy3 ?cr3
       case cy3 => (intro W hSw; obtain ⟨y0, y1⟩ := hSw; go_simp; with_reducible rfl)
       simp only [Act.put, List.setIfInBounds_toArray, List.set_cons_zero, List.set_cons_succ]
       refine held_take (v := ?cv4) 4 rfl (by kernel_rfl) (by kernel_rfl) (by kernel_rfl) (fun _ _ _ h => h) (by rfl) hHeld ?cy4 ?cr4
       case cy4 => (intro W hSw; obtain ⟨y0, y1⟩ := hSw; go_simp; with_reducible rfl)
       simp only [Act.put, List.setIfInBounds_toArray, List.set_cons_zero, List.set_cons_succ]
       refine held_take (v := ?cv5) 5 rfl (by kernel_rfl) (by kernel_rfl) (by kernel_rfl) (fun _ _ _ h => h) (by rfl) hHeld ?cy5 ?cr5
       case cy5 => (intro W hSw; obtain ⟨y0, y1⟩ := hSw; go_simp; with_reducible rfl)
       simp only [Act.put, List.setIfInBounds_toArray, List.set_cons_zero, List.set_cons_succ]
       refine held_take (v := ?cv6) 6 rfl (by kernel_rfl) (by kernel_rfl) (by kernel_rfl) (fun _ _ _ h => h) (by rfl) hHeld ?cy6 ?cr6
       case cy6 => (intro W hSw; obtain ⟨y0, y1⟩ := hSw; go_simp; with_reducible rfl)
       simp only [Act.put, List.setIfInBounds_toArray, List.set_cons_zero, List.set_cons_succ]
       refine held_take (v := ?cv7) 7 rfl (by kernel_rfl) (by kernel_rfl) (by kernel_rfl) (fun _ _ _ h => h) (by rfl) hHeld ?cy7 ?cr7
       case cy7 => (intro W hSw; obtain ⟨y0, y1⟩ := hSw; go_simp; with_reducible rfl)
       simp only [Act.put, List.setIfInBounds_toArray, List.set_cons_zero, List.set_cons_succ]
       refine held_take (v := ?cv8) 8 rfl (by kernel_rfl) (by kernel_rfl) (by kernel_rfl) (fun _ _ _ h => h) (by rfl) hHeld ?cy8 ?cr8
       case cy8 => (intro W hSw; obtain ⟨y0, y1⟩ := hSw; go_simp; with_reducible rfl)
       simp only [Act.put, List.setIfInBounds_toArray, List.set_cons_zero, List.set_cons_succ]
       refine held_one 9 (by kernel_rfl) rfl (fun K hK => ?_)
       go_simp
       refine (AP.out).mono ?_
       rintro e w9 ⟨rfl, hpx, hkx⟩
       obtain ⟨⟨nv9, sv9, hpb9⟩, -⟩ := hpx.cell
       have hnb9 := (hkx nb (.inr (.inl rfl))).trans ((HB1w.out.block nb (lt_of_block Hnb.out)).trans Hnb.out)
       have hs9 := And.intro ((cell_of_block hpb9 0).trans rfl : w9.cell? ⟨pb, 0, none⟩ = some (.pointer (some ⟨l, 0, none⟩))) ((cell_of_block hnb9 0).trans rfl : w9.cell? ⟨nb, 0, none⟩ = some (.int .i64 t.pages))
       have HPX9 := hid hpx
       have HKX9 := hid hkx
       clear hpx hkx hpb9 hnb9
       try dsimp only
       refine hK.out _ _ (hs9) (fun hHeld => ?_)
       clear hK K
       try simp only [Act.put, List.setIfInBounds_toArray, List.set_cons_zero, List.set_cons_succ]
       refine held_take (v := ?cbv10) 10 rfl (by kernel_rfl) (by kernel_rfl) (by kernel_rfl) (fun _ _ _ h => h) (by rfl) hHeld ?cby10 ?cbr10
       case cby10 => (intro W hSw; obtain ⟨y0, y1⟩ := hSw; go_simp; with_reducible rfl)
       simp only [Act.put, List.setIfInBounds_toArray, List.set_cons_zero, List.set_cons_succ]
       clear hHeld hs9
       refine wpAnyH_done (by kernel_rfl) ?_ _
       go_wp2_with fail
       go_ret
       rw [HR.out]
       refine ⟨rfl, ?_, fun k hk => ?_⟩
       ·obtain ⟨⟨F, G, K, nv, sv, h1, h2, h3, h4⟩, hb, hX⟩ := HPX9.out
        exact ⟨⟨F, G, K, nv, sv, h1, h2, h3, fun k hk => ⟨(h4 k hk).1, fun e => (h4 k hk).2 (.inl e)⟩⟩, hb, fun k hk => hX k (.inl hk)⟩
       ·exact (HKX9.out k (.inl hk)).trans ((HB1w.out.block k (PX.out.xlt k (.inl hk))).trans (HK.out k hk))
     ·have hbig1 : decide (256 < (gl : Int) + (tl : Int)) = false := by simp; omega
      have hR := HR.out
      unfold putM at hR
      rw [← Hgl.out, ← Htl2.out, if_neg (fun e => hbig e.1)] at hR
      replace HR := hid hR
      clear hR hbig
      go_upto_region 23 with (first
       | (go_at_call 58; refine (MK.out).mono ?_; rintro e w3 ⟨rfl, hw⟩; obtain rfl := hw.symm)
       | go_in)
      obtain ⟨r, hr⟩ : ∃ r, r = lappendM t.pages (trImgs t) g d := ⟨_, rfl⟩
      have hR := HR.out
      rw [← hr] at AP hR
      replace HR := hid hR
      clear hR hr
      refine wp_region_held_drew (S := fun W => W.cell? ⟨pb, 0, none⟩ = some (.pointer (some ⟨l, 0, none⟩)) ∧ W.cell? ⟨nb, 0, none⟩ = some (.int .i64 t.pages)) (by kernel_rfl) ⟨p0, n0⟩ (fun hHeld => ?_)
      clear p0 p3 n0 n1
      refine held_take (v := ?av0) 0 rfl (by kernel_rfl) (by kernel_rfl) (by kernel_rfl) (fun _ _ _ h => h) (by rfl) hHeld ?ay0 ?ar0
      case ay0 => (intro W hSw; obtain ⟨y0, y1⟩ := hSw; go_simp; with_reducible rfl)
      simp only [Act.put, List.setIfInBounds_toArray, List.set_cons_zero, List.set_cons_succ]
      refine held_take (v := ?av1) 1 rfl (by kernel_rfl) (by kernel_rfl) (by kernel_rfl) (fun _ _ _ h => h) (by rfl) hHeld ?ay1 ?ar1
      case ay1 => (intro W hSw; obtain ⟨y0, y1⟩ := hSw; go_simp; with_reducible rfl)
      simp only [Act.put, List.setIfInBounds_toArray, List.set_cons_zero, List.set_cons_succ]
      refine held_take (v := ?av2) 2 rfl (by kernel_rfl) (by kernel_rfl) (by kernel_rfl) (fun _ _ _ h => h) (by rfl) hHeld ?ay2 ?ar2
      case ay2 => (intro W hSw; obtain ⟨y0, y1⟩ := hSw; go_simp; with_reducible rfl)
      simp only [Act.put, List.setIfInBounds_toArray, List.set_cons_zero, List.set_cons_succ]
      refine held_take (v := ?av3) 3 rfl (by kernel_rfl) (by kernel_rfl) (by kernel_rfl) (fun _ _ _ h => h) (by rfl) hHeld ?ay3 ?ar3
      case ay3 => (intro W hSw; obtain ⟨y0, y1⟩ := hSw; go_simp; with_reducible rfl)
      simp only [Act.put, List.setIfInBounds_toArray, List.set_cons_zero, List.set_cons_succ]
      refine held_take (v := ?av4) 4 rfl (by kernel_rfl) (by kernel_rfl) (by kernel_rfl) (fun _ _ _ h => h) (by rfl) hHeld ?ay4 ?ar4
      case ay4 => (intro W hSw; obtain ⟨y0, y1⟩ := hSw; go_simp; with_reducible rfl)
      simp only [Act.put, List.setIfInBounds_toArray, List.set_cons_zero, List.set_cons_succ]
      refine held_take (v := ?av5) 5 rfl (by kernel_rfl) (by kernel_rfl) (by kernel_rfl) (fun _ _ _ h => h) (by rfl) hHeld ?ay5 ?ar5
      case ay5 => (intro W hSw; obtain ⟨y0, y1⟩ := hSw; go_simp; with_reducible rfl)
      simp only [Act.put, List.setIfInBounds_toArray, List.set_cons_zero, List.set_cons_succ]
      refine held_take (v := ?av6) 6 rfl (by kernel_rfl) (by kernel_rfl) (by kernel_rfl) (fun _ _ _ h => h) (by rfl) hHeld ?ay6 ?ar6
      case ay6 => (intro W hSw; obtain ⟨y0, y1⟩ := hSw; go_simp; with_reducible rfl)
      simp only [Act.put, List.setIfInBounds_toArray, List.set_cons_zero, List.set_cons_succ]
      refine held_take (v := ?av7) 7 rfl (by kernel_rfl) (by kernel_rfl) (by kernel_rfl) (fun _ _ _ h => h) (by rfl) hHeld ?ay7 ?ar7
      case ay7 => (intro W hSw; obtain ⟨y0, y1⟩ := hSw; go_simp; with_reducible rfl)
      simp only [Act.put, List.setIfInBounds_toArray, List.set_cons_zero, List.set_cons_succ]
      refine held_take (v := ?av8) 8 rfl (by kernel_rfl) (by kernel_rfl) (by kernel_rfl) (fun _ _ _ h => h) (by rfl) hHeld ?ay8 ?ar8
      case ay8 => (intro W hSw; obtain ⟨y0, y1⟩ := hSw; go_simp; with_reducible rfl)
      simp only [Act.put, List.setIfInBounds_toArray, List.set_cons_zero, List.set_cons_succ]
      refine held_one 9 (by kernel_rfl) rfl (fun K hK => ?_)
      go_simp
      refine (AP.out).mono ?_
      rintro e w9 ⟨rfl, hpx, hkx⟩
      obtain ⟨⟨nv9, sv9, hpb9⟩, -⟩ := hpx.cell
      have hnb9 := (hkx nb (.inr (.inl rfl))).trans ((HB1w.out.block nb (lt_of_block Hnb.out)).trans Hnb.out)
      have hs9 := And.intro ((cell_of_block hpb9 0).trans rfl : w9.cell? ⟨pb, 0, none⟩ = some (.pointer (some ⟨l, 0, none⟩))) ((cell_of_block hnb9 0).trans rfl : w9.cell? ⟨nb, 0, none⟩ = some (.int .i64 t.pages))
      have HPX9 := hid hpx
      have HKX9 := hid hkx
      clear hpx hkx hpb9 hnb9
      try dsimp only
      refine hK.out _ _ (hs9) (fun hHeld => ?_)
      clear hK K
      try simp only [Act.put, List.setIfInBounds_toArray, List.set_cons_zero, List.set_cons_succ]
      refine held_take (v := ?abv10) 10 rfl (by kernel_rfl) (by kernel_rfl) (by kernel_rfl) (fun _ _ _ h => h) (by rfl) hHeld ?aby10 ?abr10
      case aby10 => (intro W hSw; obtain ⟨y0, y1⟩ := hSw; go_simp; with_reducible rfl)
      simp only [Act.put, List.setIfInBounds_toArray, List.set_cons_zero, List.set_cons_succ]
      clear hHeld hs9
      refine wpAnyH_done (by kernel_rfl) ?_ _
      go_wp2_with fail
      go_ret
      rw [HR.out]
      refine ⟨rfl, ?_, fun k hk => ?_⟩
      ·obtain ⟨⟨F, G, K, nv, sv, h1, h2, h3, h4⟩, hb, hX⟩ := HPX9.out
       exact ⟨⟨F, G, K, nv, sv, h1, h2, h3, fun k hk => ⟨(h4 k hk).1, fun e => (h4 k hk).2 (.inl e)⟩⟩, hb, fun k hk => hX k (.inl hk)⟩
      ·exact (HKX9.out k (.inl hk)).trans ((HB1w.out.block k (PX.out.xlt k (.inl hk))).trans (HK.out k hk))
 end
 end Go.Proofs.YtlkkclooihjpiaaGreat
