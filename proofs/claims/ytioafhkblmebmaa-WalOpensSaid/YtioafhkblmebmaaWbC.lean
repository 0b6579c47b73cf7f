/- The law WalOpens. -/
import Derived.Test.YtioafhkblmebmaaWaZ
namespace Go.Proofs.Ytioafhkblmebmaa
open Go.RowKit Go.Maps
set_option linter.unusedVariables false
set_option linter.unusedSimpArgs false

/-- Bytes in memory. -/
def BytesIn (w : World) (ao : Option Addr) (l : List UInt8) : Prop := ∀ k (hk : k < l.length), ∃ q o, ao = some ⟨q, o, none⟩ ∧ q < w.heap.size ∧ w.cell? ⟨q, o + k, none⟩ = some (.int .u8 (l[k].toNat : Int))
theorem BytesIn.below {w w' : World} {ao : Option Addr} {l : List UInt8} (h : BytesIn w ao l) (hb : Below w.heap.size w w') : BytesIn w' ao l := fun k hk => by
  obtain ⟨q, o, h1, h2, h3⟩ := h k hk
  exact ⟨q, o, h1, Nat.lt_of_lt_of_le h2 hb.size, (hb.cell (p := ⟨q, _, none⟩) h2).trans h3⟩
section
set_option maxRecDepth 20000
open Go.ChangeShapes Go.WideShapes Go.ChangeAt Go.Deep
variable {H : Type} {enc : TypeId × Value → H} {w : World} {base : Nat} {sp : Nat → Bool} {held : Bool}
theorem open_bytes_cell {fuel : Nat} {cs : List Value} {x : DataW H × List MemPlace} (h : DataW.trod enc Try.prog w base sp held fuel 55 cs = some x) :
    ∃ (ka : Option Addr) (kcap : Nat) (ks : List UInt8), cs = [.slice ka ks.length kcap] ∧ BytesIn w ka ks ∧ ks.length ≤ kcap := by
  rcases open_slice1 Try.underlying55 (by kernel_rfl) h with ⟨rfl, _⟩ | ⟨a, len, cap, m, n, V, D, Pl, rfl, hb, hle, hcap, hm, _, hx⟩
  · exact ⟨none, 0, [], rfl, (fun k hk => by simp at hk), by simp⟩
  have hlm : len ≤ m := by rw [hm]; split <;> omega
  obtain ⟨B, hB⟩ := choose_lt (α := UInt8) (p := fun i b => w.cell? (a.add i) = some (.int .u8 (b.toNat : Int))) (n := len) (fun i hi => by
    obtain ⟨h1, h2⟩ := hx i (by omega)
    obtain ⟨k, e, _, hw⟩ := DataW.trod_int Try.underlying5 h2
    obtain ⟨c, rfl⟩ := u8_of hw
    simp at e
    exact ⟨c, by rw [h1, e]⟩)
  have hlen : ((List.range len).map B).length = len := by simp
  refine ⟨some a, cap, (List.range len).map B, by rw [hlen], fun k hk => ?_, by rw [hlen]; omega⟩
  rw [hlen] at hk
  obtain ⟨b, off, spot⟩ := a
  have c0 := hB 0 (by omega)
  have hspot : spot = none := by simpa [Addr.add] using World.cell?_spot c0
  subst hspot
  refine ⟨b, off, rfl, by simpa [Addr.add] using lt_of_cell c0, ?_⟩
  have e := hB k hk
  simp only [Addr.add_lit] at e
  rw [e]
  simp
theorem open_bytes {b0 : Nat} {v : Value} (hval : Value.okWide Try.prog w .any b0 55 v) (h : ∃ d p, DataW.Trod enc Try.prog w base sp held 55 v d p) :
    ∃ (z : Option Addr × Nat × List UInt8), v = .slice z.1 z.2.2.length z.2.1 ∧ BytesIn w z.1 z.2.2 ∧ z.2.2.length ≤ z.2.1 := by
  obtain ⟨d, p, fuel, hf⟩ := h
  obtain ⟨ao, n, cap, rfl⟩ := okWide_slice Try.underlying55 hval
  obtain ⟨ka, kcap, ks, e, h1⟩ := open_bytes_cell hf
  simp [Value.cells] at e
  obtain ⟨rfl, rfl, rfl⟩ := e
  exact ⟨(_, _, ks), rfl, h1⟩
theorem open_lhead {b0 : Nat} {v : Value} (hval : Value.okWide Try.prog w .any b0 57 v) (h : ∃ d p, DataW.Trod enc Try.prog w base sp held 57 v d p) :
    ∃ (z : Int × Int × Int), v = .agg #[.int .u64 z.1, .int .i64 z.2.1, .int .i64 z.2.2] := by
  obtain ⟨d, p, h⟩ := h
  obtain ⟨cs, rfl, hsz⟩ := okWide_struct Try.underlying57 hval
  obtain ⟨fuel, hf⟩ := h
  simp only [Value.cells] at hf
  obtain ⟨hl, n, hf⟩ := open_cells_struct Try.underlying57 (by kernel_rfl) (by kernel_rfl) hf
  obtain ⟨cs⟩ := cs
  obtain ⟨a0, a1, a2, rfl⟩ : ∃ a0 a1 a2, cs = [a0, a1, a2] := by
    match cs, hl with
    | [a0, a1, a2], _ => exact ⟨a0, a1, a2, rfl⟩
  obtain ⟨y0, h0⟩ := hf 0 _ rfl
  obtain ⟨y1, h1⟩ := hf 1 _ rfl
  obtain ⟨y2, h2⟩ := hf 2 _ rfl
  obtain ⟨k0, e0, _, w0⟩ := DataW.trod_int Try.underlying41 h0
  obtain ⟨k1, e1, _, w1⟩ := DataW.trod_int Try.underlying3 h1
  obtain ⟨k2, e2, _, w2⟩ := DataW.trod_int Try.underlying3 h2
  simp at e0 e1 e2
  subst e0 e1 e2
  exact ⟨(k0, k1, k2), rfl⟩
end
theorem lopen_two {d : Dsk} (h : d.off = false) : (∃ g, lopenM d = (some g, 0)) ∨ lopenM d = (none, 7) := by
  unfold lopenM
  rw [if_neg (by rw [h]; decide)]
  split
  · split
    · exact .inr rfl
    · exact .inl ⟨_, rfl⟩
  split
  · exact .inr rfl
  split
  · exact .inr rfl
  · split
    · exact .inr rfl
    · exact .inl ⟨_, rfl⟩
theorem page_on {g : Lg} {d : Dsk} (ho : d.off = false) (n k : Nat) (h1 : 1 ≤ n) (h2 : n ≤ 256) (hk : k ≤ g.list.length) : (pageM g d (n : Int) (k : Int)).2 = 0 := by
  unfold pageM
  rw [if_neg (by unfold pageBad; omega), Int.toNat_natCast]
  cases lastAt g.list (n : Int) k with
  | some s => rfl
  | none =>
    simp only
    by_cases h : (d.now 0).length < 8 * n
    · rw [if_pos (by omega)]
    · have e0 : ((0 : Int).toNat) = 0 := rfl
      unfold readM
      rw [if_neg (by omega), if_neg (by simpa using ready_on (k := 0) (by decide) ho), e0, if_neg (by omega)]
theorem state_on {g : Lg} {d : Dsk} (ho : d.off = false) (hok : g.Ok) : ∃ r, stateM g d = some r := by
  have hp := hok.pages
  exact stateN_some _ _ _ fun n h1 h2 => page_on ho n g.list.length h1 (by omega) (Nat.le_refl _)
section
variable {w W : World} {b : Nat} {d : Dsk}
theorem mk_opens (h : MkD w W b d) {g : Lg} (hr : lopenM d = (some g, 0)) : Calls Try.prog 11 #[.pointer (some ⟨b, 0, none⟩)] W fun e w' => ∃ l, e = .returned (.tuple #[.pointer (some ⟨l, 0, none⟩), .int .i64 0]) ∧ Mk w w' l b g d ∧ Below W.heap.size W w' := by
  obtain ⟨⟨F, h1, h2⟩, hb⟩ := h
  refine (lopen_any h1).mono ?_
  intro e w' hg
  rw [hr] at hg
  obtain ⟨hb2, l, G, rfl, h3, h4⟩ := hg
  refine ⟨l, rfl, ⟨⟨F, G, h3, fun k hk => ?_⟩, hb.trans (hb2.mono hb.size)⟩, hb2⟩
  rcases hk with hk | hk | hk
  · exact h2 k (.inl hk)
  · exact h2 k (.inr hk)
  · exact Nat.le_trans hb.size (h4 k hk)
theorem mk_opens_no (h : MkD w W b d) (hr : lopenM d = (none, 7)) : Calls Try.prog 11 #[.pointer (some ⟨b, 0, none⟩)] W fun e w' => e = .returned (.tuple #[.pointer none, .int .i64 7]) ∧ Below W.heap.size W w' := by
  obtain ⟨⟨F, h1, h2⟩, hb⟩ := h
  refine (lopen_any h1).mono ?_
  intro e w' hg
  rw [hr] at hg
  exact ⟨hg.2, hg.1⟩
theorem mk_copy (h : MkD w W b d) (hs : d.Small 1099511627776) : Calls Try.prog 23 #[.pointer (some ⟨b, 0, none⟩)] W fun e w' => ∃ b2, e = .returned (.pointer (some ⟨b2, 0, none⟩)) ∧ MkD w w' b2 d ∧ Below W.heap.size W w' := by
  obtain ⟨⟨F, h1, h2⟩, hb⟩ := h
  refine (copy_any h1 hs).mono ?_
  rintro e w' ⟨b2, F2, rfl, h3, h4, h5, h6⟩
  exact ⟨b2, rfl, ⟨⟨F2, h3, fun k hk => hk.elim (fun e => Nat.le_trans hb.size (h5 k e)) (fun e => h2 k (.inr (h6 k e)))⟩, hb.trans (h4.mono hb.size)⟩, h4⟩
theorem mk_write (h : MkD w W b d) (k : Nat) (hk : k < 8) (s : List UInt8) (hs : d.Small 1099511527776) (hc : Calm d) {m : Nat} (hl : s.length = m * 64) (h0 : 0 < m) (hm : m ≤ 8192) :
    Calls Try.prog 21 #[.pointer (some ⟨b, 0, none⟩), .int .i64 (k : Int), .int .i64 0, .string (bs s)] W fun e w' => e = .returned (.int .i64 0) ∧ MkD w w' b (writeM d k 0 s).2 := by
  obtain ⟨⟨F, h1, h2⟩, hb⟩ := h
  have hok := write_ok hc (k := k) (a := 0) hk hl h0 (by omega)
  have hok : (writeM d (k : Int) 0 s).1 = 0 := hok
  refine (write_any h1 k 0 s hs (by omega)).mono ?_
  rintro e w' ⟨rfl, F2, h3, h4⟩
  rw [hok]
  have hsz := hb.size
  refine ⟨rfl, ⟨F2, h3, fun k hk => ?_⟩, h4.frm.os.trans hb.os, h4.frm.tape.trans hb.tape, h4.frm.output.trans hb.output, Nat.le_trans hsz h4.frm.size, fun k hk => ?_⟩
  · rcases hk with hk | hk
    · exact (h4.own k hk).elim (fun e => h2 k (.inl e)) (fun e => by omega)
    · exact (h4.sh k hk).elim (fun e => h2 k (.inr e)) (fun e => by omega)
  · rw [h4.frm.block k (by omega) (fun e => by have := h2 k (.inl e); omega)]
    exact hb.block k hk
end
theorem Mk.xlow {w W : World} {l b : Nat} {g : Lg} {d : Dsk} {X : Nat → Prop} (h : Mk w W l b g d) (hx : ∀ k, X k → k < w.heap.size) : MkX w W l b g d X := by
  obtain ⟨⟨F, G, h1, h2⟩, hb⟩ := h
  exact ⟨⟨F, G, h1, fun k hk => ⟨h2 k hk, fun e => by have := h2 k hk; have := hx k e; omega⟩⟩, hb, fun k hk => Nat.lt_of_lt_of_le (hx k hk) hb.size⟩
theorem conv_bytes {W : World} {q o : Nat} {l : List UInt8} (h : BytesIn W (some ⟨q, o, none⟩) l) (N cap : Nat) (hN : N ≤ l.length) : ∃ s : List UInt8, s.length = N ∧ (convert 55 9 (.slice (some ⟨q, o, none⟩) N cap)).run Try.prog W = .ok (.string (bs s)) W := by
  refine ⟨_, ?_, run_convert_cells (P := Try.prog) W 55 9 5 Try.underlying55 Try.underlying5 Try.underlying9 q o N cap ((l.take N).map fun c => (c.toNat : Int)) (by simp; omega) (fun i hi => ?_)⟩
  · simp; omega
  · obtain ⟨q1, o1, e, -, hc⟩ := h i (by omega)
    injection e with e
    injection e with e1 e2 _
    subst e1
    subst e2
    rw [hc]
    simp [List.getD, List.getElem?_map, List.getElem?_take, hi, List.getElem?_eq_getElem (show i < l.length by omega)]
attribute [local irreducible] exG0

set_option maxHeartbeats 4000000 in
set_option maxRecDepth 20000 in
theorem opens_any (w : World) (a0 b0 i0 : Option Addr) (ac bc ic : Nat) (la lb : List UInt8) (li : List PutM) (h0 h1 h2 : Int) (ha : BytesIn w a0 la) (hac : la.length ≤ ac) (hb : BytesIn w b0 lb) (hbc : lb.length ≤ bc) (hi : PutsIn w i0 li) :
    Calls Try.prog 5 #[.slice a0 la.length ac, .slice b0 lb.length bc, .agg #[.int .u64 h0, .int .i64 h1, .int .i64 h2], .slice i0 li.length ic] w fun e w' => e = .returned (.bool true) ∧ Below w.heap.size w w' := by
  obtain ⟨na, hna⟩ : ∃ n, n = la.length := ⟨_, rfl⟩
  obtain ⟨nb, hnb⟩ : ∃ n, n = lb.length := ⟨_, rfl⟩
  obtain ⟨ni, hni⟩ : ∃ n, n = li.length := ⟨_, rfl⟩
  rw [← hna] at hac ⊢
  rw [← hnb] at hbc ⊢
  rw [← hni]
  have Hna := hid hna
  have Hnb := hid hnb
  have Hni := hid hni
  have HA := hid ha
  have HB := hid hb
  have HI := hid hi
  clear hna hnb hni ha hb hi
  go_enter Try.func5, Try.ntmps5
  go_upto_region 1 with fail
  have hbox := heap_alloc_new w (.cells #[.int .u64 h0, .int .i64 h1, .int .i64 h2] 57)
  have hb1 : Below w.heap.size w (w.alloc (.cells #[.int .u64 h0, .int .i64 h1, .int .i64 h2] 57)) := (Below.refl _ w).alloc (Nat.le_refl _) _
  obtain ⟨w0, hw0⟩ : ∃ w0, w0 = w.alloc (.cells #[.int .u64 h0, .int .i64 h1, .int .i64 h2] 57) := ⟨_, rfl⟩
  rw [← hw0] at hbox hb1 ⊢
  have Hbox := hid hbox
  have Hb0 := hid hb1
  clear hbox hb1 hw0
  go_upto_region 9 with (first
    | (go_at_call 7; refine (works_any _).mono ?_; rintro e w1 ⟨rfl, hb1⟩; have Hbx1 := hid ((hb1.block _ (lt_of_block Hbox.out)).trans Hbox.out); have Hb1 := hid (Hb0.out.trans (hb1.mono Hb0.out.size)); clear hb1)
    | (go_at_call 10; refine (mk_new _).mono ?_; rintro e w4 ⟨b, rfl, hd4⟩; have Hd4 := hid hd4; clear hd4)
    | (go_at_call 11; refine (mk_open Hd4.out ex_open).mono ?_; rintro e w5 ⟨l5, rfl, hm5⟩; have Hm5 := hid hm5; clear hm5)
    | go_in)
  · go_ret
    exact ⟨rfl, Hb1.out⟩
  rotate_left
  · go_ret
    exact ⟨rfl, Hb1.out⟩
  · go_ret
    exact ⟨rfl, Hb1.out⟩
  have hsz : na ≤ 16384 ∧ nb ≤ 16384 ∧ ni ≤ 40 := by omega
  have hbx5 := (Hm5.out.bel.block _ (lt_of_block Hbx1.out)).trans Hbx1.out
  have H6 := hid (show MkX w1 w5.drew l5 b exG0 newM (fun k => k = w.heap.size) from (Hm5.out.below (Below.refl _ _).drew).xlow (fun k hk => by rw [hk]; exact lt_of_block Hbx1.out))
  have HP6 := hid (HI.out.below (Hb1.out.trans (Hm5.out.bel.mono Hb1.out.size)).drew)
  have IM : ∀ W, PutsIn W i0 li → Calls Try.prog 13 #[.agg #[.int .i64 0, .int .i64 0, .int .i64 0, .int .i64 0, .slice i0 ni ic, .bool false, .slice none 0 0, .string ⟨#[]⟩]] W fun e w' => ∃ v, e = .returned v ∧ ImgRow w' W.heap.size v (li.map imgOf) ∧ Below W.heap.size W w' := fun W hp => by
    have := images_any W ⟨0, 0, 0, 0, li, i0, ic, false, [], none, 0, []⟩ hp (by have := Hni.out; show li.length ≤ _; omega)
    rw [Hni.out]
    exact this
  have IM := hid IM
  obtain ⟨X, hX⟩ : ∃ X, X = li.map imgOf := ⟨_, rfl⟩
  have hXl : X.length ≤ 40 := by rw [hX, List.length_map, ← Hni.out]; exact hsz.2.2
  obtain ⟨gt, hgt⟩ : ∃ gt, gt = (lappendM h2 X exG0 newM).2.1 := ⟨_, rfl⟩
  obtain ⟨dt, hdt⟩ : ∃ dt, dt = (lappendM h2 X exG0 newM).2.2 := ⟨_, rfl⟩
  have AP : ∀ W, MkX w1 W l5 b exG0 newM (fun k => k = w.heap.size) → ∀ v, ImgsAt W v X → Calls Try.prog 12 #[.pointer (some ⟨l5, 0, none⟩), .int .i64 h2, v] W fun e w' => e = .returned (.int .i64 (lappendM h2 X exG0 newM).1) ∧ MkX w1 w' l5 b gt dt (fun k => k = w.heap.size) ∧ (∀ k, k = w.heap.size → w'.heap[k]? = W.heap[k]?) := fun W hm v hv => by
    rw [hgt, hdt]
    exact mkx_append hm 100 new_small (by decide) h2 v _ hv (by omega)
  have Hct := hid (show Calm dt by rw [hdt]; exact app_inv (J := Calm) (fun d a s h => calm_write h 1 a s) (fun d h => calm_sync h 1) h2 X exG0 newM new_calm)
  have Hst := hid (show dt.Small 200000 by rw [hdt]; exact app_small _ _ _ _ _ _ (by decide) new_small)
  have AP := hid AP
  have HX := hid hX
  have c52 := (cell_of_block hbx5 2).trans rfl
  clear hgt hdt hX
  refine wp_region_held_drew (S := fun W => W.cell? ⟨w.heap.size, 2, none⟩ = some (.int .i64 h2)) (by kernel_rfl) ((cell_of_block (w := w5.drew) hbx5 2).trans rfl) (fun hHeld => ?_)
  have Hbx5 := hid hbx5
  clear c52 hbx5
  refine held_take (v := ?pv0) 0 rfl (by kernel_rfl) (by kernel_rfl) (by kernel_rfl) (fun _ _ _ h => h) (by rfl) hHeld ?py0 ?pr0
  case py0 => (intro W hSw; go_simp; with_reducible rfl)
  simp only [Act.put, List.setIfInBounds_toArray, List.set_cons_zero, List.set_cons_succ]
  refine held_take (v := ?pv1) 1 rfl (by kernel_rfl) (by kernel_rfl) (by kernel_rfl) (fun _ _ _ h => h) (by rfl) hHeld ?py1 ?pr1
  case py1 => (intro W hSw; go_simp; with_reducible rfl)
  simp only [Act.put, List.setIfInBounds_toArray, List.set_cons_zero, List.set_cons_succ]
  refine held_take (v := ?pv2) 2 rfl (by kernel_rfl) (by kernel_rfl) (by kernel_rfl) (fun _ _ _ h => h) (by rfl) hHeld ?py2 ?pr2
  case py2 => (intro W hSw; go_simp; with_reducible rfl)
  simp only [Act.put, List.setIfInBounds_toArray, List.set_cons_zero, List.set_cons_succ]
  refine held_take (v := ?pv3) 3 rfl (by kernel_rfl) (by kernel_rfl) (by kernel_rfl) (fun _ _ _ h => h) (by rfl) hHeld ?py3 ?pr3
  case py3 => (intro W hSw; go_simp; with_reducible rfl)
  simp only [Act.put, List.setIfInBounds_toArray, List.set_cons_zero, List.set_cons_succ]
  refine held_take (v := ?pv4) 4 rfl (by kernel_rfl) (by kernel_rfl) (by kernel_rfl) (fun _ _ _ h => h) (by rfl) hHeld ?py4 ?pr4
  case py4 => (intro W hSw; go_simp; with_reducible rfl)
  simp only [Act.put, List.setIfInBounds_toArray, List.set_cons_zero, List.set_cons_succ]
  refine held_one 5 (by kernel_rfl) rfl (fun K hK => ?_)
  go_simp
  refine (IM.out _ HP6.out).mono ?_
  rintro e w7 ⟨v7, rfl, hv7, hb7⟩
  rw [← HX.out] at hv7
  have H7 := hid (H6.out.below hb7)
  have HV7 := hid hv7
  have Hbx7 := hid ((hb7.block _ (lt_of_block (w := w5.drew) Hbx5.out)).trans Hbx5.out)
  clear hv7 hb7 H6 HP6 IM
  try dsimp only
  refine hK.out _ _ ((cell_of_block Hbx7.out 2).trans rfl) (fun hHeld => ?_)
  clear hK K
  try simp only [Act.put, List.setIfInBounds_toArray, List.set_cons_zero, List.set_cons_succ]
  refine held_one 6 (by kernel_rfl) rfl (fun K hK => ?_)
  go_simp
  refine (AP.out _ H7.out v7 HV7.out.at).mono ?_
  rintro e w8 ⟨rfl, hm8, hx8⟩
  have HT := hid hm8.mk'.disk
  have hbx8 := (hx8 _ rfl).trans Hbx7.out
  clear hm8 H7 HV7 hx8 AP Hbx7
  try dsimp only
  refine hK.out _ _ ((cell_of_block hbx8 2).trans rfl) (fun hHeld => ?_)
  clear hK K
  try simp only [Act.put, List.setIfInBounds_toArray, List.set_cons_zero, List.set_cons_succ]
  clear hHeld hbx8
  refine wpAnyH_done (by kernel_rfl) ?_ _
  go_wp2_with fail
  go_loopw [57] (fun v57 wr => ∃ (i : Nat) (d : Dsk), i ≤ 2 ∧ v57 = .int .i64 (i : Int) ∧ MkD w1 wr b d ∧ Calm d ∧ d.Small (200000 + 10000 * i)) (fun v57 _ => 2 - (intOf v57).toNat)
  case atStart => exact ⟨0, dt, by decide, rfl, HT.out, Hct.out, Hst.out⟩
  case round =>
    obtain ⟨i, d, hi, rfl, hd, hcalm, hsm⟩ := hrel
    have HD := hid hd
    have HC := hid hcalm
    have HS := hid hsm
    have x0 : ∀ w : World, (Instr.index 58 (.agg #[.slice a0 na ac, .slice b0 nb bc]) (.int .i64 0)).run Try.prog w = .ok (.slice a0 na ac) w := fun _ => by kernel_rfl
    have x1 : ∀ w : World, (Instr.index 58 (.agg #[.slice a0 na ac, .slice b0 nb bc]) (.int .i64 1)).run Try.prog w = .ok (.slice b0 nb bc) w := fun _ => by kernel_rfl
    by_cases e0 : i = 0
    · subst e0
      clear hd hcalm hsm
      obtain ⟨m, hm⟩ : ∃ m, m = na / 64 := ⟨_, rfl⟩
      obtain ⟨N, hN⟩ : ∃ N, N = m * 64 := ⟨_, rfl⟩
      have hNi : (na : Int) / 64 * 64 = (N : Int) := by omega
      have hNn : N ≤ na := by omega
      have hm256 : m ≤ 256 := by omega
      by_cases hm0 : m = 0
      · have hN0 : N = 0 := by omega
        subst hN0
        clear hm hN
        go_wp2_with fail
        go_roundw
        case rel => exact ⟨1, d, by decide, rfl, HD.out, HC.out, HS.out.mono (by omega)⟩
        case measure => (simp [intOf]) <;> omega
      · have hNp : (0 : Int) < (N : Int) := by omega
        obtain ⟨q, o, ea, -, -⟩ := HA.out 0 (by have := Hna.out; omega)
        subst ea
        have hNl : N ≤ la.length := by have := Hna.out; omega
        obtain ⟨s, hsl, hconv⟩ := conv_bytes (HA.out.below (Hb1.out.trans (HD.out.bel.mono Hb1.out.size))) N ac hNl
        have hsl' : s.length = m * 64 := by rw [hsl, hN]
        have WR := mk_write HD.out 0 (by decide) s (HS.out.mono (by omega)) HC.out hsl' (by omega) (by omega)
        have HC2 := hid (calm_write HC.out ((0 : Nat) : Int) 0 s)
        have HS2 := hid (write_small (f := ((0 : Nat) : Int)) (a := 0) (s := s) HS.out)
        have WR := hid WR
        have hNc : (N : Int) ≤ (ac : Int) := by omega
        clear hm hN hsl hsl' hNl HD HC HS hm0
        go_wp2_with (first
          | (go_at_call 21; refine (WR.out).mono ?_; rintro e w9 ⟨rfl, hd9⟩; have HD := hid hd9; clear hd9)
          | go_in)
        go_roundw
        case rel => exact ⟨1, _, by decide, rfl, HD.out, HC2.out, HS2.out.mono (by omega)⟩
        case measure => (simp [intOf]) <;> omega
    by_cases e1 : i = 1
    · subst e1
      clear hd hcalm hsm
      obtain ⟨m, hm⟩ : ∃ m, m = nb / 64 := ⟨_, rfl⟩
      obtain ⟨N, hN⟩ : ∃ N, N = m * 64 := ⟨_, rfl⟩
      have hNi : (nb : Int) / 64 * 64 = (N : Int) := by omega
      have hNn : N ≤ nb := by omega
      have hm256 : m ≤ 256 := by omega
      by_cases hm0 : m = 0
      · have hN0 : N = 0 := by omega
        subst hN0
        clear hm hN
        go_wp2_with fail
        go_roundw
        case rel => exact ⟨2, d, by decide, rfl, HD.out, HC.out, HS.out.mono (by omega)⟩
        case measure => (simp [intOf]) <;> omega
      · have hNp : (0 : Int) < (N : Int) := by omega
        obtain ⟨q, o, ea, -, -⟩ := HB.out 0 (by have := Hnb.out; omega)
        subst ea
        have hNl : N ≤ lb.length := by have := Hnb.out; omega
        obtain ⟨s, hsl, hconv⟩ := conv_bytes (HB.out.below (Hb1.out.trans (HD.out.bel.mono Hb1.out.size))) N bc hNl
        have hsl' : s.length = m * 64 := by rw [hsl, hN]
        have WR := mk_write HD.out 1 (by decide) s (HS.out.mono (by omega)) HC.out hsl' (by omega) (by omega)
        have HC2 := hid (calm_write HC.out ((1 : Nat) : Int) 0 s)
        have HS2 := hid (write_small (f := ((1 : Nat) : Int)) (a := 0) (s := s) HS.out)
        have WR := hid WR
        have hNc : (N : Int) ≤ (bc : Int) := by omega
        clear hm hN hsl hsl' hNl HD HC HS hm0
        go_wp2_with (first
          | (go_at_call 21; refine (WR.out).mono ?_; rintro e w9 ⟨rfl, hd9⟩; have HD := hid hd9; clear hd9)
          | go_in)
        go_roundw
        case rel => exact ⟨2, _, by decide, rfl, HD.out, HC2.out, HS2.out.mono (by omega)⟩
        case measure => (simp [intOf]) <;> omega
    obtain rfl : i = 2 := by omega
    clear x0 x1 e0 e1 hd hcalm hsm hi
    replace HS := hid (show d.Small 1099511527776 from HS.out.mono (by decide))
    obtain ⟨op, hop⟩ : ∃ op, op = d.ops := ⟨_, rfl⟩
    obtain ⟨lo, hlo⟩ : ∃ lo, lo = d.loose.length := ⟨_, rfl⟩
    have OP : ∀ W, MkD w1 W b d → Calls Try.prog 17 #[.pointer (some ⟨b, 0, none⟩)] W fun e w' => e = .returned (.int .i64 op) ∧ w' = W := fun W hm => by
      rw [hop]
      exact mk_ops hm
    have LO : ∀ W, MkD w1 W b d → Calls Try.prog 22 #[.pointer (some ⟨b, 0, none⟩)] W fun e w' => e = .returned (.int .i64 (lo : Int)) ∧ w' = W := fun W hm => by
      rw [hlo]
      exact mk_loose hm
    have OP := hid OP
    have LO := hid LO
    clear hop hlo
    rcases lopen_two HC.out.on with ⟨g, hr⟩ | hr
    · have Hr := hid hr
      obtain ⟨r0, hr0⟩ : ∃ r0, r0 = (stateM g d).getD [] := ⟨_, rfl⟩
      have ST : ∀ l b W, Mk w1 W l b g d → Calls Try.prog 14 #[.pointer (some ⟨l, 0, none⟩)] W fun e w' => e = .returned (.tuple #[.string (bs r0), .bool true]) ∧ Below W.heap.size W w' := fun l b W hm => by
        have := state_any hm
        obtain ⟨r, hs⟩ := state_on (g := g) HC.out.on hm.okLg
        rw [hr0]
        rw [hs] at this ⊢
        exact this.mono fun e w' ⟨h1, _, h2⟩ => ⟨h1, h2⟩
      obtain ⟨z, hz⟩ : ∃ z, z = g.list.length := ⟨_, rfl⟩
      obtain ⟨np, hnp⟩ : ∃ z, z = g.head.pages := ⟨_, rfl⟩
      obtain ⟨nu, hnu⟩ : ∃ z, z = g.head.number := ⟨_, rfl⟩
      have MA : ∀ l b W, Mk w1 W l b g d → Calls Try.prog 15 #[.pointer (some ⟨l, 0, none⟩)] W fun e w' => e = .returned (.int .i64 (z : Int)) ∧ w' = W := fun l b W hm => by
        rw [hz]
        exact mk_mark hm
      have PA : ∀ l b W, Mk w1 W l b g d → Calls Try.prog 24 #[.pointer (some ⟨l, 0, none⟩)] W fun e w' => e = .returned (.int .i64 np) ∧ w' = W := fun l b W hm => by
        rw [hnp]
        exact mk_pages hm
      have NU : ∀ l b W, Mk w1 W l b g d → Calls Try.prog 16 #[.pointer (some ⟨l, 0, none⟩)] W fun e w' => e = .returned (.int .u64 nu) ∧ w' = W := fun l b W hm => by
        rw [hnu]
        exact mk_number hm
      have ST := hid ST
      have MA := hid MA
      have PA := hid PA
      have NU := hid NU
      have hrr : (r0 == r0) = true := by simp
      clear hr hr0 hz hnp hnu
      go_wp2_with (first
        | (go_at_call 17; refine (OP.out _ HD.out).mono ?_; rintro e w9 ⟨rfl, hw⟩; obtain rfl := hw.symm)
        | (go_at_call 22; refine (LO.out _ HD.out).mono ?_; rintro e w9 ⟨rfl, hw⟩; obtain rfl := hw.symm)
        | (go_at_call 23; refine (mk_copy HD.out (HS.out.mono (by decide))).mono ?_; rintro e w9 ⟨b2, rfl, hd2, hb9⟩; have HD2 := hid hd2; replace HD := hid (HD.out.below hb9); replace HL6 := hid (HL6.out.below hb9); clear hd2 hb9)
        | (go_at_call 11; with_reducible refine (mk_opens HD.out Hr.out).mono ?_; rintro e w9 ⟨l6, rfl, hm9, hb9⟩; have HL6 := hid hm9; replace HD := hid (HD.out.below hb9); clear hm9 hb9)
        | (go_at_call 11; with_reducible refine (mk_opens HD2.out Hr.out).mono ?_; rintro e w9 ⟨l7, rfl, hm9, hb9⟩; have HL7 := hid hm9; replace HD := hid (HD.out.below hb9); replace HL6 := hid (HL6.out.below hb9); clear hm9 hb9)
        | (go_at_call 15; with_reducible refine (MA.out _ _ _ HL6.out).mono ?_; rintro e w9 ⟨rfl, hw⟩; obtain rfl := hw.symm)
        | (go_at_call 15; with_reducible refine (MA.out _ _ _ HL7.out).mono ?_; rintro e w9 ⟨rfl, hw⟩; obtain rfl := hw.symm)
        | (go_at_call 24; with_reducible refine (PA.out _ _ _ HL6.out).mono ?_; rintro e w9 ⟨rfl, hw⟩; obtain rfl := hw.symm)
        | (go_at_call 24; with_reducible refine (PA.out _ _ _ HL7.out).mono ?_; rintro e w9 ⟨rfl, hw⟩; obtain rfl := hw.symm)
        | (go_at_call 16; with_reducible refine (NU.out _ _ _ HL6.out).mono ?_; rintro e w9 ⟨rfl, hw⟩; obtain rfl := hw.symm)
        | (go_at_call 16; with_reducible refine (NU.out _ _ _ HL7.out).mono ?_; rintro e w9 ⟨rfl, hw⟩; obtain rfl := hw.symm)
        | (go_at_call 14; with_reducible refine (ST.out _ _ _ HL6.out).mono ?_; rintro e w9 ⟨rfl, hb9⟩; replace HL6 := hid (HL6.out.below hb9); replace HL7 := hid (HL7.out.below hb9); clear hb9)
        | (go_at_call 14; with_reducible refine (ST.out _ _ _ HL7.out).mono ?_; rintro e w9 ⟨rfl, hb9⟩; replace HL6 := hid (HL6.out.below hb9); replace HL7 := hid (HL7.out.below hb9); clear hb9)
        | go_in)
      go_ret
      exact ⟨rfl, Hb1.out.trans (HL7.out.bel.mono Hb1.out.size)⟩
    · have Hr := hid hr
      clear hr
      go_wp2_with (first
        | (go_at_call 17; refine (OP.out _ HD.out).mono ?_; rintro e w9 ⟨rfl, hw⟩; obtain rfl := hw.symm)
        | (go_at_call 22; refine (LO.out _ HD.out).mono ?_; rintro e w9 ⟨rfl, hw⟩; obtain rfl := hw.symm)
        | (go_at_call 23; refine (mk_copy HD.out (HS.out.mono (by decide))).mono ?_; rintro e w9 ⟨b2, rfl, hd2, hb9⟩; have HD2 := hid hd2; replace HD := hid (HD.out.below hb9);  clear hd2 hb9)
        | (go_at_call 11; with_reducible refine (mk_opens_no HD.out Hr.out).mono ?_; rintro e w9 ⟨rfl, hb9⟩; replace HD := hid (HD.out.below hb9); clear hb9)
        | (go_at_call 11; with_reducible refine (mk_opens_no HD2.out Hr.out).mono ?_; rintro e w9 ⟨rfl, hb9⟩; replace HD := hid (HD.out.below hb9); clear hb9)
        | go_in)
      go_ret
      exact ⟨rfl, Hb1.out.trans (HD.out.bel.mono Hb1.out.size)⟩
end Go.Proofs.Ytioafhkblmebmaa
