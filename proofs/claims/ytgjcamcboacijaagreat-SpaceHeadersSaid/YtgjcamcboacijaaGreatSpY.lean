/- The reference of a header: Take. -/
import Derived.Test.YtgjcamcboacijaaGreatSpX
namespace Go.Proofs.YtgjcamcboacijaaGreat
open Go.RowKit Go.Maps
set_option linter.unusedVariables false
set_option linter.unusedSimpArgs false
set_option maxRecDepth 20000

set_option maxHeartbeats 400000 in
/-- Value of no more than eight bytes; it leaves the world. -/
theorem value_still (l : List UInt8) (w : World) (hl : l.length ≤ 8) :
    Calls Tryz.prog 36 #[.string (bs l)] w fun e w' => e = .returned (.int .u64 (num l)) ∧ w' = w := by
  go_enter Tryz.func36, Tryz.ntmps36
  go_wp2_with fail
  go_loopw [3, 4] (fun v3 v4 wr => ValueRel l w v3 v4 wr) (fun _ v4 _ => l.length - (intOf v4).toNat)
  case atStart => exact ⟨0, Nat.zero_le _, rfl, by simp [num_nil], rfl⟩
  case round =>
    obtain ⟨k, hk, rfl, rfl, rfl⟩ := hrel
    by_cases hlt : k < l.length
    · have hstep : num (l.take (k + 1)) % 18446744073709551616 = ((256 * (num (l.take k) % 18446744073709551616)) % 18446744073709551616 + (l[k].toNat : Int)) % 18446744073709551616 := by
        rw [List.take_succ_eq_append_getElem hlt, num_snoc]; omega
      have hlo := u8_lo l[k]
      have hhi := u8_hi l[k]
      have Hstep := hid hstep
      clear hstep
      obtain ⟨q, hq⟩ : ∃ q, q = num (l.take k) % 18446744073709551616 := ⟨_, rfl⟩
      have hq0 : 0 ≤ q := by omega
      have hq1 : q < 18446744073709551616 := by omega
      rw [← hq] at Hstep ⊢
      clear hq
      go_wp2_with fail
      refine ⟨⟨k + 1, by omega, by go_num, ?_, rfl⟩, by simp [intOf]; omega⟩
      rw [Hstep.out, IntKind.wrap_u64, IntKind.wrap_u64]
    · go_wp2_with fail
      go_ret
      obtain rfl : k = l.length := by omega
      have e : num l % 18446744073709551616 = num l := Int.emod_eq_of_lt (num_lo _) (by have h := num8_lt l; rw [List.take_of_length_le hl] at h; exact h.2)
      exact ⟨by simp [e], rfl⟩
theorem at4_still (s : List UInt8) (o : Nat) (w : World) : Calls Tryz.prog 36 #[.string (bs ((s.drop o).take 4))] w fun e w' => e = .returned (.int .u64 (at4 s o)) ∧ w' = w :=
  value_still _ w (by rw [List.length_take]; omega)
/-- In the midst of a Take: the result's block, the header's. -/
structure RkSt (w W : World) (s : List UInt8) (i : Nat) : Prop where
  res : W.heap[w.heap.size]? = some (.cells #[.int .i64 0, .int .i64 0, .int .u64 0, .int .i64 0, .int .i64 0, .int .i64 0, .int .i64 0, .int .i64 0, .int .i64 0, .int .i64 0, .int .i64 0] 25 (0, 0))
  bel : Below w.heap.size w W
  row : W.heap[w.heap.size + 1]? = some (.cells (hdrCells ⟨at4 s 8, at4 s 12, num ((s.drop 16).take 8), rootsTo s i⟩).toArray 25 (0, 0))
theorem rk_start {w W : World} {s : List UInt8} (h1 : W.heap[w.heap.size]? = some (.cells #[.int .i64 0, .int .i64 0, .int .u64 0, .int .i64 0, .int .i64 0, .int .i64 0, .int .i64 0, .int .i64 0, .int .i64 0, .int .i64 0, .int .i64 0] 25 (0, 0))) (h2 : W.heap[w.heap.size + 1]? = some (.cells #[.int .i64 (at4 s 8), .int .i64 (at4 s 12), .int .u64 (num ((s.drop 16).take 8)), .int .i64 0, .int .i64 0, .int .i64 0, .int .i64 0, .int .i64 0, .int .i64 0, .int .i64 0, .int .i64 0] 25 (0, 0))) (h3 : Below w.heap.size w W) : RkSt w W.drew s 0 :=
  ⟨h1, ⟨h3.os, h3.tape, h3.output, h3.size, h3.block⟩, h2⟩
set_option maxHeartbeats 8000000 in
set_option maxRecDepth 20000 in
theorem rtake_short (s : List UInt8) (h : s.length ≠ 512) (hs : s.length ≤ 9223372036854775807) (w : World) : Calls Tryz.prog 11 #[.string (bs s)] w fun e w' => e = .returned (.tuple #[hdrV hdr0, .int .i64 7]) ∧ Below w.heap.size w w' := by
  have h1 : ((s.length : Int) != 512) = true := by simp; omega
  have hz := heap_alloc_new w (.cells #[.int .i64 0, .int .i64 0, .int .u64 0, .int .i64 0, .int .i64 0, .int .i64 0, .int .i64 0, .int .i64 0, .int .i64 0, .int .i64 0, .int .i64 0] 25)
  obtain ⟨⟨z0, z1, z2⟩, ⟨z3, z4, z5, z6, z7, z8, z9, z10⟩, zf⟩ := cells11 hz
  have hb := (Below.refl w.heap.size w).alloc (Nat.le_refl _) (.cells #[.int .i64 0, .int .i64 0, .int .u64 0, .int .i64 0, .int .i64 0, .int .i64 0, .int .i64 0, .int .i64 0, .int .i64 0, .int .i64 0, .int .i64 0] 25)
  have HB := hid hb
  clear hb hz h
  go_enter Tryz.func11, Tryz.ntmps11
  go_wp2_with fail
  refine bodyPost_ret (v := .tuple #[hdrV hdr0, .int .i64 7]) (by simp [results, Tryz.results11, go_sem, hdrV, hdrCells, hdr0]) rfl ⟨rfl, ?_⟩
  exact HB.out
set_option maxHeartbeats 8000000 in
set_option maxRecDepth 20000 in
theorem rtake_512 (s : List UInt8) (hl : s.length = 512) (w : World) : Calls Tryz.prog 11 #[.string (bs s)] w fun e w' => e = .returned (.tuple #[hdrV (takeH s).1, .int .i64 (takeH s).2]) ∧ Below w.heap.size w w' := by
  have hl2 : (s.length : Int) = 512 := by omega
  have V1 := hid (fun W => at4_still s 8 W)
  have V2 := hid (fun W => at4_still s 12 W)
  have V3 := hid (fun W => value_still ((s.drop 16).take 8) W (by rw [List.length_take]; omega))
  have a8 := at4_range s 8
  have a12 := at4_range s 12
  have w8 : IntKind.i64.wrap (at4 s 8) = at4 s 8 := IntWalk.i64_in _ (by omega)
  have w12 : IntKind.i64.wrap (at4 s 12) = at4 s 12 := IntWalk.i64_in _ (by omega)
  clear a8 a12
  obtain ⟨R, hRT⟩ : ∃ R, R = takeH s := ⟨_, rfl⟩
  rw [← hRT]
  have HRT := hid hRT
  clear hRT
  go_enter Tryz.func11, Tryz.ntmps11
  go_upto_region 3 with fail
  refine wp_region_held_drew (S := fun W => True) (by kernel_rfl) trivial (fun hHeld => ?_)
  refine held_take (v := ?pv0) 0 rfl (by kernel_rfl) (by kernel_rfl) (by kernel_rfl) (fun _ _ _ h => h) (by rfl) hHeld ?py0 ?pr0
  case py0 => (intro W hSw; go_simp; with_reducible rfl)
  simp only [Act.put, List.setIfInBounds_toArray, List.set_cons_zero, List.set_cons_succ]
  refine held_take (v := ?pv1) 1 rfl (by kernel_rfl) (by kernel_rfl) (by kernel_rfl) (fun _ _ _ h => h) (by rfl) hHeld ?py1 ?pr1
  case py1 => (intro W hSw; go_simp; with_reducible rfl)
  simp only [Act.put, List.setIfInBounds_toArray, List.set_cons_zero, List.set_cons_succ]
  refine held_take (v := ?pv4) 4 rfl (by kernel_rfl) (by kernel_rfl) (by kernel_rfl) (fun _ _ _ h => h) (by rfl) hHeld ?py4 ?pr4
  case py4 => (intro W hSw; go_simp; with_reducible rfl)
  simp only [Act.put, List.setIfInBounds_toArray, List.set_cons_zero, List.set_cons_succ]
  refine held_take (v := ?pv5) 5 rfl (by kernel_rfl) (by kernel_rfl) (by kernel_rfl) (fun _ _ _ h => h) (by rfl) hHeld ?py5 ?pr5
  case py5 => (intro W hSw; go_simp; with_reducible rfl)
  simp only [Act.put, List.setIfInBounds_toArray, List.set_cons_zero, List.set_cons_succ]
  refine held_take (v := ?pv8) 8 rfl (by kernel_rfl) (by kernel_rfl) (by kernel_rfl) (fun _ _ _ h => h) (by rfl) hHeld ?py8 ?pr8
  case py8 => (intro W hSw; go_simp; with_reducible rfl)
  simp only [Act.put, List.setIfInBounds_toArray, List.set_cons_zero, List.set_cons_succ]
  refine held_take (v := ?pv9) 9 rfl (by kernel_rfl) (by kernel_rfl) (by kernel_rfl) (fun _ _ _ h => h) (by rfl) hHeld ?py9 ?pr9
  case py9 => (intro W hSw; go_simp; with_reducible rfl)
  simp only [Act.put, List.setIfInBounds_toArray, List.set_cons_zero, List.set_cons_succ]
  refine held_both 2 12 (by kernel_rfl) rfl rfl (fun K hK => ?_) (fun K hK => ?_)
  go_simp
  refine (V1.out _).mono ?_
  rintro e wv ⟨rfl, hwv⟩
  obtain rfl := hwv.symm
  try dsimp only
  refine hK.out _ _ (trivial) (fun hHeld => ?_)
  clear hK K
  try simp only [Act.put, List.setIfInBounds_toArray, List.set_cons_zero, List.set_cons_succ]
  refine held_take (v := ?b1v3) 3 rfl (by kernel_rfl) (by kernel_rfl) (by kernel_rfl) (fun _ _ _ h => h) (by rfl) hHeld ?b1y3 ?b1r3
  case b1y3 => (intro W hSw; go_simp; with_reducible rfl)
  simp only [Act.put, List.setIfInBounds_toArray, List.set_cons_zero, List.set_cons_succ]
  refine held_both 6 12 (by kernel_rfl) rfl rfl (fun K hK => ?_) (fun K hK => ?_)
  go_simp
  refine (V2.out _).mono ?_
  rintro e wv ⟨rfl, hwv⟩
  obtain rfl := hwv.symm
  try dsimp only
  refine hK.out _ _ (trivial) (fun hHeld => ?_)
  clear hK K
  try simp only [Act.put, List.setIfInBounds_toArray, List.set_cons_zero, List.set_cons_succ]
  refine held_take (v := ?b2v7) 7 rfl (by kernel_rfl) (by kernel_rfl) (by kernel_rfl) (fun _ _ _ h => h) (by rfl) hHeld ?b2y7 ?b2r7
  case b2y7 => (intro W hSw; go_simp; with_reducible rfl)
  simp only [Act.put, List.setIfInBounds_toArray, List.set_cons_zero, List.set_cons_succ]
  refine held_both 10 12 (by kernel_rfl) rfl rfl (fun K hK => ?_) (fun K hK => ?_)
  go_simp
  refine (V3.out _).mono ?_
  rintro e wv ⟨rfl, hwv⟩
  obtain rfl := hwv.symm
  try dsimp only
  refine hK.out _ _ (trivial) (fun hHeld => ?_)
  clear hK K
  try simp only [Act.put, List.setIfInBounds_toArray, List.set_cons_zero, List.set_cons_succ]
  refine held_take (v := ?b3v11) 11 rfl (by kernel_rfl) (by kernel_rfl) (by kernel_rfl) (fun _ _ _ h => h) (by rfl) hHeld ?b3y11 ?b3r11
  case b3y11 => (intro W hSw; go_simp; with_reducible rfl)
  simp only [Act.put, List.setIfInBounds_toArray, List.set_cons_zero, List.set_cons_succ]
  refine held_one 12 (by kernel_rfl) rfl (fun K hK => ?_)
  go_simp
  refine hK.out _ _ (trivial) (fun hHeld => ?_)
  clear hK K
  try simp only [Act.put, List.setIfInBounds_toArray, List.set_cons_zero, List.set_cons_succ]
  refine held_one 13 (by kernel_rfl) rfl (fun K hK => ?_)
  go_simp
  refine hK.out _ _ (trivial) (fun hHeld => ?_)
  clear hK K
  try simp only [Act.put, List.setIfInBounds_toArray, List.set_cons_zero, List.set_cons_succ]
  refine wpAnyH_done (by kernel_rfl) ?_ _
  rotate_left
  go_simp
  refine hK.out _ _ (trivial) (fun hHeld => ?_)
  clear hK K
  try simp only [Act.put, List.setIfInBounds_toArray, List.set_cons_zero, List.set_cons_succ]
  refine held_one 10 (by kernel_rfl) rfl (fun K hK => ?_)
  go_simp
  refine (V3.out _).mono ?_
  rintro e wv ⟨rfl, hwv⟩
  obtain rfl := hwv.symm
  try dsimp only
  refine hK.out _ _ (trivial) (fun hHeld => ?_)
  clear hK K
  try simp only [Act.put, List.setIfInBounds_toArray, List.set_cons_zero, List.set_cons_succ]
  refine held_take (v := ?b5v11) 11 rfl (by kernel_rfl) (by kernel_rfl) (by kernel_rfl) (fun _ _ _ h => h) (by rfl) hHeld ?b5y11 ?b5r11
  case b5y11 => (intro W hSw; go_simp; with_reducible rfl)
  simp only [Act.put, List.setIfInBounds_toArray, List.set_cons_zero, List.set_cons_succ]
  refine held_one 13 (by kernel_rfl) rfl (fun K hK => ?_)
  go_simp
  refine hK.out _ _ (trivial) (fun hHeld => ?_)
  clear hK K
  try simp only [Act.put, List.setIfInBounds_toArray, List.set_cons_zero, List.set_cons_succ]
  refine wpAnyH_done (by kernel_rfl) ?_ _
  rotate_left
  go_simp
  refine hK.out _ _ (trivial) (fun hHeld => ?_)
  clear hK K
  try simp only [Act.put, List.setIfInBounds_toArray, List.set_cons_zero, List.set_cons_succ]
  refine held_one 6 (by kernel_rfl) rfl (fun K hK => ?_)
  go_simp
  refine (V2.out _).mono ?_
  rintro e wv ⟨rfl, hwv⟩
  obtain rfl := hwv.symm
  try dsimp only
  refine hK.out _ _ (trivial) (fun hHeld => ?_)
  clear hK K
  try simp only [Act.put, List.setIfInBounds_toArray, List.set_cons_zero, List.set_cons_succ]
  refine held_take (v := ?b7v7) 7 rfl (by kernel_rfl) (by kernel_rfl) (by kernel_rfl) (fun _ _ _ h => h) (by rfl) hHeld ?b7y7 ?b7r7
  case b7y7 => (intro W hSw; go_simp; with_reducible rfl)
  simp only [Act.put, List.setIfInBounds_toArray, List.set_cons_zero, List.set_cons_succ]
  refine held_one 10 (by kernel_rfl) rfl (fun K hK => ?_)
  go_simp
  refine (V3.out _).mono ?_
  rintro e wv ⟨rfl, hwv⟩
  obtain rfl := hwv.symm
  try dsimp only
  refine hK.out _ _ (trivial) (fun hHeld => ?_)
  clear hK K
  try simp only [Act.put, List.setIfInBounds_toArray, List.set_cons_zero, List.set_cons_succ]
  refine held_take (v := ?b8v11) 11 rfl (by kernel_rfl) (by kernel_rfl) (by kernel_rfl) (fun _ _ _ h => h) (by rfl) hHeld ?b8y11 ?b8r11
  case b8y11 => (intro W hSw; go_simp; with_reducible rfl)
  simp only [Act.put, List.setIfInBounds_toArray, List.set_cons_zero, List.set_cons_succ]
  refine held_one 13 (by kernel_rfl) rfl (fun K hK => ?_)
  go_simp
  refine hK.out _ _ (trivial) (fun hHeld => ?_)
  clear hK K
  try simp only [Act.put, List.setIfInBounds_toArray, List.set_cons_zero, List.set_cons_succ]
  refine wpAnyH_done (by kernel_rfl) ?_ _
  rotate_left
  go_simp
  refine hK.out _ _ (trivial) (fun hHeld => ?_)
  clear hK K
  try simp only [Act.put, List.setIfInBounds_toArray, List.set_cons_zero, List.set_cons_succ]
  refine held_one 2 (by kernel_rfl) rfl (fun K hK => ?_)
  go_simp
  refine (V1.out _).mono ?_
  rintro e wv ⟨rfl, hwv⟩
  obtain rfl := hwv.symm
  try dsimp only
  refine hK.out _ _ (trivial) (fun hHeld => ?_)
  clear hK K
  try simp only [Act.put, List.setIfInBounds_toArray, List.set_cons_zero, List.set_cons_succ]
  refine held_take (v := ?b10v3) 3 rfl (by kernel_rfl) (by kernel_rfl) (by kernel_rfl) (fun _ _ _ h => h) (by rfl) hHeld ?b10y3 ?b10r3
  case b10y3 => (intro W hSw; go_simp; with_reducible rfl)
  simp only [Act.put, List.setIfInBounds_toArray, List.set_cons_zero, List.set_cons_succ]
  refine held_one 6 (by kernel_rfl) rfl (fun K hK => ?_)
  go_simp
  refine (V2.out _).mono ?_
  rintro e wv ⟨rfl, hwv⟩
  obtain rfl := hwv.symm
  try dsimp only
  refine hK.out _ _ (trivial) (fun hHeld => ?_)
  clear hK K
  try simp only [Act.put, List.setIfInBounds_toArray, List.set_cons_zero, List.set_cons_succ]
  refine held_take (v := ?b11v7) 7 rfl (by kernel_rfl) (by kernel_rfl) (by kernel_rfl) (fun _ _ _ h => h) (by rfl) hHeld ?b11y7 ?b11r7
  case b11y7 => (intro W hSw; go_simp; with_reducible rfl)
  simp only [Act.put, List.setIfInBounds_toArray, List.set_cons_zero, List.set_cons_succ]
  refine held_one 10 (by kernel_rfl) rfl (fun K hK => ?_)
  go_simp
  refine (V3.out _).mono ?_
  rintro e wv ⟨rfl, hwv⟩
  obtain rfl := hwv.symm
  try dsimp only
  refine hK.out _ _ (trivial) (fun hHeld => ?_)
  clear hK K
  try simp only [Act.put, List.setIfInBounds_toArray, List.set_cons_zero, List.set_cons_succ]
  refine held_take (v := ?b12v11) 11 rfl (by kernel_rfl) (by kernel_rfl) (by kernel_rfl) (fun _ _ _ h => h) (by rfl) hHeld ?b12y11 ?b12r11
  case b12y11 => (intro W hSw; go_simp; with_reducible rfl)
  simp only [Act.put, List.setIfInBounds_toArray, List.set_cons_zero, List.set_cons_succ]
  refine held_one 13 (by kernel_rfl) rfl (fun K hK => ?_)
  go_simp
  refine hK.out _ _ (trivial) (fun hHeld => ?_)
  clear hK K
  try simp only [Act.put, List.setIfInBounds_toArray, List.set_cons_zero, List.set_cons_succ]
  refine wpAnyH_done (by kernel_rfl) ?_ _
  rotate_left
  all_goals clear V1 V2 V3 w8 w12 hHeld
  all_goals (go_wp2_with fail)
  all_goals (
    have hbz := heap_two_old w (.cells #[.int .i64 0, .int .i64 0, .int .u64 0, .int .i64 0, .int .i64 0, .int .i64 0, .int .i64 0, .int .i64 0, .int .i64 0, .int .i64 0, .int .i64 0] 25) (.cells #[.int .i64 (at4 s 8), .int .i64 (at4 s 12), .int .u64 (num ((s.drop 16).take 8)), .int .i64 0, .int .i64 0, .int .i64 0, .int .i64 0, .int .i64 0, .int .i64 0, .int .i64 0, .int .i64 0] 25)
    have hbn := heap_two_new w (.cells #[.int .i64 0, .int .i64 0, .int .u64 0, .int .i64 0, .int .i64 0, .int .i64 0, .int .i64 0, .int .i64 0, .int .i64 0, .int .i64 0, .int .i64 0] 25) (.cells #[.int .i64 (at4 s 8), .int .i64 (at4 s 12), .int .u64 (num ((s.drop 16).take 8)), .int .i64 0, .int .i64 0, .int .i64 0, .int .i64 0, .int .i64 0, .int .i64 0, .int .i64 0, .int .i64 0] 25)
    have hbb := ((Below.refl w.heap.size w).alloc (Nat.le_refl _) (.cells #[.int .i64 0, .int .i64 0, .int .u64 0, .int .i64 0, .int .i64 0, .int .i64 0, .int .i64 0, .int .i64 0, .int .i64 0, .int .i64 0, .int .i64 0] 25)).alloc (by simp) (.cells #[.int .i64 (at4 s 8), .int .i64 (at4 s 12), .int .u64 (num ((s.drop 16).take 8)), .int .i64 0, .int .i64 0, .int .i64 0, .int .i64 0, .int .i64 0, .int .i64 0, .int .i64 0, .int .i64 0] 25)
    have hst := rk_start hbz hbn hbb
    have Hst0 := hid hst
    clear hbz hbn hbb hst
    go_loopw [5] (fun v5 wr => ∃ i : Nat, i ≤ 8 ∧ v5 = .int .i64 (i : Int) ∧ RkSt w wr s i) (fun v5 _ => 8 - (intOf v5).toNat)
    case atStart => exact ⟨0, by omega, rfl, Hst0.out⟩
    case round =>
      obtain ⟨i, hi, rfl, hst⟩ := hrel
      have Hst := hid hst
      have Hrow := hid hst.row
      clear hst Hst0
      by_cases hlt : i < 8
      · have hi8 : i = 0 ∨ i = 1 ∨ i = 2 ∨ i = 3 ∨ i = 4 ∨ i = 5 ∨ i = 6 ∨ i = 7 := by omega
        clear hi hlt
        rcases hi8 with rfl | rfl | rfl | rfl | rfl | rfl | rfl | rfl
        · have V := hid (fun W => at4_still s 24 W)
          have wx : IntKind.i64.wrap (at4 s 24) = at4 s 24 := IntWalk.i64_in _ (by have := at4_range s 24; omega)
          have c9 : wr.cell? ⟨w.heap.size + 1, 3, none⟩ = some (.int .i64 0) := (cell_of_block Hrow.out 3).trans rfl
          have f9 := free_of_block Hrow.out 3
          go_wp2_with (first | (go_at_call 36; refine (V.out _).mono ?_; rintro e w9 ⟨rfl, hw⟩; obtain rfl := hw.symm) | go_in)
          go_roundw
          case rel => exact ⟨1, by omega, by first | rfl | trivial, ⟨(Below.heap_setCell _ ⟨w.heap.size + 1, 3, none⟩ _ w.heap.size (by show w.heap.size ≠ w.heap.size + 1; omega)).trans Hst.out.res, Hst.out.bel.setCell (by show w.heap.size ≤ w.heap.size + 1; omega) _, (heap_setCell_same Hrow.out 3 _).trans rfl⟩⟩
          case measure => simp [intOf]
        · have V := hid (fun W => at4_still s 28 W)
          have wx : IntKind.i64.wrap (at4 s 28) = at4 s 28 := IntWalk.i64_in _ (by have := at4_range s 28; omega)
          have c9 : wr.cell? ⟨w.heap.size + 1, 4, none⟩ = some (.int .i64 0) := (cell_of_block Hrow.out 4).trans rfl
          have f9 := free_of_block Hrow.out 4
          go_wp2_with (first | (go_at_call 36; refine (V.out _).mono ?_; rintro e w9 ⟨rfl, hw⟩; obtain rfl := hw.symm) | go_in)
          go_roundw
          case rel => exact ⟨2, by omega, by first | rfl | trivial, ⟨(Below.heap_setCell _ ⟨w.heap.size + 1, 4, none⟩ _ w.heap.size (by show w.heap.size ≠ w.heap.size + 1; omega)).trans Hst.out.res, Hst.out.bel.setCell (by show w.heap.size ≤ w.heap.size + 1; omega) _, (heap_setCell_same Hrow.out 4 _).trans rfl⟩⟩
          case measure => simp [intOf]
        · have V := hid (fun W => at4_still s 32 W)
          have wx : IntKind.i64.wrap (at4 s 32) = at4 s 32 := IntWalk.i64_in _ (by have := at4_range s 32; omega)
          have c9 : wr.cell? ⟨w.heap.size + 1, 5, none⟩ = some (.int .i64 0) := (cell_of_block Hrow.out 5).trans rfl
          have f9 := free_of_block Hrow.out 5
          go_wp2_with (first | (go_at_call 36; refine (V.out _).mono ?_; rintro e w9 ⟨rfl, hw⟩; obtain rfl := hw.symm) | go_in)
          go_roundw
          case rel => exact ⟨3, by omega, by first | rfl | trivial, ⟨(Below.heap_setCell _ ⟨w.heap.size + 1, 5, none⟩ _ w.heap.size (by show w.heap.size ≠ w.heap.size + 1; omega)).trans Hst.out.res, Hst.out.bel.setCell (by show w.heap.size ≤ w.heap.size + 1; omega) _, (heap_setCell_same Hrow.out 5 _).trans rfl⟩⟩
          case measure => simp [intOf]
        · have V := hid (fun W => at4_still s 36 W)
          have wx : IntKind.i64.wrap (at4 s 36) = at4 s 36 := IntWalk.i64_in _ (by have := at4_range s 36; omega)
          have c9 : wr.cell? ⟨w.heap.size + 1, 6, none⟩ = some (.int .i64 0) := (cell_of_block Hrow.out 6).trans rfl
          have f9 := free_of_block Hrow.out 6
          go_wp2_with (first | (go_at_call 36; refine (V.out _).mono ?_; rintro e w9 ⟨rfl, hw⟩; obtain rfl := hw.symm) | go_in)
          go_roundw
          case rel => exact ⟨4, by omega, by first | rfl | trivial, ⟨(Below.heap_setCell _ ⟨w.heap.size + 1, 6, none⟩ _ w.heap.size (by show w.heap.size ≠ w.heap.size + 1; omega)).trans Hst.out.res, Hst.out.bel.setCell (by show w.heap.size ≤ w.heap.size + 1; omega) _, (heap_setCell_same Hrow.out 6 _).trans rfl⟩⟩
          case measure => simp [intOf]
        · have V := hid (fun W => at4_still s 40 W)
          have wx : IntKind.i64.wrap (at4 s 40) = at4 s 40 := IntWalk.i64_in _ (by have := at4_range s 40; omega)
          have c9 : wr.cell? ⟨w.heap.size + 1, 7, none⟩ = some (.int .i64 0) := (cell_of_block Hrow.out 7).trans rfl
          have f9 := free_of_block Hrow.out 7
          go_wp2_with (first | (go_at_call 36; refine (V.out _).mono ?_; rintro e w9 ⟨rfl, hw⟩; obtain rfl := hw.symm) | go_in)
          go_roundw
          case rel => exact ⟨5, by omega, by first | rfl | trivial, ⟨(Below.heap_setCell _ ⟨w.heap.size + 1, 7, none⟩ _ w.heap.size (by show w.heap.size ≠ w.heap.size + 1; omega)).trans Hst.out.res, Hst.out.bel.setCell (by show w.heap.size ≤ w.heap.size + 1; omega) _, (heap_setCell_same Hrow.out 7 _).trans rfl⟩⟩
          case measure => simp [intOf]
        · have V := hid (fun W => at4_still s 44 W)
          have wx : IntKind.i64.wrap (at4 s 44) = at4 s 44 := IntWalk.i64_in _ (by have := at4_range s 44; omega)
          have c9 : wr.cell? ⟨w.heap.size + 1, 8, none⟩ = some (.int .i64 0) := (cell_of_block Hrow.out 8).trans rfl
          have f9 := free_of_block Hrow.out 8
          go_wp2_with (first | (go_at_call 36; refine (V.out _).mono ?_; rintro e w9 ⟨rfl, hw⟩; obtain rfl := hw.symm) | go_in)
          go_roundw
          case rel => exact ⟨6, by omega, by first | rfl | trivial, ⟨(Below.heap_setCell _ ⟨w.heap.size + 1, 8, none⟩ _ w.heap.size (by show w.heap.size ≠ w.heap.size + 1; omega)).trans Hst.out.res, Hst.out.bel.setCell (by show w.heap.size ≤ w.heap.size + 1; omega) _, (heap_setCell_same Hrow.out 8 _).trans rfl⟩⟩
          case measure => simp [intOf]
        · have V := hid (fun W => at4_still s 48 W)
          have wx : IntKind.i64.wrap (at4 s 48) = at4 s 48 := IntWalk.i64_in _ (by have := at4_range s 48; omega)
          have c9 : wr.cell? ⟨w.heap.size + 1, 9, none⟩ = some (.int .i64 0) := (cell_of_block Hrow.out 9).trans rfl
          have f9 := free_of_block Hrow.out 9
          go_wp2_with (first | (go_at_call 36; refine (V.out _).mono ?_; rintro e w9 ⟨rfl, hw⟩; obtain rfl := hw.symm) | go_in)
          go_roundw
          case rel => exact ⟨7, by omega, by first | rfl | trivial, ⟨(Below.heap_setCell _ ⟨w.heap.size + 1, 9, none⟩ _ w.heap.size (by show w.heap.size ≠ w.heap.size + 1; omega)).trans Hst.out.res, Hst.out.bel.setCell (by show w.heap.size ≤ w.heap.size + 1; omega) _, (heap_setCell_same Hrow.out 9 _).trans rfl⟩⟩
          case measure => simp [intOf]
        · have V := hid (fun W => at4_still s 52 W)
          have wx : IntKind.i64.wrap (at4 s 52) = at4 s 52 := IntWalk.i64_in _ (by have := at4_range s 52; omega)
          have c9 : wr.cell? ⟨w.heap.size + 1, 10, none⟩ = some (.int .i64 0) := (cell_of_block Hrow.out 10).trans rfl
          have f9 := free_of_block Hrow.out 10
          go_wp2_with (first | (go_at_call 36; refine (V.out _).mono ?_; rintro e w9 ⟨rfl, hw⟩; obtain rfl := hw.symm) | go_in)
          go_roundw
          case rel => exact ⟨8, by omega, by first | rfl | trivial, ⟨(Below.heap_setCell _ ⟨w.heap.size + 1, 10, none⟩ _ w.heap.size (by show w.heap.size ≠ w.heap.size + 1; omega)).trans Hst.out.res, Hst.out.bel.setCell (by show w.heap.size ≤ w.heap.size + 1; omega) _, (heap_setCell_same Hrow.out 10 _).trans rfl⟩⟩
          case measure => simp [intOf]
      · obtain rfl : i = 8 := by omega
        have hr8 := Hrow.out
        have hH : (⟨at4 s 8, at4 s 12, num ((s.drop 16).take 8), rootsTo s 8⟩ : Hdr) = hdrOf s := by rw [rootsTo_all]; rfl
        rw [hH] at hr8
        have SP := fun W => rput_any (hdrOf s) (hdrOf_wf s) W
        have hT : takeH s = if putH (hdrOf s) = (s, 0) then (hdrOf s, 0) else (hdr0, 7) := by unfold takeH; rw [if_neg (by rw [hl]; simp)]
        obtain ⟨P, hP⟩ : ∃ P, P = putH (hdrOf s) := ⟨_, rfl⟩
        simp only [← hP] at SP hT
        obtain ⟨HH, hHH⟩ : ∃ HH, HH = hdrOf s := ⟨_, rfl⟩
        rw [← hHH] at hr8 hT
        simp only [← hHH] at SP
        have hHl : HH.roots.length = 8 := by rw [hHH]; exact (hdrOf_wf s).len
        clear hH hHH hP Hrow hl hl2
        obtain ⟨f', c', k', r0, r1, r2, r3, r4, r5, r6, r7, rfl⟩ := hdr_form hHl
        have hR2 := HRT.out.trans hT
        unfold hdrV hdrCells at SP
        unfold hdrCells at hr8
        simp only [List.map_cons, List.map_nil] at SP hr8
        replace SP := hid SP
        obtain ⟨⟨d0, d1, d2⟩, ⟨d3, d4, d5, d6, d7, d8, d9, d10⟩, df⟩ := cells11 hr8
        have Hr8 := hid hr8
        have Hst8 := hid Hst.out
        clear hT hHl hr8 hi
        obtain ⟨t, E⟩ := P
        dsimp only at SP
        by_cases he : E = 0
        rotate_left
        · have b1 : (E != 0) = true := by simp [he]
          rw [if_neg (fun e => he (Prod.mk.inj e).2)] at hR2
          have HR2 := hid hR2
          clear he hR2
          go_wp2_with (first
            | (go_at_call 9; refine (SP.out _).mono ?_; rintro e w12 ⟨rfl, hb12⟩; have hr12 := (hb12.block _ (lt_of_block Hr8.out)).trans Hr8.out; have hz12 := (hb12.block _ (lt_of_block Hst8.out.res)).trans Hst8.out.res; have HB12 := hid (Hst8.out.bel.trans (hb12.mono Hst8.out.bel.size)); clear d0 d1 d2 d3 d4 d5 d6 d7 d8 d9 d10 df; obtain ⟨⟨d0, d1, d2⟩, ⟨d3, d4, d5, d6, d7, d8, d9, d10⟩, df⟩ := cells11 hr12; obtain ⟨⟨z0, z1, z2⟩, ⟨z3, z4, z5, z6, z7, z8, z9, z10⟩, zf⟩ := cells11 hz12; clear hr12 hz12 hb12)
            | go_in)
          rw [HR2.out]
          refine bodyPost_ret (v := .tuple #[hdrV hdr0, .int .i64 7]) (by simp [results, Tryz.results11, go_sem, hdrV, hdrCells, hdr0, z0, z1, z2, z3, z4, z5, z6, z7, z8, z9, z10, zf]) rfl ⟨rfl, ?_⟩
          iterate 11 refine Below.setCell ?_ (by simp) _
          exact HB12.out
        have b1 : (E != 0) = false := by simp [he]
        by_cases ht : t = s
        · have b2 : (t != s) = false := by simp [ht]
          have b3 : (t == s) = true := by simp [ht]
          rw [if_pos (by rw [ht, he])] at hR2
          have HR2 := hid hR2
          clear he ht hR2
          go_wp2_with (first
            | (go_at_call 9; refine (SP.out _).mono ?_; rintro e w12 ⟨rfl, hb12⟩; have hr12 := (hb12.block _ (lt_of_block Hr8.out)).trans Hr8.out; have hz12 := (hb12.block _ (lt_of_block Hst8.out.res)).trans Hst8.out.res; have HB12 := hid (Hst8.out.bel.trans (hb12.mono Hst8.out.bel.size)); clear d0 d1 d2 d3 d4 d5 d6 d7 d8 d9 d10 df; obtain ⟨⟨d0, d1, d2⟩, ⟨d3, d4, d5, d6, d7, d8, d9, d10⟩, df⟩ := cells11 hr12; obtain ⟨⟨z0, z1, z2⟩, ⟨z3, z4, z5, z6, z7, z8, z9, z10⟩, zf⟩ := cells11 hz12; clear hr12 hz12 hb12)
            | go_in)
          rw [HR2.out]
          refine bodyPost_ret (v := .tuple #[.agg #[.int .i64 f', .int .i64 c', .int .u64 k', .int .i64 r0, .int .i64 r1, .int .i64 r2, .int .i64 r3, .int .i64 r4, .int .i64 r5, .int .i64 r6, .int .i64 r7], .int .i64 0]) (by simp [results, Tryz.results11, go_sem, z0, z1, z2, z3, z4, z5, z6, z7, z8, z9, z10, zf]) rfl ⟨rfl, ?_⟩
          iterate 11 refine Below.setCell ?_ (by simp) _
          exact HB12.out
        · have b2 : (t != s) = true := by simp [ht]
          have b3 : (t == s) = false := by simp [ht]
          rw [if_neg (fun e => ht (Prod.mk.inj e).1)] at hR2
          have HR2 := hid hR2
          clear he ht hR2
          go_wp2_with (first
            | (go_at_call 9; refine (SP.out _).mono ?_; rintro e w12 ⟨rfl, hb12⟩; have hr12 := (hb12.block _ (lt_of_block Hr8.out)).trans Hr8.out; have hz12 := (hb12.block _ (lt_of_block Hst8.out.res)).trans Hst8.out.res; have HB12 := hid (Hst8.out.bel.trans (hb12.mono Hst8.out.bel.size)); clear d0 d1 d2 d3 d4 d5 d6 d7 d8 d9 d10 df; obtain ⟨⟨d0, d1, d2⟩, ⟨d3, d4, d5, d6, d7, d8, d9, d10⟩, df⟩ := cells11 hr12; obtain ⟨⟨z0, z1, z2⟩, ⟨z3, z4, z5, z6, z7, z8, z9, z10⟩, zf⟩ := cells11 hz12; clear hr12 hz12 hb12)
            | go_in)
          rw [HR2.out]
          refine bodyPost_ret (v := .tuple #[hdrV hdr0, .int .i64 7]) (by simp [results, Tryz.results11, go_sem, hdrV, hdrCells, hdr0, z0, z1, z2, z3, z4, z5, z6, z7, z8, z9, z10, zf]) rfl ⟨rfl, ?_⟩
          iterate 11 refine Below.setCell ?_ (by simp) _
          exact HB12.out)
theorem rtake_any (s : List UInt8) (hs : s.length ≤ 9223372036854775807) (w : World) : Calls Tryz.prog 11 #[.string (bs s)] w fun e w' => e = .returned (.tuple #[hdrV (takeH s).1, .int .i64 (takeH s).2]) ∧ Below w.heap.size w w' := by
  by_cases h : s.length = 512
  · exact rtake_512 s h w
  · have := rtake_short s h hs w
    unfold takeH
    rw [if_pos h]
    exact this
end Go.Proofs.YtgjcamcboacijaaGreat
