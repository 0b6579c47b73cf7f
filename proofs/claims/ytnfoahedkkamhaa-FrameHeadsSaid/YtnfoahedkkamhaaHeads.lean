/- The law FrameHeads, walked. -/
import Derived.Test.YtnfoahedkkamhaaFrT
namespace Go.Proofs.Ytnfoahedkkamhaa
open Go.RowKit
set_option linter.unusedVariables false
set_option linter.unusedSimpArgs false

set_option maxHeartbeats 4000000 in
set_option maxRecDepth 100000 in
theorem heads_any (h : Hd) (s : List UInt8) (w : World) (hw : HdWf h) (hl : s.length ≤ 9223372036854775807) :
    Calls Try.prog 4 #[hdV h, .string (bs s)] w fun e w' => e = .returned (.bool true) ∧ Below w.heap.size w w' := by
  by_cases hlen : s.length ≤ 8192
  · have hl' : decide ((8192 : Int) < (s.length : Int)) = false := by simp; omega
    have P := fun W => putHead_any h W hw
    have M := fun W => headMay_any h W
    have HD := fun (hm : hdMay h = true) W => refHead_any h W hm hw
    have T := fun W => takeHead_any s W (by omega)
    have RT := fun W => refTakeHead_any s W (by omega)
    have S1 := fun W => start_any h.number W hw.1 hw.2
    have S2 := fun W => refStart_any h.number W hw.1 hw.2
    have hdr : hdR h = if hdMay h then (hdL h, 0) else ([], 2) := rfl
    rw [hdr] at P
    obtain ⟨m, hm⟩ : ∃ m, m = hdMay h := ⟨_, rfl⟩
    obtain ⟨G, hG⟩ : ∃ G, G = hdL h := ⟨_, rfl⟩
    obtain ⟨k, hk⟩ : ∃ k, k = tkHd s := ⟨_, rfl⟩
    obtain ⟨q, hq⟩ : ∃ q, q = startP h.number := ⟨_, rfl⟩
    simp only [← hm, ← hG] at P M HD
    simp only [← hk] at T RT
    simp only [← hq] at S1 S2
    have HP := hid P
    have HM := hid M
    have HHD := hid HD
    have HT := hid T
    have HRT := hid RT
    have HS1 := hid S1
    have HS2 := hid S2
    clear P M HD T RT S1 S2 hdr hm hG hk hq hw hlen hl
    obtain ⟨n, f, p⟩ := h
    obtain ⟨⟨kn, kf, kp⟩, ke⟩ := k
    unfold hdV pairV at *
    simp only at HP HM HHD HT HRT HS1 HS2
    have x1 := eql_hd
    have x2 := eql_pair
    have g1 := guard_hd
    have g2 := guard_pair
    go_enter Try.func4, Try.ntmps4
    go_wp2_with fail
    refine (works_any _).mono ?_
    rintro e w1 ⟨rfl, hb1⟩
    have H1 := hid ((hb1.block w.heap.size (by simp)).trans (heap_alloc_new w _))
    have hbw1 : Below w.heap.size w w1 := ((Below.refl _ _).alloc (Nat.le_refl _) _).trans (hb1.mono (by simp))
    obtain ⟨a0, a1, a2, af⟩ := cells3 H1.out
    clear hb1
    go_wp2_with fail
    refine (HP.out _).mono ?_
    rintro e w2 ⟨rfl, hb2⟩
    have H2 := hid ((hb2.block w.heap.size (lt_of_block H1.out)).trans H1.out)
    have hbw2 := hbw1.trans (hb2.mono hbw1.size)
    clear a0 a1 a2 af hb2 H1
    obtain ⟨a0, a1, a2, af⟩ := cells3 H2.out
    cases m
    · have ee : ByteArray.mk #[] = bs [] := rfl
      simp only [Bool.false_eq_true, if_false]
      go_wp2_with fail
      refine (HM.out _).mono ?_
      rintro e w3 ⟨rfl, hb3⟩
      have H3 := hid ((hb3.block w.heap.size (lt_of_block H2.out)).trans H2.out)
      have hbw3 := hbw2.trans (hb3.mono hbw2.size)
      go_wp2_with fail
      refine (HT.out _).mono ?_
      rintro e w5 ⟨rfl, hb5⟩
      have H5 := hid ((hb5.block w.heap.size (lt_of_block H3.out)).trans H3.out)
      have hbw5 := hbw3.trans (hb5.mono hbw3.size)
      clear a0 a1 a2 af
      go_wp2_with fail
      refine (HRT.out _).mono ?_
      rintro e w6 ⟨rfl, hb6⟩
      have A6 := (hb6.block w5.heap.size (by simp)).trans (heap_alloc_new w5 _)
      have hb56 : Below w5.heap.size w5 w6 := ((Below.refl _ _).alloc (Nat.le_refl _) _).trans (hb6.mono (by simp))
      have H6 := (hb56.block w.heap.size (lt_of_block H5.out)).trans H5.out
      have hbw6 := hbw5.trans (hb56.mono hbw5.size)
      have hb67 : Below w6.heap.size w6 (w6.alloc (.cells #[.int .u64 kn, .int .i64 kf, .int .i64 kp] 27)) := (Below.refl _ _).alloc (Nat.le_refl _) _
      have A7 := (hb67.block w5.heap.size (lt_of_block A6)).trans A6
      have H7 := (hb67.block w.heap.size (lt_of_block H6)).trans H6
      have B7 := heap_alloc_new w6 (.cells #[.int .u64 kn, .int .i64 kf, .int .i64 kp] 27)
      obtain ⟨a0, a1, a2, af⟩ := cells3 A7
      obtain ⟨b0, b1, b2, bf⟩ := cells3 B7
      obtain ⟨c0, c1, c2, cf⟩ := cells3 H7
      have a0 := fun d os => cell_regrown a0 d os
      have a1 := fun d os => cell_regrown a1 d os
      have a2 := fun d os => cell_regrown a2 d os
      have b0 := fun d os => cell_regrown b0 d os
      have b1 := fun d os => cell_regrown b1 d os
      have b2 := fun d os => cell_regrown b2 d os
      have c0 := fun d os => cell_regrown c0 d os
      clear A6 A7 H5 H6 H7 B7 af bf c1 c2 cf hb5 hb6
      go_wp2_with fail
      refine region_below (by kernel_rfl) (by kernel_rfl) ?_
      repeat (go_big_quiet_step ((first | (go_at_call 19; with_reducible exact Calls.regrown_of (HS1.out _)) | (go_at_call 20; with_reducible exact Calls.regrown_of (HS2.out _)))))
      refine wpQuiet_nil ?_
      intro w8 hb8
      clear a0 a1 a2 b0 b1 b2 c0
      go_wp2_with fail
      go_ret
      exact ⟨rfl, (hbw6.trans (hb67.mono hbw6.size)).trans (hb8.mono (by have := hbw6.size; simp; omega))⟩
    · have HH2 := fun W => HHD.out (by first | rfl | trivial) W
      simp only [if_true]
      go_wp2_with fail
      refine (HM.out _).mono ?_
      rintro e w3 ⟨rfl, hb3⟩
      have H3 := hid ((hb3.block w.heap.size (lt_of_block H2.out)).trans H2.out)
      have hbw3 := hbw2.trans (hb3.mono hbw2.size)
      clear a0 a1 a2 af
      obtain ⟨a0, a1, a2, af⟩ := cells3 H3.out
      go_wp2_with fail
      refine (HH2 _).mono ?_
      rintro e w4 ⟨rfl, hb4⟩
      have H4 := hid ((hb4.block w.heap.size (lt_of_block H3.out)).trans H3.out)
      have hbw4 := hbw3.trans (hb4.mono hbw3.size)
      clear HH2
      go_wp2_with fail
      refine (HT.out _).mono ?_
      rintro e w5 ⟨rfl, hb5⟩
      have H5 := hid ((hb5.block w.heap.size (lt_of_block H4.out)).trans H4.out)
      have hbw5 := hbw4.trans (hb5.mono hbw4.size)
      clear a0 a1 a2 af
      go_wp2_with fail
      refine (HRT.out _).mono ?_
      rintro e w6 ⟨rfl, hb6⟩
      have A6 := (hb6.block w5.heap.size (by simp)).trans (heap_alloc_new w5 _)
      have hb56 : Below w5.heap.size w5 w6 := ((Below.refl _ _).alloc (Nat.le_refl _) _).trans (hb6.mono (by simp))
      have H6 := (hb56.block w.heap.size (lt_of_block H5.out)).trans H5.out
      have hbw6 := hbw5.trans (hb56.mono hbw5.size)
      have hb67 : Below w6.heap.size w6 (w6.alloc (.cells #[.int .u64 kn, .int .i64 kf, .int .i64 kp] 27)) := (Below.refl _ _).alloc (Nat.le_refl _) _
      have A7 := (hb67.block w5.heap.size (lt_of_block A6)).trans A6
      have H7 := (hb67.block w.heap.size (lt_of_block H6)).trans H6
      have B7 := heap_alloc_new w6 (.cells #[.int .u64 kn, .int .i64 kf, .int .i64 kp] 27)
      obtain ⟨a0, a1, a2, af⟩ := cells3 A7
      obtain ⟨b0, b1, b2, bf⟩ := cells3 B7
      obtain ⟨c0, c1, c2, cf⟩ := cells3 H7
      have a0 := fun d os => cell_regrown a0 d os
      have a1 := fun d os => cell_regrown a1 d os
      have a2 := fun d os => cell_regrown a2 d os
      have b0 := fun d os => cell_regrown b0 d os
      have b1 := fun d os => cell_regrown b1 d os
      have b2 := fun d os => cell_regrown b2 d os
      have c0 := fun d os => cell_regrown c0 d os
      clear A6 A7 H5 H6 H7 B7 af bf c1 c2 cf hb5 hb6
      go_wp2_with fail
      refine region_below (by kernel_rfl) (by kernel_rfl) ?_
      repeat (go_big_quiet_step ((first | (go_at_call 19; with_reducible exact Calls.regrown_of (HS1.out _)) | (go_at_call 20; with_reducible exact Calls.regrown_of (HS2.out _)))))
      refine wpQuiet_nil ?_
      intro w8 hb8
      clear a0 a1 a2 b0 b1 b2 c0
      go_wp2_with fail
      go_ret
      exact ⟨rfl, (hbw6.trans (hb67.mono hbw6.size)).trans (hb8.mono (by have := hbw6.size; simp; omega))⟩
  · have hl' : decide ((8192 : Int) < (s.length : Int)) = true := by simp; omega
    unfold hdV
    go_enter Try.func4, Try.ntmps4
    go_wp2_with fail
    refine (works_any _).mono ?_
    rintro e w1 ⟨rfl, hb1⟩
    go_wp2_with fail
    go_ret
    exact ⟨rfl, ((Below.refl _ _).alloc (Nat.le_refl _) _).trans (hb1.mono (by simp))⟩
end Go.Proofs.Ytnfoahedkkamhaa
