/- The law FrameHeadBack, walked. -/
import Derived.Test.YtnfoahedkkamhaaFrX
namespace Go.Proofs.Ytnfoahedkkamhaa
open Go.RowKit
set_option linter.unusedVariables false
set_option linter.unusedSimpArgs false

theorem start_bool {n m : Int} (n0 : 0 ≤ n) (n1 : n < 18446744073709551616) (m0 : 0 ≤ m) (m1 : m < 18446744073709551616) :
    ∃ b : Bool, ((startP n).1 == (startP m).1 && (startP n).2 == (startP m).2) = b ∧ (n == m) = b := by
  by_cases h : n = m
  · subst h
    exact ⟨true, by simp, by simp⟩
  · refine ⟨false, ?_, by simpa using h⟩
    rw [Bool.eq_false_iff]
    intro hh
    simp only [Bool.and_eq_true, beq_iff_eq] at hh
    exact h ((startP_inj n0 n1 m0 m1).1 (Prod.ext hh.1 hh.2))

set_option maxHeartbeats 4000000 in
set_option maxRecDepth 100000 in
theorem headBack_any (h g : Hd) (more : List UInt8) (w : World) (hw : HdWf h) (gw : HdWf g) (hl : more.length ≤ 9223372036854775807) :
    Calls Try.prog 9 #[hdV h, hdV g, .string (bs more)] w fun e w' => e = .returned (.bool true) ∧ Below w.heap.size w w' := by
  have P := fun W => putHead_any h W hw
  have S1 := fun W => start_any h.number W hw.1 hw.2
  have S2 := fun W => start_any g.number W gw.1 gw.2
  obtain ⟨b, hb1, hb2⟩ := start_bool hw.1 hw.2 gw.1 gw.2
  obtain ⟨q1, hq1⟩ : ∃ q, q = startP h.number := ⟨_, rfl⟩
  obtain ⟨q2, hq2⟩ : ∃ q, q = startP g.number := ⟨_, rfl⟩
  rw [← hq1, ← hq2] at hb1
  simp only [← hq1] at S1
  simp only [← hq2] at S2
  clear hq1 hq2
  unfold pairV at S1 S2
  by_cases hlen : more.length ≤ 8192
  · have hl' : decide ((8192 : Int) < (more.length : Int)) = false := by simp; omega
    have x2 := eql_pair
    have x3 := neq_hd
    have g1 := guard_pair
    have g2 := guard_hd
    have fin : ∀ (w1 w2 : World), Below w1.heap.size w1 w2 → True := fun _ _ _ => trivial
    cases hm : hdMay h
    · have er : hdR h = ([], 2) := by unfold hdR; rw [hm]; rfl
      simp only [er] at P
      have B1 := hid P
      have B2 := hid S1
      have B3 := hid S2
      clear P S1 S2 er hm hw gw hl
      obtain ⟨n, f, p⟩ := h
      obtain ⟨n', f', p'⟩ := g
      simp only at hb2
      unfold hdV at *
      simp only at B1 B2 B3
      go_enter Try.func9, Try.ntmps9
      go_wp2_with fail
      refine (works_any _).mono ?_
      rintro e w1 ⟨rfl, hb1'⟩
      have hH := hid ((hb1'.block w.heap.size (by simp; omega)).trans (heap_two_old w _ _))
      have hG := hid ((hb1'.block (w.heap.size + 1) (by simp)).trans (heap_two_new w _ _))
      have hbw : Below w.heap.size w w1 := (((Below.refl _ _).alloc (Nat.le_refl _) _).alloc (by simp) _).trans (hb1'.mono (by simp; omega))
      obtain ⟨a0, a1, a2, af⟩ := cells3 hH.out
      clear hb1'
      go_wp2_with fail
      refine (B1.out _).mono ?_
      rintro e w2 ⟨rfl, hb2'⟩
      have hbw2 := hbw.trans (hb2'.mono hbw.size)
      obtain ⟨c0, c1, c2, cf⟩ := cells3 ((hb2'.block w.heap.size (lt_of_block hH.out)).trans hH.out)
      obtain ⟨d0, d1, d2, df⟩ := cells3 ((hb2'.block (w.heap.size + 1) (lt_of_block hG.out)).trans hG.out)
      have c0 := fun d os => cell_regrown c0 d os
      have d0 := fun d os => cell_regrown d0 d os
      clear a0 a1 a2 af c1 c2 cf d1 d2 df hb2' hH hG
      go_wp2_with fail
      refine region_below (by kernel_rfl) (by kernel_rfl) ?_
      repeat (go_big_quiet_step ((go_at_call 19; first | with_reducible exact Calls.regrown_of (B2.out _) | with_reducible exact Calls.regrown_of (B3.out _))))
      refine wpQuiet_nil ?_
      intro w3 hb3
      clear c0 d0
      go_wp2_with fail
      go_ret
      exact ⟨ret_bool (by simp [hb2]), hbw2.trans (hb3.mono hbw2.size)⟩
    · have er : hdR h = (hdL h, 0) := by unfold hdR; rw [hm]; rfl
      simp only [er] at P
      have hLl := hdL_length h
      have T := fun W => takeHead_any (hdL h ++ more) W (by rw [List.length_append]; omega)
      have et := tkHd_put h more hm hw
      simp only [et] at T
      obtain ⟨L, hL⟩ : ∃ L, L = hdL h := ⟨_, rfl⟩
      simp only [← hL] at P T hLl
      have B1 := hid P
      have B2 := hid S1
      have B3 := hid S2
      have B4 := hid T
      clear P S1 S2 T er et hm hw gw hL
      obtain ⟨n, f, p⟩ := h
      obtain ⟨n', f', p'⟩ := g
      simp only at hb2
      unfold hdV at *
      simp only at B1 B2 B3 B4
      have hll : ((L.length : Int) == 64) = true := by simp; omega
      have hsum : L.length + more.length ≤ 9223372036854775807 := by omega
      clear hLl
      go_enter Try.func9, Try.ntmps9
      go_wp2_with fail
      refine (works_any _).mono ?_
      rintro e w1 ⟨rfl, hb1'⟩
      have hH := hid ((hb1'.block w.heap.size (by simp; omega)).trans (heap_two_old w _ _))
      have hG := hid ((hb1'.block (w.heap.size + 1) (by simp)).trans (heap_two_new w _ _))
      have hbw : Below w.heap.size w w1 := (((Below.refl _ _).alloc (Nat.le_refl _) _).alloc (by simp) _).trans (hb1'.mono (by simp; omega))
      obtain ⟨a0, a1, a2, af⟩ := cells3 hH.out
      clear hb1'
      go_wp2_with fail
      refine (B1.out _).mono ?_
      rintro e w2 ⟨rfl, hb2'⟩
      have hbw2 := hbw.trans (hb2'.mono hbw.size)
      have hH2 := hid ((hb2'.block w.heap.size (lt_of_block hH.out)).trans hH.out)
      have hG2 := hid ((hb2'.block (w.heap.size + 1) (lt_of_block hG.out)).trans hG.out)
      clear a0 a1 a2 af hb2' hH hG B1
      go_wp2_with fail
      refine (B4.out _).mono ?_
      rintro e w3 ⟨rfl, hb3'⟩
      have hbw3 := hbw2.trans (hb3'.mono hbw2.size)
      have hH3 := (hb3'.block w.heap.size (lt_of_block hH2.out)).trans hH2.out
      have hG3 := (hb3'.block (w.heap.size + 1) (lt_of_block hG2.out)).trans hG2.out
      have l3 := lt_of_block hG3
      obtain ⟨c0, c1, c2, cf⟩ := cells3 hH3
      obtain ⟨d0, d1, d2, df⟩ := cells3 hG3
      clear hb3' hH2 hG2 B4 hH3 hG3
      have hb34 : Below w3.heap.size w3 (w3.alloc (.cells #[.int .u64 n, .int .i64 f, .int .i64 p] 27)) := (Below.refl _ _).alloc (Nat.le_refl _) _
      have C0 := fun d os => cell_regrown ((hb34.cell (p := ⟨w.heap.size, 0, none⟩) (by simp only; omega)).trans c0) d os
      have D0 := fun d os => cell_regrown ((hb34.cell (p := ⟨w.heap.size + 1, 0, none⟩) l3).trans d0) d os
      have l3' : w.heap.size < w3.heap.size := by omega
      go_wp2_with fail
      refine region_below (by kernel_rfl) (by kernel_rfl) ?_
      repeat (go_big_quiet_step ((go_at_call 19; first | with_reducible exact Calls.regrown_of (B2.out _) | with_reducible exact Calls.regrown_of (B3.out _))))
      refine wpQuiet_nil ?_
      intro w4 hb4
      clear C0 D0 c0 c1 c2 cf d0 d1 d2 df
      go_wp2_with fail
      go_ret
      exact ⟨ret_bool (by simp [hb2]), (hbw3.trans (hb34.mono hbw3.size)).trans (hb4.mono (by have := hbw3.size; simp; omega))⟩
  · have hl' : decide ((8192 : Int) < (more.length : Int)) = true := by simp; omega
    clear P S1 S2
    unfold hdV
    go_enter Try.func9, Try.ntmps9
    go_wp2_with fail
    refine (works_any _).mono ?_
    rintro e w1 ⟨rfl, hb1'⟩
    go_wp2_with fail
    go_ret
    exact ⟨rfl, (((Below.refl _ _).alloc (Nat.le_refl _) _).alloc (by simp) _).trans (hb1'.mono (by simp; omega))⟩
end Go.Proofs.Ytnfoahedkkamhaa
