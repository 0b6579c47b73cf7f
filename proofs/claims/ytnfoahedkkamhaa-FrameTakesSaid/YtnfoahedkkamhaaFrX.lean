/- works: that a head and a frame are put and taken. -/
import Derived.Test.YtnfoahedkkamhaaFrW
namespace Go.Proofs.Ytnfoahedkkamhaa
open Go.RowKit
set_option linter.unusedVariables false
set_option linter.unusedSimpArgs false

set_option maxHeartbeats 4000000 in
set_option maxRecDepth 100000 in
theorem works_any (w : World) : Calls Try.prog 15 #[] w fun e w' => e = .returned (.bool true) ∧ Below w.heap.size w w' := by
  have A1 := fun W => putHead_yes hd7 W (by decide) (by unfold HdWf hd7; decide)
  have A2 := fun W => takeHead_any (hdL hd7) W (by rw [hdL_length]; decide)
  have e2 : tkHd (hdL hd7) = (hd7, 0) := by have := tkHd_put hd7 [] (by decide) (by unfold HdWf hd7; decide); rwa [List.append_nil] at this
  simp only [e2] at A2
  have A3 := fun W => start_any 7 W (by decide) (by decide)
  have A4 := page_x
  have A5 := fun W => putFr_yes (startP 7) 7 frX W (start_wf 7) (by decide) (by decide) frX_ok
  have A6 := fun W => takeFr_any (startP 7) 7 (frL (startP 7) 7 frX) W (start_wf 7) (by decide) (by decide) (by rw [frL_length _ _ _ (frOk_facts frX_ok).2.1]; decide)
  have e6 : tkFr (startP 7) 7 (frL (startP 7) 7 frX) = ⟨frX, frQ (startP 7) 7 frX, 0⟩ := by have := tkFr_put (startP 7) 7 frX [] frX_ok; rwa [List.append_nil] at this
  simp only [e6] at A6
  have ne := frX_other
  obtain ⟨s, hs⟩ : ∃ s, s = hdL hd7 := ⟨_, rfl⟩
  obtain ⟨t, ht⟩ : ∃ t, t = frL (startP 7) 7 frX := ⟨_, rfl⟩
  obtain ⟨q, hq⟩ : ∃ q, q = frQ (startP 7) 7 frX := ⟨_, rfl⟩
  obtain ⟨p, hp⟩ : ∃ p, p = startP 7 := ⟨_, rfl⟩
  simp only [← hs] at A1 A2
  simp only [← ht, ← hq] at A5 A6
  simp only [← hq] at ne
  simp only [← hp] at A3 A5 A6 ne
  have hne : (q.1 == p.1 && q.2 == p.2) = false := by
    rw [Bool.eq_false_iff]
    intro h
    simp only [Bool.and_eq_true, beq_iff_eq] at h
    exact ne (Prod.ext h.1 h.2)
  unfold hdV hd7 at A1 A2
  unfold frV frX pairV at A5 A6
  unfold pairV at A3
  simp only at A1 A2 A5 A6
  have B1 := hid A1
  have B2 := hid A2
  have B3 := hid A3
  have B4 := hid A4
  have B5 := hid A5
  have B6 := hid A6
  clear A1 A2 A3 A4 A5 A6 e2 e6 hs ht hq hp ne
  have x1 := eql_hd
  have x2 := eql_pair
  have x3 := neq_pair
  have g1 := guard_pair
  have g2 := guard_hd
  go_enter Try.func15, Try.ntmps15
  go_wp2_with fail
  refine (B1.out _).mono ?_
  rintro e w1 ⟨rfl, hb1⟩
  have hH := hid ((hb1.block w.heap.size (by simp)).trans (heap_alloc_new _ _))
  have hbw1 : Below w.heap.size w w1 := ((Below.refl _ _).alloc (Nat.le_refl _) _).trans (hb1.mono (by simp))
  have hl1 := lt_of_block hH.out
  clear hb1 B1
  go_wp2_with fail
  refine (B2.out _).mono ?_
  rintro e w2 ⟨rfl, hb2⟩
  have hH2 := hid ((hb2.block w.heap.size hl1).trans hH.out)
  have hbw2 := hbw1.trans (hb2.mono hbw1.size)
  clear hb2 B2 hH
  go_wp2_with fail
  refine (B3.out _).mono ?_
  rintro e w3 ⟨rfl, hb3⟩
  have hG := hid ((hb3.block w2.heap.size (by simp)).trans (heap_alloc_new _ _))
  have hb23 : Below w2.heap.size w2 w3 := ((Below.refl _ _).alloc (Nat.le_refl _) _).trans (hb3.mono (by simp))
  have hH3 := hid ((hb23.block w.heap.size (lt_of_block hH2.out)).trans hH2.out)
  have hbw3 := hbw2.trans (hb23.mono hbw2.size)
  clear hb3 hb23 hH2
  go_wp2_with fail
  refine (B4.out _).mono ?_
  rintro e w4 ⟨rfl, hb4⟩
  have hbw4 := hbw3.trans (hb4.mono hbw3.size)
  go_wp2_with fail
  refine (B5.out _).mono ?_
  rintro e w5 ⟨rfl, hb5⟩
  have hb35 := hb4.trans (hb5.mono hb4.size)
  have hH5 := hid ((hb35.block w.heap.size (lt_of_block hH3.out)).trans hH3.out)
  have hG5 := hid ((hb35.block w2.heap.size (lt_of_block hG.out)).trans hG.out)
  have hbw5 := hbw4.trans (hb5.mono hbw4.size)
  clear hb4 hb5 hb35 hH3 hG B5
  go_wp2_with fail
  refine (B3.out _).mono ?_
  rintro e w6 ⟨rfl, hb6⟩
  go_wp2_with fail
  refine (B6.out _).mono ?_
  rintro e w7 ⟨rfl, hb7⟩
  have hb67 := hb6.trans (hb7.mono hb6.size)
  have hP7 := hid ((hb67.block w5.heap.size (by simp)).trans (heap_alloc_new _ _))
  have hb57 : Below w5.heap.size w5 w7 := ((Below.refl _ _).alloc (Nat.le_refl _) _).trans (hb67.mono (by simp))
  have hH7 := hid ((hb57.block w.heap.size (lt_of_block hH5.out)).trans hH5.out)
  have hG7 := hid ((hb57.block w2.heap.size (lt_of_block hG5.out)).trans hG5.out)
  have hbw7 := hbw5.trans (hb57.mono hbw5.size)
  have l1 := lt_of_block hH7.out
  have l2 := lt_of_block hG7.out
  have l3 := lt_of_block hP7.out
  clear hb6 hb7 hb67 hb57 hH5 hG5 B6
  obtain ⟨a0, a1, a2, af⟩ := cells3 hH7.out
  obtain ⟨b0, b1, b2, bf⟩ := cells3 hG7.out
  obtain ⟨c0, c1, cf⟩ := cells2 hP7.out
  clear hH7 hG7 hP7 af bf cf
  go_upto_region 6 with fail
  have hb78 : Below w7.heap.size w7 ((w7.alloc (.cells #[.int .i64 1, .int .i64 0, .string (bs pageX)] 37)).alloc (.cells #[.int .u32 q.1, .int .u32 q.2] 33)) := ((Below.refl _ _).alloc (Nat.le_refl _) _).alloc (by simp) _
  have a0 := fun d os => cell_regrown ((hb78.cell (p := ⟨w.heap.size, 0, none⟩) l1).trans a0) d os
  have a1 := fun d os => cell_regrown ((hb78.cell (p := ⟨w.heap.size, 1, none⟩) l1).trans a1) d os
  have a2 := fun d os => cell_regrown ((hb78.cell (p := ⟨w.heap.size, 2, none⟩) l1).trans a2) d os
  have b0 := fun d os => cell_regrown ((hb78.cell (p := ⟨w2.heap.size, 0, none⟩) l2).trans b0) d os
  have b1 := fun d os => cell_regrown ((hb78.cell (p := ⟨w2.heap.size, 1, none⟩) l2).trans b1) d os
  have b2 := fun d os => cell_regrown ((hb78.cell (p := ⟨w2.heap.size, 2, none⟩) l2).trans b2) d os
  have c0 := fun d os => cell_regrown ((hb78.cell (p := ⟨w5.heap.size, 0, none⟩) l3).trans c0) d os
  have c1 := fun d os => cell_regrown ((hb78.cell (p := ⟨w5.heap.size, 1, none⟩) l3).trans c1) d os
  obtain ⟨f0, f1, f2, ff⟩ := cells3 (heap_two_old w7 (.cells #[.int .i64 1, .int .i64 0, .string (bs pageX)] 37) (.cells #[.int .u32 q.1, .int .u32 q.2] 33))
  obtain ⟨p0, p1, pf⟩ := cells2 (heap_two_new w7 (.cells #[.int .i64 1, .int .i64 0, .string (bs pageX)] 37) (.cells #[.int .u32 q.1, .int .u32 q.2] 33))
  have f2 := fun d os => cell_regrown f2 d os
  have p0 := fun d os => cell_regrown p0 d os
  have p1 := fun d os => cell_regrown p1 d os
  clear f0 f1 ff pf
  refine region_below (by kernel_rfl) (by kernel_rfl) ?_
  repeat (go_big_quiet_step ((first | (go_at_call 12; with_reducible exact Calls.regrown_of (B4.out _)) | (go_at_call 19; with_reducible exact Calls.regrown_of (B3.out _)))))
  refine wpQuiet_nil ?_
  intro w9 hb9
  clear a0 a1 a2 b0 b1 b2 c0 c1 f2 p0 p1
  go_wp2_with fail
  go_ret
  exact ⟨rfl, (hbw7.trans (hb78.mono hbw7.size)).trans (hb9.mono (by have := hbw7.size; simp; omega))⟩
end Go.Proofs.Ytnfoahedkkamhaa
