/- Space: no pager. -/
import Derived.Test.YtgjcamcboacijaaGreatSpL
namespace Go.Proofs.YtgjcamcboacijaaGreat
open Go.RowKit Go.Maps
set_option linter.unusedVariables false
set_option linter.unusedSimpArgs false
set_option maxRecDepth 20000

theorem pready_nil (W : World) : Calls Tryz.prog 73 #[.pointer none] W fun e w' => e = .returned (.int .i64 1) ∧ w' = W := by
  go_enter Tryz.func73, Tryz.ntmps73
  go_wp2_with fail
  go_ret
  exact ⟨rfl, rfl⟩
theorem pbegin_nil (W : World) : Calls Tryz.prog 38 #[.pointer none] W fun e w' => e = .returned (.int .i64 1) ∧ w' = W := by
  go_enter Tryz.func38, Tryz.ntmps38
  go_wp2_with (first | (go_at_call 73; refine (pready_nil _).mono ?_; rintro e w1 ⟨rfl, hw⟩; obtain rfl := hw.symm) | go_in)
  go_ret
  exact ⟨rfl, rfl⟩
theorem sbegin_nil (W : World) : Calls Tryz.prog 14 #[.pointer none] W fun e w' => e = .returned (.int .i64 1) ∧ w' = W := by
  go_enter Tryz.func14, Tryz.ntmps14
  go_wp2_with (first | (go_at_call 38; refine (pbegin_nil _).mono ?_; rintro e w1 ⟨rfl, hw⟩; obtain rfl := hw.symm) | go_in)
  go_ret
  exact ⟨rfl, rfl⟩
set_option maxHeartbeats 4000000 in
set_option maxRecDepth 20000 in
theorem sread_nil (W : World) : Calls Tryz.prog 19 #[.pointer none] W fun e w' => e = .returned (.tuple #[.agg #[.int .i64 0, .int .i64 0, .int .u64 0, .int .i64 0, .int .i64 0, .int .i64 0, .int .i64 0, .int .i64 0, .int .i64 0, .int .i64 0, .int .i64 0], .int .i64 1]) ∧ Below W.heap.size W w' := by
  have hz := heap_alloc_new W (.cells #[.int .i64 0, .int .i64 0, .int .u64 0, .int .i64 0, .int .i64 0, .int .i64 0, .int .i64 0, .int .i64 0, .int .i64 0, .int .i64 0, .int .i64 0] 25)
  obtain ⟨⟨z0, z1, z2⟩, ⟨z3, z4, z5, z6, z7, z8, z9, z10⟩, zf⟩ := cells11 hz
  have HB := hid ((Below.refl W.heap.size W).alloc (Nat.le_refl _) (.cells #[.int .i64 0, .int .i64 0, .int .u64 0, .int .i64 0, .int .i64 0, .int .i64 0, .int .i64 0, .int .i64 0, .int .i64 0, .int .i64 0, .int .i64 0] 25))
  clear hz
  go_enter Tryz.func19, Tryz.ntmps19
  go_wp2_with fail
  refine bodyPost_ret (v := .tuple #[.agg #[.int .i64 0, .int .i64 0, .int .u64 0, .int .i64 0, .int .i64 0, .int .i64 0, .int .i64 0, .int .i64 0, .int .i64 0, .int .i64 0, .int .i64 0], .int .i64 1]) (by simp [results, Tryz.results19, go_sem, z0, z1, z2, z3, z4, z5, z6, z7, z8, z9, z10, zf]) rfl ⟨rfl, ?_⟩
  exact HB.out
set_option maxHeartbeats 4000000 in
set_option maxRecDepth 20000 in
theorem sready_nil (W : World) : Calls Tryz.prog 42 #[.pointer none] W fun e w' => e = .returned (.tuple #[.agg #[.int .i64 0, .int .i64 0, .int .u64 0, .int .i64 0, .int .i64 0, .int .i64 0, .int .i64 0, .int .i64 0, .int .i64 0, .int .i64 0, .int .i64 0], .int .i64 1]) ∧ Below W.heap.size W w' := by
  have hz := heap_alloc_new W (.cells #[.int .i64 0, .int .i64 0, .int .u64 0, .int .i64 0, .int .i64 0, .int .i64 0, .int .i64 0, .int .i64 0, .int .i64 0, .int .i64 0, .int .i64 0] 25)
  have HB := hid ((Below.refl W.heap.size W).alloc (Nat.le_refl _) (.cells #[.int .i64 0, .int .i64 0, .int .u64 0, .int .i64 0, .int .i64 0, .int .i64 0, .int .i64 0, .int .i64 0, .int .i64 0, .int .i64 0, .int .i64 0] 25))
  have Hz := hid hz
  clear hz
  go_enter Tryz.func42, Tryz.ntmps42
  go_upto_region 2 with (first
    | (go_at_call 19; refine (sread_nil _).mono ?_; rintro e w1 ⟨rfl, hb1⟩; have HB1 := hid (then_below HB.out hb1); have Hz1 := hid ((hb1.block _ (lt_of_block Hz.out)).trans Hz.out); clear hb1)
    | go_in)
  have hy := heap_alloc_new w1 (.cells #[.int .i64 0, .int .i64 0, .int .u64 0, .int .i64 0, .int .i64 0, .int .i64 0, .int .i64 0, .int .i64 0, .int .i64 0, .int .i64 0, .int .i64 0] 25)
  have hz2 : (w1.alloc (.cells #[.int .i64 0, .int .i64 0, .int .u64 0, .int .i64 0, .int .i64 0, .int .i64 0, .int .i64 0, .int .i64 0, .int .i64 0, .int .i64 0, .int .i64 0] 25)).heap[W.heap.size]? = _ := heap_alloc_old Hz1.out
  have HB2 := hid (HB1.out.alloc HB1.out.size (.cells #[.int .i64 0, .int .i64 0, .int .u64 0, .int .i64 0, .int .i64 0, .int .i64 0, .int .i64 0, .int .i64 0, .int .i64 0, .int .i64 0, .int .i64 0] 25))
  obtain ⟨yb, hyb⟩ : ∃ yb, yb = w1.heap.size := ⟨_, rfl⟩
  obtain ⟨zb, hzb⟩ : ∃ zb, zb = W.heap.size := ⟨_, rfl⟩
  have HzW := hid (show W.heap.size ≤ zb by omega)
  have HH := HB2.out
  obtain ⟨w2, hw2⟩ : ∃ w2, w2 = w1.alloc (.cells #[.int .i64 0, .int .i64 0, .int .u64 0, .int .i64 0, .int .i64 0, .int .i64 0, .int .i64 0, .int .i64 0, .int .i64 0, .int .i64 0, .int .i64 0] 25) := ⟨_, rfl⟩
  rw [← hw2, ← hyb] at hy
  rw [← hw2, ← hzb] at hz2
  rw [← hw2] at HH
  rw [← hw2, ← hyb, ← hzb]
  obtain ⟨⟨z0, z1, z2⟩, ⟨z3, z4, z5, z6, z7, z8, z9, z10⟩, zf⟩ := cells11 hz2
  obtain ⟨⟨y0, y1, y2⟩, ⟨y3, y4, y5, y6, y7, y8, y9, y10⟩, yf⟩ := cells11 hy
  have HH := hid HH
  clear hw2 hyb hzb hy hz2 HB HB1 HB2 Hz Hz1
  go_wp2_with fail
  refine bodyPost_ret (v := .tuple #[.agg #[.int .i64 0, .int .i64 0, .int .u64 0, .int .i64 0, .int .i64 0, .int .i64 0, .int .i64 0, .int .i64 0, .int .i64 0, .int .i64 0, .int .i64 0], .int .i64 1]) (by simp [results, Tryz.results42, go_sem, z0, z1, z2, z3, z4, z5, z6, z7, z8, z9, z10, zf]) rfl ⟨rfl, ?_⟩
  iterate 11 refine Below.setCell ?_ HzW.out _
  exact HH.out
set_option maxHeartbeats 4000000 in
set_option maxRecDepth 20000 in
theorem salloc_nil (W : World) : Calls Tryz.prog 15 #[.pointer none] W fun e w' => e = .returned (.tuple #[.int .i64 0, .int .i64 1]) ∧ Below W.heap.size W w' := by
  go_enter Tryz.func15, Tryz.ntmps15
  go_wp2_with (first
    | (go_at_call 42; refine (sready_nil _).mono ?_; rintro e w1 ⟨rfl, hb1⟩; have HB1 := hid hb1; clear hb1)
    | go_in)
  go_ret2
  exact ⟨rfl, HB1.out.alloc HB1.out.size _⟩
set_option maxHeartbeats 4000000 in
set_option maxRecDepth 20000 in
theorem sfree_nil (W : World) : Calls Tryz.prog 16 #[.pointer none, .int .i64 2] W fun e w' => e = .returned (.int .i64 1) ∧ Below W.heap.size W w' := by
  go_enter Tryz.func16, Tryz.ntmps16
  go_wp2_with (first
    | (go_at_call 42; refine (sready_nil _).mono ?_; rintro e w1 ⟨rfl, hb1⟩; have HB1 := hid hb1; clear hb1)
    | go_in)
  go_ret
  exact ⟨rfl, HB1.out.alloc HB1.out.size _⟩
set_option maxHeartbeats 4000000 in
set_option maxRecDepth 20000 in
theorem sroot_nil (W : World) : Calls Tryz.prog 17 #[.pointer none, .int .i64 0, .int .i64 0] W fun e w' => e = .returned (.int .i64 1) ∧ Below W.heap.size W w' := by
  go_enter Tryz.func17, Tryz.ntmps17
  go_wp2_with (first
    | (go_at_call 42; refine (sready_nil _).mono ?_; rintro e w1 ⟨rfl, hb1⟩; have HB1 := hid hb1; clear hb1)
    | go_in)
  go_ret
  exact ⟨rfl, HB1.out.alloc HB1.out.size _⟩
set_option maxHeartbeats 4000000 in
set_option maxRecDepth 20000 in
theorem scommit_nil (W : World) : Calls Tryz.prog 18 #[.pointer none] W fun e w' => e = .returned (.int .i64 1) ∧ Below W.heap.size W w' := by
  go_enter Tryz.func18, Tryz.ntmps18
  go_wp2_with (first
    | (go_at_call 42; refine (sready_nil _).mono ?_; rintro e w1 ⟨rfl, hb1⟩; have HB1 := hid hb1; clear hb1)
    | go_in)
  go_ret
  exact ⟨rfl, HB1.out.alloc HB1.out.size _⟩
end Go.Proofs.YtgjcamcboacijaaGreat
