/- Units: no pager. -/
import Derived.Test.YtdinjghfjmmjoaaGreatUkA
namespace Go.Proofs.YtdinjghfjmmjoaaGreat
open Go.RowKit Go.Maps
set_option linter.unusedVariables false
set_option linter.unusedSimpArgs false
set_option maxRecDepth 20000

section
variable {w W : World}
theorem ready_nil (W : World) : Calls Tryz.prog 36 #[.pointer none] W fun e w' => e = .returned (.tuple #[.agg #[.int .i64 0, .int .i64 0, .int .u64 0, .int .i64 0, .int .i64 0, .int .i64 0, .int .i64 0, .int .i64 0, .int .i64 0, .int .i64 0, .int .i64 0], .int .i64 1]) ∧ Below W.heap.size W w' := by
  have hz := heap_alloc_new W (.cells #[.int .i64 0, .int .i64 0, .int .u64 0, .int .i64 0, .int .i64 0, .int .i64 0, .int .i64 0, .int .i64 0, .int .i64 0, .int .i64 0, .int .i64 0] 85)
  have hb := (Below.refl W.heap.size W).alloc (Nat.le_refl _) (.cells #[.int .i64 0, .int .i64 0, .int .u64 0, .int .i64 0, .int .i64 0, .int .i64 0, .int .i64 0, .int .i64 0, .int .i64 0, .int .i64 0, .int .i64 0] 85)
  have HB := hid hb
  obtain ⟨⟨z0, z1, z2⟩, ⟨z3, z4, z5, z6, z7, z8, z9, z10⟩, zf⟩ := cells11 hz
  clear hz hb
  go_enter Tryz.func36, Tryz.ntmps36
  go_wp2_with fail
  exact bodyPost_ret (v := .tuple #[.agg #[.int .i64 0, .int .i64 0, .int .u64 0, .int .i64 0, .int .i64 0, .int .i64 0, .int .i64 0, .int .i64 0, .int .i64 0, .int .i64 0, .int .i64 0], .int .i64 1]) (by simp [results, Tryz.results36, go_sem, z0, z1, z2, z3, z4, z5, z6, z7, z8, z9, z10, zf]) rfl ⟨rfl, HB.out⟩
theorem have_nil (W : World) : Calls Tryz.prog 14 #[.pointer none] W fun e w' => e = .returned (.tuple #[.int .u64 0, .int .i64 1]) ∧ Below W.heap.size W w' := by
  have RN := hid (ready_nil W)
  go_enter Tryz.func14, Tryz.ntmps14
  go_wp2_with (first
    | (go_at_call 36; refine (RN.out).mono ?_; rintro e w1 ⟨rfl, hb⟩; have HB := hid hb; clear hb)
    | go_in)
  go_ret2
  exact ⟨rfl, HB.out.alloc HB.out.size _⟩
theorem next_nil (W : World) (ep k : Int) : Calls Tryz.prog 10 #[.pointer none, .int .u64 ep, .int .u64 k] W fun e w' => (e = .returned (.tuple #[.agg #[.int .u8 0, .int .u64 0, .int .u64 0, .bool false, .int .i64 0, .slice none 0 0], .int .i64 1])) ∧ Below W.heap.size W w' := by
  have hz := heap_alloc_new W (.cells #[.int .u8 0, .int .u64 0, .int .u64 0, .bool false, .int .i64 0, .slice none 0 0] 31)
  have hb0 := (Below.refl W.heap.size W).alloc (Nat.le_refl _) (.cells #[.int .u8 0, .int .u64 0, .int .u64 0, .bool false, .int .i64 0, .slice none 0 0] 31)
  have hzl := lt_of_block hz
  have Hz := hid hz
  have HB0 := hid hb0
  have Hzl := hid hzl
  have RN := hid (fun W => ready_nil W)
  clear hz hb0 hzl
  go_enter Tryz.func10, Tryz.ntmps10
  go_wp2_with (first
    | (go_at_call 36; refine (RN.out _).mono ?_; rintro e w1 ⟨rfl, hb⟩; have HB := hid hb; have hsz : W.heap.size < w1.heap.size := Nat.lt_of_lt_of_le Hzl.out hb.size; obtain ⟨z0, z1, z2, z3, z4, z5, zf⟩ := cells6 ((hb.block W.heap.size Hzl.out).trans Hz.out); clear hb)
    | go_in)
  have h6 := heap_alloc_old (o := .cells #[.int .i64 0, .int .i64 0, .int .u64 0, .int .i64 0, .int .i64 0, .int .i64 0, .int .i64 0, .int .i64 0, .int .i64 0, .int .i64 0, .int .i64 0] 85) (heap_set6 ((HB.out.block W.heap.size Hzl.out).trans Hz.out) (.int .u8 0) (.int .u64 0) (.int .u64 0) (.bool false) (.int .i64 0) (.slice none 0 0))
  clear z0 z1 z2 z3 z4 z5 zf
  obtain ⟨z0, z1, z2, z3, z4, z5, zf⟩ := cells6 h6
  refine bodyPost_ret (v := .tuple #[.agg #[.int .u8 0, .int .u64 0, .int .u64 0, .bool false, .int .i64 0, .slice none 0 0], .int .i64 1]) (by simp [results, Tryz.results10, go_sem, z0, z1, z2, z3, z4, z5, zf]) rfl ⟨rfl, ?_⟩
  have hb6 : Below W.heap.size W ((((((w1.setCell ⟨W.heap.size, 0, none⟩ (.int .u8 0)).setCell ⟨W.heap.size, 1, none⟩ (.int .u64 0)).setCell ⟨W.heap.size, 2, none⟩ (.int .u64 0)).setCell ⟨W.heap.size, 3, none⟩ (.bool false)).setCell ⟨W.heap.size, 4, none⟩ (.int .i64 0)).setCell ⟨W.heap.size, 5, none⟩ (.slice none 0 0)) := by
    iterate 6 refine Below.setCell ?_ (by exact Nat.le_refl _) _
    exact HB0.out.trans (HB.out.mono HB0.out.size)
  exact hb6.alloc hb6.size _
theorem snap_nil (W : World) (ep : Int) : Calls Tryz.prog 15 #[.pointer none, .int .u64 ep] W fun e w' => (e = .returned (.tuple #[.agg #[.int .u8 0, .int .u64 0, .int .u64 0, .bool false, .int .i64 0, .slice none 0 0], .int .i64 1])) ∧ Below W.heap.size W w' := by
  have hz := heap_alloc_new W (.cells #[.int .u8 0, .int .u64 0, .int .u64 0, .bool false, .int .i64 0, .slice none 0 0] 31)
  have hb0 := (Below.refl W.heap.size W).alloc (Nat.le_refl _) (.cells #[.int .u8 0, .int .u64 0, .int .u64 0, .bool false, .int .i64 0, .slice none 0 0] 31)
  have hzl := lt_of_block hz
  have Hz := hid hz
  have HB0 := hid hb0
  have Hzl := hid hzl
  have RN := hid (fun W => ready_nil W)
  clear hz hb0 hzl
  go_enter Tryz.func15, Tryz.ntmps15
  go_wp2_with (first
    | (go_at_call 36; refine (RN.out _).mono ?_; rintro e w1 ⟨rfl, hb⟩; have HB := hid hb; have hsz : W.heap.size < w1.heap.size := Nat.lt_of_lt_of_le Hzl.out hb.size; obtain ⟨z0, z1, z2, z3, z4, z5, zf⟩ := cells6 ((hb.block W.heap.size Hzl.out).trans Hz.out); clear hb)
    | go_in)
  have h6 := heap_alloc_old (o := .cells #[.int .i64 0, .int .i64 0, .int .u64 0, .int .i64 0, .int .i64 0, .int .i64 0, .int .i64 0, .int .i64 0, .int .i64 0, .int .i64 0, .int .i64 0] 85) (heap_set6 ((HB.out.block W.heap.size Hzl.out).trans Hz.out) (.int .u8 0) (.int .u64 0) (.int .u64 0) (.bool false) (.int .i64 0) (.slice none 0 0))
  clear z0 z1 z2 z3 z4 z5 zf
  obtain ⟨z0, z1, z2, z3, z4, z5, zf⟩ := cells6 h6
  refine bodyPost_ret (v := .tuple #[.agg #[.int .u8 0, .int .u64 0, .int .u64 0, .bool false, .int .i64 0, .slice none 0 0], .int .i64 1]) (by simp [results, Tryz.results15, go_sem, z0, z1, z2, z3, z4, z5, zf]) rfl ⟨rfl, ?_⟩
  have hb6 : Below W.heap.size W ((((((w1.setCell ⟨W.heap.size, 0, none⟩ (.int .u8 0)).setCell ⟨W.heap.size, 1, none⟩ (.int .u64 0)).setCell ⟨W.heap.size, 2, none⟩ (.int .u64 0)).setCell ⟨W.heap.size, 3, none⟩ (.bool false)).setCell ⟨W.heap.size, 4, none⟩ (.int .i64 0)).setCell ⟨W.heap.size, 5, none⟩ (.slice none 0 0)) := by
    iterate 6 refine Below.setCell ?_ (by exact Nat.le_refl _) _
    exact HB0.out.trans (HB.out.mono HB0.out.size)
  exact hb6.alloc hb6.size _
theorem follow_nil (W : World) (k0 k1 k2 k4 : Int) (k3 : Bool) (ao : Option Addr) (n cap : Nat) : Calls Tryz.prog 12 #[.pointer none, .agg #[.int .u8 k0, .int .u64 k1, .int .u64 k2, .bool k3, .int .i64 k4, .slice ao n cap]] W fun e w' => e = .returned (.int .i64 1) ∧ Below W.heap.size W w' := by
  have hb1 := (Below.refl W.heap.size W).alloc (Nat.le_refl _) (.cells #[.pointer none] 22)
  have hb2 := hb1.alloc hb1.size (.cells #[.int .u8 k0, .int .u64 k1, .int .u64 k2, .bool k3, .int .i64 k4, .slice ao n cap] 31)
  have HB := hid hb2
  clear hb1 hb2
  go_enter Tryz.func12, Tryz.ntmps12
  go_wp2_with fail
  go_ret
  exact ⟨rfl, HB.out⟩
end
end Go.Proofs.YtdinjghfjmmjoaaGreat
