/- The row of WalMarks, lifted: whatever comes in, WalMarks answers true, and what came in reads as it did. No condition. -/
import Derived.Test.YtioafhkblmebmaaWaZ
import Derived.Test.YtioafhkblmebmaaWbB
namespace Go.Proofs.Ytioafhkblmebmaa
open Go.ChangeShapes Go.WideShapes Go.ChangeAt Go.RowKit Go.Deep
set_option linter.unusedVariables false
set_option linter.unusedSimpArgs false

set_option maxHeartbeats 800000 in
set_option maxRecDepth 100000 in
theorem walMarks_lifted (os : Os) (started : os.Started) (H : Type) (enc : TypeId × Value → H) :
    ReturnsInHanded {} Try.checked os 4 .any (Rows.walMarksSpec.pre6 enc Try.prog Try.f4 Rows.walMarksRow.domain false) (Rows.walMarksSpec.post enc Try.prog Try.f4 false true false false) := by
  refine returnsInHanded_of_change (C := Try.checked) own started (by kernel_rfl) Try.func4
    (ChangeSpec.witness6 (enc := enc) (C := Try.checked) false ⟨#[], #[.slice none 0 0, .int .i64 0], []⟩ 8 (by kernel_rfl) (by kernel_rfl) (by kernel_rfl) (by kernel_rfl)) ?_
  intro W base args ds gs before hval0 hW hcnd _
  have hval : ∀ (j : Nat) t v, Try.f4.params[j]? = some t → args[j]? = some v → Value.okWide Try.prog W .any base t v := hval0
  have hW' := hW
  obtain ⟨plcs, plcs2, hA0, hV, rfl, hfz, hnd⟩ := hW
  have hA : DataW.TrodAll enc Try.prog W 0 (fun _ => true) true Try.f4.params.toList args.toList ds plcs := hA0
  rw [Try.params4] at hA hval
  obtain ⟨rfl, rfl⟩ := trodVars_none hV
  have each := trod_each hA
  obtain ⟨v0, v1, rfl⟩ := args_two each.1
  obtain ⟨d0, d1, rfl⟩ := list_two (trod_ds hA)
  obtain ⟨z, rfl, hz⟩ := open_script (hval 0 22 v0 rfl rfl) (each.2 0 22 v0 rfl rfl)
  obtain ⟨f, rfl, hf⟩ := open_i64 (hval 1 3 v1 rfl rfl) (each.2 1 3 v1 rfl rfl)
  clear hA0 hval0 each
  simp only [List.append_nil] at hW'
  have hlt : ∀ y ∈ plcs, y.block < W.heap.size := fun y hy => by simpa using hW'.lt y (by simpa using hy)
  refine (show Calls _ _ _ _ _ from marks_any W _ _ hz f hf).mono fun e W' ⟨he, hb⟩ => ?_
  subst he
  exact ⟨_, rfl, _, _, _, [], _, [], hW', trodAll_mk1 (shut_bool Try.underlying4 _), below_all laidOut hb (by kernel_rfl) hA hlt, rfl, hb.frame _, fun h => by cases h⟩

/-- WalMarks: whatever comes in, true. No condition. -/
theorem walMarks_holds : Rows.WalMarksSaid :=
  OpenClaim.holds_of_wide 4 Try.f4 rfl rfl rfl rfl rfl rfl rfl ⟨rfl, rfl, rfl, rfl, rfl⟩ rfl rfl rfl rfl rfl (by kernel_rfl) Try.func4 (by kernel_rfl)
    (of_decide_eq_true (by kernel_rfl)) (by unfold Func.isWrapper; first | (rw [if_pos (by decide +kernel)]; kernel_rfl) | (rw [if_neg (by decide +kernel)]; exact ⟨rfl, rfl⟩))
    (fun os started H enc _ => walMarks_lifted os started H enc)

#print axioms walMarks_holds
end Go.Proofs.Ytioafhkblmebmaa
