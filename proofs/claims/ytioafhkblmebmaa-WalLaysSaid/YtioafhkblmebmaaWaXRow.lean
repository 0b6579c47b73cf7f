/- The row of WalLays, lifted: whatever comes in, WalLays answers true, and what came in reads as it did. No condition. -/
import Derived.Test.YtioafhkblmebmaaWaZ
import Derived.Test.YtioafhkblmebmaaWaX
namespace Go.Proofs.Ytioafhkblmebmaa
open Go.ChangeShapes Go.WideShapes Go.ChangeAt Go.RowKit Go.Deep
set_option linter.unusedVariables false
set_option linter.unusedSimpArgs false

set_option maxHeartbeats 800000 in
set_option maxRecDepth 100000 in
theorem walLays_lifted (os : Os) (started : os.Started) (H : Type) (enc : TypeId × Value → H) :
    ReturnsInHanded {} Try.checked os 3 .any (Rows.walLaysSpec.pre6 enc Try.prog Try.f3 Rows.walLaysRow.domain false) (Rows.walLaysSpec.post enc Try.prog Try.f3 false true false false) := by
  refine returnsInHanded_of_change (C := Try.checked) own started (by kernel_rfl) Try.func3
    (ChangeSpec.witness6 (enc := enc) (C := Try.checked) false ⟨#[], #[.slice none 0 0], []⟩ 8 (by kernel_rfl) (by kernel_rfl) (by kernel_rfl) (by kernel_rfl)) ?_
  intro W base args ds gs before hval0 hW hcnd _
  have hval : ∀ (j : Nat) t v, Try.f3.params[j]? = some t → args[j]? = some v → Value.okWide Try.prog W .any base t v := hval0
  have hW' := hW
  obtain ⟨plcs, plcs2, hA0, hV, rfl, hfz, hnd⟩ := hW
  have hA : DataW.TrodAll enc Try.prog W 0 (fun _ => true) true Try.f3.params.toList args.toList ds plcs := hA0
  rw [Try.params3] at hA hval
  obtain ⟨rfl, rfl⟩ := trodVars_none hV
  have each := trod_each hA
  obtain ⟨v0, rfl⟩ := args_one each.1
  obtain ⟨d0, rfl⟩ := list_one (trod_ds hA)
  obtain ⟨z, rfl, hz⟩ := open_script (hval 0 22 v0 rfl rfl) (each.2 0 22 v0 rfl rfl)
  clear hA0 hval0 each
  simp only [List.append_nil] at hW'
  have hlt : ∀ y ∈ plcs, y.block < W.heap.size := fun y hy => by simpa using hW'.lt y (by simpa using hy)
  refine (show Calls _ _ _ _ _ from lays_any W _ _ hz).mono fun e W' ⟨he, hb⟩ => ?_
  subst he
  exact ⟨_, rfl, _, _, _, [], _, [], hW', trodAll_mk1 (shut_bool Try.underlying4 _), below_all laidOut hb (by kernel_rfl) hA hlt, rfl, hb.frame _, fun h => by cases h⟩

/-- WalLays: whatever comes in, true. No condition. -/
theorem walLays_holds : Rows.WalLaysSaid :=
  OpenClaim.holds_of_wide 3 Try.f3 rfl rfl rfl rfl rfl rfl rfl ⟨rfl, rfl, rfl, rfl, rfl⟩ rfl rfl rfl rfl rfl (by kernel_rfl) Try.func3 (by kernel_rfl)
    (of_decide_eq_true (by kernel_rfl)) (by unfold Func.isWrapper; first | (rw [if_pos (by decide +kernel)]; kernel_rfl) | (rw [if_neg (by decide +kernel)]; exact ⟨rfl, rfl⟩))
    (fun os started H enc _ => walLays_lifted os started H enc)

#print axioms walLays_holds
end Go.Proofs.Ytioafhkblmebmaa
