/- The row of FilesBack, lifted: whatever comes in, FilesBack answers true, and what came in reads as it did. No condition. -/
import Derived.Test.YtifgnhbbcpmaiaaDkV
import Derived.Test.YtifgnhbbcpmaiaaDlB
namespace Go.Proofs.Ytifgnhbbcpmaiaa
open Go.ChangeShapes Go.WideShapes Go.ChangeAt Go.RowKit Go.Deep
set_option linter.unusedVariables false
set_option linter.unusedSimpArgs false

set_option maxHeartbeats 800000 in
set_option maxRecDepth 100000 in
theorem filesBack_lifted (os : Os) (started : os.Started) (H : Type) (enc : TypeId × Value → H) :
    ReturnsInHanded {} Try.checked os 5 .any (Rows.filesBackSpec.pre6 enc Try.prog Try.f5 Rows.filesBackRow.domain false) (Rows.filesBackSpec.post enc Try.prog Try.f5 false true false false) := by
  refine returnsInHanded_of_change (C := Try.checked) own started (by kernel_rfl) Try.func5
    (ChangeSpec.witness6 (enc := enc) (C := Try.checked) false ⟨#[], #[.slice none 0 0, .agg #[.int .i64 0, .int .i64 0, .int .i64 0, .int .i64 0, .int .u8 0, .string ⟨#[]⟩, .slice none 0 0], .int .i64 0], []⟩ 8 (by kernel_rfl) (by kernel_rfl) (by kernel_rfl) (by kernel_rfl)) ?_
  intro W base args ds gs before hval0 hW hcnd _
  have hval : ∀ (j : Nat) t v, Try.f5.params[j]? = some t → args[j]? = some v → Value.okWide Try.prog W .any base t v := hval0
  have hW' := hW
  obtain ⟨plcs, plcs2, hA0, hV, rfl, hfz, hnd⟩ := hW
  have hA : DataW.TrodAll enc Try.prog W 0 (fun _ => true) true Try.f5.params.toList args.toList ds plcs := hA0
  rw [Try.params5] at hA hval
  obtain ⟨rfl, rfl⟩ := trodVars_none hV
  have each := trod_each hA
  obtain ⟨v0, v1, v2, rfl⟩ := args_three each.1
  obtain ⟨d0, d1, d2, rfl⟩ := list_three (trod_ds hA)
  obtain ⟨z, rfl, hz⟩ := open_ops (hval 0 22 v0 rfl rfl) (each.2 0 22 v0 rfl rfl)
  obtain ⟨y, rfl, hy⟩ := open_op (hval 1 34 v1 rfl rfl) (each.2 1 34 v1 rfl rfl)
  obtain ⟨f, rfl, hf⟩ := open_i64 (hval 2 3 v2 rfl rfl) (each.2 2 3 v2 rfl rfl)
  clear hA0 hval0 each
  simp only [List.append_nil] at hW'
  have hlt : ∀ y ∈ plcs, y.block < W.heap.size := fun y hy => by simpa using hW'.lt y (by simpa using hy)
  refine (show Calls _ _ _ _ _ from back_any W hz hy f hf).mono fun e W' ⟨he, hb⟩ => ?_
  subst he
  exact ⟨_, rfl, _, _, _, [], _, [], hW', trodAll_mk1 (shut_bool Try.underlying4 _), below_all laidOut hb (by kernel_rfl) hA hlt, rfl, hb.frame _, fun h => by cases h⟩

/-- FilesBack: whatever comes in, true. No condition. -/
theorem filesBack_holds : Rows.FilesBackSaid :=
  OpenClaim.holds_of_wide 5 Try.f5 rfl rfl rfl rfl rfl rfl rfl ⟨rfl, rfl, rfl, rfl, rfl⟩ rfl rfl rfl rfl rfl (by kernel_rfl) Try.func5 (by kernel_rfl)
    (of_decide_eq_true (by kernel_rfl)) (by unfold Func.isWrapper; first | (rw [if_pos (by decide +kernel)]; kernel_rfl) | (rw [if_neg (by decide +kernel)]; exact ⟨rfl, rfl⟩))
    (fun os started H enc _ => filesBack_lifted os started H enc)

#print axioms filesBack_holds
end Go.Proofs.Ytifgnhbbcpmaiaa
