/- The row of ReplicaTrails, lifted: whatever letters come to one that trails: each answer, and its database, is the document's, ReplicaTrails answers true, and what came in reads as it did. No condition. -/
import Derived.Test.YtcpejlmnplkbaaaGreatRnR
import Derived.Test.YtcpejlmnplkbaaaGreatRnQ
namespace Go.Proofs.YtcpejlmnplkbaaaGreat
open Go.ChangeShapes Go.WideShapes Go.ChangeAt Go.RowKit Go.Deep
set_option linter.unusedVariables false
set_option linter.unusedSimpArgs false
set_option maxRecDepth 20000

set_option maxHeartbeats 800000 in
set_option maxRecDepth 100000 in
theorem replicaTrails_lifted (os : Os) (started : os.Started) (H : Type) (enc : TypeId × Value → H) :
    ReturnsInHanded {} Tryz.checked os 5 .any (Rows.replicaTrailsSpec.pre6 enc Tryz.prog Tryz.f5 Rows.replicaTrailsRow.domain false) (Rows.replicaTrailsSpec.post enc Tryz.prog Tryz.f5 false true false false) := by
  refine returnsInHanded_of_change (C := Tryz.checked) own started (by kernel_rfl) Tryz.func5
    (ChangeSpec.witness6 (enc := enc) (C := Tryz.checked) false ⟨#[], #[.slice none 0 0], []⟩ 8 (by kernel_rfl) (by kernel_rfl) (by kernel_rfl) (by kernel_rfl)) ?_
  intro W base args ds gs before hval0 hW hcnd _
  have hval : ∀ (j : Nat) t v, Tryz.f5.params[j]? = some t → args[j]? = some v → Value.okWide Tryz.prog W .any base t v := hval0
  have hW' := hW
  obtain ⟨plcs, plcs2, hA0, hV, rfl, hfz, hnd⟩ := hW
  have hA : DataW.TrodAll enc Tryz.prog W 0 (fun _ => true) true Tryz.f5.params.toList args.toList ds plcs := hA0
  rw [Tryz.params5] at hA hval
  obtain ⟨rfl, rfl⟩ := trodVars_none hV
  have each := trod_each hA
  obtain ⟨v0, rfl⟩ := args_one each.1
  obtain ⟨d0, rfl⟩ := list_one (trod_ds hA)
  obtain ⟨a1, rfl, g1⟩ := open_strs (hval 0 57 v0 rfl rfl) (each.2 0 57 v0 rfl rfl)
  clear hA0 hval0 each
  simp only [List.append_nil] at hW'
  have hlt : ∀ y ∈ plcs, y.block < W.heap.size := fun y hy => by simpa using hW'.lt y (by simpa using hy)
  refine (show Calls _ _ _ _ _ from rtrails_any W _ _ g1).mono fun e W' ⟨he, hb⟩ => ?_
  subst he
  exact ⟨_, rfl, _, _, _, [], _, [], hW', trodAll_mk1 (shut_bool Tryz.underlying4 _), below_all laidOut hb (by kernel_rfl) hA hlt, rfl, hb.frame _, fun h => by cases h⟩

/-- ReplicaTrails: whatever letters come to one that trails: each answer, and its database, is the document's, true. No condition. -/
theorem replicaTrails_holds : Rows.ReplicaTrailsSaid :=
  OpenClaim.holds_of_wide 5 Tryz.f5 rfl rfl rfl rfl rfl rfl rfl ⟨rfl, rfl, rfl, rfl, rfl⟩ rfl rfl rfl rfl rfl (by kernel_rfl) Tryz.func5 (by kernel_rfl)
    (of_decide_eq_true (by kernel_rfl)) (by unfold Func.isWrapper; first | (rw [if_pos (by decide +kernel)]; kernel_rfl) | (rw [if_neg (by decide +kernel)]; exact ⟨rfl, rfl⟩))
    (fun os started H enc _ => replicaTrails_lifted os started H enc)

#print axioms replicaTrails_holds
end Go.Proofs.YtcpejlmnplkbaaaGreat
