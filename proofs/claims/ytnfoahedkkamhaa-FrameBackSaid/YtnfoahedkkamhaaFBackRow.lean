/- The row of FrameBack, lifted: for every two pairs, two salts, every frame and every string that may come in, FrameBack answers true, and what came in reads as it did. No condition. -/
import Derived.Test.YtnfoahedkkamhaaFrO
import Derived.Test.YtnfoahedkkamhaaFBack
namespace Go.Proofs.Ytnfoahedkkamhaa
open Go.ChangeShapes Go.WideShapes Go.ChangeAt Go.RowKit Go.Deep
set_option linter.unusedVariables false
set_option linter.unusedSimpArgs false

set_option maxHeartbeats 800000 in
set_option maxRecDepth 100000 in
theorem frameBack_lifted (os : Os) (started : os.Started) (H : Type) (enc : TypeId × Value → H) :
    ReturnsInHanded {} Try.checked os 7 .any (Rows.frameBackSpec.pre6 enc Try.prog Try.f7 Rows.frameBackRow.domain false) (Rows.frameBackSpec.post enc Try.prog Try.f7 false true false false) := by
  refine returnsInHanded_of_change (C := Try.checked) own started (by kernel_rfl) Try.func7
    (ChangeSpec.witness6 (enc := enc) (C := Try.checked) false ⟨#[], #[.agg #[.int .u32 0, .int .u32 0], .agg #[.int .u32 0, .int .u32 0], .int .u64 0, .int .u64 0, .agg #[.int .i64 0, .int .i64 0, .string ⟨#[]⟩], .string ⟨#[]⟩], []⟩ 8 (by kernel_rfl) (by kernel_rfl) (by kernel_rfl) (by kernel_rfl)) ?_
  intro W base args ds gs before hval0 hW hcnd _
  have hval : ∀ (j : Nat) t v, Try.f7.params[j]? = some t → args[j]? = some v → Value.okWide Try.prog W .any base t v := hval0
  have hW' := hW
  obtain ⟨plcs, plcs2, hA0, hV, rfl, hfz, hnd⟩ := hW
  have hA : DataW.TrodAll enc Try.prog W 0 (fun _ => true) true Try.f7.params.toList args.toList ds plcs := hA0
  rw [Try.params7] at hA hval
  obtain ⟨rfl, rfl⟩ := trodVars_none hV
  have each := trod_each hA
  obtain ⟨v0, v1, v2, v3, v4, v5, rfl⟩ := args_six each.1
  obtain ⟨d0, d1, d2, d3, d4, d5, rfl⟩ := list_six (trod_ds hA)
  obtain ⟨p, rfl, hp⟩ := open_pair (hval 0 33 v0 rfl rfl) (each.2 0 33 v0 rfl rfl)
  obtain ⟨other, rfl, ho⟩ := open_pair (hval 1 33 v1 rfl rfl) (each.2 1 33 v1 rfl rfl)
  obtain ⟨salt, rfl, hs⟩ := open_u64 (hval 2 25 v2 rfl rfl) (each.2 2 25 v2 rfl rfl)
  obtain ⟨wrong, rfl, hw⟩ := open_u64 (hval 3 25 v3 rfl rfl) (each.2 3 25 v3 rfl rfl)
  obtain ⟨f, rfl, hf⟩ := open_fr (hval 4 37 v4 rfl rfl) (each.2 4 37 v4 rfl rfl)
  obtain ⟨more, rfl, hm⟩ := open_str (hval 5 9 v5 rfl rfl) (each.2 5 9 v5 rfl rfl)
  clear hA0 hval0 each
  simp only [List.append_nil] at hW'
  have hlt : ∀ y ∈ plcs, y.block < W.heap.size := fun y hy => by simpa using hW'.lt y (by simpa using hy)
  refine (show Calls _ _ _ _ _ from fback_any p other salt wrong f more W hp ho hs.1 hs.2 hw.1 hw.2 hf hm).mono fun e W' ⟨he, hb⟩ => ?_
  subst he
  exact ⟨_, rfl, _, _, _, [], _, [], hW', trodAll_mk1 (shut_bool Try.underlying4 _), below_all laidOut hb (by kernel_rfl) hA hlt, rfl, hb.frame _, fun h => by cases h⟩

/-- FrameBack: for every two pairs, two salts, every frame and every string that may come in, true. No condition. -/
theorem frameBack_holds : Rows.FrameBackSaid :=
  OpenClaim.holds_of_wide 7 Try.f7 rfl rfl rfl rfl rfl rfl rfl ⟨rfl, rfl, rfl, rfl, rfl⟩ rfl rfl rfl rfl rfl (by kernel_rfl) Try.func7 (by kernel_rfl)
    (of_decide_eq_true (by kernel_rfl)) (by unfold Func.isWrapper; first | (rw [if_pos (by decide +kernel)]; kernel_rfl) | (rw [if_neg (by decide +kernel)]; exact ⟨rfl, rfl⟩))
    (fun os started H enc _ => frameBack_lifted os started H enc)

#print axioms frameBack_holds
end Go.Proofs.Ytnfoahedkkamhaa
