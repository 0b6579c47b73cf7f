/- The row of WalOpens, lifted: whatever comes in, WalOpens answers true, and what came in reads as it did. No condition. -/
import Derived.Test.YtioafhkblmebmaaWaZ
import Derived.Test.YtioafhkblmebmaaWbC
namespace Go.Proofs.Ytioafhkblmebmaa
open Go.ChangeShapes Go.WideShapes Go.ChangeAt Go.RowKit Go.Deep
set_option linter.unusedVariables false
set_option linter.unusedSimpArgs false

set_option maxHeartbeats 800000 in
set_option maxRecDepth 100000 in
theorem walOpens_lifted (os : Os) (started : os.Started) (H : Type) (enc : TypeId × Value → H) :
    ReturnsInHanded {} Try.checked os 5 .any (Rows.walOpensSpec.pre6 enc Try.prog Try.f5 Rows.walOpensRow.domain false) (Rows.walOpensSpec.post enc Try.prog Try.f5 false true false false) := by
  refine returnsInHanded_of_change (C := Try.checked) own started (by kernel_rfl) Try.func5
    (ChangeSpec.witness6 (enc := enc) (C := Try.checked) false ⟨#[], #[.slice none 0 0, .slice none 0 0, .agg #[.int .u64 0, .int .i64 0, .int .i64 0], .slice none 0 0], []⟩ 8 (by kernel_rfl) (by kernel_rfl) (by kernel_rfl) (by kernel_rfl)) ?_
  intro W base args ds gs before hval0 hW hcnd _
  have hval : ∀ (j : Nat) t v, Try.f5.params[j]? = some t → args[j]? = some v → Value.okWide Try.prog W .any base t v := hval0
  have hW' := hW
  obtain ⟨plcs, plcs2, hA0, hV, rfl, hfz, hnd⟩ := hW
  have hA : DataW.TrodAll enc Try.prog W 0 (fun _ => true) true Try.f5.params.toList args.toList ds plcs := hA0
  rw [Try.params5] at hA hval
  obtain ⟨rfl, rfl⟩ := trodVars_none hV
  have each := trod_each hA
  obtain ⟨v0, v1, v2, v3, rfl⟩ := args_four each.1
  obtain ⟨d0, d1, d2, d3, rfl⟩ := list_four (trod_ds hA)
  obtain ⟨za, rfl, ha, hac⟩ := open_bytes (hval 0 55 v0 rfl rfl) (each.2 0 55 v0 rfl rfl)
  obtain ⟨zb, rfl, hb, hbc⟩ := open_bytes (hval 1 55 v1 rfl rfl) (each.2 1 55 v1 rfl rfl)
  obtain ⟨zh, rfl⟩ := open_lhead (hval 2 57 v2 rfl rfl) (each.2 2 57 v2 rfl rfl)
  obtain ⟨zi, rfl, hi, hil⟩ := open_puts (hval 3 31 v3 rfl rfl) (each.2 3 31 v3 rfl rfl)
  clear hA0 hval0 each
  simp only [List.append_nil] at hW'
  have hlt : ∀ y ∈ plcs, y.block < W.heap.size := fun y hy => by simpa using hW'.lt y (by simpa using hy)
  refine (show Calls _ _ _ _ _ from opens_any W za.1 zb.1 zi.1 za.2.1 zb.2.1 zi.2.1 za.2.2 zb.2.2 zi.2.2 zh.1 zh.2.1 zh.2.2 ha hac hb hbc hi).mono fun e W' ⟨he, hb⟩ => ?_
  subst he
  exact ⟨_, rfl, _, _, _, [], _, [], hW', trodAll_mk1 (shut_bool Try.underlying4 _), below_all laidOut hb (by kernel_rfl) hA hlt, rfl, hb.frame _, fun h => by cases h⟩

/-- WalOpens: whatever comes in, true. No condition. -/
theorem walOpens_holds : Rows.WalOpensSaid :=
  OpenClaim.holds_of_wide 5 Try.f5 rfl rfl rfl rfl rfl rfl rfl ⟨rfl, rfl, rfl, rfl, rfl⟩ rfl rfl rfl rfl rfl (by kernel_rfl) Try.func5 (by kernel_rfl)
    (of_decide_eq_true (by kernel_rfl)) (by unfold Func.isWrapper; first | (rw [if_pos (by decide +kernel)]; kernel_rfl) | (rw [if_neg (by decide +kernel)]; exact ⟨rfl, rfl⟩))
    (fun os started H enc _ => walOpens_lifted os started H enc)

#print axioms walOpens_holds
end Go.Proofs.Ytioafhkblmebmaa
