/- The row of UnitNext, lifted: for every script of commits and checkpoints, and every number of commits, UnitNext answers true, and what came in reads as it did. No condition. -/
import Derived.Test.YtdinjghfjmmjoaaGreatNxJ
set_option linter.unusedVariables false
set_option linter.unusedSimpArgs false
namespace Go.Proofs.YtdinjghfjmmjoaaGreat
open Go.ChangeShapes Go.WideShapes Go.ChangeAt Go.RowKit Go.Deep
set_option maxRecDepth 20000
theorem open_u64 {H : Type} {enc : TypeId × Value → H} {w : World} {base : Nat} {sp : Nat → Bool} {held : Bool} {b0 : Nat} {v : Value} (hval : Value.okWide Tryz.prog w .any b0 28 v) (h : ∃ d p, DataW.Trod enc Tryz.prog w base sp held 28 v d p) : ∃ n : Int, v = .int .u64 n ∧ 0 ≤ n ∧ n < 18446744073709551616 := by
  obtain ⟨d, p, h⟩ := h
  obtain ⟨n, rfl, _, _, hw⟩ := open_int Tryz.underlying28 hval h
  exact ⟨n, rfl, u64_wf hw⟩
set_option maxHeartbeats 800000 in
set_option maxRecDepth 100000 in
theorem unitNext_lifted (os : Os) (started : os.Started) (H : Type) (enc : TypeId × Value → H) :
    ReturnsInHanded {} Tryz.checked os 4 .any (Rows.unitNextSpec.pre6 enc Tryz.prog Tryz.f4 Rows.unitNextRow.domain false) (Rows.unitNextSpec.post enc Tryz.prog Tryz.f4 false true false false) := by
  refine returnsInHanded_of_change (C := Tryz.checked) own started (by kernel_rfl) Tryz.func4
    (ChangeSpec.witness6 (enc := enc) (C := Tryz.checked) false ⟨#[], #[.slice none 0 0, .int .u64 0], []⟩ 8 (by kernel_rfl) (by kernel_rfl) (by kernel_rfl) (by kernel_rfl)) ?_
  intro W base args ds gs before hval0 hW hcnd _
  have hval : ∀ (j : Nat) t v, Tryz.f4.params[j]? = some t → args[j]? = some v → Value.okWide Tryz.prog W .any base t v := hval0
  have hW' := hW
  obtain ⟨plcs, plcs2, hA0, hV, rfl, hfz, hnd⟩ := hW
  have hA : DataW.TrodAll enc Tryz.prog W 0 (fun _ => true) true Tryz.f4.params.toList args.toList ds plcs := hA0
  rw [Tryz.params4] at hA hval
  obtain ⟨rfl, rfl⟩ := trodVars_none hV
  have each := trod_each hA
  obtain ⟨v0, v1, rfl⟩ := args_two each.1
  obtain ⟨d0, d1, rfl⟩ := list_two (trod_ds hA)
  obtain ⟨a1, rfl, g1⟩ := open_turns (hval 0 43 v0 rfl rfl) (each.2 0 43 v0 rfl rfl)
  obtain ⟨k, rfl, k0, k1⟩ := open_u64 (hval 1 28 v1 rfl rfl) (each.2 1 28 v1 rfl rfl)
  clear hA0 hval0 each
  simp only [List.append_nil] at hW'
  have hlt : ∀ y ∈ plcs, y.block < W.heap.size := fun y hy => by simpa using hW'.lt y (by simpa using hy)
  refine (show Calls _ _ _ _ _ from unext_any W _ _ _ ⟨k0, k1⟩ g1).mono fun e W' ⟨he, hb⟩ => ?_
  subst he
  exact ⟨_, rfl, _, _, _, [], _, [], hW', trodAll_mk1 (shut_bool Tryz.underlying4 _), below_all laidOut hb (by kernel_rfl) hA hlt, rfl, hb.frame _, fun h => by cases h⟩
theorem unitNext_holds : Rows.UnitNextSaid :=
  OpenClaim.holds_of_wide 4 Tryz.f4 rfl rfl rfl rfl rfl rfl rfl ⟨rfl, rfl, rfl, rfl, rfl⟩ rfl rfl rfl rfl rfl (by kernel_rfl) Tryz.func4 (by kernel_rfl)
    (of_decide_eq_true (by kernel_rfl)) (by unfold Func.isWrapper; first | (rw [if_pos (by decide +kernel)]; kernel_rfl) | (rw [if_neg (by decide +kernel)]; exact ⟨rfl, rfl⟩))
    (fun os started H enc _ => unitNext_lifted os started H enc)
#print axioms unitNext_holds
end Go.Proofs.YtdinjghfjmmjoaaGreat
