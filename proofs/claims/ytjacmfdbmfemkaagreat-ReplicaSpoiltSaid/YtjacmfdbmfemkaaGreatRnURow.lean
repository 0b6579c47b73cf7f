/- The row of ReplicaSpoilt, lifted: a spoilt letter makes no difference to anybody: ReplicaSpoilt answers true, and what came in reads as it did. No condition. -/
import Derived.Test.YtjacmfdbmfemkaaGreatRnV
import Derived.Test.YtjacmfdbmfemkaaGreatRnU
set_option linter.unusedVariables false
set_option linter.unusedSimpArgs false
namespace Go.Proofs.YtjacmfdbmfemkaaGreat
open Go.ChangeShapes Go.WideShapes Go.ChangeAt Go.RowKit Go.Deep
set_option maxRecDepth 20000
set_option maxHeartbeats 800000 in
set_option maxRecDepth 100000 in
theorem replicaSpoilt_lifted (os : Os) (started : os.Started) (H : Type) (enc : TypeId × Value → H) :
  ReturnsInHanded {} Tryz.checked os 3 .any (Rows.replicaSpoiltSpec.pre6 enc Tryz.prog Tryz.f3 Rows.replicaSpoiltRow.domain false) (Rows.replicaSpoiltSpec.post enc Tryz.prog Tryz.f3 false true false false) := by
 refine returnsInHanded_of_change (C := Tryz.checked) own started (by kernel_rfl) Tryz.func3
  (ChangeSpec.witness6 (enc := enc) (C := Tryz.checked) false ⟨#[], #[.agg #[.int .u8 0, .int .u64 0, .int .u64 0, .bool false, .int .i64 0, .slice none 0 0], .int .i64 0, .int .i64 0, .int .u8 0], []⟩ 8 (by kernel_rfl) (by kernel_rfl) (by kernel_rfl) (by kernel_rfl)) ?_
 intro W base args ds gs before hval0 hW hcnd _
 have hval : ∀ (j : Nat) t v, Tryz.f3.params[j]? = some t → args[j]? = some v → Value.okWide Tryz.prog W .any base t v := hval0
 have hW' := hW
 obtain ⟨plcs, plcs2, hA0, hV, rfl, hfz, hnd⟩ := hW
 have hA : DataW.TrodAll enc Tryz.prog W 0 (fun _ => true) true Tryz.f3.params.toList args.toList ds plcs := hA0
 rw [Tryz.params3] at hA hval
 obtain ⟨rfl, rfl⟩ := trodVars_none hV
 have each := trod_each hA
 obtain ⟨v0, v1, v2, v3, rfl⟩ := args_four each.1
 obtain ⟨d0, d1, d2, d3, rfl⟩ := list_four (trod_ds hA)
 obtain ⟨y, rfl, gy⟩ := open_ship (hval 0 25 v0 rfl rfl) (each.2 0 25 v0 rfl rfl)
 obtain ⟨_, _, h1⟩ := each.2 1 3 v1 rfl rfl
 obtain ⟨frm, rfl, _, _, _⟩ := open_int Tryz.underlying3 (hval 1 3 v1 rfl rfl) h1
 obtain ⟨_, _, h2⟩ := each.2 2 3 v2 rfl rfl
 obtain ⟨at_, rfl, _, _, wa⟩ := open_int Tryz.underlying3 (hval 2 3 v2 rfl rfl) h2
 obtain ⟨_, _, h3⟩ := each.2 3 5 v3 rfl rfl
 obtain ⟨x, rfl, _, _, wx⟩ := open_int Tryz.underlying5 (hval 3 5 v3 rfl rfl) h3
 obtain ⟨b, rfl⟩ := u8_of wx
 have ha : -9223372036854775808 ≤ at_ ∧ at_ ≤ 9223372036854775807 := by
  have h : (decide ((-9223372036854775808 : Int) ≤ at_) && decide (at_ ≤ 9223372036854775807)) = true := wa
  simpa using h
 clear hA0 hval0 each
 simp only [List.append_nil] at hW'
 have hlt : ∀ y ∈ plcs, y.block < W.heap.size := fun y hy => by simpa using hW'.lt y (by simpa using hy)
 refine (show Calls _ _ _ _ _ from rspoilt_any W y.1 y.2 frm at_ b ha.2 gy).mono fun e W' ⟨he, hb⟩ => ?_
 subst he
 exact ⟨_, rfl, _, _, _, [], _, [], hW', trodAll_mk1 (shut_bool Tryz.underlying4 _), below_all laidOut hb (by kernel_rfl) hA hlt, rfl, hb.frame _, fun h => by cases h⟩
theorem replicaSpoilt_holds : Rows.ReplicaSpoiltSaid :=
 OpenClaim.holds_of_wide 3 Tryz.f3 rfl rfl rfl rfl rfl rfl rfl ⟨rfl, rfl, rfl, rfl, rfl⟩ rfl rfl rfl rfl rfl (by kernel_rfl) Tryz.func3 (by kernel_rfl)
  (of_decide_eq_true (by kernel_rfl)) (by unfold Func.isWrapper; first | (rw [if_pos (by decide +kernel)]; kernel_rfl) | (rw [if_neg (by decide +kernel)]; exact ⟨rfl, rfl⟩))
  (fun os started H enc _ => replicaSpoilt_lifted os started H enc)
#print axioms replicaSpoilt_holds
end Go.Proofs.YtjacmfdbmfemkaaGreat
