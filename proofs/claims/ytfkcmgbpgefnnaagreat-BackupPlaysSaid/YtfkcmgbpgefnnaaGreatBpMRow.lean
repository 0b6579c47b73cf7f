/- The row of BackupPlays, lifted: for every script of commits, steps, failures, crashes and checkpoints, each answer and each step on the destination is the document's: BackupPlays answers true, and what came in reads as it did. No condition. -/
import Derived.Test.YtfkcmgbpgefnnaaGreatBpN
import Derived.Test.YtfkcmgbpgefnnaaGreatBpM
set_option linter.unusedVariables false
set_option linter.unusedSimpArgs false
namespace Go.Proofs.YtfkcmgbpgefnnaaGreat
open Go.ChangeShapes Go.WideShapes Go.ChangeAt Go.RowKit Go.Deep
set_option maxRecDepth 20000
set_option maxHeartbeats 800000 in
set_option maxRecDepth 100000 in
theorem backupPlays_lifted (os : Os) (started : os.Started) (H : Type) (enc : TypeId × Value → H) :
  ReturnsInHanded {} Tryz.checked os 3 .any (Rows.backupPlaysSpec.pre6 enc Tryz.prog Tryz.f3 Rows.backupPlaysRow.domain false) (Rows.backupPlaysSpec.post enc Tryz.prog Tryz.f3 false true false false) := by
 refine returnsInHanded_of_change (C := Tryz.checked) own started (by kernel_rfl) Tryz.func3
  (ChangeSpec.witness6 (enc := enc) (C := Tryz.checked) false ⟨#[], #[.slice none 0 0], []⟩ 8 (by kernel_rfl) (by kernel_rfl) (by kernel_rfl) (by kernel_rfl)) ?_
 intro W base args ds gs before hval0 hW hcnd _
 have hval : ∀ (j : Nat) t v, Tryz.f3.params[j]? = some t → args[j]? = some v → Value.okWide Tryz.prog W .any base t v := hval0
 have hW' := hW
 obtain ⟨plcs, plcs2, hA0, hV, rfl, hfz, hnd⟩ := hW
 have hA : DataW.TrodAll enc Tryz.prog W 0 (fun _ => true) true Tryz.f3.params.toList args.toList ds plcs := hA0
 rw [Tryz.params3] at hA hval
 obtain ⟨rfl, rfl⟩ := trodVars_none hV
 have each := trod_each hA
 obtain ⟨v0, rfl⟩ := args_one each.1
 obtain ⟨d0, rfl⟩ := list_one (trod_ds hA)
 obtain ⟨a1, rfl, g1⟩ := open_actsk (hval 0 22 v0 rfl rfl) (each.2 0 22 v0 rfl rfl)
 clear hA0 hval0 each
 simp only [List.append_nil] at hW'
 have hlt : ∀ y ∈ plcs, y.block < W.heap.size := fun y hy => by simpa using hW'.lt y (by simpa using hy)
 refine (show Calls _ _ _ _ _ from backupPlays_any W _ _ g1).mono fun e W' ⟨he, hb⟩ => ?_
 subst he
 exact ⟨_, rfl, _, _, _, [], _, [], hW', trodAll_mk1 (shut_bool Tryz.underlying4 _), below_all laidOut hb (by kernel_rfl) hA hlt, rfl, hb.frame _, fun h => by cases h⟩
theorem backupPlays_holds : Rows.BackupPlaysSaid :=
 OpenClaim.holds_of_wide 3 Tryz.f3 rfl rfl rfl rfl rfl rfl rfl ⟨rfl, rfl, rfl, rfl, rfl⟩ rfl rfl rfl rfl rfl (by kernel_rfl) Tryz.func3 (by kernel_rfl)
  (of_decide_eq_true (by kernel_rfl)) (by unfold Func.isWrapper; first | (rw [if_pos (by decide +kernel)]; kernel_rfl) | (rw [if_neg (by decide +kernel)]; exact ⟨rfl, rfl⟩))
  (fun os started H enc _ => backupPlays_lifted os started H enc)
#print axioms backupPlays_holds
end Go.Proofs.YtfkcmgbpgefnnaaGreat
