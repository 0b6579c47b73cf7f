/-
  No cell of these rows narrows 'for every input' (looked for: loops, veiled, ifaces, maps, wideKeys, modest, calm, conditions, laid).
  DERIVED. THE GIVEN ROWS OF THIS SEAT. 4 by the template 'for every input the law returns true; each argument reads behind the call as it read before'; 0 by the template 'total and deterministic' (their statements: YtdinjghfjmmjoaaGreatTotals.lean).
  GIVEN WITH THE SEED: the statements are not yours to turn. If you find one false, say at which input.
  Laid BY PROGRAM, IN A SANDBOX (cutbox-rows.mjs): the forced cells as the released guide's own fill.sh prints them over the translation d75d8d1c899cc097… (all of the seat's roots in one cut). By AI agents, Wed Nov 11 2026. No macro, syntax, notation, axiom, sorry.
-/
import Derived.Test.YtdinjghfjmmjoaaGreatChecked
import GoSem.Claim
import GoSem.ClaimJoined
import GoSem.ClaimMapViews
import Derived.JoinedTies
import Derived.KernelRfl
namespace Go.Proofs.YtdinjghfjmmjoaaGreat
/- THE CELL 'sum', in the pinned program and in every row, IS THE sha256 OF THE DUMP (.gsa) THAT YtdinjghfjmmjoaaGreatProg.lean LOADS. Nothing in Lean hashes anything: it is a label: what it is worth is what the hold of that sum in a sandbox is worth. -/
noncomputable def Tryz.pinned : Pinned := { name := "ytdinjghfjmmjoaagreat", sum := "d75d8d1c899cc0974862f93fbfc6225973ab401f5345e43ace3eb3ca001cc24d", checked := Tryz.checked }
namespace Rows
def none {H : Type} : Left H := { results := [], args := [] }

/-- 'counterfoillaw27.UnitKnown': WHATEVER THE INPUT: true; the input reads as it did. -/
def unitKnownSpec : ChangeSpec := { name := "unitKnown", fn := fun _ => fun
  | [] => { results := [.lit (.bool true)], args := [] }
  | _ => none }
def unitKnownRow : OpenClaim := { program := "ytdinjghfjmmjoaagreat", sum := "d75d8d1c899cc0974862f93fbfc6225973ab401f5345e43ace3eb3ca001cc24d", func := "counterfoil/counterfoillaw27.UnitKnown", spec := "unitKnown", inPlace := ["internal/abi.NoEscape", "internal/bytealg.MakeNoZero", "maps.clone"], unfollowed := true, recurses := true, apart := false }
def UnitKnownSaid : Prop := unitKnownRow.holds Tryz.pinned (OpenSpec.ofChange unitKnownSpec)

/-- ITS FALSE NEIGHBOUR: 'it returns false'. Refute it at one input. -/
def unitKnownWrong : ChangeSpec := { name := "unitKnown", fn := fun _ => fun
  | [] => { results := [.lit (.bool false)], args := [] }
  | _ => none }
def UnitKnownWrongFalsely : Prop := unitKnownRow.holds Tryz.pinned (OpenSpec.ofChange unitKnownWrong)

/-- 'counterfoillaw27.UnitNext': WHATEVER THE INPUT: true; the input reads as it did. -/
def unitNextSpec : ChangeSpec := { name := "unitNext", fn := fun _ => fun
  | [d1, d2] => { results := [.lit (.bool true)], args := [d1, d2] }
  | _ => none }
def unitNextRow : OpenClaim := { program := "ytdinjghfjmmjoaagreat", sum := "d75d8d1c899cc0974862f93fbfc6225973ab401f5345e43ace3eb3ca001cc24d", func := "counterfoil/counterfoillaw27.UnitNext", spec := "unitNext", inPlace := ["internal/abi.NoEscape", "internal/bytealg.MakeNoZero", "maps.clone"], unfollowed := true, recurses := true, apart := false }
def UnitNextSaid : Prop := unitNextRow.holds Tryz.pinned (OpenSpec.ofChange unitNextSpec)

/-- ITS FALSE NEIGHBOUR: 'it returns false'. Refute it at one input. -/
def unitNextWrong : ChangeSpec := { name := "unitNext", fn := fun _ => fun
  | [d1, d2] => { results := [.lit (.bool false)], args := [d1, d2] }
  | _ => none }
def UnitNextWrongFalsely : Prop := unitNextRow.holds Tryz.pinned (OpenSpec.ofChange unitNextWrong)

/-- 'counterfoillaw27.UnitFollow': WHATEVER THE INPUT: true; the input reads as it did. -/
def unitFollowSpec : ChangeSpec := { name := "unitFollow", fn := fun _ => fun
  | [d] => { results := [.lit (.bool true)], args := [d] }
  | _ => none }
def unitFollowRow : OpenClaim := { program := "ytdinjghfjmmjoaagreat", sum := "d75d8d1c899cc0974862f93fbfc6225973ab401f5345e43ace3eb3ca001cc24d", func := "counterfoil/counterfoillaw27.UnitFollow", spec := "unitFollow", inPlace := ["internal/abi.NoEscape", "internal/bytealg.MakeNoZero", "maps.clone"], unfollowed := true, recurses := true, apart := false }
def UnitFollowSaid : Prop := unitFollowRow.holds Tryz.pinned (OpenSpec.ofChange unitFollowSpec)

/-- ITS FALSE NEIGHBOUR: 'it returns false'. Refute it at one input. -/
def unitFollowWrong : ChangeSpec := { name := "unitFollow", fn := fun _ => fun
  | [d] => { results := [.lit (.bool false)], args := [d] }
  | _ => none }
def UnitFollowWrongFalsely : Prop := unitFollowRow.holds Tryz.pinned (OpenSpec.ofChange unitFollowWrong)

/-- 'counterfoillaw27.UnitLike': WHATEVER THE INPUT: true; the input reads as it did. -/
def unitLikeSpec : ChangeSpec := { name := "unitLike", fn := fun _ => fun
  | [d] => { results := [.lit (.bool true)], args := [d] }
  | _ => none }
def unitLikeRow : OpenClaim := { program := "ytdinjghfjmmjoaagreat", sum := "d75d8d1c899cc0974862f93fbfc6225973ab401f5345e43ace3eb3ca001cc24d", func := "counterfoil/counterfoillaw27.UnitLike", spec := "unitLike", inPlace := ["internal/abi.NoEscape", "internal/bytealg.MakeNoZero", "maps.clone"], unfollowed := true, recurses := true, apart := false }
def UnitLikeSaid : Prop := unitLikeRow.holds Tryz.pinned (OpenSpec.ofChange unitLikeSpec)

/-- ITS FALSE NEIGHBOUR: 'it returns false'. Refute it at one input. -/
def unitLikeWrong : ChangeSpec := { name := "unitLike", fn := fun _ => fun
  | [d] => { results := [.lit (.bool false)], args := [d] }
  | _ => none }
def UnitLikeWrongFalsely : Prop := unitLikeRow.holds Tryz.pinned (OpenSpec.ofChange unitLikeWrong)

/- THE SECOND FORM. 'bulk': how many values and letters a reading holds, each counted each time it is reached (what is shared counts as often as it is met; a slice's spare places count too). A statement '..UptoSaid' is the law's where the arguments, and the package variables that the reading takes, are together of bulk at most 1048576: NARROWER than '..Said'. Prove '..Said' where nothing that the law and all that it calls make is longer than what came in: it says more and counts as full. Else prove '..UptoSaid'. A law counts once. -/
mutual
def uptoBulk {H : Type} : DataW H → Nat
  | .lit (.string bytes) => bytes.length + 1
  | .lit _ => 1
  | .nil => 1
  | .ptr d => uptoBulk d + 1
  | .slice elems spare => uptoBulkAll elems + uptoBulkAll spare + 1
  | .agg parts => uptoBulkAll parts + 1
  | .iface _ d => uptoBulk d + 1
  | .map entries => uptoBulkEntries entries + 1
  | .held _ => 1
def uptoBulkAll {H : Type} : List (DataW H) → Nat
  | [] => 0
  | d :: r => uptoBulk d + uptoBulkAll r
def uptoBulkEntries {H : Type} : List (Lit × DataW H) → Nat
  | [] => 0
  | x :: r => uptoBulkEntry x + uptoBulkEntries r
def uptoBulkEntry {H : Type} : Lit × DataW H → Nat
  | (.string bytes, d) => bytes.length + uptoBulk d + 1
  | (_, d) => uptoBulk d + 1
 end
def uptoSmall : (H : Type) → List (DataW H) → Bool := fun _ ds => decide (uptoBulkAll ds ≤ 1048576)
def OpenSpec.upto (s : _root_.Go.ChangeSpec) : _root_.Go.OpenSpec := { _root_.Go.OpenSpec.ofChange s with cond := some uptoSmall }

/-- 'counterfoillaw27.UnitKnown', WHERE WHAT IT READS IS OF BULK AT MOST 1048576: true; the input reads as it did. -/
def unitKnownUptoRow : OpenClaim := { program := "ytdinjghfjmmjoaagreat", sum := "d75d8d1c899cc0974862f93fbfc6225973ab401f5345e43ace3eb3ca001cc24d", func := "counterfoil/counterfoillaw27.UnitKnown", spec := "unitKnown", inPlace := ["internal/abi.NoEscape", "internal/bytealg.MakeNoZero", "maps.clone"], unfollowed := true, recurses := true, apart := false, narrowed := true }
def UnitKnownUptoSaid : Prop := unitKnownUptoRow.holds Tryz.pinned (OpenSpec.upto unitKnownSpec)

/-- 'counterfoillaw27.UnitNext', WHERE WHAT IT READS IS OF BULK AT MOST 1048576: true; the input reads as it did. -/
def unitNextUptoRow : OpenClaim := { program := "ytdinjghfjmmjoaagreat", sum := "d75d8d1c899cc0974862f93fbfc6225973ab401f5345e43ace3eb3ca001cc24d", func := "counterfoil/counterfoillaw27.UnitNext", spec := "unitNext", inPlace := ["internal/abi.NoEscape", "internal/bytealg.MakeNoZero", "maps.clone"], unfollowed := true, recurses := true, apart := false, narrowed := true }
def UnitNextUptoSaid : Prop := unitNextUptoRow.holds Tryz.pinned (OpenSpec.upto unitNextSpec)

/-- 'counterfoillaw27.UnitFollow', WHERE WHAT IT READS IS OF BULK AT MOST 1048576: true; the input reads as it did. -/
def unitFollowUptoRow : OpenClaim := { program := "ytdinjghfjmmjoaagreat", sum := "d75d8d1c899cc0974862f93fbfc6225973ab401f5345e43ace3eb3ca001cc24d", func := "counterfoil/counterfoillaw27.UnitFollow", spec := "unitFollow", inPlace := ["internal/abi.NoEscape", "internal/bytealg.MakeNoZero", "maps.clone"], unfollowed := true, recurses := true, apart := false, narrowed := true }
def UnitFollowUptoSaid : Prop := unitFollowUptoRow.holds Tryz.pinned (OpenSpec.upto unitFollowSpec)

/-- 'counterfoillaw27.UnitLike', WHERE WHAT IT READS IS OF BULK AT MOST 1048576: true; the input reads as it did. -/
def unitLikeUptoRow : OpenClaim := { program := "ytdinjghfjmmjoaagreat", sum := "d75d8d1c899cc0974862f93fbfc6225973ab401f5345e43ace3eb3ca001cc24d", func := "counterfoil/counterfoillaw27.UnitLike", spec := "unitLike", inPlace := ["internal/abi.NoEscape", "internal/bytealg.MakeNoZero", "maps.clone"], unfollowed := true, recurses := true, apart := false, narrowed := true }
def UnitLikeUptoSaid : Prop := unitLikeUptoRow.holds Tryz.pinned (OpenSpec.upto unitLikeSpec)

end Rows
end Go.Proofs.YtdinjghfjmmjoaaGreat
