/-
  No cell of these rows narrows 'for every input' (looked for: loops, veiled, ifaces, maps, wideKeys, modest, calm, conditions, laid).
  DERIVED. THE GIVEN ROWS OF THIS SEAT. 4 by the template 'for every input the law returns true; each argument reads behind the call as it read before'; 0 by the template 'total and deterministic' (their statements: YtcpejlmnplkbaaaGreatTotals.lean).
  GIVEN WITH THE SEED: the statements are not yours to turn. If you find one false, say at which input.
  Laid BY PROGRAM, IN A SANDBOX (cutbox-rows.mjs): the forced cells as the released guide's own fill.sh prints them over the translation a3decdf1bca07fd0… (all of the seat's roots in one cut). By AI agents, Wed Nov 11 2026. No macro, syntax, notation, axiom, sorry.
-/
import Derived.Test.YtcpejlmnplkbaaaGreatChecked
import GoSem.Claim
import GoSem.ClaimJoined
import GoSem.ClaimMapViews
import Derived.JoinedTies
import Derived.KernelRfl
namespace Go.Proofs.YtcpejlmnplkbaaaGreat
/- THE CELL 'sum', in the pinned program and in every row, IS THE sha256 OF THE DUMP (.gsa) THAT YtcpejlmnplkbaaaGreatProg.lean LOADS. Nothing in Lean hashes anything: it is a label: what it is worth is what the hold of that sum in a sandbox is worth. -/
noncomputable def Tryz.pinned : Pinned := { name := "ytcpejlmnplkbaaagreat", sum := "a3decdf1bca07fd08a30c650b2ff4d4184aa362ef617f0fc9a76314cc1edb999", checked := Tryz.checked }
namespace Rows
def none {H : Type} : Left H := { results := [], args := [] }

/-- 'counterfoillaw28.ReplicaLeads': WHATEVER THE INPUT: true; the input reads as it did. -/
def replicaLeadsSpec : ChangeSpec := { name := "replicaLeads", fn := fun _ => fun
  | [d1, d2] => { results := [.lit (.bool true)], args := [d1, d2] }
  | _ => none }
def replicaLeadsRow : OpenClaim := { program := "ytcpejlmnplkbaaagreat", sum := "a3decdf1bca07fd08a30c650b2ff4d4184aa362ef617f0fc9a76314cc1edb999", func := "counterfoil/counterfoillaw28.ReplicaLeads", spec := "replicaLeads", inPlace := ["internal/abi.NoEscape", "internal/bytealg.MakeNoZero", "maps.clone"], unfollowed := true, recurses := true, apart := false }
def ReplicaLeadsSaid : Prop := replicaLeadsRow.holds Tryz.pinned (OpenSpec.ofChange replicaLeadsSpec)

/-- ITS FALSE NEIGHBOUR: 'it returns false'. Refute it at one input. -/
def replicaLeadsWrong : ChangeSpec := { name := "replicaLeads", fn := fun _ => fun
  | [d1, d2] => { results := [.lit (.bool false)], args := [d1, d2] }
  | _ => none }
def ReplicaLeadsWrongFalsely : Prop := replicaLeadsRow.holds Tryz.pinned (OpenSpec.ofChange replicaLeadsWrong)

/-- 'counterfoillaw28.ReplicaKnown': WHATEVER THE INPUT: true; the input reads as it did. -/
def replicaKnownSpec : ChangeSpec := { name := "replicaKnown", fn := fun _ => fun
  | [] => { results := [.lit (.bool true)], args := [] }
  | _ => none }
def replicaKnownRow : OpenClaim := { program := "ytcpejlmnplkbaaagreat", sum := "a3decdf1bca07fd08a30c650b2ff4d4184aa362ef617f0fc9a76314cc1edb999", func := "counterfoil/counterfoillaw28.ReplicaKnown", spec := "replicaKnown", inPlace := ["internal/abi.NoEscape", "internal/bytealg.MakeNoZero", "maps.clone"], unfollowed := true, recurses := true, apart := false }
def ReplicaKnownSaid : Prop := replicaKnownRow.holds Tryz.pinned (OpenSpec.ofChange replicaKnownSpec)

/-- ITS FALSE NEIGHBOUR: 'it returns false'. Refute it at one input. -/
def replicaKnownWrong : ChangeSpec := { name := "replicaKnown", fn := fun _ => fun
  | [] => { results := [.lit (.bool false)], args := [] }
  | _ => none }
def ReplicaKnownWrongFalsely : Prop := replicaKnownRow.holds Tryz.pinned (OpenSpec.ofChange replicaKnownWrong)

/-- 'counterfoillaw28.ReplicaTrails': WHATEVER THE INPUT: true; the input reads as it did. -/
def replicaTrailsSpec : ChangeSpec := { name := "replicaTrails", fn := fun _ => fun
  | [d] => { results := [.lit (.bool true)], args := [d] }
  | _ => none }
def replicaTrailsRow : OpenClaim := { program := "ytcpejlmnplkbaaagreat", sum := "a3decdf1bca07fd08a30c650b2ff4d4184aa362ef617f0fc9a76314cc1edb999", func := "counterfoil/counterfoillaw28.ReplicaTrails", spec := "replicaTrails", inPlace := ["internal/abi.NoEscape", "internal/bytealg.MakeNoZero", "maps.clone"], unfollowed := true, recurses := true, apart := false }
def ReplicaTrailsSaid : Prop := replicaTrailsRow.holds Tryz.pinned (OpenSpec.ofChange replicaTrailsSpec)

/-- ITS FALSE NEIGHBOUR: 'it returns false'. Refute it at one input. -/
def replicaTrailsWrong : ChangeSpec := { name := "replicaTrails", fn := fun _ => fun
  | [d] => { results := [.lit (.bool false)], args := [d] }
  | _ => none }
def ReplicaTrailsWrongFalsely : Prop := replicaTrailsRow.holds Tryz.pinned (OpenSpec.ofChange replicaTrailsWrong)

/-- 'counterfoillaw28.ReplicaSpoilt': WHATEVER THE INPUT: true; the input reads as it did. -/
def replicaSpoiltSpec : ChangeSpec := { name := "replicaSpoilt", fn := fun _ => fun
  | [d1, d2, d3, d4] => { results := [.lit (.bool true)], args := [d1, d2, d3, d4] }
  | _ => none }
def replicaSpoiltRow : OpenClaim := { program := "ytcpejlmnplkbaaagreat", sum := "a3decdf1bca07fd08a30c650b2ff4d4184aa362ef617f0fc9a76314cc1edb999", func := "counterfoil/counterfoillaw28.ReplicaSpoilt", spec := "replicaSpoilt", inPlace := ["internal/abi.NoEscape", "internal/bytealg.MakeNoZero", "maps.clone"], unfollowed := true, recurses := true, apart := false }
def ReplicaSpoiltSaid : Prop := replicaSpoiltRow.holds Tryz.pinned (OpenSpec.ofChange replicaSpoiltSpec)

/-- ITS FALSE NEIGHBOUR: 'it returns false'. Refute it at one input. -/
def replicaSpoiltWrong : ChangeSpec := { name := "replicaSpoilt", fn := fun _ => fun
  | [d1, d2, d3, d4] => { results := [.lit (.bool false)], args := [d1, d2, d3, d4] }
  | _ => none }
def ReplicaSpoiltWrongFalsely : Prop := replicaSpoiltRow.holds Tryz.pinned (OpenSpec.ofChange replicaSpoiltWrong)

/- THE SECOND FORM. 'bulk': how many values and letters a reading holds, each counted each time it is reached (what is shared counts as often as it is met; a slice's spare places count too). A statement '..UptoSaid' is the law's where the arguments, and the package variables that the reading takes, are together of bulk at most 1048576: NARROWER than '..Said'. Prove '..Said' where nothing that the law and all that it calls make is longer than what came in: it says more and counts as full. Else prove '..UptoSaid'. A law counts once. -/
mutual
def uptoBulk {H : Type} : DataW H → Nat
  | .lit (.string bytes) => bytes.length + 1
  | .lit _ => 1
  | .nil => 1
  | .ptr d => uptoBulk d + 1
  | .slice elems spare => uptoBulkAll elems + uptoBulkAll spare + 1
  | .agg parts => uptoBulkAll parts + 1
  | .iface _ d => uptoBulk d + 1
  | .map entries => uptoBulkEntries entries + 1
  | .held _ => 1
def uptoBulkAll {H : Type} : List (DataW H) → Nat
  | [] => 0
  | d :: r => uptoBulk d + uptoBulkAll r
def uptoBulkEntries {H : Type} : List (Lit × DataW H) → Nat
  | [] => 0
  | x :: r => uptoBulkEntry x + uptoBulkEntries r
def uptoBulkEntry {H : Type} : Lit × DataW H → Nat
  | (.string bytes, d) => bytes.length + uptoBulk d + 1
  | (_, d) => uptoBulk d + 1
 end
def uptoSmall : (H : Type) → List (DataW H) → Bool := fun _ ds => decide (uptoBulkAll ds ≤ 1048576)
def OpenSpec.upto (s : _root_.Go.ChangeSpec) : _root_.Go.OpenSpec := { _root_.Go.OpenSpec.ofChange s with cond := some uptoSmall }

/-- 'counterfoillaw28.ReplicaLeads', WHERE WHAT IT READS IS OF BULK AT MOST 1048576: true; the input reads as it did. -/
def replicaLeadsUptoRow : OpenClaim := { program := "ytcpejlmnplkbaaagreat", sum := "a3decdf1bca07fd08a30c650b2ff4d4184aa362ef617f0fc9a76314cc1edb999", func := "counterfoil/counterfoillaw28.ReplicaLeads", spec := "replicaLeads", inPlace := ["internal/abi.NoEscape", "internal/bytealg.MakeNoZero", "maps.clone"], unfollowed := true, recurses := true, apart := false, narrowed := true }
def ReplicaLeadsUptoSaid : Prop := replicaLeadsUptoRow.holds Tryz.pinned (OpenSpec.upto replicaLeadsSpec)

/-- 'counterfoillaw28.ReplicaKnown', WHERE WHAT IT READS IS OF BULK AT MOST 1048576: true; the input reads as it did. -/
def replicaKnownUptoRow : OpenClaim := { program := "ytcpejlmnplkbaaagreat", sum := "a3decdf1bca07fd08a30c650b2ff4d4184aa362ef617f0fc9a76314cc1edb999", func := "counterfoil/counterfoillaw28.ReplicaKnown", spec := "replicaKnown", inPlace := ["internal/abi.NoEscape", "internal/bytealg.MakeNoZero", "maps.clone"], unfollowed := true, recurses := true, apart := false, narrowed := true }
def ReplicaKnownUptoSaid : Prop := replicaKnownUptoRow.holds Tryz.pinned (OpenSpec.upto replicaKnownSpec)

/-- 'counterfoillaw28.ReplicaTrails', WHERE WHAT IT READS IS OF BULK AT MOST 1048576: true; the input reads as it did. -/
def replicaTrailsUptoRow : OpenClaim := { program := "ytcpejlmnplkbaaagreat", sum := "a3decdf1bca07fd08a30c650b2ff4d4184aa362ef617f0fc9a76314cc1edb999", func := "counterfoil/counterfoillaw28.ReplicaTrails", spec := "replicaTrails", inPlace := ["internal/abi.NoEscape", "internal/bytealg.MakeNoZero", "maps.clone"], unfollowed := true, recurses := true, apart := false, narrowed := true }
def ReplicaTrailsUptoSaid : Prop := replicaTrailsUptoRow.holds Tryz.pinned (OpenSpec.upto replicaTrailsSpec)

/-- 'counterfoillaw28.ReplicaSpoilt', WHERE WHAT IT READS IS OF BULK AT MOST 1048576: true; the input reads as it did. -/
def replicaSpoiltUptoRow : OpenClaim := { program := "ytcpejlmnplkbaaagreat", sum := "a3decdf1bca07fd08a30c650b2ff4d4184aa362ef617f0fc9a76314cc1edb999", func := "counterfoil/counterfoillaw28.ReplicaSpoilt", spec := "replicaSpoilt", inPlace := ["internal/abi.NoEscape", "internal/bytealg.MakeNoZero", "maps.clone"], unfollowed := true, recurses := true, apart := false, narrowed := true }
def ReplicaSpoiltUptoSaid : Prop := replicaSpoiltUptoRow.holds Tryz.pinned (OpenSpec.upto replicaSpoiltSpec)

end Rows
end Go.Proofs.YtcpejlmnplkbaaaGreat
