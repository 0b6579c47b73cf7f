/-
  No cell of these rows narrows 'for every input' (looked for: loops, veiled, ifaces, maps, wideKeys, modest, calm, conditions, laid).
  DERIVED. THE GIVEN ROWS OF THIS SEAT. 4 by the template 'for every input the law returns true; each argument reads behind the call as it read before'; 0 by the template 'total and deterministic' (their statements: YtenboibbbmeddaaGreatTotals.lean).
  GIVEN WITH THE SEED: the statements are not yours to turn. If you find one false, say at which input.
  Laid BY PROGRAM, IN A SANDBOX (cutbox-rows.mjs): the forced cells as the released guide's own fill.sh prints them over the translation d0763ff0cefa7139… (all of the seat's roots in one cut). By AI agents, Wed Nov 11 2026. No macro, syntax, notation, axiom, sorry.
-/
import Derived.Test.YtenboibbbmeddaaGreatChecked
import GoSem.Claim
import GoSem.ClaimJoined
import GoSem.ClaimMapViews
import Derived.JoinedTies
import Derived.KernelRfl
namespace Go.Proofs.YtenboibbbmeddaaGreat
/- THE CELL 'sum', in the pinned program and in every row, IS THE sha256 OF THE DUMP (.gsa) THAT YtenboibbbmeddaaGreatProg.lean LOADS. Nothing in Lean hashes anything: it is a label: what it is worth is what the hold of that sum in a sandbox is worth. -/
noncomputable def Tryz.pinned : Pinned := { name := "ytenboibbbmeddaagreat", sum := "d0763ff0cefa713961941fe9131cbdab1915d451c3d5e1e2d174dc9ab8361a36", checked := Tryz.checked }
namespace Rows
def none {H : Type} : Left H := { results := [], args := [] }

/-- 'counterfoillaw29.BackupKnown': WHATEVER THE INPUT: true; the input reads as it did. -/
def backupKnownSpec : ChangeSpec := { name := "backupKnown", fn := fun _ => fun
  | [] => { results := [.lit (.bool true)], args := [] }
  | _ => none }
def backupKnownRow : OpenClaim := { program := "ytenboibbbmeddaagreat", sum := "d0763ff0cefa713961941fe9131cbdab1915d451c3d5e1e2d174dc9ab8361a36", func := "counterfoil/counterfoillaw29.BackupKnown", spec := "backupKnown", inPlace := ["internal/abi.NoEscape", "internal/bytealg.MakeNoZero", "maps.clone"], unfollowed := true, recurses := true, apart := false }
def BackupKnownSaid : Prop := backupKnownRow.holds Tryz.pinned (OpenSpec.ofChange backupKnownSpec)

/-- ITS FALSE NEIGHBOUR: 'it returns false'. Refute it at one input. -/
def backupKnownWrong : ChangeSpec := { name := "backupKnown", fn := fun _ => fun
  | [] => { results := [.lit (.bool false)], args := [] }
  | _ => none }
def BackupKnownWrongFalsely : Prop := backupKnownRow.holds Tryz.pinned (OpenSpec.ofChange backupKnownWrong)

/-- 'counterfoillaw29.BackupEnds': WHATEVER THE INPUT: true; the input reads as it did. -/
def backupEndsSpec : ChangeSpec := { name := "backupEnds", fn := fun _ => fun
  | [d1, d2] => { results := [.lit (.bool true)], args := [d1, d2] }
  | _ => none }
def backupEndsRow : OpenClaim := { program := "ytenboibbbmeddaagreat", sum := "d0763ff0cefa713961941fe9131cbdab1915d451c3d5e1e2d174dc9ab8361a36", func := "counterfoil/counterfoillaw29.BackupEnds", spec := "backupEnds", inPlace := ["internal/abi.NoEscape", "internal/bytealg.MakeNoZero", "maps.clone"], unfollowed := true, recurses := true, apart := false }
def BackupEndsSaid : Prop := backupEndsRow.holds Tryz.pinned (OpenSpec.ofChange backupEndsSpec)

/-- ITS FALSE NEIGHBOUR: 'it returns false'. Refute it at one input. -/
def backupEndsWrong : ChangeSpec := { name := "backupEnds", fn := fun _ => fun
  | [d1, d2] => { results := [.lit (.bool false)], args := [d1, d2] }
  | _ => none }
def BackupEndsWrongFalsely : Prop := backupEndsRow.holds Tryz.pinned (OpenSpec.ofChange backupEndsWrong)

/-- 'counterfoillaw29.BackupQuiet': WHATEVER THE INPUT: true; the input reads as it did. -/
def backupQuietSpec : ChangeSpec := { name := "backupQuiet", fn := fun _ => fun
  | [d1, d2] => { results := [.lit (.bool true)], args := [d1, d2] }
  | _ => none }
def backupQuietRow : OpenClaim := { program := "ytenboibbbmeddaagreat", sum := "d0763ff0cefa713961941fe9131cbdab1915d451c3d5e1e2d174dc9ab8361a36", func := "counterfoil/counterfoillaw29.BackupQuiet", spec := "backupQuiet", inPlace := ["internal/abi.NoEscape", "internal/bytealg.MakeNoZero", "maps.clone"], unfollowed := true, recurses := true, apart := false }
def BackupQuietSaid : Prop := backupQuietRow.holds Tryz.pinned (OpenSpec.ofChange backupQuietSpec)

/-- ITS FALSE NEIGHBOUR: 'it returns false'. Refute it at one input. -/
def backupQuietWrong : ChangeSpec := { name := "backupQuiet", fn := fun _ => fun
  | [d1, d2] => { results := [.lit (.bool false)], args := [d1, d2] }
  | _ => none }
def BackupQuietWrongFalsely : Prop := backupQuietRow.holds Tryz.pinned (OpenSpec.ofChange backupQuietWrong)

/-- 'counterfoillaw29.BackupWhole': WHATEVER THE INPUT: true; the input reads as it did. -/
def backupWholeSpec : ChangeSpec := { name := "backupWhole", fn := fun _ => fun
  | [d1, d2] => { results := [.lit (.bool true)], args := [d1, d2] }
  | _ => none }
def backupWholeRow : OpenClaim := { program := "ytenboibbbmeddaagreat", sum := "d0763ff0cefa713961941fe9131cbdab1915d451c3d5e1e2d174dc9ab8361a36", func := "counterfoil/counterfoillaw29.BackupWhole", spec := "backupWhole", inPlace := ["internal/abi.NoEscape", "internal/bytealg.MakeNoZero", "maps.clone"], unfollowed := true, recurses := true, apart := false }
def BackupWholeSaid : Prop := backupWholeRow.holds Tryz.pinned (OpenSpec.ofChange backupWholeSpec)

/-- ITS FALSE NEIGHBOUR: 'it returns false'. Refute it at one input. -/
def backupWholeWrong : ChangeSpec := { name := "backupWhole", fn := fun _ => fun
  | [d1, d2] => { results := [.lit (.bool false)], args := [d1, d2] }
  | _ => none }
def BackupWholeWrongFalsely : Prop := backupWholeRow.holds Tryz.pinned (OpenSpec.ofChange backupWholeWrong)

/- THE SECOND FORM. 'bulk': how many values and letters a reading holds, each counted each time it is reached (what is shared counts as often as it is met; a slice's spare places count too). A statement '..UptoSaid' is the law's where the arguments, and the package variables that the reading takes, are together of bulk at most 1048576: NARROWER than '..Said'. Prove '..Said' where nothing that the law and all that it calls make is longer than what came in: it says more and counts as full. Else prove '..UptoSaid'. A law counts once. -/
mutual
def uptoBulk {H : Type} : DataW H → Nat
  | .lit (.string bytes) => bytes.length + 1
  | .lit _ => 1
  | .nil => 1
  | .ptr d => uptoBulk d + 1
  | .slice elems spare => uptoBulkAll elems + uptoBulkAll spare + 1
  | .agg parts => uptoBulkAll parts + 1
  | .iface _ d => uptoBulk d + 1
  | .map entries => uptoBulkEntries entries + 1
  | .held _ => 1
def uptoBulkAll {H : Type} : List (DataW H) → Nat
  | [] => 0
  | d :: r => uptoBulk d + uptoBulkAll r
def uptoBulkEntries {H : Type} : List (Lit × DataW H) → Nat
  | [] => 0
  | x :: r => uptoBulkEntry x + uptoBulkEntries r
def uptoBulkEntry {H : Type} : Lit × DataW H → Nat
  | (.string bytes, d) => bytes.length + uptoBulk d + 1
  | (_, d) => uptoBulk d + 1
 end
def uptoSmall : (H : Type) → List (DataW H) → Bool := fun _ ds => decide (uptoBulkAll ds ≤ 1048576)
def OpenSpec.upto (s : _root_.Go.ChangeSpec) : _root_.Go.OpenSpec := { _root_.Go.OpenSpec.ofChange s with cond := some uptoSmall }

/-- 'counterfoillaw29.BackupKnown', WHERE WHAT IT READS IS OF BULK AT MOST 1048576: true; the input reads as it did. -/
def backupKnownUptoRow : OpenClaim := { program := "ytenboibbbmeddaagreat", sum := "d0763ff0cefa713961941fe9131cbdab1915d451c3d5e1e2d174dc9ab8361a36", func := "counterfoil/counterfoillaw29.BackupKnown", spec := "backupKnown", inPlace := ["internal/abi.NoEscape", "internal/bytealg.MakeNoZero", "maps.clone"], unfollowed := true, recurses := true, apart := false, narrowed := true }
def BackupKnownUptoSaid : Prop := backupKnownUptoRow.holds Tryz.pinned (OpenSpec.upto backupKnownSpec)

/-- 'counterfoillaw29.BackupEnds', WHERE WHAT IT READS IS OF BULK AT MOST 1048576: true; the input reads as it did. -/
def backupEndsUptoRow : OpenClaim := { program := "ytenboibbbmeddaagreat", sum := "d0763ff0cefa713961941fe9131cbdab1915d451c3d5e1e2d174dc9ab8361a36", func := "counterfoil/counterfoillaw29.BackupEnds", spec := "backupEnds", inPlace := ["internal/abi.NoEscape", "internal/bytealg.MakeNoZero", "maps.clone"], unfollowed := true, recurses := true, apart := false, narrowed := true }
def BackupEndsUptoSaid : Prop := backupEndsUptoRow.holds Tryz.pinned (OpenSpec.upto backupEndsSpec)

/-- 'counterfoillaw29.BackupQuiet', WHERE WHAT IT READS IS OF BULK AT MOST 1048576: true; the input reads as it did. -/
def backupQuietUptoRow : OpenClaim := { program := "ytenboibbbmeddaagreat", sum := "d0763ff0cefa713961941fe9131cbdab1915d451c3d5e1e2d174dc9ab8361a36", func := "counterfoil/counterfoillaw29.BackupQuiet", spec := "backupQuiet", inPlace := ["internal/abi.NoEscape", "internal/bytealg.MakeNoZero", "maps.clone"], unfollowed := true, recurses := true, apart := false, narrowed := true }
def BackupQuietUptoSaid : Prop := backupQuietUptoRow.holds Tryz.pinned (OpenSpec.upto backupQuietSpec)

/-- 'counterfoillaw29.BackupWhole', WHERE WHAT IT READS IS OF BULK AT MOST 1048576: true; the input reads as it did. -/
def backupWholeUptoRow : OpenClaim := { program := "ytenboibbbmeddaagreat", sum := "d0763ff0cefa713961941fe9131cbdab1915d451c3d5e1e2d174dc9ab8361a36", func := "counterfoil/counterfoillaw29.BackupWhole", spec := "backupWhole", inPlace := ["internal/abi.NoEscape", "internal/bytealg.MakeNoZero", "maps.clone"], unfollowed := true, recurses := true, apart := false, narrowed := true }
def BackupWholeUptoSaid : Prop := backupWholeUptoRow.holds Tryz.pinned (OpenSpec.upto backupWholeSpec)

end Rows
end Go.Proofs.YtenboibbbmeddaaGreat
