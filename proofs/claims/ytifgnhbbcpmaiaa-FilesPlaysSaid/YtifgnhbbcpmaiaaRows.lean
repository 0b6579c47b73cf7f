/-
  No cell of these rows narrows 'for every input' (looked for: loops, veiled, ifaces, maps, wideKeys, modest, calm, conditions, laid).
  DERIVED. THE GIVEN ROWS OF THIS SEAT. 6 by the template 'for every input the law returns true; each argument reads behind the call as it read before'; 0 by the template 'total and deterministic' (their statements: YtifgnhbbcpmaiaaTotals.lean).
  GIVEN WITH THE SEED: the statements are not yours to turn. If you find one false, say at which input.
  Laid BY PROGRAM, IN A SANDBOX (cutbox-rows.mjs): the forced cells as the released guide's own fill.sh prints them over the translation a3b8774987a4c06c… (all of the seat's roots in one cut). By AI agents, Wed Nov 11 2026. No macro, syntax, notation, axiom, sorry.
-/
import Derived.Test.YtifgnhbbcpmaiaaChecked
import GoSem.Claim
import GoSem.ClaimJoined
import GoSem.ClaimMapViews
import Derived.JoinedTies
import Derived.KernelRfl
namespace Go.Proofs.Ytifgnhbbcpmaiaa
/- THE CELL 'sum', in the pinned program and in every row, IS THE sha256 OF THE DUMP (.gsa) THAT YtifgnhbbcpmaiaaProg.lean LOADS. Nothing in Lean hashes anything: it is a label: what it is worth is what the hold of that sum in a sandbox is worth. -/
noncomputable def Try.pinned : Pinned := { name := "ytifgnhbbcpmaiaa", sum := "a3b8774987a4c06ce57ffb9411048eb089e46dbb46498bd56054c6fc02bc8d9b", checked := Try.checked }
namespace Rows
def none {H : Type} : Left H := { results := [], args := [] }

/-- 'counterfoillaw03.FilesSure': WHATEVER THE INPUT: true; the input reads as it did. -/
def filesSureSpec : ChangeSpec := { name := "filesSure", fn := fun _ => fun
  | [d1, d2, d3, d4] => { results := [.lit (.bool true)], args := [d1, d2, d3, d4] }
  | _ => none }
def filesSureRow : OpenClaim := { program := "ytifgnhbbcpmaiaa", sum := "a3b8774987a4c06ce57ffb9411048eb089e46dbb46498bd56054c6fc02bc8d9b", func := "counterfoil/counterfoillaw03.FilesSure", spec := "filesSure", inPlace := ["internal/abi.NoEscape", "internal/bytealg.MakeNoZero", "maps.clone"], apart := false }
def FilesSureSaid : Prop := filesSureRow.holds Try.pinned (OpenSpec.ofChange filesSureSpec)

/-- ITS FALSE NEIGHBOUR: 'it returns false'. Refute it at one input. -/
def filesSureWrong : ChangeSpec := { name := "filesSure", fn := fun _ => fun
  | [d1, d2, d3, d4] => { results := [.lit (.bool false)], args := [d1, d2, d3, d4] }
  | _ => none }
def FilesSureWrongFalsely : Prop := filesSureRow.holds Try.pinned (OpenSpec.ofChange filesSureWrong)

/-- 'counterfoillaw03.FilesKept': WHATEVER THE INPUT: true; the input reads as it did. -/
def filesKeptSpec : ChangeSpec := { name := "filesKept", fn := fun _ => fun
  | [d] => { results := [.lit (.bool true)], args := [d] }
  | _ => none }
def filesKeptRow : OpenClaim := { program := "ytifgnhbbcpmaiaa", sum := "a3b8774987a4c06ce57ffb9411048eb089e46dbb46498bd56054c6fc02bc8d9b", func := "counterfoil/counterfoillaw03.FilesKept", spec := "filesKept", inPlace := ["internal/abi.NoEscape", "internal/bytealg.MakeNoZero", "maps.clone"], apart := false }
def FilesKeptSaid : Prop := filesKeptRow.holds Try.pinned (OpenSpec.ofChange filesKeptSpec)

/-- ITS FALSE NEIGHBOUR: 'it returns false'. Refute it at one input. -/
def filesKeptWrong : ChangeSpec := { name := "filesKept", fn := fun _ => fun
  | [d] => { results := [.lit (.bool false)], args := [d] }
  | _ => none }
def FilesKeptWrongFalsely : Prop := filesKeptRow.holds Try.pinned (OpenSpec.ofChange filesKeptWrong)

/-- 'counterfoillaw03.FilesBack': WHATEVER THE INPUT: true; the input reads as it did. -/
def filesBackSpec : ChangeSpec := { name := "filesBack", fn := fun _ => fun
  | [d1, d2, d3] => { results := [.lit (.bool true)], args := [d1, d2, d3] }
  | _ => none }
def filesBackRow : OpenClaim := { program := "ytifgnhbbcpmaiaa", sum := "a3b8774987a4c06ce57ffb9411048eb089e46dbb46498bd56054c6fc02bc8d9b", func := "counterfoil/counterfoillaw03.FilesBack", spec := "filesBack", inPlace := ["internal/abi.NoEscape", "internal/bytealg.MakeNoZero", "maps.clone"], apart := false }
def FilesBackSaid : Prop := filesBackRow.holds Try.pinned (OpenSpec.ofChange filesBackSpec)

/-- ITS FALSE NEIGHBOUR: 'it returns false'. Refute it at one input. -/
def filesBackWrong : ChangeSpec := { name := "filesBack", fn := fun _ => fun
  | [d1, d2, d3] => { results := [.lit (.bool false)], args := [d1, d2, d3] }
  | _ => none }
def FilesBackWrongFalsely : Prop := filesBackRow.holds Try.pinned (OpenSpec.ofChange filesBackWrong)

/-- 'counterfoillaw03.FilesKnown': WHATEVER THE INPUT: true; the input reads as it did. -/
def filesKnownSpec : ChangeSpec := { name := "filesKnown", fn := fun _ => fun
  | [] => { results := [.lit (.bool true)], args := [] }
  | _ => none }
def filesKnownRow : OpenClaim := { program := "ytifgnhbbcpmaiaa", sum := "a3b8774987a4c06ce57ffb9411048eb089e46dbb46498bd56054c6fc02bc8d9b", func := "counterfoil/counterfoillaw03.FilesKnown", spec := "filesKnown", inPlace := ["internal/abi.NoEscape", "internal/bytealg.MakeNoZero", "maps.clone"], apart := false }
def FilesKnownSaid : Prop := filesKnownRow.holds Try.pinned (OpenSpec.ofChange filesKnownSpec)

/-- ITS FALSE NEIGHBOUR: 'it returns false'. Refute it at one input. -/
def filesKnownWrong : ChangeSpec := { name := "filesKnown", fn := fun _ => fun
  | [] => { results := [.lit (.bool false)], args := [] }
  | _ => none }
def FilesKnownWrongFalsely : Prop := filesKnownRow.holds Try.pinned (OpenSpec.ofChange filesKnownWrong)

/-- 'counterfoillaw03.FilesPlays': WHATEVER THE INPUT: true; the input reads as it did. -/
def filesPlaysSpec : ChangeSpec := { name := "filesPlays", fn := fun _ => fun
  | [d] => { results := [.lit (.bool true)], args := [d] }
  | _ => none }
def filesPlaysRow : OpenClaim := { program := "ytifgnhbbcpmaiaa", sum := "a3b8774987a4c06ce57ffb9411048eb089e46dbb46498bd56054c6fc02bc8d9b", func := "counterfoil/counterfoillaw03.FilesPlays", spec := "filesPlays", inPlace := ["internal/abi.NoEscape", "internal/bytealg.MakeNoZero", "maps.clone"], apart := false }
def FilesPlaysSaid : Prop := filesPlaysRow.holds Try.pinned (OpenSpec.ofChange filesPlaysSpec)

/-- ITS FALSE NEIGHBOUR: 'it returns false'. Refute it at one input. -/
def filesPlaysWrong : ChangeSpec := { name := "filesPlays", fn := fun _ => fun
  | [d] => { results := [.lit (.bool false)], args := [d] }
  | _ => none }
def FilesPlaysWrongFalsely : Prop := filesPlaysRow.holds Try.pinned (OpenSpec.ofChange filesPlaysWrong)

/-- 'counterfoillaw03.FilesCuts': WHATEVER THE INPUT: true; the input reads as it did. -/
def filesCutsSpec : ChangeSpec := { name := "filesCuts", fn := fun _ => fun
  | [d1, d2, d3] => { results := [.lit (.bool true)], args := [d1, d2, d3] }
  | _ => none }
def filesCutsRow : OpenClaim := { program := "ytifgnhbbcpmaiaa", sum := "a3b8774987a4c06ce57ffb9411048eb089e46dbb46498bd56054c6fc02bc8d9b", func := "counterfoil/counterfoillaw03.FilesCuts", spec := "filesCuts", inPlace := ["internal/abi.NoEscape", "internal/bytealg.MakeNoZero", "maps.clone"], apart := false }
def FilesCutsSaid : Prop := filesCutsRow.holds Try.pinned (OpenSpec.ofChange filesCutsSpec)

/-- ITS FALSE NEIGHBOUR: 'it returns false'. Refute it at one input. -/
def filesCutsWrong : ChangeSpec := { name := "filesCuts", fn := fun _ => fun
  | [d1, d2, d3] => { results := [.lit (.bool false)], args := [d1, d2, d3] }
  | _ => none }
def FilesCutsWrongFalsely : Prop := filesCutsRow.holds Try.pinned (OpenSpec.ofChange filesCutsWrong)

/- THE SECOND FORM. 'bulk': how many values and letters a reading holds, each counted each time it is reached (what is shared counts as often as it is met; a slice's spare places count too). A statement '..UptoSaid' is the law's where the arguments, and the package variables that the reading takes, are together of bulk at most 1048576: NARROWER than '..Said'. Prove '..Said' where nothing that the law and all that it calls make is longer than what came in: it says more and counts as full. Else prove '..UptoSaid'. A law counts once. -/
mutual
def uptoBulk {H : Type} : DataW H → Nat
  | .lit (.string bytes) => bytes.length + 1
  | .lit _ => 1
  | .nil => 1
  | .ptr d => uptoBulk d + 1
  | .slice elems spare => uptoBulkAll elems + uptoBulkAll spare + 1
  | .agg parts => uptoBulkAll parts + 1
  | .iface _ d => uptoBulk d + 1
  | .map entries => uptoBulkEntries entries + 1
  | .held _ => 1
def uptoBulkAll {H : Type} : List (DataW H) → Nat
  | [] => 0
  | d :: r => uptoBulk d + uptoBulkAll r
def uptoBulkEntries {H : Type} : List (Lit × DataW H) → Nat
  | [] => 0
  | x :: r => uptoBulkEntry x + uptoBulkEntries r
def uptoBulkEntry {H : Type} : Lit × DataW H → Nat
  | (.string bytes, d) => bytes.length + uptoBulk d + 1
  | (_, d) => uptoBulk d + 1
 end
def uptoSmall : (H : Type) → List (DataW H) → Bool := fun _ ds => decide (uptoBulkAll ds ≤ 1048576)
def OpenSpec.upto (s : _root_.Go.ChangeSpec) : _root_.Go.OpenSpec := { _root_.Go.OpenSpec.ofChange s with cond := some uptoSmall }

/-- 'counterfoillaw03.FilesSure', WHERE WHAT IT READS IS OF BULK AT MOST 1048576: true; the input reads as it did. -/
def filesSureUptoRow : OpenClaim := { program := "ytifgnhbbcpmaiaa", sum := "a3b8774987a4c06ce57ffb9411048eb089e46dbb46498bd56054c6fc02bc8d9b", func := "counterfoil/counterfoillaw03.FilesSure", spec := "filesSure", inPlace := ["internal/abi.NoEscape", "internal/bytealg.MakeNoZero", "maps.clone"], apart := false, narrowed := true }
def FilesSureUptoSaid : Prop := filesSureUptoRow.holds Try.pinned (OpenSpec.upto filesSureSpec)

/-- 'counterfoillaw03.FilesKept', WHERE WHAT IT READS IS OF BULK AT MOST 1048576: true; the input reads as it did. -/
def filesKeptUptoRow : OpenClaim := { program := "ytifgnhbbcpmaiaa", sum := "a3b8774987a4c06ce57ffb9411048eb089e46dbb46498bd56054c6fc02bc8d9b", func := "counterfoil/counterfoillaw03.FilesKept", spec := "filesKept", inPlace := ["internal/abi.NoEscape", "internal/bytealg.MakeNoZero", "maps.clone"], apart := false, narrowed := true }
def FilesKeptUptoSaid : Prop := filesKeptUptoRow.holds Try.pinned (OpenSpec.upto filesKeptSpec)

/-- 'counterfoillaw03.FilesBack', WHERE WHAT IT READS IS OF BULK AT MOST 1048576: true; the input reads as it did. -/
def filesBackUptoRow : OpenClaim := { program := "ytifgnhbbcpmaiaa", sum := "a3b8774987a4c06ce57ffb9411048eb089e46dbb46498bd56054c6fc02bc8d9b", func := "counterfoil/counterfoillaw03.FilesBack", spec := "filesBack", inPlace := ["internal/abi.NoEscape", "internal/bytealg.MakeNoZero", "maps.clone"], apart := false, narrowed := true }
def FilesBackUptoSaid : Prop := filesBackUptoRow.holds Try.pinned (OpenSpec.upto filesBackSpec)

/-- 'counterfoillaw03.FilesKnown', WHERE WHAT IT READS IS OF BULK AT MOST 1048576: true; the input reads as it did. -/
def filesKnownUptoRow : OpenClaim := { program := "ytifgnhbbcpmaiaa", sum := "a3b8774987a4c06ce57ffb9411048eb089e46dbb46498bd56054c6fc02bc8d9b", func := "counterfoil/counterfoillaw03.FilesKnown", spec := "filesKnown", inPlace := ["internal/abi.NoEscape", "internal/bytealg.MakeNoZero", "maps.clone"], apart := false, narrowed := true }
def FilesKnownUptoSaid : Prop := filesKnownUptoRow.holds Try.pinned (OpenSpec.upto filesKnownSpec)

/-- 'counterfoillaw03.FilesPlays', WHERE WHAT IT READS IS OF BULK AT MOST 1048576: true; the input reads as it did. -/
def filesPlaysUptoRow : OpenClaim := { program := "ytifgnhbbcpmaiaa", sum := "a3b8774987a4c06ce57ffb9411048eb089e46dbb46498bd56054c6fc02bc8d9b", func := "counterfoil/counterfoillaw03.FilesPlays", spec := "filesPlays", inPlace := ["internal/abi.NoEscape", "internal/bytealg.MakeNoZero", "maps.clone"], apart := false, narrowed := true }
def FilesPlaysUptoSaid : Prop := filesPlaysUptoRow.holds Try.pinned (OpenSpec.upto filesPlaysSpec)

/-- 'counterfoillaw03.FilesCuts', WHERE WHAT IT READS IS OF BULK AT MOST 1048576: true; the input reads as it did. -/
def filesCutsUptoRow : OpenClaim := { program := "ytifgnhbbcpmaiaa", sum := "a3b8774987a4c06ce57ffb9411048eb089e46dbb46498bd56054c6fc02bc8d9b", func := "counterfoil/counterfoillaw03.FilesCuts", spec := "filesCuts", inPlace := ["internal/abi.NoEscape", "internal/bytealg.MakeNoZero", "maps.clone"], apart := false, narrowed := true }
def FilesCutsUptoSaid : Prop := filesCutsUptoRow.holds Try.pinned (OpenSpec.upto filesCutsSpec)

end Rows
end Go.Proofs.Ytifgnhbbcpmaiaa
