/-
  No cell of these rows narrows 'for every input' (looked for: loops, veiled, ifaces, maps, wideKeys, modest, calm, conditions, laid).
  DERIVED. THE GIVEN ROWS OF THIS SEAT. 7 by the template 'for every input the law returns true; each argument reads behind the call as it read before'; 0 by the template 'total and deterministic' (their statements: YtdgpdfigipplpaaTotals.lean).
  GIVEN WITH THE SEED: the statements are not yours to turn. If you find one false, say at which input.
  Laid BY PROGRAM, IN A SANDBOX (cutbox-rows.mjs): the forced cells as the released guide's own fill.sh prints them over the translation fb6911c6da0abe5e… (all of the seat's roots in one cut). By AI agents, Wed Nov 11 2026. No macro, syntax, notation, axiom, sorry.
-/
import Derived.Test.YtdgpdfigipplpaaChecked
import GoSem.Claim
import GoSem.ClaimJoined
import GoSem.ClaimMapViews
import Derived.JoinedTies
import Derived.KernelRfl
namespace Go.Proofs.Ytdgpdfigipplpaa
/- THE CELL 'sum', in the pinned program and in every row, IS THE sha256 OF THE DUMP (.gsa) THAT YtdgpdfigipplpaaProg.lean LOADS. Nothing in Lean hashes anything: it is a label: what it is worth is what the hold of that sum in a sandbox is worth. -/
noncomputable def Try.pinned : Pinned := { name := "ytdgpdfigipplpaa", sum := "fb6911c6da0abe5e48383c1173d29db01036e3e1fc331c1ed54aa193b168036d", checked := Try.checked }
namespace Rows
def none {H : Type} : Left H := { results := [], args := [] }

/-- 'counterfoillaw26.ShipKnown': WHATEVER THE INPUT: true; the input reads as it did. -/
def shipKnownSpec : ChangeSpec := { name := "shipKnown", fn := fun _ => fun
  | [] => { results := [.lit (.bool true)], args := [] }
  | _ => none }
def shipKnownRow : OpenClaim := { program := "ytdgpdfigipplpaa", sum := "fb6911c6da0abe5e48383c1173d29db01036e3e1fc331c1ed54aa193b168036d", func := "counterfoil/counterfoillaw26.ShipKnown", spec := "shipKnown", inPlace := ["internal/abi.NoEscape", "internal/bytealg.MakeNoZero"], unfollowed := true, recurses := true, apart := false }
def ShipKnownSaid : Prop := shipKnownRow.holds Try.pinned (OpenSpec.ofChange shipKnownSpec)

/-- ITS FALSE NEIGHBOUR: 'it returns false'. Refute it at one input. -/
def shipKnownWrong : ChangeSpec := { name := "shipKnown", fn := fun _ => fun
  | [] => { results := [.lit (.bool false)], args := [] }
  | _ => none }
def ShipKnownWrongFalsely : Prop := shipKnownRow.holds Try.pinned (OpenSpec.ofChange shipKnownWrong)

/-- 'counterfoillaw26.ShipPuts': WHATEVER THE INPUT: true; the input reads as it did. -/
def shipPutsSpec : ChangeSpec := { name := "shipPuts", fn := fun _ => fun
  | [d1, d2] => { results := [.lit (.bool true)], args := [d1, d2] }
  | _ => none }
def shipPutsRow : OpenClaim := { program := "ytdgpdfigipplpaa", sum := "fb6911c6da0abe5e48383c1173d29db01036e3e1fc331c1ed54aa193b168036d", func := "counterfoil/counterfoillaw26.ShipPuts", spec := "shipPuts", inPlace := ["internal/abi.NoEscape", "internal/bytealg.MakeNoZero"], unfollowed := true, recurses := true, apart := false }
def ShipPutsSaid : Prop := shipPutsRow.holds Try.pinned (OpenSpec.ofChange shipPutsSpec)

/-- ITS FALSE NEIGHBOUR: 'it returns false'. Refute it at one input. -/
def shipPutsWrong : ChangeSpec := { name := "shipPuts", fn := fun _ => fun
  | [d1, d2] => { results := [.lit (.bool false)], args := [d1, d2] }
  | _ => none }
def ShipPutsWrongFalsely : Prop := shipPutsRow.holds Try.pinned (OpenSpec.ofChange shipPutsWrong)

/-- 'counterfoillaw26.ShipTakes': WHATEVER THE INPUT: true; the input reads as it did. -/
def shipTakesSpec : ChangeSpec := { name := "shipTakes", fn := fun _ => fun
  | [d] => { results := [.lit (.bool true)], args := [d] }
  | _ => none }
def shipTakesRow : OpenClaim := { program := "ytdgpdfigipplpaa", sum := "fb6911c6da0abe5e48383c1173d29db01036e3e1fc331c1ed54aa193b168036d", func := "counterfoil/counterfoillaw26.ShipTakes", spec := "shipTakes", inPlace := ["internal/abi.NoEscape", "internal/bytealg.MakeNoZero"], unfollowed := true, recurses := true, apart := false }
def ShipTakesSaid : Prop := shipTakesRow.holds Try.pinned (OpenSpec.ofChange shipTakesSpec)

/-- ITS FALSE NEIGHBOUR: 'it returns false'. Refute it at one input. -/
def shipTakesWrong : ChangeSpec := { name := "shipTakes", fn := fun _ => fun
  | [d] => { results := [.lit (.bool false)], args := [d] }
  | _ => none }
def ShipTakesWrongFalsely : Prop := shipTakesRow.holds Try.pinned (OpenSpec.ofChange shipTakesWrong)

/-- 'counterfoillaw26.ShipBack': WHATEVER THE INPUT: true; the input reads as it did. -/
def shipBackSpec : ChangeSpec := { name := "shipBack", fn := fun _ => fun
  | [d1, d2] => { results := [.lit (.bool true)], args := [d1, d2] }
  | _ => none }
def shipBackRow : OpenClaim := { program := "ytdgpdfigipplpaa", sum := "fb6911c6da0abe5e48383c1173d29db01036e3e1fc331c1ed54aa193b168036d", func := "counterfoil/counterfoillaw26.ShipBack", spec := "shipBack", inPlace := ["internal/abi.NoEscape", "internal/bytealg.MakeNoZero"], unfollowed := true, recurses := true, apart := false }
def ShipBackSaid : Prop := shipBackRow.holds Try.pinned (OpenSpec.ofChange shipBackSpec)

/-- ITS FALSE NEIGHBOUR: 'it returns false'. Refute it at one input. -/
def shipBackWrong : ChangeSpec := { name := "shipBack", fn := fun _ => fun
  | [d1, d2] => { results := [.lit (.bool false)], args := [d1, d2] }
  | _ => none }
def ShipBackWrongFalsely : Prop := shipBackRow.holds Try.pinned (OpenSpec.ofChange shipBackWrong)

/-- 'counterfoillaw26.ShipByte': WHATEVER THE INPUT: true; the input reads as it did. -/
def shipByteSpec : ChangeSpec := { name := "shipByte", fn := fun _ => fun
  | [d1, d2, d3] => { results := [.lit (.bool true)], args := [d1, d2, d3] }
  | _ => none }
def shipByteRow : OpenClaim := { program := "ytdgpdfigipplpaa", sum := "fb6911c6da0abe5e48383c1173d29db01036e3e1fc331c1ed54aa193b168036d", func := "counterfoil/counterfoillaw26.ShipByte", spec := "shipByte", inPlace := ["internal/abi.NoEscape", "internal/bytealg.MakeNoZero"], unfollowed := true, recurses := true, apart := false }
def ShipByteSaid : Prop := shipByteRow.holds Try.pinned (OpenSpec.ofChange shipByteSpec)

/-- ITS FALSE NEIGHBOUR: 'it returns false'. Refute it at one input. -/
def shipByteWrong : ChangeSpec := { name := "shipByte", fn := fun _ => fun
  | [d1, d2, d3] => { results := [.lit (.bool false)], args := [d1, d2, d3] }
  | _ => none }
def ShipByteWrongFalsely : Prop := shipByteRow.holds Try.pinned (OpenSpec.ofChange shipByteWrong)

/-- 'counterfoillaw26.ShipBlock': WHATEVER THE INPUT: true; the input reads as it did. -/
def shipBlockSpec : ChangeSpec := { name := "shipBlock", fn := fun _ => fun
  | [d1, d2, d3] => { results := [.lit (.bool true)], args := [d1, d2, d3] }
  | _ => none }
def shipBlockRow : OpenClaim := { program := "ytdgpdfigipplpaa", sum := "fb6911c6da0abe5e48383c1173d29db01036e3e1fc331c1ed54aa193b168036d", func := "counterfoil/counterfoillaw26.ShipBlock", spec := "shipBlock", inPlace := ["internal/abi.NoEscape", "internal/bytealg.MakeNoZero"], unfollowed := true, recurses := true, apart := false }
def ShipBlockSaid : Prop := shipBlockRow.holds Try.pinned (OpenSpec.ofChange shipBlockSpec)

/-- ITS FALSE NEIGHBOUR: 'it returns false'. Refute it at one input. -/
def shipBlockWrong : ChangeSpec := { name := "shipBlock", fn := fun _ => fun
  | [d1, d2, d3] => { results := [.lit (.bool false)], args := [d1, d2, d3] }
  | _ => none }
def ShipBlockWrongFalsely : Prop := shipBlockRow.holds Try.pinned (OpenSpec.ofChange shipBlockWrong)

/-- 'counterfoillaw26.ShipSizes': WHATEVER THE INPUT: true; the input reads as it did. -/
def shipSizesSpec : ChangeSpec := { name := "shipSizes", fn := fun _ => fun
  | [d] => { results := [.lit (.bool true)], args := [d] }
  | _ => none }
def shipSizesRow : OpenClaim := { program := "ytdgpdfigipplpaa", sum := "fb6911c6da0abe5e48383c1173d29db01036e3e1fc331c1ed54aa193b168036d", func := "counterfoil/counterfoillaw26.ShipSizes", spec := "shipSizes", inPlace := ["internal/abi.NoEscape", "internal/bytealg.MakeNoZero"], unfollowed := true, recurses := true, apart := false }
def ShipSizesSaid : Prop := shipSizesRow.holds Try.pinned (OpenSpec.ofChange shipSizesSpec)

/-- ITS FALSE NEIGHBOUR: 'it returns false'. Refute it at one input. -/
def shipSizesWrong : ChangeSpec := { name := "shipSizes", fn := fun _ => fun
  | [d] => { results := [.lit (.bool false)], args := [d] }
  | _ => none }
def ShipSizesWrongFalsely : Prop := shipSizesRow.holds Try.pinned (OpenSpec.ofChange shipSizesWrong)

/- THE SECOND FORM. 'bulk': how many values and letters a reading holds, each counted each time it is reached (what is shared counts as often as it is met; a slice's spare places count too). A statement '..UptoSaid' is the law's where the arguments, and the package variables that the reading takes, are together of bulk at most 1048576: NARROWER than '..Said'. Prove '..Said' where nothing that the law and all that it calls make is longer than what came in: it says more and counts as full. Else prove '..UptoSaid'. A law counts once. -/
mutual
def uptoBulk {H : Type} : DataW H → Nat
  | .lit (.string bytes) => bytes.length + 1
  | .lit _ => 1
  | .nil => 1
  | .ptr d => uptoBulk d + 1
  | .slice elems spare => uptoBulkAll elems + uptoBulkAll spare + 1
  | .agg parts => uptoBulkAll parts + 1
  | .iface _ d => uptoBulk d + 1
  | .map entries => uptoBulkEntries entries + 1
  | .held _ => 1
def uptoBulkAll {H : Type} : List (DataW H) → Nat
  | [] => 0
  | d :: r => uptoBulk d + uptoBulkAll r
def uptoBulkEntries {H : Type} : List (Lit × DataW H) → Nat
  | [] => 0
  | x :: r => uptoBulkEntry x + uptoBulkEntries r
def uptoBulkEntry {H : Type} : Lit × DataW H → Nat
  | (.string bytes, d) => bytes.length + uptoBulk d + 1
  | (_, d) => uptoBulk d + 1
 end
def uptoSmall : (H : Type) → List (DataW H) → Bool := fun _ ds => decide (uptoBulkAll ds ≤ 1048576)
def OpenSpec.upto (s : _root_.Go.ChangeSpec) : _root_.Go.OpenSpec := { _root_.Go.OpenSpec.ofChange s with cond := some uptoSmall }

/-- 'counterfoillaw26.ShipKnown', WHERE WHAT IT READS IS OF BULK AT MOST 1048576: true; the input reads as it did. -/
def shipKnownUptoRow : OpenClaim := { program := "ytdgpdfigipplpaa", sum := "fb6911c6da0abe5e48383c1173d29db01036e3e1fc331c1ed54aa193b168036d", func := "counterfoil/counterfoillaw26.ShipKnown", spec := "shipKnown", inPlace := ["internal/abi.NoEscape", "internal/bytealg.MakeNoZero"], unfollowed := true, recurses := true, apart := false, narrowed := true }
def ShipKnownUptoSaid : Prop := shipKnownUptoRow.holds Try.pinned (OpenSpec.upto shipKnownSpec)

/-- 'counterfoillaw26.ShipPuts', WHERE WHAT IT READS IS OF BULK AT MOST 1048576: true; the input reads as it did. -/
def shipPutsUptoRow : OpenClaim := { program := "ytdgpdfigipplpaa", sum := "fb6911c6da0abe5e48383c1173d29db01036e3e1fc331c1ed54aa193b168036d", func := "counterfoil/counterfoillaw26.ShipPuts", spec := "shipPuts", inPlace := ["internal/abi.NoEscape", "internal/bytealg.MakeNoZero"], unfollowed := true, recurses := true, apart := false, narrowed := true }
def ShipPutsUptoSaid : Prop := shipPutsUptoRow.holds Try.pinned (OpenSpec.upto shipPutsSpec)

/-- 'counterfoillaw26.ShipTakes', WHERE WHAT IT READS IS OF BULK AT MOST 1048576: true; the input reads as it did. -/
def shipTakesUptoRow : OpenClaim := { program := "ytdgpdfigipplpaa", sum := "fb6911c6da0abe5e48383c1173d29db01036e3e1fc331c1ed54aa193b168036d", func := "counterfoil/counterfoillaw26.ShipTakes", spec := "shipTakes", inPlace := ["internal/abi.NoEscape", "internal/bytealg.MakeNoZero"], unfollowed := true, recurses := true, apart := false, narrowed := true }
def ShipTakesUptoSaid : Prop := shipTakesUptoRow.holds Try.pinned (OpenSpec.upto shipTakesSpec)

/-- 'counterfoillaw26.ShipBack', WHERE WHAT IT READS IS OF BULK AT MOST 1048576: true; the input reads as it did. -/
def shipBackUptoRow : OpenClaim := { program := "ytdgpdfigipplpaa", sum := "fb6911c6da0abe5e48383c1173d29db01036e3e1fc331c1ed54aa193b168036d", func := "counterfoil/counterfoillaw26.ShipBack", spec := "shipBack", inPlace := ["internal/abi.NoEscape", "internal/bytealg.MakeNoZero"], unfollowed := true, recurses := true, apart := false, narrowed := true }
def ShipBackUptoSaid : Prop := shipBackUptoRow.holds Try.pinned (OpenSpec.upto shipBackSpec)

/-- 'counterfoillaw26.ShipByte', WHERE WHAT IT READS IS OF BULK AT MOST 1048576: true; the input reads as it did. -/
def shipByteUptoRow : OpenClaim := { program := "ytdgpdfigipplpaa", sum := "fb6911c6da0abe5e48383c1173d29db01036e3e1fc331c1ed54aa193b168036d", func := "counterfoil/counterfoillaw26.ShipByte", spec := "shipByte", inPlace := ["internal/abi.NoEscape", "internal/bytealg.MakeNoZero"], unfollowed := true, recurses := true, apart := false, narrowed := true }
def ShipByteUptoSaid : Prop := shipByteUptoRow.holds Try.pinned (OpenSpec.upto shipByteSpec)

/-- 'counterfoillaw26.ShipBlock', WHERE WHAT IT READS IS OF BULK AT MOST 1048576: true; the input reads as it did. -/
def shipBlockUptoRow : OpenClaim := { program := "ytdgpdfigipplpaa", sum := "fb6911c6da0abe5e48383c1173d29db01036e3e1fc331c1ed54aa193b168036d", func := "counterfoil/counterfoillaw26.ShipBlock", spec := "shipBlock", inPlace := ["internal/abi.NoEscape", "internal/bytealg.MakeNoZero"], unfollowed := true, recurses := true, apart := false, narrowed := true }
def ShipBlockUptoSaid : Prop := shipBlockUptoRow.holds Try.pinned (OpenSpec.upto shipBlockSpec)

/-- 'counterfoillaw26.ShipSizes', WHERE WHAT IT READS IS OF BULK AT MOST 1048576: true; the input reads as it did. -/
def shipSizesUptoRow : OpenClaim := { program := "ytdgpdfigipplpaa", sum := "fb6911c6da0abe5e48383c1173d29db01036e3e1fc331c1ed54aa193b168036d", func := "counterfoil/counterfoillaw26.ShipSizes", spec := "shipSizes", inPlace := ["internal/abi.NoEscape", "internal/bytealg.MakeNoZero"], unfollowed := true, recurses := true, apart := false, narrowed := true }
def ShipSizesUptoSaid : Prop := shipSizesUptoRow.holds Try.pinned (OpenSpec.upto shipSizesSpec)

end Rows
end Go.Proofs.Ytdgpdfigipplpaa
