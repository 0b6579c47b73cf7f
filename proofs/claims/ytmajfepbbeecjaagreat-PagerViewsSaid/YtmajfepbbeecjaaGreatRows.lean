/-
  No cell of these rows narrows 'for every input' (looked for: loops, veiled, ifaces, maps, wideKeys, modest, calm, conditions, laid).
  DERIVED. THE GIVEN ROWS OF THIS SEAT. 4 by the template 'for every input the law returns true; each argument reads behind the call as it read before'; 0 by the template 'total and deterministic' (their statements: YtmajfepbbeecjaaGreatTotals.lean).
  GIVEN WITH THE SEED: the statements are not yours to turn. If you find one false, say at which input.
  Laid BY PROGRAM, IN A SANDBOX (cutbox-rows.mjs): the forced cells as the released guide's own fill.sh prints them over the translation 035c38d8db4fe3bb… (all of the seat's roots in one cut). By AI agents, Wed Nov 11 2026. No macro, syntax, notation, axiom, sorry.
-/
import Derived.Test.YtmajfepbbeecjaaGreatChecked
import GoSem.Claim
import GoSem.ClaimJoined
import GoSem.ClaimMapViews
import Derived.JoinedTies
import Derived.KernelRfl
namespace Go.Proofs.YtmajfepbbeecjaaGreat
/- THE CELL 'sum', in the pinned program and in every row, IS THE sha256 OF THE DUMP (.gsa) THAT YtmajfepbbeecjaaGreatProg.lean LOADS. Nothing in Lean hashes anything: it is a label: what it is worth is what the hold of that sum in a sandbox is worth. -/
noncomputable def Tryz.pinned : Pinned := { name := "ytmajfepbbeecjaagreat", sum := "035c38d8db4fe3bbdd925c477d656a6fcb08346ae58887471670619840748802", checked := Tryz.checked }
namespace Rows
def none {H : Type} : Left H := { results := [], args := [] }

/-- 'counterfoillaw06.PagerRolls': WHATEVER THE INPUT: true; the input reads as it did. -/
def pagerRollsSpec : ChangeSpec := { name := "pagerRolls", fn := fun _ => fun
  | [d1, d2, d3] => { results := [.lit (.bool true)], args := [d1, d2, d3] }
  | _ => none }
def pagerRollsRow : OpenClaim := { program := "ytmajfepbbeecjaagreat", sum := "035c38d8db4fe3bbdd925c477d656a6fcb08346ae58887471670619840748802", func := "counterfoil/counterfoillaw06.PagerRolls", spec := "pagerRolls", inPlace := ["internal/abi.NoEscape", "internal/bytealg.MakeNoZero", "maps.clone"], unfollowed := true, recurses := true, apart := false }
def PagerRollsSaid : Prop := pagerRollsRow.holds Tryz.pinned (OpenSpec.ofChange pagerRollsSpec)

/-- ITS FALSE NEIGHBOUR: 'it returns false'. Refute it at one input. -/
def pagerRollsWrong : ChangeSpec := { name := "pagerRolls", fn := fun _ => fun
  | [d1, d2, d3] => { results := [.lit (.bool false)], args := [d1, d2, d3] }
  | _ => none }
def PagerRollsWrongFalsely : Prop := pagerRollsRow.holds Tryz.pinned (OpenSpec.ofChange pagerRollsWrong)

/-- 'counterfoillaw06.PagerViews': WHATEVER THE INPUT: true; the input reads as it did. -/
def pagerViewsSpec : ChangeSpec := { name := "pagerViews", fn := fun _ => fun
  | [d1, d2] => { results := [.lit (.bool true)], args := [d1, d2] }
  | _ => none }
def pagerViewsRow : OpenClaim := { program := "ytmajfepbbeecjaagreat", sum := "035c38d8db4fe3bbdd925c477d656a6fcb08346ae58887471670619840748802", func := "counterfoil/counterfoillaw06.PagerViews", spec := "pagerViews", inPlace := ["internal/abi.NoEscape", "internal/bytealg.MakeNoZero", "maps.clone"], unfollowed := true, recurses := true, apart := false }
def PagerViewsSaid : Prop := pagerViewsRow.holds Tryz.pinned (OpenSpec.ofChange pagerViewsSpec)

/-- ITS FALSE NEIGHBOUR: 'it returns false'. Refute it at one input. -/
def pagerViewsWrong : ChangeSpec := { name := "pagerViews", fn := fun _ => fun
  | [d1, d2] => { results := [.lit (.bool false)], args := [d1, d2] }
  | _ => none }
def PagerViewsWrongFalsely : Prop := pagerViewsRow.holds Tryz.pinned (OpenSpec.ofChange pagerViewsWrong)

/-- 'counterfoillaw06.PagerKnown': WHATEVER THE INPUT: true; the input reads as it did. -/
def pagerKnownSpec : ChangeSpec := { name := "pagerKnown", fn := fun _ => fun
  | [] => { results := [.lit (.bool true)], args := [] }
  | _ => none }
def pagerKnownRow : OpenClaim := { program := "ytmajfepbbeecjaagreat", sum := "035c38d8db4fe3bbdd925c477d656a6fcb08346ae58887471670619840748802", func := "counterfoil/counterfoillaw06.PagerKnown", spec := "pagerKnown", inPlace := ["internal/abi.NoEscape", "internal/bytealg.MakeNoZero", "maps.clone"], unfollowed := true, recurses := true, apart := false }
def PagerKnownSaid : Prop := pagerKnownRow.holds Tryz.pinned (OpenSpec.ofChange pagerKnownSpec)

/-- ITS FALSE NEIGHBOUR: 'it returns false'. Refute it at one input. -/
def pagerKnownWrong : ChangeSpec := { name := "pagerKnown", fn := fun _ => fun
  | [] => { results := [.lit (.bool false)], args := [] }
  | _ => none }
def PagerKnownWrongFalsely : Prop := pagerKnownRow.holds Tryz.pinned (OpenSpec.ofChange pagerKnownWrong)

/-- 'counterfoillaw06.PagerPlays': WHATEVER THE INPUT: true; the input reads as it did. -/
def pagerPlaysSpec : ChangeSpec := { name := "pagerPlays", fn := fun _ => fun
  | [d] => { results := [.lit (.bool true)], args := [d] }
  | _ => none }
def pagerPlaysRow : OpenClaim := { program := "ytmajfepbbeecjaagreat", sum := "035c38d8db4fe3bbdd925c477d656a6fcb08346ae58887471670619840748802", func := "counterfoil/counterfoillaw06.PagerPlays", spec := "pagerPlays", inPlace := ["internal/abi.NoEscape", "internal/bytealg.MakeNoZero", "maps.clone"], unfollowed := true, recurses := true, apart := false }
def PagerPlaysSaid : Prop := pagerPlaysRow.holds Tryz.pinned (OpenSpec.ofChange pagerPlaysSpec)

/-- ITS FALSE NEIGHBOUR: 'it returns false'. Refute it at one input. -/
def pagerPlaysWrong : ChangeSpec := { name := "pagerPlays", fn := fun _ => fun
  | [d] => { results := [.lit (.bool false)], args := [d] }
  | _ => none }
def PagerPlaysWrongFalsely : Prop := pagerPlaysRow.holds Tryz.pinned (OpenSpec.ofChange pagerPlaysWrong)

/- THE SECOND FORM. 'bulk': how many values and letters a reading holds, each counted each time it is reached (what is shared counts as often as it is met; a slice's spare places count too). A statement '..UptoSaid' is the law's where the arguments, and the package variables that the reading takes, are together of bulk at most 1048576: NARROWER than '..Said'. Prove '..Said' where nothing that the law and all that it calls make is longer than what came in: it says more and counts as full. Else prove '..UptoSaid'. A law counts once. -/
mutual
def uptoBulk {H : Type} : DataW H → Nat
  | .lit (.string bytes) => bytes.length + 1
  | .lit _ => 1
  | .nil => 1
  | .ptr d => uptoBulk d + 1
  | .slice elems spare => uptoBulkAll elems + uptoBulkAll spare + 1
  | .agg parts => uptoBulkAll parts + 1
  | .iface _ d => uptoBulk d + 1
  | .map entries => uptoBulkEntries entries + 1
  | .held _ => 1
def uptoBulkAll {H : Type} : List (DataW H) → Nat
  | [] => 0
  | d :: r => uptoBulk d + uptoBulkAll r
def uptoBulkEntries {H : Type} : List (Lit × DataW H) → Nat
  | [] => 0
  | x :: r => uptoBulkEntry x + uptoBulkEntries r
def uptoBulkEntry {H : Type} : Lit × DataW H → Nat
  | (.string bytes, d) => bytes.length + uptoBulk d + 1
  | (_, d) => uptoBulk d + 1
 end
def uptoSmall : (H : Type) → List (DataW H) → Bool := fun _ ds => decide (uptoBulkAll ds ≤ 1048576)
def OpenSpec.upto (s : _root_.Go.ChangeSpec) : _root_.Go.OpenSpec := { _root_.Go.OpenSpec.ofChange s with cond := some uptoSmall }

/-- 'counterfoillaw06.PagerRolls', WHERE WHAT IT READS IS OF BULK AT MOST 1048576: true; the input reads as it did. -/
def pagerRollsUptoRow : OpenClaim := { program := "ytmajfepbbeecjaagreat", sum := "035c38d8db4fe3bbdd925c477d656a6fcb08346ae58887471670619840748802", func := "counterfoil/counterfoillaw06.PagerRolls", spec := "pagerRolls", inPlace := ["internal/abi.NoEscape", "internal/bytealg.MakeNoZero", "maps.clone"], unfollowed := true, recurses := true, apart := false, narrowed := true }
def PagerRollsUptoSaid : Prop := pagerRollsUptoRow.holds Tryz.pinned (OpenSpec.upto pagerRollsSpec)

/-- 'counterfoillaw06.PagerViews', WHERE WHAT IT READS IS OF BULK AT MOST 1048576: true; the input reads as it did. -/
def pagerViewsUptoRow : OpenClaim := { program := "ytmajfepbbeecjaagreat", sum := "035c38d8db4fe3bbdd925c477d656a6fcb08346ae58887471670619840748802", func := "counterfoil/counterfoillaw06.PagerViews", spec := "pagerViews", inPlace := ["internal/abi.NoEscape", "internal/bytealg.MakeNoZero", "maps.clone"], unfollowed := true, recurses := true, apart := false, narrowed := true }
def PagerViewsUptoSaid : Prop := pagerViewsUptoRow.holds Tryz.pinned (OpenSpec.upto pagerViewsSpec)

/-- 'counterfoillaw06.PagerKnown', WHERE WHAT IT READS IS OF BULK AT MOST 1048576: true; the input reads as it did. -/
def pagerKnownUptoRow : OpenClaim := { program := "ytmajfepbbeecjaagreat", sum := "035c38d8db4fe3bbdd925c477d656a6fcb08346ae58887471670619840748802", func := "counterfoil/counterfoillaw06.PagerKnown", spec := "pagerKnown", inPlace := ["internal/abi.NoEscape", "internal/bytealg.MakeNoZero", "maps.clone"], unfollowed := true, recurses := true, apart := false, narrowed := true }
def PagerKnownUptoSaid : Prop := pagerKnownUptoRow.holds Tryz.pinned (OpenSpec.upto pagerKnownSpec)

/-- 'counterfoillaw06.PagerPlays', WHERE WHAT IT READS IS OF BULK AT MOST 1048576: true; the input reads as it did. -/
def pagerPlaysUptoRow : OpenClaim := { program := "ytmajfepbbeecjaagreat", sum := "035c38d8db4fe3bbdd925c477d656a6fcb08346ae58887471670619840748802", func := "counterfoil/counterfoillaw06.PagerPlays", spec := "pagerPlays", inPlace := ["internal/abi.NoEscape", "internal/bytealg.MakeNoZero", "maps.clone"], unfollowed := true, recurses := true, apart := false, narrowed := true }
def PagerPlaysUptoSaid : Prop := pagerPlaysUptoRow.holds Tryz.pinned (OpenSpec.upto pagerPlaysSpec)

end Rows
end Go.Proofs.YtmajfepbbeecjaaGreat
