import Derived.Test.YtdinjghfjmmjoaaGreatPgD
import Derived.Test.YtdinjghfjmmjoaaGreatLast
namespace Go.Proofs.YtdinjghfjmmjoaaGreat
open Go.RowKit Go.Maps
set_option linter.unusedVariables false
set_option linter.unusedSimpArgs false
set_option maxRecDepth 20000

section
variable {w w1 w2 w3 w' : World} {pb l b : Nat} {F K : Foot} {G : Nat → Prop} {p : Pg} {g : Lg} {d : Dsk} {nv sv : Value}
theorem ne_cells {k m : Nat} {cs : Array Value} {T : TypeId} {fr : Nat × Nat} {es : Array MapEntry} {c : Nat} (h : w.heap[k]? = some (.cells cs T fr)) (h2 : w.heap[m]? = some (.map es c)) : k ≠ m := fun e => by
  rw [e, h2] at h; cases h
theorem ne_type {k m : Nat} {cs cs2 : Array Value} {T T2 : TypeId} {fr fr2 : Nat × Nat} (h : w.heap[k]? = some (.cells cs T fr)) (h2 : w.heap[m]? = some (.cells cs2 T2 fr2)) (hT : T ≠ T2) : k ≠ m := fun e => by
  rw [e, h2] at h
  injection h with h
  injection h with _ h5 _
  exact hT h5.symm
end
end Go.Proofs.YtdinjghfjmmjoaaGreat
