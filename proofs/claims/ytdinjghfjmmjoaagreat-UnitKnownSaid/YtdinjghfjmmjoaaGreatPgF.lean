import Derived.Test.YtdinjghfjmmjoaaGreatPgE
namespace Go.Proofs.YtdinjghfjmmjoaaGreat
open Go.RowKit Go.Maps
set_option linter.unusedVariables false
set_option linter.unusedSimpArgs false
set_option maxRecDepth 20000

section
variable {w w1 w2 w3 w' : World} {pb l b : Nat} {F K : Foot} {G : Nat → Prop} {p : Pg} {g : Lg} {d : Dsk} {nv sv : Value}
theorem PgDid.drew {p' : Pg} (h : PgDid w pb l K p' w') : PgDid w pb l K p' w'.drew := by
  obtain ⟨K', nv', sv', hm, hs⟩ := h
  exact ⟨K', nv', sv', hm.below (Below.refl _ _).drew, ⟨hs.frm.drew, hs.own, hs.sh⟩⟩
end
end Go.Proofs.YtdinjghfjmmjoaaGreat
