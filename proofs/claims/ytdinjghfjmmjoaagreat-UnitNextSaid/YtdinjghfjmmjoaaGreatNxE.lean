/- Plain laws of UnitNext: checkpoints; what Next tells. -/
import Derived.Test.YtdinjghfjmmjoaaGreatNxD
import Derived.Test.YtdinjghfjmmjoaaGreatUtB
set_option linter.unusedVariables false
set_option linter.unusedSimpArgs false
namespace Go.Proofs.YtdinjghfjmmjoaaGreat
open Go.RowKit Go.Maps
set_option maxRecDepth 20000
section
variable {g : Lg} {d : Dsk} {L : List (List UInt8)} {S : List (List (List UInt8))} {A : List (List Int)} {lg : Nat}
theorem nx_check (h : NxInv g d L S A lg) (hg : g.Ok) : ∃ g' d', lcheckM g d = (0, g', d') ∧ NxInv g' d' L S A S.length := by
  obtain ⟨e, hk⟩ := check_calm h.db.calm hg
  obtain ⟨r, hr⟩ : ∃ r, r = lcheckM g d := ⟨_, rfl⟩
  rw [← hr] at e hk ⊢
  obtain ⟨e0, g', d'⟩ := r
  dsimp only at e hk
  subst e
  have hp := h.db.pages
  have hm := h.db.many
  refine ⟨g', d', rfl, ⟨⟨hk.calm, ?_, hm, fun n n1 n2 => ?_, h.db.len⟩, h.good, h.few, h.commits, h.same, Nat.le_refl _, h.last, fun k => ?_, fun k => ?_⟩⟩
  · rw [hk.pages, hp]
  · exact (hk.page n n1 (by omega)).trans (h.db.page n n1 n2)
  · rw [hk.list]
    rfl
  · rw [hk.list, if_neg (by omega)]
    rfl
theorem nx_ready (h : NxInv g d L S A lg) : ∃ hd, ureadyM p0 g d = (hd, 0) ∧ hd.commits = (S.length : Int) := by
  obtain ⟨hd, e1, e2⟩ := uready_db (p := p0) h.db.w h.good rfl
  exact ⟨hd, e1, by rw [e2, h.commits]⟩
theorem nx_st (h : NxInv g d L S A lg) : stOk p0 g d ∧ stL p0 g d = L := by
  have hP := db_pages (p := p0) h.db.w rfl
  have hrd := fun n h1 h2 => db_read (p := p0) h.db.w rfl n h1 h2
  refine ⟨fun k hk => ?_, ?_⟩
  · rw [hP] at hk
    have := hrd (k + 1) (by omega) (by omega)
    rw [show (((k + 1 : Nat) : Int)) = (k : Int) + 1 by omega] at this
    rw [this]
  · unfold stL pgsR
    rw [hP, Int.toNat_natCast]
    apply List.ext_getElem
    · simp
    · intro i h1 h2
      have := hrd (i + 1) (by omega) (by omega)
      rw [show (((i + 1 : Nat) : Int)) = (i : Int) + 1 by omega] at this
      simp only [List.getElem_map, List.getElem_range]
      rw [this]
      simp only [Nat.add_sub_cancel]
      rw [List.getD_eq_getElem?_getD, List.getElem?_eq_getElem h2]
      rfl
theorem nx_next (h : NxInv g d L S A lg) (hS : S.length ≤ 1000) (ep : Int) (k : Nat) :
    nextM p0 g d ep k = if S.length ≤ k then (sh0, 4) else if lg ≤ k then (⟨1, ep, (k : Int) + 1, false, ((S.getD k []).length : Int), unitI (S.getD k []) (A.getD k [])⟩, 0) else (⟨1, ep, (S.length : Int), true, (L.length : Int), imgsOf L⟩, 0) := by
  obtain ⟨hd, e1, e2⟩ := nx_ready h
  unfold nextM
  rw [e1, if_neg (by simp), e2]
  by_cases h1 : S.length ≤ k
  · rw [if_pos (by omega), if_pos h1]
  · rw [if_neg (by omega), if_neg h1]
    have hw : IntKind.u64.wrap ((k : Int) + 1) = (k : Int) + 1 := IntWalk.u64_in _ (by omega)
    rw [hw]
    unfold loggedM
    rw [h.units k]
    by_cases h2 : lg ≤ k
    · rw [if_pos ⟨h2, by omega⟩, if_pos h2]
    · rw [if_neg (fun hh => h2 hh.1), if_neg h2]
      dsimp only
      unfold snapM
      rw [e1, if_neg (by simp), e2, if_neg (by omega), (nx_st h).2, db_pages h.db.w rfl]
end
end Go.Proofs.YtdinjghfjmmjoaaGreat
