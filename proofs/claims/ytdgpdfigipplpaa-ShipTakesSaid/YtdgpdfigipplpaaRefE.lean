/- Plain laws for counterfoilref26.May: the flag that goes on after it is false is mayB at the end. -/
import Derived.Test.YtdgpdfigipplpaaRefD
namespace Go.Proofs.Ytdgpdfigipplpaa
open Go.RowKit
set_option linter.unusedVariables false
set_option linter.unusedSimpArgs false

def startB (m : Sh) : Bool := decide (m.kind = 1) && decide (1 ≤ m.pages) && decide (m.pages ≤ 256) && decide (0 < m.k)
def stepB (m : Sh) (j : Nat) : Bool :=
  decide (1 ≤ (m.imgs.getD j (0, [])).1) && decide ((m.imgs.getD j (0, [])).1 ≤ m.pages) && decide ((m.imgs.getD j (0, [])).2.length = 512) &&
    (decide (j = 0) || decide ((m.imgs.getD (j - 1) (0, [])).1 < (m.imgs.getD j (0, [])).1)) && (!m.full || decide ((m.imgs.getD j (0, [])).1 = (j : Int) + 1))
def okB (m : Sh) : Nat → Bool
  | 0 => startB m
  | k + 1 => okB m k && stepB m k
theorem okB_zero (m : Sh) : okB m 0 = startB m := rfl
theorem okB_succ (m : Sh) (k : Nat) : okB m (k + 1) = (okB m k && stepB m k) := rfl
theorem okB_iff (m : Sh) : ∀ k, okB m k = true ↔ startB m = true ∧ ∀ j, j < k → stepB m j = true
  | 0 => by rw [okB_zero]; simp
  | k + 1 => by
    rw [okB_succ, Bool.and_eq_true, okB_iff m k]
    constructor
    · rintro ⟨⟨h1, h2⟩, h3⟩
      refine ⟨h1, fun j hj => ?_⟩
      by_cases e : j = k
      · subst e; exact h3
      · exact h2 j (by omega)
    · rintro ⟨h1, h2⟩
      exact ⟨⟨h1, fun j hj => h2 j (by omega)⟩, h2 k (by omega)⟩
theorem stepB_iff (m : Sh) (j : Nat) (hj : j < m.imgs.length) : stepB m j = true ↔ 1 ≤ m.imgs[j].1 ∧ m.imgs[j].1 ≤ m.pages ∧ m.imgs[j].2.length = 512 ∧ (j = 0 ∨ (m.imgs.getD (j - 1) (0, [])).1 < m.imgs[j].1) ∧ (m.full = true → m.imgs[j].1 = (j : Int) + 1) := by
  have e : m.imgs.getD j (0, []) = m.imgs[j] := by simp [List.getD, hj]
  unfold stepB
  rw [e]
  cases m.full <;> simp [and_assoc]
theorem prev_first (m : Sh) : prevAt 0 m.imgs 0 = 0 := rfl
theorem prev_next (m : Sh) (j : Nat) : prevAt 0 m.imgs (j + 1) = (m.imgs.getD j (0, [])).1 := rfl

theorem may_full_law (m : Sh) (h2 : ¬ m.kind = 2) (hk : 0 ≤ m.k) : (okB m m.imgs.length && (!m.full || decide ((m.imgs.length : Int) = m.pages))) = mayB m := by
  rw [Bool.eq_iff_iff, Bool.and_eq_true, okB_iff]
  unfold mayB
  rw [if_neg h2]
  by_cases h1 : m.kind = 1
  · rw [if_pos h1, Bool.and_eq_true, mayImgs_iff]
    have hs : startB m = true ↔ 1 ≤ m.pages ∧ m.pages ≤ 256 ∧ 0 < m.k := by unfold startB; simp [h1, and_assoc]
    have ht : (!(decide (m.pages < 1) || decide (256 < m.pages) || decide (m.k = 0) || (m.full && !decide ((m.imgs.length : Int) = m.pages)))) = true ↔ (1 ≤ m.pages ∧ m.pages ≤ 256 ∧ 0 < m.k) ∧ (!m.full || decide ((m.imgs.length : Int) = m.pages)) = true := by
      cases m.full
      · simp; omega
      · simp; omega
    rw [hs, ht]
    constructor
    · rintro ⟨⟨h3, h4⟩, h5⟩
      refine ⟨⟨h3, h5⟩, fun j hj => ?_⟩
      obtain ⟨g1, g2, g3, g4, g5⟩ := (stepB_iff m j hj).1 (h4 j hj)
      refine ⟨?_, g2, g3⟩
      cases j with
      | zero => rw [prev_first]; omega
      | succ j => rw [prev_next]; rcases g4 with g4 | g4; · omega
                  exact g4
    · rintro ⟨⟨h3, h5⟩, h4⟩
      refine ⟨⟨h3, fun j hj => ?_⟩, h5⟩
      have hfull : m.full = true → ∀ (j : Nat) (hj : j < m.imgs.length), m.imgs[j].1 = 0 + j + 1 := by
        intro hf
        rw [hf] at h5
        have h5' : (m.imgs.length : Int) = m.pages := by simpa using h5
        exact mayImgs_full m.pages m.imgs 0 (by omega) ((mayImgs_iff _ _ _).2 h4) (by omega)
      have hpos : ∀ (j : Nat), j < m.imgs.length → 0 ≤ prevAt 0 m.imgs j := by
        intro j
        induction j with
        | zero => intro _; rw [prev_first]; omega
        | succ j ih =>
          intro hj
          have a := ih (by omega)
          have b := (h4 j (by omega)).1
          rw [prev_next]
          have e : m.imgs.getD j (0, []) = m.imgs[j] := by simp [List.getD, show j < m.imgs.length by omega]
          rw [e]; omega
      obtain ⟨g1, g2, g3⟩ := h4 j hj
      have g0 := hpos j hj
      refine (stepB_iff m j hj).2 ⟨by omega, g2, g3, ?_, fun hf => by have := hfull hf j hj; omega⟩
      cases j with
      | zero => exact .inl rfl
      | succ j => rw [prev_next] at g1; exact .inr g1
  · rw [if_neg h1]
    have hs : startB m = false := by unfold startB; simp [h1]
    rw [hs]
    simp
end Go.Proofs.Ytdgpdfigipplpaa
