/- Plain laws for counterfoilref26.May: pages that grow, as many as there are pages, are 1, 2, 3 and on. -/
import Derived.Test.YtdgpdfigipplpaaRefC
namespace Go.Proofs.Ytdgpdfigipplpaa
open Go.RowKit
set_option linter.unusedVariables false
set_option linter.unusedSimpArgs false

theorem mayImgs_room (p : Int) : ∀ (l : List Img) (q : Int), q ≤ p → mayImgs p q l = true → (l.length : Int) ≤ p - q
  | [], q, hq, _ => by simp; omega
  | x :: r, q, hq, h => by
    rw [mayImgs_cons] at h
    split at h
    · cases h
    · rename_i hn
      have := mayImgs_room p r x.1 (by omega) h
      simp only [List.length_cons]
      omega

theorem mayImgs_full (p : Int) : ∀ (l : List Img) (q : Int), q ≤ p → mayImgs p q l = true → (l.length : Int) = p - q → ∀ (j : Nat) (hj : j < l.length), l[j].1 = q + j + 1
  | [], q, hq, _, _, j, hj => by simp at hj
  | x :: r, q, hq, h, hl, j, hj => by
    rw [mayImgs_cons] at h
    split at h
    · cases h
    · rename_i hn
      have h1 := mayImgs_room p r x.1 (by omega) h
      simp only [List.length_cons] at hl
      have hx : x.1 = q + 1 := by omega
      match j, hj with
      | 0, _ => simpa using hx
      | j + 1, hj =>
        have h2 := mayImgs_full p r x.1 (by omega) h (by omega) j (by simpa using hj)
        simp only [List.getElem_cons_succ]
        rw [h2, hx]
        omega

/-- The page before image number j; before the first one: q. -/
def prevAt (q : Int) (l : List Img) : Nat → Int
  | 0 => q
  | j + 1 => (l.getD j (0, [])).1
theorem prevAt_cons (q : Int) (x : Img) (r : List Img) : ∀ j, prevAt q (x :: r) (j + 1) = prevAt x.1 r j
  | 0 => rfl
  | _ + 1 => rfl

theorem mayImgs_iff (p : Int) : ∀ (l : List Img) (q : Int), mayImgs p q l = true ↔ ∀ (j : Nat) (h : j < l.length), prevAt q l j < l[j].1 ∧ l[j].1 ≤ p ∧ l[j].2.length = 512
  | [], q => by rw [mayImgs_nil]; simp
  | x :: r, q => by
    rw [mayImgs_cons]
    constructor
    · intro h j hj
      split at h
      · cases h
      · rename_i hn
        have ih := (mayImgs_iff p r x.1).1 h
        match j, hj with
        | 0, _ => exact ⟨by show q < x.1; omega, by show x.1 ≤ p; omega, by show x.2.length = 512; omega⟩
        | j + 1, hj =>
          have h1 := ih j (by simpa using hj)
          rw [prevAt_cons]
          simpa using h1
    · intro h
      have h0 : q < x.1 ∧ x.1 ≤ p ∧ x.2.length = 512 := h 0 (by simp)
      rw [if_neg (by omega)]
      exact (mayImgs_iff p r x.1).2 fun j hj => by
        have h1 := h (j + 1) (by simpa using hj)
        rw [prevAt_cons] at h1
        simpa using h1
end Go.Proofs.Ytdgpdfigipplpaa
