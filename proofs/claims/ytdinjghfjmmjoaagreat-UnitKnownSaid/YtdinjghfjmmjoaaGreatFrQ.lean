import Derived.Test.YtdinjghfjmmjoaaGreatFrF
namespace Go.Proofs.YtdinjghfjmmjoaaGreat
open Go.RowKit
set_option linter.unusedVariables false
set_option linter.unusedSimpArgs false
set_option maxRecDepth 20000

theorem hdB_eq (h : Hd) : hdB h = wordC ++ (eight h.number ++ (four h.frames ++ four h.pages)) := by simp [hdB]
theorem hdL_eq (h : Hd) : hdL h = hdB h ++ (textOf (sumAdd (0, 0) (hdB h)) ++ zeros 32) := by simp [hdL]
theorem four_of_num (l : List UInt8) (h : l.length = 4) : four (num l) = l := by
  have b : 0 ≤ num l ∧ num l < 4294967296 := by
    have := num4_bd l
    rwa [List.take_of_length_le (by omega)] at this
  exact num_inj _ _ (by rw [h]; rfl) (num_four _ b.1 b.2)
theorem eight_of_num (l : List UInt8) (h : l.length = 8) : eight (num l) = l := by
  have b : 0 ≤ num l ∧ num l < 18446744073709551616 := by
    have := num8_lt l
    rwa [List.take_of_length_le (by omega)] at this
  exact num_inj _ _ (by rw [h]; rfl) (num_eight _ b.1 b.2)

theorem tkHd_ok (s : List UInt8) (hl : s.length = 64) (h : (tkHd s).2 = 0) : s = hdL (tkHd s).1 ∧ hdMay (tkHd s).1 = true := by
  unfold tkHd at *
  rw [if_neg (by omega)] at h ⊢
  cases hb : hdBad s
  · rw [hb] at h
    simp only [Bool.false_eq_true, if_false] at h ⊢
    by_cases ht : ((s.drop 24).take 8 == textOf (sumAdd (0, 0) (s.take 24))) = true
    · rw [if_pos ht]
      unfold hdBad at hb
      simp only [Bool.or_eq_false_iff, Bool.not_eq_false', beq_iff_eq] at hb ht
      obtain ⟨h1, h2, h3, h4⟩ := hb
      have hm : hdMay (hdOf s) = true := by simp [hdMay, h3, h4]
      refine ⟨?_, hm⟩
      have e1 : eight (hdOf s).number = (s.drop 8).take 8 := eight_of_num _ (by simp; omega)
      have e2 : four (hdOf s).frames = (s.drop 16).take 4 := four_of_num _ (by simp; omega)
      have e3 : four (hdOf s).pages = (s.drop 20).take 4 := four_of_num _ (by simp; omega)
      have eB : hdB (hdOf s) = s.take 24 := by
        rw [hdB_eq, e1, e2, e3, ← h1]
        rw [show (24 : Nat) = 8 + (8 + (4 + 4)) from rfl, List.take_add, List.take_add (i := 8), List.take_add (i := 4), List.drop_drop, List.drop_drop]
      rw [hdL_eq, eB, ← ht, ← h2]
      conv => lhs; rw [← List.take_append_drop 24 s, ← List.take_append_drop 8 (s.drop 24), List.drop_drop]
      rw [List.take_of_length_le (l := s.drop (24 + 8)) (by simp; omega)]
    · rw [if_neg ht] at h
      exact absurd h (by decide)
  · rw [hb] at h
    exact absurd h (by simp)

end Go.Proofs.YtdinjghfjmmjoaaGreat
namespace Go.Proofs.YtdinjghfjmmjoaaGreat
open Go.RowKit
set_option linter.unusedVariables false
set_option linter.unusedSimpArgs false
set_option maxRecDepth 20000

theorem frOk_facts {f : Fr} (h : frOk f = true) : frMay f = true ∧ f.data.length = 512 ∧ (1 ≤ f.page ∧ f.page ≤ 256) ∧ (0 ≤ f.commit ∧ f.commit ≤ 256) := by
  simp only [frOk, Bool.and_eq_true, decide_eq_true_eq] at h
  have h1 := h.1
  simp only [frMay, Bool.and_eq_true] at h1
  exact ⟨h.1, h.2, inB_true.1 h1.1, inB_true.1 h1.2⟩

end Go.Proofs.YtdinjghfjmmjoaaGreat
