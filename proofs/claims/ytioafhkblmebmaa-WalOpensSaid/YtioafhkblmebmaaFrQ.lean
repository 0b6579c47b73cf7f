/- Plain laws of frames: what is put is taken, by its own salt and behind its own pair alone; one block that has become another one is refused. -/
import Derived.Test.YtioafhkblmebmaaFrP
namespace Go.Proofs.Ytioafhkblmebmaa
open Go.RowKit
set_option linter.unusedVariables false
set_option linter.unusedSimpArgs false

theorem frHead_app (salt : Int) (f : Fr) (x : List UInt8) : frHead salt f ++ x = four f.page ++ (four f.commit ++ (eight salt ++ x)) := by simp [frHead]
theorem frL_app (p : Int × Int) (salt : Int) (f : Fr) (x : List UInt8) : frL p salt f ++ x = frHead salt f ++ (textOf (frQ p salt f) ++ (zeros 40 ++ (f.data ++ x))) := by simp [frL]
theorem frOk_facts {f : Fr} (h : frOk f = true) : frMay f = true ∧ f.data.length = 512 ∧ (1 ≤ f.page ∧ f.page ≤ 256) ∧ (0 ≤ f.commit ∧ f.commit ≤ 256) := by
  simp only [frOk, Bool.and_eq_true, decide_eq_true_eq] at h
  have h1 := h.1
  simp only [frMay, Bool.and_eq_true] at h1
  exact ⟨h.1, h.2, inB_true.1 h1.1, inB_true.1 h1.2⟩

/-- The parts of a frame's bytes. -/
theorem fr_parts (p : Int × Int) (salt : Int) (f : Fr) (more : List UInt8) (h : frOk f = true) :
    (frL p salt f ++ more).take 16 = frHead salt f ∧ ((frL p salt f ++ more).drop 16).take 8 = textOf (frQ p salt f) ∧ ((frL p salt f ++ more).drop 24).take 40 = zeros 40 ∧ ((frL p salt f ++ more).drop 64).take 512 = f.data ∧
    ((frL p salt f ++ more).drop 8).take 8 = eight salt ∧ frOf (frL p salt f ++ more) = f := by
  obtain ⟨_, hd, ⟨f0, f1⟩, c0, c1⟩ := frOk_facts h
  have hl := frHead_length salt f
  have T := textOf_length (frQ p salt f)
  have Z := zeros_length 40
  have d16 : (frL p salt f ++ more).drop 16 = textOf (frQ p salt f) ++ (zeros 40 ++ (f.data ++ more)) := by rw [frL_app]; exact cutD _ _ 16 hl
  have d24 : (frL p salt f ++ more).drop 24 = zeros 40 ++ (f.data ++ more) := by rw [show (24 : Nat) = 16 + 8 from rfl, ← List.drop_drop, d16]; exact cutD _ _ 8 T
  have d64 : (frL p salt f ++ more).drop 64 = f.data ++ more := by rw [show (64 : Nat) = 24 + 40 from rfl, ← List.drop_drop, d24]; exact cutD _ _ 40 Z
  have d4 : (frL p salt f ++ more).drop 4 = four f.commit ++ (eight salt ++ (textOf (frQ p salt f) ++ (zeros 40 ++ (f.data ++ more)))) := by rw [frL_app, frHead_app]; exact cutD _ _ 4 rfl
  have d8 : (frL p salt f ++ more).drop 8 = eight salt ++ (textOf (frQ p salt f) ++ (zeros 40 ++ (f.data ++ more))) := by rw [show (8 : Nat) = 4 + 4 from rfl, ← List.drop_drop, d4]; exact cutD _ _ 4 rfl
  have t4 : (frL p salt f ++ more).take 4 = four f.page := by rw [frL_app, frHead_app]; exact cutT _ _ 4 rfl
  refine ⟨by rw [frL_app]; exact cutT _ _ 16 hl, by rw [d16]; exact cutT _ _ 8 T, by rw [d24]; exact cutT _ _ 40 Z, by rw [d64]; exact cutT _ _ 512 hd, by rw [d8]; exact cutT _ _ 8 rfl, ?_⟩
  unfold frOf
  rw [t4, d4, d64, cutT _ _ 4 rfl, cutT _ _ 512 hd, num_four _ (by omega) (by omega), num_four _ c0 (by omega)]

theorem tkFr_of {p : Int × Int} {salt : Int} {s : List UInt8} (hl : 576 ≤ s.length) (hz : (s.drop 24).take 40 = zeros 40) (hm : frMay (frOf s) = true) :
    tkFr p salt s = if (s.drop 8).take 8 == eight salt then
      (if (s.drop 16).take 8 == textOf (sumAdd (sumAdd p (s.take 16)) ((s.drop 64).take 512)) then ⟨frOf s, sumAdd (sumAdd p (s.take 16)) ((s.drop 64).take 512), 0⟩ else ⟨zeroFr, (0, 0), 40⟩)
      else ⟨zeroFr, (0, 0), 41⟩ := by
  unfold tkFr
  rw [if_neg (by omega), if_neg (by rw [hz, hm]; simp)]

theorem tkFr_put (p : Int × Int) (salt : Int) (f : Fr) (more : List UInt8) (h : frOk f = true) : tkFr p salt (frL p salt f ++ more) = ⟨f, frQ p salt f, 0⟩ := by
  obtain ⟨h1, h2, h3, h4, h5, h6⟩ := fr_parts p salt f more h
  have hl := frL_length p salt f (frOk_facts h).2.1
  rw [tkFr_of (by rw [List.length_append]; omega) h3 (by rw [h6]; exact (frOk_facts h).1), h5, if_pos (by simp), h1, h2, h4, h6]
  have e : sumAdd (sumAdd p (frHead salt f)) f.data = frQ p salt f := rfl
  rw [e, if_pos (by simp)]

theorem tkFr_other (p other : Int × Int) (salt : Int) (f : Fr) (h : frOk f = true) (hp : PairWf p) (ho : PairWf other) : (tkFr other salt (frL p salt f)).e = 0 ↔ other = p := by
  obtain ⟨h1, h2, h3, h4, h5, h6⟩ := fr_parts p salt f [] h
  rw [List.append_nil] at h1 h2 h3 h4 h5 h6
  have hl := frL_length p salt f (frOk_facts h).2.1
  rw [tkFr_of (by omega) h3 (by rw [h6]; exact (frOk_facts h).1), h5, if_pos (by simp), h1, h2, h4, h6]
  have e : frQ p salt f = sumAdd (sumAdd p (frHead salt f)) f.data := rfl
  constructor
  · intro h0
    by_cases ht : (textOf (frQ p salt f) == textOf (sumAdd (sumAdd other (frHead salt f)) f.data)) = true
    · rw [beq_iff_eq, e] at ht
      have b1 := sumAdd_bd p (frHead salt f) hp.1 hp.2
      have b2 := sumAdd_bd other (frHead salt f) ho.1 ho.2
      have e1 := textOf_inj (sumAdd_bd _ _ b1.1 b1.2) (sumAdd_bd _ _ b2.1 b2.2) ht
      exact (sumAdd_inj hp ho (sumAdd_inj b1 b2 e1)).symm
    · rw [if_neg ht] at h0
      exact absurd h0 (by decide)
  · rintro rfl
    rw [if_pos (by rw [e]; simp)]

theorem eight_inj {a b : Int} (a0 : 0 ≤ a) (a1 : a < 18446744073709551616) (b0 : 0 ≤ b) (b1 : b < 18446744073709551616) (h : eight a = eight b) : a = b := by
  rw [← num_eight a a0 a1, ← num_eight b b0 b1, h]
theorem tkFr_wrong (p : Int × Int) (salt wrong : Int) (f : Fr) (h : frOk f = true) (s0 : 0 ≤ salt) (s1 : salt < 18446744073709551616) (w0 : 0 ≤ wrong) (w1 : wrong < 18446744073709551616) : (tkFr p wrong (frL p salt f)).e = 0 ↔ wrong = salt := by
  constructor
  · intro h0
    obtain ⟨h1, h2, h3, h4, h5, h6⟩ := fr_parts p salt f [] h
    rw [List.append_nil] at h1 h2 h3 h4 h5 h6
    have hl := frL_length p salt f (frOk_facts h).2.1
    rw [tkFr_of (by omega) h3 (by rw [h6]; exact (frOk_facts h).1), h5] at h0
    by_cases ht : (eight salt == eight wrong) = true
    · exact (eight_inj s0 s1 w0 w1 (by simpa using ht)).symm
    · rw [if_neg ht] at h0
      exact absurd h0 (by simp)
  · rintro rfl
    have := tkFr_put p wrong f [] h
    rw [List.append_nil] at this
    rw [this]

theorem oneBlock_mid {n a m : Nat} {s t : List UInt8} (h : OneBlock n s t) (hm : 8 * n + 8 ≤ a ∨ a + m ≤ 8 * n) : (s.drop a).take m = (t.drop a).take m := by
  apply List.ext_getElem?
  intro i
  simp only [List.getElem?_take, List.getElem?_drop]
  split
  · exact h.2 _ (by omega)
  · rfl
theorem split4 (s : List UInt8) (h : s.length = 576) : s = s.take 16 ++ ((s.drop 16).take 8 ++ ((s.drop 24).take 40 ++ (s.drop 64).take 512)) := by
  conv => lhs; rw [← List.take_append_drop 16 s, ← List.take_append_drop 8 (s.drop 16), ← List.take_append_drop 40 ((s.drop 16).drop 8)]
  rw [List.drop_drop, List.drop_drop, List.take_of_length_le (l := s.drop 64) (by simp; omega)]

theorem tkFr_ok {p : Int × Int} {salt : Int} {t : List UInt8} (h0 : (tkFr p salt t).e = 0) : 576 ≤ t.length ∧ (t.drop 24).take 40 = zeros 40 ∧ (t.drop 16).take 8 = textOf (sumAdd (sumAdd p (t.take 16)) ((t.drop 64).take 512)) := by
  unfold tkFr at h0
  by_cases g1 : t.length < 576
  · rw [if_pos g1] at h0; exact absurd h0 (by decide)
  · rw [if_neg g1] at h0
    by_cases g2 : (!((t.drop 24).take 40 == zeros 40) || !frMay (frOf t)) = true
    · rw [if_pos g2] at h0; exact absurd h0 (by simp)
    · rw [if_neg g2] at h0
      by_cases g3 : ((t.drop 8).take 8 == eight salt) = true
      · rw [if_pos g3] at h0
        by_cases g4 : ((t.drop 16).take 8 == textOf (sumAdd (sumAdd p (t.take 16)) ((t.drop 64).take 512))) = true
        · refine ⟨by omega, ?_, by simpa using g4⟩
          simp only [Bool.or_eq_true, not_or, Bool.not_eq_true, Bool.not_eq_false', beq_iff_eq] at g2
          exact g2.1
        · rw [if_neg g4] at h0; exact absurd h0 (by simp)
      · rw [if_neg g3] at h0; exact absurd h0 (by simp)

theorem tkFr_block (p : Int × Int) (salt : Int) (f : Fr) (n : Nat) (t : List UInt8) (h : frOk f = true) (hp : PairWf p) (ho : OneBlock n (frL p salt f) t) : (tkFr p salt t).e = 0 ↔ frL p salt f = t := by
  constructor
  · intro h0
    obtain ⟨h1, h2, h3, h4, h5, h6⟩ := fr_parts p salt f [] h
    rw [List.append_nil] at h1 h2 h3 h4 h5 h6
    have hl := frL_length p salt f (frOk_facts h).2.1
    have hd := (frOk_facts h).2.1
    obtain ⟨s, hs⟩ : ∃ s, s = frL p salt f := ⟨_, rfl⟩
    rw [← hs] at ho h1 h2 h3 h4 hl ⊢
    have htl : t.length = 576 := by rw [← ho.1]; exact hl
    obtain ⟨_, z, k⟩ := tkFr_ok h0
    have k0 : (s.drop 16).take 8 = textOf (sumAdd (sumAdd p (s.take 16)) ((s.drop 64).take 512)) := by rw [h2, h1, h4]; rfl
    rw [split4 s hl, split4 t htl, h3, z]
    by_cases hn : n = 2 ∨ (3 ≤ n ∧ n < 8)
    · have a1 := oneBlock_take ho (m := 16) (by omega)
      have a2 := oneBlock_mid ho (a := 64) (m := 512) (by omega)
      rw [k0, k, a1, a2]
    · have a1 := oneBlock_mid ho (a := 16) (m := 8) (by omega)
      rw [k0, k] at a1
      have b1 := sumAdd_bd p (s.take 16) hp.1 hp.2
      have b2 := sumAdd_bd p (t.take 16) hp.1 hp.2
      have e1 := textOf_inj (sumAdd_bd _ _ b1.1 b1.2) (sumAdd_bd _ _ b2.1 b2.2) a1
      rw [← sumAdd_append 2 _ _ p (by simp; omega), ← sumAdd_append 2 _ _ p (by simp; omega)] at e1
      have key : s.take 16 ++ (s.drop 64).take 512 = t.take 16 ++ (t.drop 64).take 512 := by
        have gen : ∀ n', (∀ i, i < 528 → i / 8 ≠ n' → (if i < 16 then i else i + 48) / 8 ≠ n) → OneBlock n' (s.take 16 ++ (s.drop 64).take 512) (t.take 16 ++ (t.drop 64).take 512) := by
          intro n' hn'
          refine ⟨by simp; omega, fun i hi => ?_⟩
          by_cases i16 : i < 16
          · rw [List.getElem?_append_left (by simp; omega), List.getElem?_append_left (by simp; omega)]
            simp only [List.getElem?_take, i16, if_true]
            have := hn' i (by omega) hi
            rw [if_pos i16] at this
            exact ho.2 i this
          · rw [List.getElem?_append_right (by simp; omega), List.getElem?_append_right (by simp; omega)]
            have e16 : (s.take 16).length = 16 := by simp; omega
            have f16 : (t.take 16).length = 16 := by simp; omega
            rw [e16, f16]
            simp only [List.getElem?_take, List.getElem?_drop]
            split
            · have := hn' i (by omega) hi
              rw [if_neg i16] at this
              exact ho.2 _ (by omega)
            · rfl
        have hX : (s.take 16 ++ (s.drop 64).take 512).length = 8 * 66 := by simp; omega
        by_cases n2 : n < 2
        · exact sum_one hp (gen n (fun i _ hi => by split <;> omega)) hX (by omega) e1
        · by_cases n72 : n < 72
          · exact sum_one hp (gen (n - 6) (fun i _ hi => by split <;> omega)) hX (by omega) e1
          · have o1 := oneBlock_take ho (m := 16) (by omega)
            have o2 := oneBlock_mid ho (a := 64) (m := 512) (by omega)
            rw [o1, o2]
      obtain ⟨c1, c2⟩ := List.append_inj key (by simp; omega)
      rw [c1, c2, oneBlock_mid ho (a := 16) (m := 8) (by omega)]
  · rintro rfl
    have := tkFr_put p salt f [] h
    rw [List.append_nil] at this
    rw [this]
end Go.Proofs.Ytioafhkblmebmaa
