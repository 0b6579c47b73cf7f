import Derived.Test.YtenboibbbmeddaaGreatFrF
/- Plain laws of heads and frames: what is put is taken; starts; one block that has become another one is refused. -/
namespace Go.Proofs.YtenboibbbmeddaaGreat
open Go.RowKit
set_option linter.unusedVariables false
set_option linter.unusedSimpArgs false
set_option maxRecDepth 20000

theorem cutT (a b : List UInt8) (n : Nat) (h : a.length = n) : (a ++ b).take n = a := by rw [← h, List.take_left]
theorem cutD (a b : List UInt8) (n : Nat) (h : a.length = n) : (a ++ b).drop n = b := by rw [← h, List.drop_left]
theorem cutD' (a b : List UInt8) (n k : Nat) (h : a.length = n) : (a ++ b).drop (n + k) = b.drop k := by rw [← List.drop_drop, cutD a b n h]

theorem hdB_eq (h : Hd) : hdB h = wordC ++ (eight h.number ++ (four h.frames ++ four h.pages)) := by simp [hdB]
theorem hdB_app (h : Hd) (x : List UInt8) : hdB h ++ x = wordC ++ (eight h.number ++ (four h.frames ++ (four h.pages ++ x))) := by simp [hdB]
theorem hdL_eq (h : Hd) : hdL h = hdB h ++ (textOf (sumAdd (0, 0) (hdB h)) ++ zeros 32) := by simp [hdL]
theorem hdMay_bd {h : Hd} (hm : hdMay h = true) : (0 ≤ h.frames ∧ h.frames ≤ 256) ∧ (0 ≤ h.pages ∧ h.pages ≤ 256) := by
  simp only [hdMay, Bool.and_eq_true] at hm
  exact ⟨inB_true.1 hm.1, inB_true.1 hm.2⟩

theorem tkHd_put (h : Hd) (more : List UInt8) (hm : hdMay h = true) (hw : HdWf h) : tkHd (hdL h ++ more) = (h, 0) := by
  obtain ⟨⟨f0, f1⟩, p0, p1⟩ := hdMay_bd hm
  have hl := hdL_length h
  have hbl := hdB_length h
  have T := textOf_length (sumAdd (0, 0) (hdB h))
  have Z := zeros_length 32
  have e : hdL h ++ more = hdB h ++ (textOf (sumAdd (0, 0) (hdB h)) ++ (zeros 32 ++ more)) := by rw [hdL_eq]; simp
  have e2 : hdL h ++ more = wordC ++ (eight h.number ++ (four h.frames ++ (four h.pages ++ (textOf (sumAdd (0, 0) (hdB h)) ++ (zeros 32 ++ more))))) := by rw [e, hdB_app]
  have d8 : (hdL h ++ more).drop 8 = eight h.number ++ (four h.frames ++ (four h.pages ++ (textOf (sumAdd (0, 0) (hdB h)) ++ (zeros 32 ++ more)))) := by rw [e2]; exact cutD _ _ 8 rfl
  have d16 : (hdL h ++ more).drop 16 = four h.frames ++ (four h.pages ++ (textOf (sumAdd (0, 0) (hdB h)) ++ (zeros 32 ++ more))) := by rw [show (16 : Nat) = 8 + 8 from rfl, ← List.drop_drop, d8]; exact cutD _ _ 8 rfl
  have d20 : (hdL h ++ more).drop 20 = four h.pages ++ (textOf (sumAdd (0, 0) (hdB h)) ++ (zeros 32 ++ more)) := by rw [show (20 : Nat) = 16 + 4 from rfl, ← List.drop_drop, d16]; exact cutD _ _ 4 rfl
  have d24 : (hdL h ++ more).drop 24 = textOf (sumAdd (0, 0) (hdB h)) ++ (zeros 32 ++ more) := by rw [e]; exact cutD _ _ 24 hbl
  have d32 : (hdL h ++ more).drop 32 = zeros 32 ++ more := by rw [show (32 : Nat) = 24 + 8 from rfl, ← List.drop_drop, d24]; exact cutD _ _ 8 T
  have t8 : (hdL h ++ more).take 8 = wordC := by rw [e2]; exact cutT _ _ 8 rfl
  have t24 : (hdL h ++ more).take 24 = hdB h := by rw [e]; exact cutT _ _ 24 hbl
  have ho : hdOf (hdL h ++ more) = h := by
    unfold hdOf
    rw [d8, d16, d20, cutT _ _ 8 rfl, cutT _ _ 4 rfl, cutT _ _ 4 rfl, num_eight _ hw.1 hw.2, num_four _ f0 (by omega), num_four _ p0 (by omega)]
  have hb : hdBad (hdL h ++ more) = false := by
    unfold hdBad
    rw [ho, t8, d32, cutT _ _ 32 Z]
    simp only [hdMay, Bool.and_eq_true] at hm
    rw [hm.1, hm.2]
    simp
  unfold tkHd
  rw [if_neg (by rw [List.length_append]; omega), if_neg (by rw [hb]; decide), d24, cutT _ _ 8 T, t24, ho, if_pos (by simp)]

theorem four_of_num (l : List UInt8) (h : l.length = 4) : four (num l) = l := by
  have b : 0 ≤ num l ∧ num l < 4294967296 := by
    have := num4_bd l
    rwa [List.take_of_length_le (by omega)] at this
  exact num_inj _ _ (by rw [h]; rfl) (num_four _ b.1 b.2)
theorem eight_of_num (l : List UInt8) (h : l.length = 8) : eight (num l) = l := by
  have b : 0 ≤ num l ∧ num l < 18446744073709551616 := by
    have := num8_lt l
    rwa [List.take_of_length_le (by omega)] at this
  exact num_inj _ _ (by rw [h]; rfl) (num_eight _ b.1 b.2)

/-- What is taken as a head, of 64 bytes, is that head's bytes. -/
theorem tkHd_ok (s : List UInt8) (hl : s.length = 64) (h : (tkHd s).2 = 0) : s = hdL (tkHd s).1 ∧ hdMay (tkHd s).1 = true := by
  unfold tkHd at *
  rw [if_neg (by omega)] at h ⊢
  cases hb : hdBad s
  · rw [hb] at h
    simp only [Bool.false_eq_true, if_false] at h ⊢
    by_cases ht : ((s.drop 24).take 8 == textOf (sumAdd (0, 0) (s.take 24))) = true
    · rw [if_pos ht]
      unfold hdBad at hb
      simp only [Bool.or_eq_false_iff, Bool.not_eq_false', beq_iff_eq] at hb ht
      obtain ⟨h1, h2, h3, h4⟩ := hb
      have hm : hdMay (hdOf s) = true := by simp [hdMay, h3, h4]
      refine ⟨?_, hm⟩
      have e1 : eight (hdOf s).number = (s.drop 8).take 8 := eight_of_num _ (by simp; omega)
      have e2 : four (hdOf s).frames = (s.drop 16).take 4 := four_of_num _ (by simp; omega)
      have e3 : four (hdOf s).pages = (s.drop 20).take 4 := four_of_num _ (by simp; omega)
      have eB : hdB (hdOf s) = s.take 24 := by
        rw [hdB_eq, e1, e2, e3, ← h1]
        rw [show (24 : Nat) = 8 + (8 + (4 + 4)) from rfl, List.take_add, List.take_add (i := 8), List.take_add (i := 4), List.drop_drop, List.drop_drop]
      rw [hdL_eq, eB, ← ht, ← h2]
      conv => lhs; rw [← List.take_append_drop 24 s, ← List.take_append_drop 8 (s.drop 24), List.drop_drop]
      rw [List.take_of_length_le (l := s.drop (24 + 8)) (by simp; omega)]
    · rw [if_neg ht] at h
      exact absurd h (by decide)
  · rw [hb] at h
    exact absurd h (by simp)

theorem startP_inj {n m : Int} (n0 : 0 ≤ n) (n1 : n < 18446744073709551616) (m0 : 0 ≤ m) (m1 : m < 18446744073709551616) : startP n = startP m ↔ n = m := by
  constructor
  · intro h
    have h1 : sumAdd (0, 0) (wordC ++ eight n ++ []) = sumAdd (0, 0) (wordC ++ eight m ++ []) := by simpa [startP] using h
    have := sum_block (n := 1) (p := (0, 0)) (by decide) rfl (eight_length n) (eight_length m) h1
    rw [← num_eight n n0 n1, ← num_eight m m0 m1, this]
  · rintro rfl; rfl

/-- Two texts that are the same but for block n. -/
def OneBlock (n : Nat) (s t : List UInt8) : Prop := s.length = t.length ∧ ∀ i, i / 8 ≠ n → s[i]? = t[i]?
theorem oneBlock_take {n m : Nat} {s t : List UInt8} (h : OneBlock n s t) (hm : m ≤ 8 * n) : s.take m = t.take m := by
  apply List.ext_getElem?
  intro i
  simp only [List.getElem?_take]
  split
  · exact h.2 i (by omega)
  · rfl
theorem oneBlock_drop {n m : Nat} {s t : List UInt8} (h : OneBlock n s t) (hm : 8 * n + 8 ≤ m) : s.drop m = t.drop m := by
  apply List.ext_getElem?
  intro i
  simp only [List.getElem?_drop]
  exact h.2 _ (by omega)
/-- Equal sums of two texts of whole blocks that are the same but for one block: the same texts. -/
theorem sum_one {n N : Nat} {s t : List UInt8} {p : Int × Int} (hp : PairWf p) (h : OneBlock n s t) (hl : s.length = 8 * N) (hn : n < N) (he : sumAdd p s = sumAdd p t) : s = t := by
  have ht : t.length = 8 * N := by rw [← h.1]; exact hl
  have e1 : s = s.take (8 * n) ++ (s.drop (8 * n)).take 8 ++ s.drop (8 * n + 8) := by
    conv => lhs; rw [← List.take_append_drop (8 * n) s, ← List.take_append_drop 8 (s.drop (8 * n)), List.drop_drop]
    simp
  have e2 : t = t.take (8 * n) ++ (t.drop (8 * n)).take 8 ++ t.drop (8 * n + 8) := by
    conv => lhs; rw [← List.take_append_drop (8 * n) t, ← List.take_append_drop 8 (t.drop (8 * n)), List.drop_drop]
    simp
  rw [← oneBlock_take h (Nat.le_refl _), ← oneBlock_drop h (Nat.le_refl _)] at e2
  rw [e1, e2] at he
  have := sum_block (n := n) hp (by simp; omega) (by simp; omega) (by simp; omega) he
  rw [e1, e2, this]

/-- A head of which one block has become another one: taken just if it is the same. -/
theorem tkHd_block (h : Hd) (n : Nat) (t : List UInt8) (hm : hdMay h = true) (hw : HdWf h) (ho : OneBlock n (hdL h) t) : (tkHd t).2 = 0 ↔ hdL h = t := by
  constructor
  · intro h0
    have hl := hdL_length h
    have htl : t.length = 64 := by rw [← ho.1]; exact hl
    obtain ⟨h1, h2⟩ := tkHd_ok t htl h0
    obtain ⟨g, hg⟩ : ∃ g, g = (tkHd t).1 := ⟨_, rfl⟩
    rw [← hg] at h1 h2
    have hbl := hdB_length h
    have hgl := hdB_length g
    have T1 := textOf_length (sumAdd (0, 0) (hdB h))
    have T2 := textOf_length (sumAdd (0, 0) (hdB g))
    have b0 : PairWf (0, 0) := by unfold PairWf; decide
    by_cases hn : n < 3
    · have e1 := oneBlock_drop ho (m := 24) (by omega)
      rw [h1, hdL_eq, hdL_eq, cutD _ _ 24 hbl, cutD _ _ 24 hgl] at e1
      have e2 := (List.append_inj e1 (by rw [T1, T2])).1
      have e3 := textOf_inj (sumAdd_bd _ _ b0.1 b0.2) (sumAdd_bd _ _ b0.1 b0.2) e2
      have ob : OneBlock n (hdB h) (hdB g) := by
        refine ⟨by rw [hbl, hgl], fun i hi => ?_⟩
        have := ho.2 i hi
        rw [h1, hdL_eq, hdL_eq] at this
        by_cases hi24 : i < 24
        · rwa [List.getElem?_append_left (by omega), List.getElem?_append_left (by omega)] at this
        · rw [List.getElem?_eq_none (by omega), List.getElem?_eq_none (by omega)]
      have e4 := sum_one b0 ob (N := 3) (by omega) hn e3
      rw [h1, hdL_eq, hdL_eq, e4]
    · have e1 := oneBlock_take ho (m := 24) (by omega)
      rw [h1, hdL_eq, hdL_eq, cutT _ _ 24 hbl, cutT _ _ 24 hgl] at e1
      rw [h1, hdL_eq, hdL_eq, e1]
  · rintro rfl
    have := tkHd_put h [] hm hw
    rw [List.append_nil] at this
    rw [this]
end Go.Proofs.YtenboibbbmeddaaGreat
/- Plain laws of frames: what is put is taken, by its own salt and behind its own pair alone; one block that has become another one is refused. -/
namespace Go.Proofs.YtenboibbbmeddaaGreat
open Go.RowKit
set_option linter.unusedVariables false
set_option linter.unusedSimpArgs false
set_option maxRecDepth 20000

theorem frHead_app (salt : Int) (f : Fr) (x : List UInt8) : frHead salt f ++ x = four f.page ++ (four f.commit ++ (eight salt ++ x)) := by simp [frHead]
theorem frL_app (p : Int × Int) (salt : Int) (f : Fr) (x : List UInt8) : frL p salt f ++ x = frHead salt f ++ (textOf (frQ p salt f) ++ (zeros 40 ++ (f.data ++ x))) := by simp [frL]
theorem frOk_facts {f : Fr} (h : frOk f = true) : frMay f = true ∧ f.data.length = 512 ∧ (1 ≤ f.page ∧ f.page ≤ 256) ∧ (0 ≤ f.commit ∧ f.commit ≤ 256) := by
  simp only [frOk, Bool.and_eq_true, decide_eq_true_eq] at h
  have h1 := h.1
  simp only [frMay, Bool.and_eq_true] at h1
  exact ⟨h.1, h.2, inB_true.1 h1.1, inB_true.1 h1.2⟩

/-- The parts of a frame's bytes. -/
theorem fr_parts (p : Int × Int) (salt : Int) (f : Fr) (more : List UInt8) (h : frOk f = true) :
    (frL p salt f ++ more).take 16 = frHead salt f ∧ ((frL p salt f ++ more).drop 16).take 8 = textOf (frQ p salt f) ∧ ((frL p salt f ++ more).drop 24).take 40 = zeros 40 ∧ ((frL p salt f ++ more).drop 64).take 512 = f.data ∧
    ((frL p salt f ++ more).drop 8).take 8 = eight salt ∧ frOf (frL p salt f ++ more) = f := by
  obtain ⟨_, hd, ⟨f0, f1⟩, c0, c1⟩ := frOk_facts h
  have hl := frHead_length salt f
  have T := textOf_length (frQ p salt f)
  have Z := zeros_length 40
  have d16 : (frL p salt f ++ more).drop 16 = textOf (frQ p salt f) ++ (zeros 40 ++ (f.data ++ more)) := by rw [frL_app]; exact cutD _ _ 16 hl
  have d24 : (frL p salt f ++ more).drop 24 = zeros 40 ++ (f.data ++ more) := by rw [show (24 : Nat) = 16 + 8 from rfl, ← List.drop_drop, d16]; exact cutD _ _ 8 T
  have d64 : (frL p salt f ++ more).drop 64 = f.data ++ more := by rw [show (64 : Nat) = 24 + 40 from rfl, ← List.drop_drop, d24]; exact cutD _ _ 40 Z
  have d4 : (frL p salt f ++ more).drop 4 = four f.commit ++ (eight salt ++ (textOf (frQ p salt f) ++ (zeros 40 ++ (f.data ++ more)))) := by rw [frL_app, frHead_app]; exact cutD _ _ 4 rfl
  have d8 : (frL p salt f ++ more).drop 8 = eight salt ++ (textOf (frQ p salt f) ++ (zeros 40 ++ (f.data ++ more))) := by rw [show (8 : Nat) = 4 + 4 from rfl, ← List.drop_drop, d4]; exact cutD _ _ 4 rfl
  have t4 : (frL p salt f ++ more).take 4 = four f.page := by rw [frL_app, frHead_app]; exact cutT _ _ 4 rfl
  refine ⟨by rw [frL_app]; exact cutT _ _ 16 hl, by rw [d16]; exact cutT _ _ 8 T, by rw [d24]; exact cutT _ _ 40 Z, by rw [d64]; exact cutT _ _ 512 hd, by rw [d8]; exact cutT _ _ 8 rfl, ?_⟩
  unfold frOf
  rw [t4, d4, d64, cutT _ _ 4 rfl, cutT _ _ 512 hd, num_four _ (by omega) (by omega), num_four _ c0 (by omega)]

theorem tkFr_of {p : Int × Int} {salt : Int} {s : List UInt8} (hl : 576 ≤ s.length) (hz : (s.drop 24).take 40 = zeros 40) (hm : frMay (frOf s) = true) :
    tkFr p salt s = if (s.drop 8).take 8 == eight salt then
      (if (s.drop 16).take 8 == textOf (sumAdd (sumAdd p (s.take 16)) ((s.drop 64).take 512)) then ⟨frOf s, sumAdd (sumAdd p (s.take 16)) ((s.drop 64).take 512), 0⟩ else ⟨zeroFr, (0, 0), 40⟩)
      else ⟨zeroFr, (0, 0), 41⟩ := by
  unfold tkFr
  rw [if_neg (by omega), if_neg (by rw [hz, hm]; simp)]

theorem tkFr_put (p : Int × Int) (salt : Int) (f : Fr) (more : List UInt8) (h : frOk f = true) : tkFr p salt (frL p salt f ++ more) = ⟨f, frQ p salt f, 0⟩ := by
  obtain ⟨h1, h2, h3, h4, h5, h6⟩ := fr_parts p salt f more h
  have hl := frL_length p salt f (frOk_facts h).2.1
  rw [tkFr_of (by rw [List.length_append]; omega) h3 (by rw [h6]; exact (frOk_facts h).1), h5, if_pos (by simp), h1, h2, h4, h6]
  have e : sumAdd (sumAdd p (frHead salt f)) f.data = frQ p salt f := rfl
  rw [e, if_pos (by simp)]

theorem tkFr_other (p other : Int × Int) (salt : Int) (f : Fr) (h : frOk f = true) (hp : PairWf p) (ho : PairWf other) : (tkFr other salt (frL p salt f)).e = 0 ↔ other = p := by
  obtain ⟨h1, h2, h3, h4, h5, h6⟩ := fr_parts p salt f [] h
  rw [List.append_nil] at h1 h2 h3 h4 h5 h6
  have hl := frL_length p salt f (frOk_facts h).2.1
  rw [tkFr_of (by omega) h3 (by rw [h6]; exact (frOk_facts h).1), h5, if_pos (by simp), h1, h2, h4, h6]
  have e : frQ p salt f = sumAdd (sumAdd p (frHead salt f)) f.data := rfl
  constructor
  · intro h0
    by_cases ht : (textOf (frQ p salt f) == textOf (sumAdd (sumAdd other (frHead salt f)) f.data)) = true
    · rw [beq_iff_eq, e] at ht
      have b1 := sumAdd_bd p (frHead salt f) hp.1 hp.2
      have b2 := sumAdd_bd other (frHead salt f) ho.1 ho.2
      have e1 := textOf_inj (sumAdd_bd _ _ b1.1 b1.2) (sumAdd_bd _ _ b2.1 b2.2) ht
      exact (sumAdd_inj hp ho (sumAdd_inj b1 b2 e1)).symm
    · rw [if_neg ht] at h0
      exact absurd h0 (by decide)
  · rintro rfl
    rw [if_pos (by rw [e]; simp)]

theorem eight_inj {a b : Int} (a0 : 0 ≤ a) (a1 : a < 18446744073709551616) (b0 : 0 ≤ b) (b1 : b < 18446744073709551616) (h : eight a = eight b) : a = b := by
  rw [← num_eight a a0 a1, ← num_eight b b0 b1, h]
theorem tkFr_wrong (p : Int × Int) (salt wrong : Int) (f : Fr) (h : frOk f = true) (s0 : 0 ≤ salt) (s1 : salt < 18446744073709551616) (w0 : 0 ≤ wrong) (w1 : wrong < 18446744073709551616) : (tkFr p wrong (frL p salt f)).e = 0 ↔ wrong = salt := by
  constructor
  · intro h0
    obtain ⟨h1, h2, h3, h4, h5, h6⟩ := fr_parts p salt f [] h
    rw [List.append_nil] at h1 h2 h3 h4 h5 h6
    have hl := frL_length p salt f (frOk_facts h).2.1
    rw [tkFr_of (by omega) h3 (by rw [h6]; exact (frOk_facts h).1), h5] at h0
    by_cases ht : (eight salt == eight wrong) = true
    · exact (eight_inj s0 s1 w0 w1 (by simpa using ht)).symm
    · rw [if_neg ht] at h0
      exact absurd h0 (by simp)
  · rintro rfl
    have := tkFr_put p wrong f [] h
    rw [List.append_nil] at this
    rw [this]

theorem oneBlock_mid {n a m : Nat} {s t : List UInt8} (h : OneBlock n s t) (hm : 8 * n + 8 ≤ a ∨ a + m ≤ 8 * n) : (s.drop a).take m = (t.drop a).take m := by
  apply List.ext_getElem?
  intro i
  simp only [List.getElem?_take, List.getElem?_drop]
  split
  · exact h.2 _ (by omega)
  · rfl
theorem split4 (s : List UInt8) (h : s.length = 576) : s = s.take 16 ++ ((s.drop 16).take 8 ++ ((s.drop 24).take 40 ++ (s.drop 64).take 512)) := by
  conv => lhs; rw [← List.take_append_drop 16 s, ← List.take_append_drop 8 (s.drop 16), ← List.take_append_drop 40 ((s.drop 16).drop 8)]
  rw [List.drop_drop, List.drop_drop, List.take_of_length_le (l := s.drop 64) (by simp; omega)]

theorem tkFr_ok {p : Int × Int} {salt : Int} {t : List UInt8} (h0 : (tkFr p salt t).e = 0) : 576 ≤ t.length ∧ (t.drop 24).take 40 = zeros 40 ∧ (t.drop 16).take 8 = textOf (sumAdd (sumAdd p (t.take 16)) ((t.drop 64).take 512)) := by
  unfold tkFr at h0
  by_cases g1 : t.length < 576
  · rw [if_pos g1] at h0; exact absurd h0 (by decide)
  · rw [if_neg g1] at h0
    by_cases g2 : (!((t.drop 24).take 40 == zeros 40) || !frMay (frOf t)) = true
    · rw [if_pos g2] at h0; exact absurd h0 (by simp)
    · rw [if_neg g2] at h0
      by_cases g3 : ((t.drop 8).take 8 == eight salt) = true
      · rw [if_pos g3] at h0
        by_cases g4 : ((t.drop 16).take 8 == textOf (sumAdd (sumAdd p (t.take 16)) ((t.drop 64).take 512))) = true
        · refine ⟨by omega, ?_, by simpa using g4⟩
          simp only [Bool.or_eq_true, not_or, Bool.not_eq_true, Bool.not_eq_false', beq_iff_eq] at g2
          exact g2.1
        · rw [if_neg g4] at h0; exact absurd h0 (by simp)
      · rw [if_neg g3] at h0; exact absurd h0 (by simp)

theorem tkFr_block (p : Int × Int) (salt : Int) (f : Fr) (n : Nat) (t : List UInt8) (h : frOk f = true) (hp : PairWf p) (ho : OneBlock n (frL p salt f) t) : (tkFr p salt t).e = 0 ↔ frL p salt f = t := by
  constructor
  · intro h0
    obtain ⟨h1, h2, h3, h4, h5, h6⟩ := fr_parts p salt f [] h
    rw [List.append_nil] at h1 h2 h3 h4 h5 h6
    have hl := frL_length p salt f (frOk_facts h).2.1
    have hd := (frOk_facts h).2.1
    obtain ⟨s, hs⟩ : ∃ s, s = frL p salt f := ⟨_, rfl⟩
    rw [← hs] at ho h1 h2 h3 h4 hl ⊢
    have htl : t.length = 576 := by rw [← ho.1]; exact hl
    obtain ⟨_, z, k⟩ := tkFr_ok h0
    have k0 : (s.drop 16).take 8 = textOf (sumAdd (sumAdd p (s.take 16)) ((s.drop 64).take 512)) := by rw [h2, h1, h4]; rfl
    rw [split4 s hl, split4 t htl, h3, z]
    by_cases hn : n = 2 ∨ (3 ≤ n ∧ n < 8)
    · have a1 := oneBlock_take ho (m := 16) (by omega)
      have a2 := oneBlock_mid ho (a := 64) (m := 512) (by omega)
      rw [k0, k, a1, a2]
    · have a1 := oneBlock_mid ho (a := 16) (m := 8) (by omega)
      rw [k0, k] at a1
      have b1 := sumAdd_bd p (s.take 16) hp.1 hp.2
      have b2 := sumAdd_bd p (t.take 16) hp.1 hp.2
      have e1 := textOf_inj (sumAdd_bd _ _ b1.1 b1.2) (sumAdd_bd _ _ b2.1 b2.2) a1
      rw [← sumAdd_append 2 _ _ p (by simp; omega), ← sumAdd_append 2 _ _ p (by simp; omega)] at e1
      have key : s.take 16 ++ (s.drop 64).take 512 = t.take 16 ++ (t.drop 64).take 512 := by
        have gen : ∀ n', (∀ i, i < 528 → i / 8 ≠ n' → (if i < 16 then i else i + 48) / 8 ≠ n) → OneBlock n' (s.take 16 ++ (s.drop 64).take 512) (t.take 16 ++ (t.drop 64).take 512) := by
          intro n' hn'
          refine ⟨by simp; omega, fun i hi => ?_⟩
          by_cases i16 : i < 16
          · rw [List.getElem?_append_left (by simp; omega), List.getElem?_append_left (by simp; omega)]
            simp only [List.getElem?_take, i16, if_true]
            have := hn' i (by omega) hi
            rw [if_pos i16] at this
            exact ho.2 i this
          · rw [List.getElem?_append_right (by simp; omega), List.getElem?_append_right (by simp; omega)]
            have e16 : (s.take 16).length = 16 := by simp; omega
            have f16 : (t.take 16).length = 16 := by simp; omega
            rw [e16, f16]
            simp only [List.getElem?_take, List.getElem?_drop]
            split
            · have := hn' i (by omega) hi
              rw [if_neg i16] at this
              exact ho.2 _ (by omega)
            · rfl
        have hX : (s.take 16 ++ (s.drop 64).take 512).length = 8 * 66 := by simp; omega
        by_cases n2 : n < 2
        · exact sum_one hp (gen n (fun i _ hi => by split <;> omega)) hX (by omega) e1
        · by_cases n72 : n < 72
          · exact sum_one hp (gen (n - 6) (fun i _ hi => by split <;> omega)) hX (by omega) e1
          · have o1 := oneBlock_take ho (m := 16) (by omega)
            have o2 := oneBlock_mid ho (a := 64) (m := 512) (by omega)
            rw [o1, o2]
      obtain ⟨c1, c2⟩ := List.append_inj key (by simp; omega)
      rw [c1, c2, oneBlock_mid ho (a := 16) (m := 8) (by omega)]
  · rintro rfl
    have := tkFr_put p salt f [] h
    rw [List.append_nil] at this
    rw [this]
end Go.Proofs.YtenboibbbmeddaaGreat
