/- Plain laws of heads and frames: what is put is taken; starts; one block that has become another one is refused. -/
import Derived.Test.YtioafhkblmebmaaFrF
namespace Go.Proofs.Ytioafhkblmebmaa
open Go.RowKit
set_option linter.unusedVariables false
set_option linter.unusedSimpArgs false

theorem cutT (a b : List UInt8) (n : Nat) (h : a.length = n) : (a ++ b).take n = a := by rw [← h, List.take_left]
theorem cutD (a b : List UInt8) (n : Nat) (h : a.length = n) : (a ++ b).drop n = b := by rw [← h, List.drop_left]
theorem cutD' (a b : List UInt8) (n k : Nat) (h : a.length = n) : (a ++ b).drop (n + k) = b.drop k := by rw [← List.drop_drop, cutD a b n h]

theorem hdB_eq (h : Hd) : hdB h = wordC ++ (eight h.number ++ (four h.frames ++ four h.pages)) := by simp [hdB]
theorem hdB_app (h : Hd) (x : List UInt8) : hdB h ++ x = wordC ++ (eight h.number ++ (four h.frames ++ (four h.pages ++ x))) := by simp [hdB]
theorem hdL_eq (h : Hd) : hdL h = hdB h ++ (textOf (sumAdd (0, 0) (hdB h)) ++ zeros 32) := by simp [hdL]
theorem hdMay_bd {h : Hd} (hm : hdMay h = true) : (0 ≤ h.frames ∧ h.frames ≤ 256) ∧ (0 ≤ h.pages ∧ h.pages ≤ 256) := by
  simp only [hdMay, Bool.and_eq_true] at hm
  exact ⟨inB_true.1 hm.1, inB_true.1 hm.2⟩

theorem tkHd_put (h : Hd) (more : List UInt8) (hm : hdMay h = true) (hw : HdWf h) : tkHd (hdL h ++ more) = (h, 0) := by
  obtain ⟨⟨f0, f1⟩, p0, p1⟩ := hdMay_bd hm
  have hl := hdL_length h
  have hbl := hdB_length h
  have T := textOf_length (sumAdd (0, 0) (hdB h))
  have Z := zeros_length 32
  have e : hdL h ++ more = hdB h ++ (textOf (sumAdd (0, 0) (hdB h)) ++ (zeros 32 ++ more)) := by rw [hdL_eq]; simp
  have e2 : hdL h ++ more = wordC ++ (eight h.number ++ (four h.frames ++ (four h.pages ++ (textOf (sumAdd (0, 0) (hdB h)) ++ (zeros 32 ++ more))))) := by rw [e, hdB_app]
  have d8 : (hdL h ++ more).drop 8 = eight h.number ++ (four h.frames ++ (four h.pages ++ (textOf (sumAdd (0, 0) (hdB h)) ++ (zeros 32 ++ more)))) := by rw [e2]; exact cutD _ _ 8 rfl
  have d16 : (hdL h ++ more).drop 16 = four h.frames ++ (four h.pages ++ (textOf (sumAdd (0, 0) (hdB h)) ++ (zeros 32 ++ more))) := by rw [show (16 : Nat) = 8 + 8 from rfl, ← List.drop_drop, d8]; exact cutD _ _ 8 rfl
  have d20 : (hdL h ++ more).drop 20 = four h.pages ++ (textOf (sumAdd (0, 0) (hdB h)) ++ (zeros 32 ++ more)) := by rw [show (20 : Nat) = 16 + 4 from rfl, ← List.drop_drop, d16]; exact cutD _ _ 4 rfl
  have d24 : (hdL h ++ more).drop 24 = textOf (sumAdd (0, 0) (hdB h)) ++ (zeros 32 ++ more) := by rw [e]; exact cutD _ _ 24 hbl
  have d32 : (hdL h ++ more).drop 32 = zeros 32 ++ more := by rw [show (32 : Nat) = 24 + 8 from rfl, ← List.drop_drop, d24]; exact cutD _ _ 8 T
  have t8 : (hdL h ++ more).take 8 = wordC := by rw [e2]; exact cutT _ _ 8 rfl
  have t24 : (hdL h ++ more).take 24 = hdB h := by rw [e]; exact cutT _ _ 24 hbl
  have ho : hdOf (hdL h ++ more) = h := by
    unfold hdOf
    rw [d8, d16, d20, cutT _ _ 8 rfl, cutT _ _ 4 rfl, cutT _ _ 4 rfl, num_eight _ hw.1 hw.2, num_four _ f0 (by omega), num_four _ p0 (by omega)]
  have hb : hdBad (hdL h ++ more) = false := by
    unfold hdBad
    rw [ho, t8, d32, cutT _ _ 32 Z]
    simp only [hdMay, Bool.and_eq_true] at hm
    rw [hm.1, hm.2]
    simp
  unfold tkHd
  rw [if_neg (by rw [List.length_append]; omega), if_neg (by rw [hb]; decide), d24, cutT _ _ 8 T, t24, ho, if_pos (by simp)]

theorem four_of_num (l : List UInt8) (h : l.length = 4) : four (num l) = l := by
  have b : 0 ≤ num l ∧ num l < 4294967296 := by
    have := num4_bd l
    rwa [List.take_of_length_le (by omega)] at this
  exact num_inj _ _ (by rw [h]; rfl) (num_four _ b.1 b.2)
theorem eight_of_num (l : List UInt8) (h : l.length = 8) : eight (num l) = l := by
  have b : 0 ≤ num l ∧ num l < 18446744073709551616 := by
    have := num8_lt l
    rwa [List.take_of_length_le (by omega)] at this
  exact num_inj _ _ (by rw [h]; rfl) (num_eight _ b.1 b.2)

/-- What is taken as a head, of 64 bytes, is that head's bytes. -/
theorem tkHd_ok (s : List UInt8) (hl : s.length = 64) (h : (tkHd s).2 = 0) : s = hdL (tkHd s).1 ∧ hdMay (tkHd s).1 = true := by
  unfold tkHd at *
  rw [if_neg (by omega)] at h ⊢
  cases hb : hdBad s
  · rw [hb] at h
    simp only [Bool.false_eq_true, if_false] at h ⊢
    by_cases ht : ((s.drop 24).take 8 == textOf (sumAdd (0, 0) (s.take 24))) = true
    · rw [if_pos ht]
      unfold hdBad at hb
      simp only [Bool.or_eq_false_iff, Bool.not_eq_false', beq_iff_eq] at hb ht
      obtain ⟨h1, h2, h3, h4⟩ := hb
      have hm : hdMay (hdOf s) = true := by simp [hdMay, h3, h4]
      refine ⟨?_, hm⟩
      have e1 : eight (hdOf s).number = (s.drop 8).take 8 := eight_of_num _ (by simp; omega)
      have e2 : four (hdOf s).frames = (s.drop 16).take 4 := four_of_num _ (by simp; omega)
      have e3 : four (hdOf s).pages = (s.drop 20).take 4 := four_of_num _ (by simp; omega)
      have eB : hdB (hdOf s) = s.take 24 := by
        rw [hdB_eq, e1, e2, e3, ← h1]
        rw [show (24 : Nat) = 8 + (8 + (4 + 4)) from rfl, List.take_add, List.take_add (i := 8), List.take_add (i := 4), List.drop_drop, List.drop_drop]
      rw [hdL_eq, eB, ← ht, ← h2]
      conv => lhs; rw [← List.take_append_drop 24 s, ← List.take_append_drop 8 (s.drop 24), List.drop_drop]
      rw [List.take_of_length_le (l := s.drop (24 + 8)) (by simp; omega)]
    · rw [if_neg ht] at h
      exact absurd h (by decide)
  · rw [hb] at h
    exact absurd h (by simp)

theorem startP_inj {n m : Int} (n0 : 0 ≤ n) (n1 : n < 18446744073709551616) (m0 : 0 ≤ m) (m1 : m < 18446744073709551616) : startP n = startP m ↔ n = m := by
  constructor
  · intro h
    have h1 : sumAdd (0, 0) (wordC ++ eight n ++ []) = sumAdd (0, 0) (wordC ++ eight m ++ []) := by simpa [startP] using h
    have := sum_block (n := 1) (p := (0, 0)) (by decide) rfl (eight_length n) (eight_length m) h1
    rw [← num_eight n n0 n1, ← num_eight m m0 m1, this]
  · rintro rfl; rfl

/-- Two texts that are the same but for block n. -/
def OneBlock (n : Nat) (s t : List UInt8) : Prop := s.length = t.length ∧ ∀ i, i / 8 ≠ n → s[i]? = t[i]?
theorem oneBlock_take {n m : Nat} {s t : List UInt8} (h : OneBlock n s t) (hm : m ≤ 8 * n) : s.take m = t.take m := by
  apply List.ext_getElem?
  intro i
  simp only [List.getElem?_take]
  split
  · exact h.2 i (by omega)
  · rfl
theorem oneBlock_drop {n m : Nat} {s t : List UInt8} (h : OneBlock n s t) (hm : 8 * n + 8 ≤ m) : s.drop m = t.drop m := by
  apply List.ext_getElem?
  intro i
  simp only [List.getElem?_drop]
  exact h.2 _ (by omega)
/-- Equal sums of two texts of whole blocks that are the same but for one block: the same texts. -/
theorem sum_one {n N : Nat} {s t : List UInt8} {p : Int × Int} (hp : PairWf p) (h : OneBlock n s t) (hl : s.length = 8 * N) (hn : n < N) (he : sumAdd p s = sumAdd p t) : s = t := by
  have ht : t.length = 8 * N := by rw [← h.1]; exact hl
  have e1 : s = s.take (8 * n) ++ (s.drop (8 * n)).take 8 ++ s.drop (8 * n + 8) := by
    conv => lhs; rw [← List.take_append_drop (8 * n) s, ← List.take_append_drop 8 (s.drop (8 * n)), List.drop_drop]
    simp
  have e2 : t = t.take (8 * n) ++ (t.drop (8 * n)).take 8 ++ t.drop (8 * n + 8) := by
    conv => lhs; rw [← List.take_append_drop (8 * n) t, ← List.take_append_drop 8 (t.drop (8 * n)), List.drop_drop]
    simp
  rw [← oneBlock_take h (Nat.le_refl _), ← oneBlock_drop h (Nat.le_refl _)] at e2
  rw [e1, e2] at he
  have := sum_block (n := n) hp (by simp; omega) (by simp; omega) (by simp; omega) he
  rw [e1, e2, this]

/-- A head of which one block has become another one: taken just if it is the same. -/
theorem tkHd_block (h : Hd) (n : Nat) (t : List UInt8) (hm : hdMay h = true) (hw : HdWf h) (ho : OneBlock n (hdL h) t) : (tkHd t).2 = 0 ↔ hdL h = t := by
  constructor
  · intro h0
    have hl := hdL_length h
    have htl : t.length = 64 := by rw [← ho.1]; exact hl
    obtain ⟨h1, h2⟩ := tkHd_ok t htl h0
    obtain ⟨g, hg⟩ : ∃ g, g = (tkHd t).1 := ⟨_, rfl⟩
    rw [← hg] at h1 h2
    have hbl := hdB_length h
    have hgl := hdB_length g
    have T1 := textOf_length (sumAdd (0, 0) (hdB h))
    have T2 := textOf_length (sumAdd (0, 0) (hdB g))
    have b0 : PairWf (0, 0) := by unfold PairWf; decide
    by_cases hn : n < 3
    · have e1 := oneBlock_drop ho (m := 24) (by omega)
      rw [h1, hdL_eq, hdL_eq, cutD _ _ 24 hbl, cutD _ _ 24 hgl] at e1
      have e2 := (List.append_inj e1 (by rw [T1, T2])).1
      have e3 := textOf_inj (sumAdd_bd _ _ b0.1 b0.2) (sumAdd_bd _ _ b0.1 b0.2) e2
      have ob : OneBlock n (hdB h) (hdB g) := by
        refine ⟨by rw [hbl, hgl], fun i hi => ?_⟩
        have := ho.2 i hi
        rw [h1, hdL_eq, hdL_eq] at this
        by_cases hi24 : i < 24
        · rwa [List.getElem?_append_left (by omega), List.getElem?_append_left (by omega)] at this
        · rw [List.getElem?_eq_none (by omega), List.getElem?_eq_none (by omega)]
      have e4 := sum_one b0 ob (N := 3) (by omega) hn e3
      rw [h1, hdL_eq, hdL_eq, e4]
    · have e1 := oneBlock_take ho (m := 24) (by omega)
      rw [h1, hdL_eq, hdL_eq, cutT _ _ 24 hbl, cutT _ _ 24 hgl] at e1
      rw [h1, hdL_eq, hdL_eq, e1]
  · rintro rfl
    have := tkHd_put h [] hm hw
    rw [List.append_nil] at this
    rw [this]
end Go.Proofs.Ytioafhkblmebmaa
