import Derived.Test.YtaelhejmedjgiaaGreatFrF
set_option linter.unusedVariables false
set_option linter.unusedSimpArgs false
namespace Go.Proofs.YtaelhejmedjgiaaGreat
open Go.RowKit
set_option maxRecDepth 20000
theorem cutT (a b : List UInt8) (n : Nat) (h : a.length = n) : (a ++ b).take n = a := by rw [← h, List.take_left]
theorem cutD (a b : List UInt8) (n : Nat) (h : a.length = n) : (a ++ b).drop n = b := by rw [← h, List.drop_left]
theorem hdB_eq (h : Hd) : hdB h = wordC ++ (eight h.number ++ (four h.frames ++ four h.pages)) := by simp [hdB]
theorem hdB_app (h : Hd) (x : List UInt8) : hdB h ++ x = wordC ++ (eight h.number ++ (four h.frames ++ (four h.pages ++ x))) := by simp [hdB]
theorem hdL_eq (h : Hd) : hdL h = hdB h ++ (textOf (sumAdd (0, 0) (hdB h)) ++ zeros 32) := by simp [hdL]
theorem hdMay_bd {h : Hd} (hm : hdMay h = true) : (0 ≤ h.frames ∧ h.frames ≤ 256) ∧ (0 ≤ h.pages ∧ h.pages ≤ 256) := by
 simp only [hdMay, Bool.and_eq_true] at hm
 exact ⟨inB_true.1 hm.1, inB_true.1 hm.2⟩
theorem tkHd_put (h : Hd) (more : List UInt8) (hm : hdMay h = true) (hw : HdWf h) : tkHd (hdL h ++ more) = (h, 0) := by
 obtain ⟨⟨f0, f1⟩, p0, p1⟩ := hdMay_bd hm
 have hl := hdL_length h
 have hbl := hdB_length h
 have T := textOf_length (sumAdd (0, 0) (hdB h))
 have Z := zeros_length 32
 have e : hdL h ++ more = hdB h ++ (textOf (sumAdd (0, 0) (hdB h)) ++ (zeros 32 ++ more)) := by rw [hdL_eq]; simp
 have e2 : hdL h ++ more = wordC ++ (eight h.number ++ (four h.frames ++ (four h.pages ++ (textOf (sumAdd (0, 0) (hdB h)) ++ (zeros 32 ++ more))))) := by rw [e, hdB_app]
 have d8 : (hdL h ++ more).drop 8 = eight h.number ++ (four h.frames ++ (four h.pages ++ (textOf (sumAdd (0, 0) (hdB h)) ++ (zeros 32 ++ more)))) := by rw [e2]; exact cutD _ _ 8 rfl
 have d16 : (hdL h ++ more).drop 16 = four h.frames ++ (four h.pages ++ (textOf (sumAdd (0, 0) (hdB h)) ++ (zeros 32 ++ more))) := by rw [show (16 : Nat) = 8 + 8 from rfl, ← List.drop_drop, d8]; exact cutD _ _ 8 rfl
 have d20 : (hdL h ++ more).drop 20 = four h.pages ++ (textOf (sumAdd (0, 0) (hdB h)) ++ (zeros 32 ++ more)) := by rw [show (20 : Nat) = 16 + 4 from rfl, ← List.drop_drop, d16]; exact cutD _ _ 4 rfl
 have d24 : (hdL h ++ more).drop 24 = textOf (sumAdd (0, 0) (hdB h)) ++ (zeros 32 ++ more) := by rw [e]; exact cutD _ _ 24 hbl
 have d32 : (hdL h ++ more).drop 32 = zeros 32 ++ more := by rw [show (32 : Nat) = 24 + 8 from rfl, ← List.drop_drop, d24]; exact cutD _ _ 8 T
 have t8 : (hdL h ++ more).take 8 = wordC := by rw [e2]; exact cutT _ _ 8 rfl
 have t24 : (hdL h ++ more).take 24 = hdB h := by rw [e]; exact cutT _ _ 24 hbl
 have ho : hdOf (hdL h ++ more) = h := by
  unfold hdOf
  rw [d8, d16, d20, cutT _ _ 8 rfl, cutT _ _ 4 rfl, cutT _ _ 4 rfl, num_eight _ hw.1 hw.2, num_four _ f0 (by omega), num_four _ p0 (by omega)]
 have hb : hdBad (hdL h ++ more) = false := by
  unfold hdBad
  rw [ho, t8, d32, cutT _ _ 32 Z]
  simp only [hdMay, Bool.and_eq_true] at hm
  rw [hm.1, hm.2]
  simp
 unfold tkHd
 rw [if_neg (by rw [List.length_append]; omega), if_neg (by rw [hb]; decide), d24, cutT _ _ 8 T, t24, ho, if_pos (by simp)]
theorem four_of_num (l : List UInt8) (h : l.length = 4) : four (num l) = l := by
 have b : 0 ≤ num l ∧ num l < 4294967296 := by
  have := num4_bd l
  rwa [List.take_of_length_le (by omega)] at this
 exact num_inj _ _ (by rw [h]; rfl) (num_four _ b.1 b.2)
theorem eight_of_num (l : List UInt8) (h : l.length = 8) : eight (num l) = l := by
 have b : 0 ≤ num l ∧ num l < 18446744073709551616 := by
  have := num8_lt l
  rwa [List.take_of_length_le (by omega)] at this
 exact num_inj _ _ (by rw [h]; rfl) (num_eight _ b.1 b.2)
theorem tkHd_ok (s : List UInt8) (hl : s.length = 64) (h : (tkHd s).2 = 0) : s = hdL (tkHd s).1 ∧ hdMay (tkHd s).1 = true := by
 unfold tkHd at *
 rw [if_neg (by omega)] at h ⊢
 cases hb : hdBad s
 ·rw [hb] at h
  simp only [Bool.false_eq_true, if_false] at h ⊢
  by_cases ht : ((s.drop 24).take 8 == textOf (sumAdd (0, 0) (s.take 24))) = true
  ·rw [if_pos ht]
   unfold hdBad at hb
   simp only [Bool.or_eq_false_iff, Bool.not_eq_false', beq_iff_eq] at hb ht
   obtain ⟨h1, h2, h3, h4⟩ := hb
   have hm : hdMay (hdOf s) = true := by simp [hdMay, h3, h4]
   refine ⟨?_, hm⟩
   have e1 : eight (hdOf s).number = (s.drop 8).take 8 := eight_of_num _ (by simp; omega)
   have e2 : four (hdOf s).frames = (s.drop 16).take 4 := four_of_num _ (by simp; omega)
   have e3 : four (hdOf s).pages = (s.drop 20).take 4 := four_of_num _ (by simp; omega)
   have eB : hdB (hdOf s) = s.take 24 := by
    rw [hdB_eq, e1, e2, e3, ← h1]
    rw [show (24 : Nat) = 8 + (8 + (4 + 4)) from rfl, List.take_add, List.take_add (i := 8), List.take_add (i := 4), List.drop_drop, List.drop_drop]
   rw [hdL_eq, eB, ← ht, ← h2]
   conv => lhs; rw [← List.take_append_drop 24 s, ← List.take_append_drop 8 (s.drop 24), List.drop_drop]
   rw [List.take_of_length_le (l := s.drop (24 + 8)) (by simp; omega)]
  ·rw [if_neg ht] at h
   exact absurd h (by decide)
 ·rw [hb] at h
  exact absurd h (by simp)
end Go.Proofs.YtaelhejmedjgiaaGreat
namespace Go.Proofs.YtaelhejmedjgiaaGreat
open Go.RowKit
set_option maxRecDepth 20000
theorem frHead_app (salt : Int) (f : Fr) (x : List UInt8) : frHead salt f ++ x = four f.page ++ (four f.commit ++ (eight salt ++ x)) := by simp [frHead]
theorem frL_app (p : Int × Int) (salt : Int) (f : Fr) (x : List UInt8) : frL p salt f ++ x = frHead salt f ++ (textOf (frQ p salt f) ++ (zeros 40 ++ (f.data ++ x))) := by simp [frL]
theorem frOk_facts {f : Fr} (h : frOk f = true) : frMay f = true ∧ f.data.length = 512 ∧ (1 ≤ f.page ∧ f.page ≤ 256) ∧ (0 ≤ f.commit ∧ f.commit ≤ 256) := by
 simp only [frOk, Bool.and_eq_true, decide_eq_true_eq] at h
 have h1 := h.1
 simp only [frMay, Bool.and_eq_true] at h1
 exact ⟨h.1, h.2, inB_true.1 h1.1, inB_true.1 h1.2⟩
theorem fr_parts (p : Int × Int) (salt : Int) (f : Fr) (more : List UInt8) (h : frOk f = true) :
  (frL p salt f ++ more).take 16 = frHead salt f ∧ ((frL p salt f ++ more).drop 16).take 8 = textOf (frQ p salt f) ∧ ((frL p salt f ++ more).drop 24).take 40 = zeros 40 ∧ ((frL p salt f ++ more).drop 64).take 512 = f.data ∧
  ((frL p salt f ++ more).drop 8).take 8 = eight salt ∧ frOf (frL p salt f ++ more) = f := by
 obtain ⟨_, hd, ⟨f0, f1⟩, c0, c1⟩ := frOk_facts h
 have hl := frHead_length salt f
 have T := textOf_length (frQ p salt f)
 have Z := zeros_length 40
 have d16 : (frL p salt f ++ more).drop 16 = textOf (frQ p salt f) ++ (zeros 40 ++ (f.data ++ more)) := by rw [frL_app]; exact cutD _ _ 16 hl
 have d24 : (frL p salt f ++ more).drop 24 = zeros 40 ++ (f.data ++ more) := by rw [show (24 : Nat) = 16 + 8 from rfl, ← List.drop_drop, d16]; exact cutD _ _ 8 T
 have d64 : (frL p salt f ++ more).drop 64 = f.data ++ more := by rw [show (64 : Nat) = 24 + 40 from rfl, ← List.drop_drop, d24]; exact cutD _ _ 40 Z
 have d4 : (frL p salt f ++ more).drop 4 = four f.commit ++ (eight salt ++ (textOf (frQ p salt f) ++ (zeros 40 ++ (f.data ++ more)))) := by rw [frL_app, frHead_app]; exact cutD _ _ 4 rfl
 have d8 : (frL p salt f ++ more).drop 8 = eight salt ++ (textOf (frQ p salt f) ++ (zeros 40 ++ (f.data ++ more))) := by rw [show (8 : Nat) = 4 + 4 from rfl, ← List.drop_drop, d4]; exact cutD _ _ 4 rfl
 have t4 : (frL p salt f ++ more).take 4 = four f.page := by rw [frL_app, frHead_app]; exact cutT _ _ 4 rfl
 refine ⟨by rw [frL_app]; exact cutT _ _ 16 hl, by rw [d16]; exact cutT _ _ 8 T, by rw [d24]; exact cutT _ _ 40 Z, by rw [d64]; exact cutT _ _ 512 hd, by rw [d8]; exact cutT _ _ 8 rfl, ?_⟩
 unfold frOf
 rw [t4, d4, d64, cutT _ _ 4 rfl, cutT _ _ 512 hd, num_four _ (by omega) (by omega), num_four _ c0 (by omega)]
theorem tkFr_of {p : Int × Int} {salt : Int} {s : List UInt8} (hl : 576 ≤ s.length) (hz : (s.drop 24).take 40 = zeros 40) (hm : frMay (frOf s) = true) :
  tkFr p salt s = if (s.drop 8).take 8 == eight salt then
   (if (s.drop 16).take 8 == textOf (sumAdd (sumAdd p (s.take 16)) ((s.drop 64).take 512)) then ⟨frOf s, sumAdd (sumAdd p (s.take 16)) ((s.drop 64).take 512), 0⟩ else ⟨zeroFr, (0, 0), 40⟩)
   else ⟨zeroFr, (0, 0), 41⟩ := by
 unfold tkFr
 rw [if_neg (by omega), if_neg (by rw [hz, hm]; simp)]
theorem tkFr_put (p : Int × Int) (salt : Int) (f : Fr) (more : List UInt8) (h : frOk f = true) : tkFr p salt (frL p salt f ++ more) = ⟨f, frQ p salt f, 0⟩ := by
 obtain ⟨h1, h2, h3, h4, h5, h6⟩ := fr_parts p salt f more h
 have hl := frL_length p salt f (frOk_facts h).2.1
 rw [tkFr_of (by rw [List.length_append]; omega) h3 (by rw [h6]; exact (frOk_facts h).1), h5, if_pos (by simp), h1, h2, h4, h6]
 have e : sumAdd (sumAdd p (frHead salt f)) f.data = frQ p salt f := rfl
 rw [e, if_pos (by simp)]
end Go.Proofs.YtaelhejmedjgiaaGreat
