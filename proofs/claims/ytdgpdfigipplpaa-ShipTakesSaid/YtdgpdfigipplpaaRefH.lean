/- Plain laws for counterfoilref26.Take: it answers takeM. -/
import Derived.Test.YtdgpdfigipplpaaRefG
import Derived.Test.YtdgpdfigipplpaaShipE
namespace Go.Proofs.Ytdgpdfigipplpaa
open Go.RowKit
set_option linter.unusedVariables false
set_option linter.unusedSimpArgs false

def parseR (l : List UInt8) : List Img :=
  if h : 520 ≤ l.length then (smallN (num (l.take 8)), (l.drop 8).take 512) :: parseR (l.drop 520) else []
termination_by l.length
decreasing_by simp; omega
theorem parseR_go (l : List UInt8) (h : 520 ≤ l.length) : parseR l = (smallN (num (l.take 8)), (l.drop 8).take 512) :: parseR (l.drop 520) := by
  rw [parseR, dif_pos h]
theorem parseR_stop (l : List UInt8) (h : ¬ 520 ≤ l.length) : parseR l = [] := by
  rw [parseR, dif_neg h]
theorem parseR_small : ∀ (n : Nat) (l : List UInt8), l.length ≤ n → ∀ x ∈ parseR l, x.2.length ≤ 512
  | n, l, hn, x, hx => by
    by_cases h : 520 ≤ l.length
    · rw [parseR_go l h] at hx
      rcases List.mem_cons.1 hx with rfl | hx
      · simp; omega
      · match n, hn with
        | 0, hn => omega
        | n + 1, hn => exact parseR_small n (l.drop 520) (by simp; omega) x hx
    · rw [parseR_stop l h] at hx
      simp at hx
theorem parseR_len : ∀ (n : Nat) (l : List UInt8), l.length ≤ n → 520 * (parseR l).length ≤ l.length
  | n, l, hn => by
    by_cases h : 520 ≤ l.length
    · match n, hn with
      | 0, hn => omega
      | n + 1, hn =>
        have := parseR_len n (l.drop 520) (by simp; omega)
        rw [parseR_go l h]
        simp only [List.length_cons, List.length_drop] at *
        omega
    · rw [parseR_stop l h]
      simp

def minN (a b : Int) : Int := if a ≤ b then a else b
def refSh (s : List UInt8) : Sh :=
  ⟨minN (smallN (num ((s.drop 8).take 8))) 255, num ((s.drop 16).take 8), num ((s.drop 24).take 8), smallN (num ((s.drop 32).take 8)) == 1, smallN (num ((s.drop 40).take 8)), parseR (s.drop 56)⟩

theorem smallN_of (n : Int) (h : n ≤ 1000000) : smallN n = n := if_neg (by omega)
theorem smallN_bd (n : Int) (h : 0 ≤ n) : 0 ≤ smallN n ∧ smallN n ≤ 1000000 := by unfold smallN; split <;> omega
theorem minN_bd (n : Int) (h : 0 ≤ n) : 0 ≤ minN n 255 ∧ minN n 255 ≤ 255 := by unfold minN; split <;> omega
theorem parseR_imgs : ∀ (l : List Img), (∀ x ∈ l, x.2.length = 512 ∧ 0 < x.1 ∧ x.1 ≤ 256) → parseR (imgsL l) = l
  | [], _ => parseR_stop _ (by simp [imgsL])
  | x :: l, h => by
    obtain ⟨h1, h2, h3⟩ := h x (by simp)
    have e : imgsL (x :: l) = eight x.1 ++ (x.2 ++ imgsL l) := by simp [imgsL]
    have hlen : (imgsL (x :: l)).length = 520 + (imgsL l).length := by rw [e]; simp only [List.length_append, eight_length, h1]; omega
    rw [parseR_go _ (by omega)]
    have e1 : (imgsL (x :: l)).take 8 = eight x.1 := by rw [e, take8 _ _ (eight_length _)]
    have e2 : (imgsL (x :: l)).drop 8 = x.2 ++ imgsL l := by rw [e]; exact drop8 _ _ 0 (eight_length _)
    have e3 : (imgsL (x :: l)).drop 520 = imgsL l := by
      rw [show (520 : Nat) = 8 + 512 from rfl, ← List.drop_drop, e2, ← h1, List.drop_left]
    rw [e1, e2, e3, num_eight _ (by omega) (by omega), ← h1, List.take_left, parseR_imgs l (fun y hy => h y (by simp [hy])), smallN_of _ (by omega)]

theorem ref_put (m : Sh) (h : mayB m = true) (hw : Wf m) : refSh (putL m) = m := by
  obtain ⟨⟨p0, p1⟩, hn, h3⟩ := may_facts m h
  obtain ⟨⟨k0, k1⟩, ⟨e0, e1⟩, g0, g1⟩ := hw
  have hs : putL m = textOf (sumAdd (0, 0) (bodyL m)) ++ (eight m.kind ++ (eight m.epoch ++ (eight m.k ++ (eight (if m.full then 1 else 0) ++ (eight m.pages ++ (eight (m.imgs.length : Int) ++ imgsL m.imgs)))))) := by
    unfold putL bodyL headL wordsL
    simp
  have t := textOf_length (sumAdd (0, 0) (bodyL m))
  have e8 := eight_length
  have d8 : (putL m).drop 8 = eight m.kind ++ (eight m.epoch ++ (eight m.k ++ (eight (if m.full then 1 else 0) ++ (eight m.pages ++ (eight (m.imgs.length : Int) ++ imgsL m.imgs))))) := by
    rw [hs]; exact drop8 _ _ 0 t
  have d16 : (putL m).drop 16 = eight m.epoch ++ (eight m.k ++ (eight (if m.full then 1 else 0) ++ (eight m.pages ++ (eight (m.imgs.length : Int) ++ imgsL m.imgs)))) := by
    rw [show (16 : Nat) = 8 + 8 from rfl, ← List.drop_drop, d8]; exact drop8 _ _ 0 (e8 _)
  have d24 : (putL m).drop 24 = eight m.k ++ (eight (if m.full then 1 else 0) ++ (eight m.pages ++ (eight (m.imgs.length : Int) ++ imgsL m.imgs))) := by
    rw [show (24 : Nat) = 16 + 8 from rfl, ← List.drop_drop, d16]; exact drop8 _ _ 0 (e8 _)
  have d32 : (putL m).drop 32 = eight (if m.full then 1 else 0) ++ (eight m.pages ++ (eight (m.imgs.length : Int) ++ imgsL m.imgs)) := by
    rw [show (32 : Nat) = 24 + 8 from rfl, ← List.drop_drop, d24]; exact drop8 _ _ 0 (e8 _)
  have d40 : (putL m).drop 40 = eight m.pages ++ (eight (m.imgs.length : Int) ++ imgsL m.imgs) := by
    rw [show (40 : Nat) = 32 + 8 from rfl, ← List.drop_drop, d32]; exact drop8 _ _ 0 (e8 _)
  have d48 : (putL m).drop 48 = eight (m.imgs.length : Int) ++ imgsL m.imgs := by
    rw [show (48 : Nat) = 40 + 8 from rfl, ← List.drop_drop, d40]; exact drop8 _ _ 0 (e8 _)
  have d56 : (putL m).drop 56 = imgsL m.imgs := by
    rw [show (56 : Nat) = 48 + 8 from rfl, ← List.drop_drop, d48]; exact drop8 _ _ 0 (e8 _)
  unfold refSh
  rw [d8, d16, d24, d32, d40, d56, take8 _ _ (e8 _), take8 _ _ (e8 _), take8 _ _ (e8 _), take8 _ _ (e8 _), take8 _ _ (e8 _)]
  have hkind := may_kind m h
  rw [num_eight _ k0 (by omega), num_eight _ e0 e1, num_eight _ g0 g1, num_eight _ p0 (by omega), parseR_imgs _ h3]
  have hf : (smallN (num (eight (if m.full = true then 1 else 0))) == 1) = m.full := by
    cases m.full
    · rw [if_neg (by decide), num_eight 0 (by decide) (by decide)]; rfl
    · rw [if_pos rfl, num_eight 1 (by decide) (by decide)]; rfl
  rw [hf, smallN_of m.kind (by omega), smallN_of m.pages (by omega)]
  have a1 : minN m.kind 255 = m.kind := if_pos (by omega)
  rw [a1]

theorem num8_lo (l : List UInt8) : 0 ≤ num l := num_lo l
theorem ref_wf (s : List UInt8) : Wf (refSh s) := by
  refine ⟨?_, num8_lt _, num8_lt _⟩
  have h := minN_bd (smallN (num ((s.drop 8).take 8))) (smallN_bd _ (num_lo _)).1
  simp only [refSh]
  omega

/-- The reference's Take is the program's. -/
theorem ref_take (s : List UInt8) (h1 : 56 ≤ s.length) (h2 : s.length % 8 = 0) (h3 : s.take 8 = textOf (sumAdd (0, 0) (s.drop 8))) :
    takeM s = if mayB (refSh s) = true ∧ putL (refSh s) = s then (refSh s, 0) else (zeroSh, 7) := by
  unfold takeM
  rw [if_neg (by omega), if_neg (by simp [← h3])]
  by_cases hr : mayB (refSh s) = true ∧ putL (refSh s) = s
  · have e : parseSh s = refSh s := by
      have := parse_put (refSh s) hr.1 (ref_wf s)
      rw [hr.2] at this
      exact this
    rw [e, if_pos hr]
  · rw [if_neg hr, if_neg]
    intro hp
    apply hr
    have e : refSh s = parseSh s := by
      have := ref_put (parseSh s) hp.1 (parse_wf s)
      rw [hp.2] at this
      exact this
    rw [e]
    exact hp
end Go.Proofs.Ytdgpdfigipplpaa
