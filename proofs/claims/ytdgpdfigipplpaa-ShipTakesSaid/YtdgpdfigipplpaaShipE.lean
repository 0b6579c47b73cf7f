/- Plain laws: what is put is taken; one block that has become another one is refused. -/
import Derived.Test.YtdgpdfigipplpaaShipC
namespace Go.Proofs.Ytdgpdfigipplpaa
open Go.RowKit
set_option linter.unusedVariables false
set_option linter.unusedSimpArgs false

theorem byt_toNat (n : Int) (h0 : 0 ≤ n) (h1 : n < 256) : ((byt n).toNat : Int) = n := by simp [byt]; omega
theorem num_four (n : Int) (h0 : 0 ≤ n) (h1 : n < 4294967296) : num (four n) = n := by
  unfold four
  rw [num4, byt_toNat _ (by omega) (by omega), byt_toNat _ (by omega) (by omega), byt_toNat _ (by omega) (by omega), byt_toNat _ (by omega) (by omega)]
  omega
theorem num_eight (n : Int) (h0 : 0 ≤ n) (h1 : n < 18446744073709551616) : num (eight n) = n := by
  unfold eight
  rw [num_append, num_four _ (by omega) (by omega), num_four _ (by omega) (by omega)]
  have : (four (n % 4294967296)).length = 4 := rfl
  rw [this]
  omega
theorem num_inj : ∀ (a b : List UInt8), a.length = b.length → num a = num b → a = b
  | [], [], _, _ => rfl
  | [], _ :: _, h, _ => by simp at h
  | _ :: _, [], h, _ => by simp at h
  | x :: a, y :: b, h, e => by
    have hl : a.length = b.length := by simpa using h
    have e1 : num (x :: a) = (x.toNat : Int) * 256 ^ a.length + num a := by rw [show x :: a = [x] ++ a from rfl, num_append, num_one]
    have e2 : num (y :: b) = (y.toNat : Int) * 256 ^ b.length + num b := by rw [show y :: b = [y] ++ b from rfl, num_append, num_one]
    rw [e1, e2, hl] at e
    have h1 := num_hi a
    have h2 := num_hi b
    have l1 := num_lo a
    have l2 := num_lo b
    rw [hl] at h1
    generalize (256 : Int) ^ b.length = M at *
    have hx : (x.toNat : Int) = y.toNat := by
      rcases Int.lt_trichotomy (x.toNat : Int) y.toNat with hlt | heq | hgt
      · have : ((x.toNat : Int) + 1) * M ≤ (y.toNat : Int) * M := Int.mul_le_mul_of_nonneg_right (by omega) (by omega)
        rw [Int.add_mul] at this
        omega
      · exact heq
      · have : ((y.toNat : Int) + 1) * M ≤ (x.toNat : Int) * M := Int.mul_le_mul_of_nonneg_right (by omega) (by omega)
        rw [Int.add_mul] at this
        omega
    have hxy : x = y := by
      apply UInt8.toNat_inj.1
      omega
    subst hxy
    rw [num_inj a b hl (by omega)]
theorem four_inj {a b : Int} (a0 : 0 ≤ a) (a1 : a < 4294967296) (b0 : 0 ≤ b) (b1 : b < 4294967296) (h : four a = four b) : a = b := by
  rw [← num_four a a0 a1, ← num_four b b0 b1, h]
theorem textOf_length (p : Int × Int) : (textOf p).length = 8 := rfl
theorem textOf_inj {p q : Int × Int} (hp : (0 ≤ p.1 ∧ p.1 < 4294967296) ∧ (0 ≤ p.2 ∧ p.2 < 4294967296)) (hq : (0 ≤ q.1 ∧ q.1 < 4294967296) ∧ (0 ≤ q.2 ∧ q.2 < 4294967296)) (h : textOf p = textOf q) : p = q := by
  unfold textOf at h
  obtain ⟨h1, h2⟩ := List.append_inj h rfl
  obtain ⟨a, b⟩ := p
  obtain ⟨c, d⟩ := q
  simp only at *
  rw [four_inj hp.1.1 hp.1.2 hq.1.1 hq.1.2 h1, four_inj hp.2.1 hp.2.2 hq.2.1 hq.2.2 h2]

/-- A sum over two texts, the first of whole blocks. -/
theorem sumAdd_append : ∀ (n : Nat) (a b : List UInt8) (p : Int × Int), a.length = 8 * n → sumAdd p (a ++ b) = sumAdd (sumAdd p a) b
  | 0, a, b, p, h => by
    obtain rfl : a = [] := List.length_eq_zero_iff.1 (by omega)
    rw [sumAdd_nil]; rfl
  | n + 1, a, b, p, h => by
    rw [sumAdd_step p (a ++ b) (by simp; omega), sumAdd_step p a (by omega)]
    have e1 : (a ++ b).take 8 = a.take 8 := by rw [List.take_append_of_le_length (by omega)]
    have e2 : (a ++ b).drop 8 = a.drop 8 ++ b := by rw [List.drop_append_of_le_length (by omega)]
    rw [e1, e2]
    exact sumAdd_append n (a.drop 8) b _ (by simp; omega)
theorem word_inj (a b : List UInt8) (ha : a.length = 8) (hb : b.length = 8) (h1 : wordA a = wordA b) (h2 : wordB a = wordB b) : a = b := by
  have pa : pad8 a = a := by simp [pad8, ha]
  have pb : pad8 b = b := by simp [pad8, hb]
  unfold wordA at h1
  unfold wordB at h2
  rw [pa, pb] at h1 h2
  have e1 := num_inj _ _ (by simp [ha, hb]) h1
  have e2 := num_inj _ _ (by simp [ha, hb]) h2
  rw [← List.take_append_drop 4 a, ← List.take_append_drop 4 b, e1, e2]
theorem word_lo (l : List UInt8) (h : l.length = 8) : (0 ≤ wordA l ∧ wordA l < 4294967296) ∧ (0 ≤ wordB l ∧ wordB l < 4294967296) := by
  have pa : pad8 l = l := by simp [pad8, h]
  unfold wordA wordB
  rw [pa]
  match l, h with
  | [a, b, c, d, e, f, g, i], _ => exact ⟨⟨num4_lo _ _ _ _, num4_hi _ _ _ _⟩, num4_lo _ _ _ _, num4_hi _ _ _ _⟩
theorem stepSum_inj_block {p : Int × Int} {x y x' y' : Int} (hx : 0 ≤ x ∧ x < 4294967296) (hy : 0 ≤ y ∧ y < 4294967296) (hx' : 0 ≤ x' ∧ x' < 4294967296) (hy' : 0 ≤ y' ∧ y' < 4294967296) (h : stepSum p x y = stepSum p x' y') : x = x' ∧ y = y' := by
  unfold stepSum at h
  simp only [Prod.mk.injEq] at h
  omega
theorem stepSum_inj_pair {p q : Int × Int} {x y : Int} (hp : (0 ≤ p.1 ∧ p.1 < 4294967296) ∧ (0 ≤ p.2 ∧ p.2 < 4294967296)) (hq : (0 ≤ q.1 ∧ q.1 < 4294967296) ∧ (0 ≤ q.2 ∧ q.2 < 4294967296)) (h : stepSum p x y = stepSum q x y) : p = q := by
  unfold stepSum at h
  simp only [Prod.mk.injEq] at h
  obtain ⟨a, b⟩ := p
  obtain ⟨c, d⟩ := q
  simp only at *
  have : b = d := by omega
  have : a = c := by omega
  simp [*]
theorem sumN_inj : ∀ (n : Nat) (l : List UInt8) (p q : Int × Int), (0 ≤ p.1 ∧ p.1 < 4294967296) ∧ (0 ≤ p.2 ∧ p.2 < 4294967296) → (0 ≤ q.1 ∧ q.1 < 4294967296) ∧ (0 ≤ q.2 ∧ q.2 < 4294967296) → sumN n p l = sumN n q l → p = q
  | 0, l, p, q, _, _, h => h
  | n + 1, l, p, q, hp, hq, h => by
    unfold sumN at h
    cases hl : l.isEmpty
    · rw [hl] at h
      simp only [Bool.false_eq_true, if_false] at h
      exact stepSum_inj_pair hp hq (sumN_inj n _ _ _ (stepSum_bd _ _ _) (stepSum_bd _ _ _) h)
    · rw [hl] at h
      simpa using h
theorem sumAdd_inj {l : List UInt8} {p q : Int × Int} (hp : (0 ≤ p.1 ∧ p.1 < 4294967296) ∧ (0 ≤ p.2 ∧ p.2 < 4294967296)) (hq : (0 ≤ q.1 ∧ q.1 < 4294967296) ∧ (0 ≤ q.2 ∧ q.2 < 4294967296)) (h : sumAdd p l = sumAdd q l) : p = q := by
  unfold sumAdd at h
  exact sumN_inj _ _ _ _ hp hq h
/-- One block that is another one comes to another sum. -/
theorem sum_block {n : Nat} {a b c d : List UInt8} {p : Int × Int} (hp : (0 ≤ p.1 ∧ p.1 < 4294967296) ∧ (0 ≤ p.2 ∧ p.2 < 4294967296)) (ha : a.length = 8 * n) (hb : b.length = 8) (hc : c.length = 8) (h : sumAdd p (a ++ b ++ d) = sumAdd p (a ++ c ++ d)) : b = c := by
  rw [List.append_assoc, List.append_assoc, sumAdd_append n a _ p ha, sumAdd_append n a _ p ha, sumAdd_append 1 b d _ (by omega), sumAdd_append 1 c d _ (by omega)] at h
  have hq := sumAdd_bd p a hp.1 hp.2
  have h1 := sumAdd_inj (sumAdd_bd _ _ hq.1 hq.2) (sumAdd_bd _ _ hq.1 hq.2) h
  rw [sumAdd_step _ b (by omega), sumAdd_step _ c (by omega)] at h1
  have e1 : b.drop 8 = [] := List.drop_eq_nil_of_le (by omega)
  have e2 : c.drop 8 = [] := List.drop_eq_nil_of_le (by omega)
  have e3 : b.take 8 = b := List.take_of_length_le (by omega)
  have e4 : c.take 8 = c := List.take_of_length_le (by omega)
  rw [e1, e2, e3, e4, sumAdd_nil, sumAdd_nil] at h1
  obtain ⟨w1, w2⟩ := word_lo b hb
  obtain ⟨w3, w4⟩ := word_lo c hc
  obtain ⟨g1, g2⟩ := stepSum_inj_block w1 w2 w3 w4 h1
  exact word_inj b c hb hc g1 g2

theorem drop8 (a b : List UInt8) (k : Nat) (h : a.length = 8) : (a ++ b).drop (k + 8) = b.drop k := by
  rw [Nat.add_comm, ← h, List.drop_append]
  simp
theorem take8 (a b : List UInt8) (h : a.length = 8) : (a ++ b).take 8 = a := by
  rw [← h, List.take_left]

theorem parseAll_imgs : ∀ (l : List Img), (∀ x ∈ l, x.2.length = 512 ∧ 0 < x.1 ∧ x.1 ≤ 256) → parseAll (l.length : Int) (imgsL l) = l
  | [], _ => parseAll_stop _ _ (by simp)
  | x :: l, h => by
    obtain ⟨h1, h2, h3⟩ := h x (by simp)
    have e : imgsL (x :: l) = eight x.1 ++ (x.2 ++ imgsL l) := by simp [imgsL]
    have hlen : (imgsL (x :: l)).length = 520 + (imgsL l).length := by rw [e]; simp only [List.length_append, eight_length, h1]; omega
    rw [parseAll_go _ _ (by simp only [List.length_cons]; omega) (by omega)]
    have e1 : (imgsL (x :: l)).take 8 = eight x.1 := by rw [e, take8 _ _ (eight_length _)]
    have e2 : (imgsL (x :: l)).drop 8 = x.2 ++ imgsL l := by rw [e]; exact drop8 _ _ 0 (eight_length _)
    have e3 : (imgsL (x :: l)).drop 520 = imgsL l := by
      rw [show (520 : Nat) = 8 + 512 from rfl, ← List.drop_drop, e2, ← h1, List.drop_left]
    rw [e1, e2, e3, num_eight _ (by omega) (by omega), ← h1, List.take_left]
    rw [show ((x :: l).length : Int) - 1 = (l.length : Int) by simp, parseAll_imgs l (fun y hy => h y (by simp [hy]))]
    have : x.1 % 1099511627776 = x.1 := by omega
    rw [this]

theorem may_kind (m : Sh) (h : mayB m = true) : m.kind = 1 ∨ m.kind = 2 := by
  unfold mayB at h
  by_cases h2 : m.kind = 2
  · exact .inr h2
  · rw [if_neg h2] at h
    by_cases h1 : m.kind = 1
    · exact .inl h1
    · rw [if_neg h1] at h; cases h

theorem putL_length (m : Sh) (h : mayB m = true) : (putL m).length = 56 + 520 * m.imgs.length := by
  obtain ⟨_, _, h3⟩ := may_facts m h
  unfold putL bodyL
  simp only [List.length_append, textOf_length, headL_length, imgsL_length _ (fun x hx => (h3 x hx).1)]
  omega

theorem parse_put (m : Sh) (h : mayB m = true) (hw : Wf m) : parseSh (putL m) = m := by
  obtain ⟨⟨p0, p1⟩, hn, h3⟩ := may_facts m h
  obtain ⟨⟨k0, k1⟩, ⟨e0, e1⟩, g0, g1⟩ := hw
  have hs : putL m = textOf (sumAdd (0, 0) (bodyL m)) ++ (eight m.kind ++ (eight m.epoch ++ (eight m.k ++ (eight (if m.full then 1 else 0) ++ (eight m.pages ++ (eight (m.imgs.length : Int) ++ imgsL m.imgs)))))) := by
    unfold putL bodyL headL wordsL
    simp
  have t := textOf_length (sumAdd (0, 0) (bodyL m))
  have e8 := eight_length
  have d8 : (putL m).drop 8 = eight m.kind ++ (eight m.epoch ++ (eight m.k ++ (eight (if m.full then 1 else 0) ++ (eight m.pages ++ (eight (m.imgs.length : Int) ++ imgsL m.imgs))))) := by
    rw [hs]; exact drop8 _ _ 0 t
  have d16 : (putL m).drop 16 = eight m.epoch ++ (eight m.k ++ (eight (if m.full then 1 else 0) ++ (eight m.pages ++ (eight (m.imgs.length : Int) ++ imgsL m.imgs)))) := by
    rw [show (16 : Nat) = 8 + 8 from rfl, ← List.drop_drop, d8]; exact drop8 _ _ 0 (e8 _)
  have d24 : (putL m).drop 24 = eight m.k ++ (eight (if m.full then 1 else 0) ++ (eight m.pages ++ (eight (m.imgs.length : Int) ++ imgsL m.imgs))) := by
    rw [show (24 : Nat) = 16 + 8 from rfl, ← List.drop_drop, d16]; exact drop8 _ _ 0 (e8 _)
  have d32 : (putL m).drop 32 = eight (if m.full then 1 else 0) ++ (eight m.pages ++ (eight (m.imgs.length : Int) ++ imgsL m.imgs)) := by
    rw [show (32 : Nat) = 24 + 8 from rfl, ← List.drop_drop, d24]; exact drop8 _ _ 0 (e8 _)
  have d40 : (putL m).drop 40 = eight m.pages ++ (eight (m.imgs.length : Int) ++ imgsL m.imgs) := by
    rw [show (40 : Nat) = 32 + 8 from rfl, ← List.drop_drop, d32]; exact drop8 _ _ 0 (e8 _)
  have d48 : (putL m).drop 48 = eight (m.imgs.length : Int) ++ imgsL m.imgs := by
    rw [show (48 : Nat) = 40 + 8 from rfl, ← List.drop_drop, d40]; exact drop8 _ _ 0 (e8 _)
  have d56 : (putL m).drop 56 = imgsL m.imgs := by
    rw [show (56 : Nat) = 48 + 8 from rfl, ← List.drop_drop, d48]; exact drop8 _ _ 0 (e8 _)
  unfold parseSh
  rw [d8, d16, d24, d32, d40, d48, d56, take8 _ _ (e8 _), take8 _ _ (e8 _), take8 _ _ (e8 _), take8 _ _ (e8 _), take8 _ _ (e8 _), take8 _ _ (e8 _)]
  rw [num_eight _ k0 (by omega), num_eight _ e0 e1, num_eight _ g0 g1, num_eight _ p0 (by omega), num_eight (m.imgs.length : Int) (by omega) (by omega), parseAll_imgs _ h3]
  have hf : (num (eight (if m.full = true then 1 else 0)) == 1) = m.full := by
    cases m.full
    · rw [if_neg (by decide), num_eight 0 (by decide) (by decide)]; rfl
    · rw [if_pos rfl, num_eight 1 (by decide) (by decide)]; rfl
  rw [hf]
  have a1 : m.kind % 256 = m.kind := by omega
  have a2 : m.pages % 1099511627776 = m.pages := by omega
  rw [a1, a2]

theorem take_put (m : Sh) (h : mayB m = true) (hw : Wf m) : takeM (putL m) = (m, 0) := by
  have hl := putL_length m h
  unfold takeM
  have h1 : (putL m).take 8 = textOf (sumAdd (0, 0) (bodyL m)) := take8 _ _ (textOf_length _)
  have h2 : (putL m).drop 8 = bodyL m := drop8 _ _ 0 (textOf_length _)
  rw [if_neg (by omega), h1, h2, if_neg (by simp), parse_put m h hw, if_pos ⟨h, rfl⟩]
theorem take_zero (s : List UInt8) (h : (takeM s).2 ≠ 0) : (takeM s).1 = zeroSh := by
  unfold takeM at *
  split
  · rfl
  · split
    · rfl
    · split
      · rename_i h1 h2 h3; rw [if_neg h1, if_neg h2, if_pos h3] at h; exact absurd rfl h
      · rfl
theorem take_ok (s : List UInt8) (h : (takeM s).2 = 0) : mayB (takeM s).1 = true ∧ putL (takeM s).1 = s ∧ (takeM s).1 = parseSh s := by
  unfold takeM at *
  by_cases h1 : s.length < 56 ∨ s.length % 8 ≠ 0
  · rw [if_pos h1] at h; cases h
  · rw [if_neg h1] at h ⊢
    by_cases h2 : ¬ s.take 8 = textOf (sumAdd (0, 0) (s.drop 8))
    · rw [if_pos h2] at h; cases h
    · rw [if_neg h2] at h ⊢
      by_cases h3 : mayB (parseSh s) = true ∧ putL (parseSh s) = s
      · rw [if_pos h3]; exact ⟨h3.1, h3.2, rfl⟩
      · rw [if_neg h3] at h; cases h
theorem parse_wf (s : List UInt8) : Wf (parseSh s) := by
  refine ⟨⟨?_, ?_⟩, num8_lt _, num8_lt _⟩ <;> simp only [parseSh] <;> omega

/-- One block that has become another one: refused. -/
theorem take_block (m : Sh) (h : mayB m = true) (hw : Wf m) (n : Nat) (a b c d : List UInt8) (ha : a.length = 8 * n) (hb : b.length = 8) (hc : c.length = 8) (hs : putL m = a ++ b ++ d) (hne : b ≠ c) : (takeM (a ++ c ++ d)).2 ≠ 0 := by
  intro h0
  obtain ⟨_, h2, _⟩ := take_ok _ h0
  have h2t : (a ++ c ++ d).take 8 = textOf (sumAdd (0, 0) ((a ++ c ++ d).drop 8)) := by
    have e : (a ++ c ++ d) = textOf (sumAdd (0, 0) (bodyL (takeM (a ++ c ++ d)).1)) ++ bodyL (takeM (a ++ c ++ d)).1 := h2.symm
    have e1 : (a ++ c ++ d).take 8 = textOf (sumAdd (0, 0) (bodyL (takeM (a ++ c ++ d)).1)) := by
      conv => lhs; rw [e]
      exact take8 _ _ (textOf_length _)
    have e2 : (a ++ c ++ d).drop 8 = bodyL (takeM (a ++ c ++ d)).1 := by
      conv => lhs; rw [e]
      exact drop8 _ _ 0 (textOf_length _)
    rw [e1, e2]
  have h1t : (a ++ b ++ d).take 8 = textOf (sumAdd (0, 0) ((a ++ b ++ d).drop 8)) := by
    rw [← hs]
    have e1 : (putL m).take 8 = textOf (sumAdd (0, 0) (bodyL m)) := take8 _ _ (textOf_length _)
    have e2 : (putL m).drop 8 = bodyL m := drop8 _ _ 0 (textOf_length _)
    rw [e1, e2]
  cases n with
  | zero =>
    obtain rfl : a = [] := List.length_eq_zero_iff.1 (by omega)
    rw [List.nil_append, take8 _ _ hb, show (b ++ d).drop 8 = d from drop8 _ _ 0 hb] at h1t
    rw [List.nil_append, take8 _ _ hc, show (c ++ d).drop 8 = d from drop8 _ _ 0 hc] at h2t
    exact hne (h1t.trans h2t.symm)
  | succ n =>
    have t1 : (a ++ b ++ d).take 8 = a.take 8 := by rw [List.append_assoc, List.take_append_of_le_length (by omega)]
    have t2 : (a ++ c ++ d).take 8 = a.take 8 := by rw [List.append_assoc, List.take_append_of_le_length (by omega)]
    have d1 : (a ++ b ++ d).drop 8 = a.drop 8 ++ b ++ d := by rw [List.append_assoc, List.drop_append_of_le_length (by omega), List.append_assoc]
    have d2 : (a ++ c ++ d).drop 8 = a.drop 8 ++ c ++ d := by rw [List.append_assoc, List.drop_append_of_le_length (by omega), List.append_assoc]
    rw [t1, d1] at h1t
    rw [t2, d2] at h2t
    have z : (0 ≤ ((0, 0) : Int × Int).1 ∧ ((0, 0) : Int × Int).1 < 4294967296) ∧ (0 ≤ ((0, 0) : Int × Int).2 ∧ ((0, 0) : Int × Int).2 < 4294967296) := by decide
    have e := textOf_inj (sumAdd_bd _ _ z.1 z.2) (sumAdd_bd _ _ z.1 z.2) (h1t.symm.trans h2t)
    exact hne (sum_block (n := n) z (by simp; omega) hb hc e)
end Go.Proofs.Ytdgpdfigipplpaa
