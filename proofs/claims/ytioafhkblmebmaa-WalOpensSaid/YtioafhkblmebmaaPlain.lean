/- Plain laws of numbers and sums as bytes; no program in sight. -/
import Derived.Test.YtioafhkblmebmaaSum
namespace Go.Proofs.Ytioafhkblmebmaa
open Go.RowKit
set_option linter.unusedVariables false
set_option linter.unusedSimpArgs false

theorem eight_length (n : Int) : (eight n).length = 8 := rfl
theorem stepSum_bd (p : Int × Int) (x y : Int) : (0 ≤ (stepSum p x y).1 ∧ (stepSum p x y).1 < 4294967296) ∧ (0 ≤ (stepSum p x y).2 ∧ (stepSum p x y).2 < 4294967296) := by
  unfold stepSum; simp only; omega
theorem sumN_bd : ∀ (n : Nat) (p : Int × Int) (l : List UInt8), (0 ≤ p.1 ∧ p.1 < 4294967296) → (0 ≤ p.2 ∧ p.2 < 4294967296) → (0 ≤ (sumN n p l).1 ∧ (sumN n p l).1 < 4294967296) ∧ (0 ≤ (sumN n p l).2 ∧ (sumN n p l).2 < 4294967296)
  | 0, p, l, h1, h2 => ⟨h1, h2⟩
  | n + 1, p, l, h1, h2 => by
    unfold sumN
    split
    · exact ⟨h1, h2⟩
    · exact sumN_bd n _ _ (stepSum_bd p _ _).1 (stepSum_bd p _ _).2
theorem sumAdd_bd (p : Int × Int) (l : List UInt8) (h1 : 0 ≤ p.1 ∧ p.1 < 4294967296) (h2 : 0 ≤ p.2 ∧ p.2 < 4294967296) : (0 ≤ (sumAdd p l).1 ∧ (sumAdd p l).1 < 4294967296) ∧ (0 ≤ (sumAdd p l).2 ∧ (sumAdd p l).2 < 4294967296) := by
  unfold sumAdd; exact sumN_bd _ _ _ h1 h2

theorem eight_of (l : List UInt8) (h : 8 ≤ l.length) : ∃ a b c d e f g i t, l = a :: b :: c :: d :: e :: f :: g :: i :: t := by
  match l, h with
  | a :: b :: c :: d :: e :: f :: g :: i :: t, _ => exact ⟨a, b, c, d, e, f, g, i, t, rfl⟩
theorem takeEight_any (l : List UInt8) (w : World) (h : 8 ≤ l.length) (hs : l.length ≤ 9223372036854775807) :
    Calls Try.prog 55 #[.string (bs l)] w fun e' w' => e' = .returned (.tuple #[.int .u64 (num (l.take 8)), .int .i64 0]) ∧ Below w.heap.size w w' := by
  obtain ⟨a, b, c, d, e, f, g, i, t, rfl⟩ := eight_of l h
  exact takeEight_yes a b c d e f g i t w (by simpa using hs)

theorem num8_lt (l : List UInt8) : 0 ≤ num (l.take 8) ∧ num (l.take 8) < 18446744073709551616 := by
  refine ⟨num_lo _, ?_⟩
  have h := num_hi (l.take 8)
  have h2 : (l.take 8).length ≤ 8 := by simp; omega
  have h3 : (256 : Nat) ^ (l.take 8).length ≤ 256 ^ 8 := Nat.pow_le_pow_right (by decide) h2
  have h4 : ((256 : Int) ^ (l.take 8).length) = ((256 ^ (l.take 8).length : Nat) : Int) := by simp
  omega

theorem byt_toNat (n : Int) (h0 : 0 ≤ n) (h1 : n < 256) : ((byt n).toNat : Int) = n := by simp [byt]; omega
theorem num_four (n : Int) (h0 : 0 ≤ n) (h1 : n < 4294967296) : num (four n) = n := by
  unfold four
  rw [num4, byt_toNat _ (by omega) (by omega), byt_toNat _ (by omega) (by omega), byt_toNat _ (by omega) (by omega), byt_toNat _ (by omega) (by omega)]
  omega
theorem num_eight (n : Int) (h0 : 0 ≤ n) (h1 : n < 18446744073709551616) : num (eight n) = n := by
  unfold eight
  rw [num_append, num_four _ (by omega) (by omega), num_four _ (by omega) (by omega)]
  have : (four (n % 4294967296)).length = 4 := rfl
  rw [this]
  omega
theorem num_inj : ∀ (a b : List UInt8), a.length = b.length → num a = num b → a = b
  | [], [], _, _ => rfl
  | [], _ :: _, h, _ => by simp at h
  | _ :: _, [], h, _ => by simp at h
  | x :: a, y :: b, h, e => by
    have hl : a.length = b.length := by simpa using h
    have e1 : num (x :: a) = (x.toNat : Int) * 256 ^ a.length + num a := by rw [show x :: a = [x] ++ a from rfl, num_append, num_one]
    have e2 : num (y :: b) = (y.toNat : Int) * 256 ^ b.length + num b := by rw [show y :: b = [y] ++ b from rfl, num_append, num_one]
    rw [e1, e2, hl] at e
    have h1 := num_hi a
    have h2 := num_hi b
    have l1 := num_lo a
    have l2 := num_lo b
    rw [hl] at h1
    generalize (256 : Int) ^ b.length = M at *
    have hx : (x.toNat : Int) = y.toNat := by
      rcases Int.lt_trichotomy (x.toNat : Int) y.toNat with hlt | heq | hgt
      · have : ((x.toNat : Int) + 1) * M ≤ (y.toNat : Int) * M := Int.mul_le_mul_of_nonneg_right (by omega) (by omega)
        rw [Int.add_mul] at this
        omega
      · exact heq
      · have : ((y.toNat : Int) + 1) * M ≤ (x.toNat : Int) * M := Int.mul_le_mul_of_nonneg_right (by omega) (by omega)
        rw [Int.add_mul] at this
        omega
    have hxy : x = y := by
      apply UInt8.toNat_inj.1
      omega
    subst hxy
    rw [num_inj a b hl (by omega)]
theorem four_inj {a b : Int} (a0 : 0 ≤ a) (a1 : a < 4294967296) (b0 : 0 ≤ b) (b1 : b < 4294967296) (h : four a = four b) : a = b := by
  rw [← num_four a a0 a1, ← num_four b b0 b1, h]
theorem textOf_length (p : Int × Int) : (textOf p).length = 8 := rfl
theorem textOf_inj {p q : Int × Int} (hp : (0 ≤ p.1 ∧ p.1 < 4294967296) ∧ (0 ≤ p.2 ∧ p.2 < 4294967296)) (hq : (0 ≤ q.1 ∧ q.1 < 4294967296) ∧ (0 ≤ q.2 ∧ q.2 < 4294967296)) (h : textOf p = textOf q) : p = q := by
  unfold textOf at h
  obtain ⟨h1, h2⟩ := List.append_inj h rfl
  obtain ⟨a, b⟩ := p
  obtain ⟨c, d⟩ := q
  simp only at *
  rw [four_inj hp.1.1 hp.1.2 hq.1.1 hq.1.2 h1, four_inj hp.2.1 hp.2.2 hq.2.1 hq.2.2 h2]

/-- A sum over two texts, the first of whole blocks. -/
theorem sumAdd_append : ∀ (n : Nat) (a b : List UInt8) (p : Int × Int), a.length = 8 * n → sumAdd p (a ++ b) = sumAdd (sumAdd p a) b
  | 0, a, b, p, h => by
    obtain rfl : a = [] := List.length_eq_zero_iff.1 (by omega)
    rw [sumAdd_nil]; rfl
  | n + 1, a, b, p, h => by
    rw [sumAdd_step p (a ++ b) (by simp; omega), sumAdd_step p a (by omega)]
    have e1 : (a ++ b).take 8 = a.take 8 := by rw [List.take_append_of_le_length (by omega)]
    have e2 : (a ++ b).drop 8 = a.drop 8 ++ b := by rw [List.drop_append_of_le_length (by omega)]
    rw [e1, e2]
    exact sumAdd_append n (a.drop 8) b _ (by simp; omega)
theorem word_inj (a b : List UInt8) (ha : a.length = 8) (hb : b.length = 8) (h1 : wordA a = wordA b) (h2 : wordB a = wordB b) : a = b := by
  have pa : pad8 a = a := by simp [pad8, ha]
  have pb : pad8 b = b := by simp [pad8, hb]
  unfold wordA at h1
  unfold wordB at h2
  rw [pa, pb] at h1 h2
  have e1 := num_inj _ _ (by simp [ha, hb]) h1
  have e2 := num_inj _ _ (by simp [ha, hb]) h2
  rw [← List.take_append_drop 4 a, ← List.take_append_drop 4 b, e1, e2]
theorem word_lo (l : List UInt8) (h : l.length = 8) : (0 ≤ wordA l ∧ wordA l < 4294967296) ∧ (0 ≤ wordB l ∧ wordB l < 4294967296) := by
  have pa : pad8 l = l := by simp [pad8, h]
  unfold wordA wordB
  rw [pa]
  match l, h with
  | [a, b, c, d, e, f, g, i], _ => exact ⟨⟨num4_lo _ _ _ _, num4_hi _ _ _ _⟩, num4_lo _ _ _ _, num4_hi _ _ _ _⟩
theorem stepSum_inj_block {p : Int × Int} {x y x' y' : Int} (hx : 0 ≤ x ∧ x < 4294967296) (hy : 0 ≤ y ∧ y < 4294967296) (hx' : 0 ≤ x' ∧ x' < 4294967296) (hy' : 0 ≤ y' ∧ y' < 4294967296) (h : stepSum p x y = stepSum p x' y') : x = x' ∧ y = y' := by
  unfold stepSum at h
  simp only [Prod.mk.injEq] at h
  omega
theorem stepSum_inj_pair {p q : Int × Int} {x y : Int} (hp : (0 ≤ p.1 ∧ p.1 < 4294967296) ∧ (0 ≤ p.2 ∧ p.2 < 4294967296)) (hq : (0 ≤ q.1 ∧ q.1 < 4294967296) ∧ (0 ≤ q.2 ∧ q.2 < 4294967296)) (h : stepSum p x y = stepSum q x y) : p = q := by
  unfold stepSum at h
  simp only [Prod.mk.injEq] at h
  obtain ⟨a, b⟩ := p
  obtain ⟨c, d⟩ := q
  simp only at *
  have : b = d := by omega
  have : a = c := by omega
  simp [*]
theorem sumN_inj : ∀ (n : Nat) (l : List UInt8) (p q : Int × Int), (0 ≤ p.1 ∧ p.1 < 4294967296) ∧ (0 ≤ p.2 ∧ p.2 < 4294967296) → (0 ≤ q.1 ∧ q.1 < 4294967296) ∧ (0 ≤ q.2 ∧ q.2 < 4294967296) → sumN n p l = sumN n q l → p = q
  | 0, l, p, q, _, _, h => h
  | n + 1, l, p, q, hp, hq, h => by
    unfold sumN at h
    cases hl : l.isEmpty
    · rw [hl] at h
      simp only [Bool.false_eq_true, if_false] at h
      exact stepSum_inj_pair hp hq (sumN_inj n _ _ _ (stepSum_bd _ _ _) (stepSum_bd _ _ _) h)
    · rw [hl] at h
      simpa using h
theorem sumAdd_inj {l : List UInt8} {p q : Int × Int} (hp : (0 ≤ p.1 ∧ p.1 < 4294967296) ∧ (0 ≤ p.2 ∧ p.2 < 4294967296)) (hq : (0 ≤ q.1 ∧ q.1 < 4294967296) ∧ (0 ≤ q.2 ∧ q.2 < 4294967296)) (h : sumAdd p l = sumAdd q l) : p = q := by
  unfold sumAdd at h
  exact sumN_inj _ _ _ _ hp hq h
/-- One block that is another one comes to another sum. -/
theorem sum_block {n : Nat} {a b c d : List UInt8} {p : Int × Int} (hp : (0 ≤ p.1 ∧ p.1 < 4294967296) ∧ (0 ≤ p.2 ∧ p.2 < 4294967296)) (ha : a.length = 8 * n) (hb : b.length = 8) (hc : c.length = 8) (h : sumAdd p (a ++ b ++ d) = sumAdd p (a ++ c ++ d)) : b = c := by
  rw [List.append_assoc, List.append_assoc, sumAdd_append n a _ p ha, sumAdd_append n a _ p ha, sumAdd_append 1 b d _ (by omega), sumAdd_append 1 c d _ (by omega)] at h
  have hq := sumAdd_bd p a hp.1 hp.2
  have h1 := sumAdd_inj (sumAdd_bd _ _ hq.1 hq.2) (sumAdd_bd _ _ hq.1 hq.2) h
  rw [sumAdd_step _ b (by omega), sumAdd_step _ c (by omega)] at h1
  have e1 : b.drop 8 = [] := List.drop_eq_nil_of_le (by omega)
  have e2 : c.drop 8 = [] := List.drop_eq_nil_of_le (by omega)
  have e3 : b.take 8 = b := List.take_of_length_le (by omega)
  have e4 : c.take 8 = c := List.take_of_length_le (by omega)
  rw [e1, e2, e3, e4, sumAdd_nil, sumAdd_nil] at h1
  obtain ⟨w1, w2⟩ := word_lo b hb
  obtain ⟨w3, w4⟩ := word_lo c hc
  obtain ⟨g1, g2⟩ := stepSum_inj_block w1 w2 w3 w4 h1
  exact word_inj b c hb hc g1 g2

theorem drop8 (a b : List UInt8) (k : Nat) (h : a.length = 8) : (a ++ b).drop (k + 8) = b.drop k := by
  rw [Nat.add_comm, ← h, List.drop_append]
  simp
theorem take8 (a b : List UInt8) (h : a.length = 8) : (a ++ b).take 8 = a := by
  rw [← h, List.take_left]

end Go.Proofs.Ytioafhkblmebmaa
