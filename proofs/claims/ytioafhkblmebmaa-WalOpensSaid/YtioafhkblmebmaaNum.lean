/- Numbers as bytes: what number.Four, TakeFour, Eight, TakeEight come to. -/
import Derived.Test.YtioafhkblmebmaaBase
namespace Go.Proofs.Ytioafhkblmebmaa
open Go.RowKit

def byt (n : Int) : UInt8 := UInt8.ofNat n.toNat
def four (n : Int) : List UInt8 := [byt (n / 16777216), byt (n / 65536 % 256), byt (n / 256 % 256), byt (n % 256)]
/-- The number of some bytes, the highest first. -/
def num (l : List UInt8) : Int := l.foldl (fun a c => a * 256 + (c.toNat : Int)) 0

set_option maxHeartbeats 400000 in
theorem four_any (n : Int) (w : World) (h0 : 0 ≤ n) (h1 : n < 4294967296) :
    Calls Try.prog 73 #[.int .u32 n] w fun e w' => e = .returned (.string (bs (four n))) ∧ Below w.heap.size w w' := by
  have kc := fun (W : World) (a0 a1 a2 a3 : Int) (T : TypeId) => run_convert_cells (P := Try.prog) (W.alloc (.cells #[.int .u8 a0, .int .u8 a1, .int .u8 a2, .int .u8 a3] T)) 55 9 5 Try.underlying55 Try.underlying5 Try.underlying9 W.heap.size 0 4 4 [a0, a1, a2, a3] rfl
    (by intro i hi; match i, hi with | 0, _ => simp | 1, _ => simp | 2, _ => simp | 3, _ => simp)
  go_enter Try.func73, Try.ntmps73
  go_wp2
  go_ret
  exact ⟨rfl, (Below.refl _ _).alloc (Nat.le_refl _) _⟩


theorem wraps_u32 (n : Int) (_h₀ : 0 ≤ n) (_h₁ : n < 2 ^ 32) : IntKind.u32.wrap n = n := by rw [IntKind.wrap_u32]; omega
theorem wraps_u64 (n : Int) (_h₀ : 0 ≤ n) (_h₁ : n < 2 ^ 64) : IntKind.u64.wrap n = n := by simp [IntKind.wrap, IntKind.bits, IntKind.signed]; omega
theorem or_join32 (a b c d : Int) (a0 : 0 ≤ a) (a1 : a < 256) (b0 : 0 ≤ b) (b1 : b < 256) (c0 : 0 ≤ c) (c1 : c < 256) (d0 : 0 ≤ d) (d1 : d < 256) :
    bits BinOp.or IntKind.u32 (bits BinOp.or IntKind.u32 (bits BinOp.or IntKind.u32 (a % 4294967296 * 16777216 % 4294967296) (b % 4294967296 * 65536 % 4294967296)) (c % 4294967296 * 256 % 4294967296)) (d % 4294967296) = ((a * 256 + b) * 256 + c) * 256 + d := by
  have e1 : a % 4294967296 * 16777216 % 4294967296 = a * 16777216 := by omega
  have e2 : b % 4294967296 * 65536 % 4294967296 = b * 65536 := by omega
  have e3 : c % 4294967296 * 256 % 4294967296 = c * 256 := by omega
  have e4 : d % 4294967296 = d := by omega
  rw [e1, e2, e3, e4]
  rw [bits_join .u32 32 (by decide) wraps_u32 24 (a * 16777216) (b * 65536) (by omega) (by omega) (by omega) (by omega) (by omega) (by omega)]
  rw [bits_join .u32 32 (by decide) wraps_u32 16 (a * 16777216 + b * 65536) (c * 256) (by omega) (by omega) (by omega) (by omega) (by omega) (by omega)]
  rw [bits_join .u32 32 (by decide) wraps_u32 8 (a * 16777216 + b * 65536 + c * 256) d (by omega) (by omega) (by omega) (by omega) (by omega) (by omega)]
  omega
theorem or_join64 (h l : Int) (h0 : 0 ≤ h) (h1 : h < 4294967296) (l0 : 0 ≤ l) (l1 : l < 4294967296) :
    bits BinOp.or IntKind.u64 (h * 4294967296) l = h * 4294967296 + l :=
  bits_join .u64 64 (by decide) wraps_u64 32 (h * 4294967296) l (by omega) (by omega) (by omega) (by omega) (by omega) (by omega)

theorem u8_lo (a : UInt8) : (0 : Int) ≤ (a.toNat : Int) := by omega
theorem u8_hi (a : UInt8) : (a.toNat : Int) < 256 := by have := a.toNat_lt; omega
theorem num4 (a b c d : UInt8) : num [a, b, c, d] = (((a.toNat : Int) * 256 + b.toNat) * 256 + c.toNat) * 256 + d.toNat := by simp [num]
theorem num4_lo (a b c d : UInt8) : 0 ≤ num [a, b, c, d] := by rw [num4]; omega
theorem num4_hi (a b c d : UInt8) : num [a, b, c, d] < 4294967296 := by
  rw [num4]; have := u8_hi a; have := u8_hi b; have := u8_hi c; have := u8_hi d; omega
theorem num_nil : num [] = 0 := rfl
theorem num_foldl (l : List UInt8) : ∀ x : Int, l.foldl (fun a c => a * 256 + (c.toNat : Int)) x = x * 256 ^ l.length + num l := by
  induction l with
  | nil => intro x; simp [num]
  | cons c l ih =>
    intro x
    have h2 : num (c :: l) = l.foldl (fun a c => a * 256 + (c.toNat : Int)) (c.toNat : Int) := by simp [num]
    rw [List.foldl_cons, ih, h2, ih, List.length_cons, Int.pow_succ, Int.add_mul, Int.mul_assoc, Int.mul_comm 256 (256 ^ l.length), Int.add_assoc]
theorem num_append (a b : List UInt8) : num (a ++ b) = num a * 256 ^ b.length + num b := by
  have h : num (a ++ b) = b.foldl (fun a c => a * 256 + (c.toNat : Int)) (num a) := by simp [num, List.foldl_append]
  rw [h, num_foldl]
theorem num_one (c : UInt8) : num [c] = (c.toNat : Int) := by simp [num]
theorem num_snoc (l : List UInt8) (c : UInt8) : num (l ++ [c]) = num l * 256 + (c.toNat : Int) := by rw [num_append, num_one]; simp
theorem num_lo (l : List UInt8) : 0 ≤ num l := by
  induction l with
  | nil => simp [num]
  | cons c l ih =>
    rw [show c :: l = [c] ++ l from rfl, num_append, num_one]
    exact Int.add_nonneg (Int.mul_nonneg (by omega) (Int.pow_nonneg (by decide))) ih
theorem num_hi (l : List UInt8) : num l < 256 ^ l.length := by
  induction l with
  | nil => simp [num]
  | cons c l ih =>
    rw [show c :: l = [c] ++ l from rfl, num_append, num_one]
    have h1 := u8_hi c
    have h2 : (c.toNat : Int) * 256 ^ l.length ≤ 255 * 256 ^ l.length := Int.mul_le_mul_of_nonneg_right (by omega) (Int.pow_nonneg (by decide))
    simp only [List.length_append, List.length_cons, List.length_nil, Int.pow_add]
    omega
theorem num8 (a b c d e f g h : UInt8) : num [a, b, c, d, e, f, g, h] = num [a, b, c, d] * 4294967296 + num [e, f, g, h] := by simp [num]; omega

attribute [irreducible] num

set_option maxHeartbeats 400000 in
theorem takeFour_yes (a b c d : UInt8) (t : List UInt8) (w : World) (hs : t.length + 4 ≤ 9223372036854775807) :
    Calls Try.prog 74 #[.string (bs (a :: b :: c :: d :: t))] w fun e w' => e = .returned (.tuple #[.int .u32 (num [a, b, c, d]), .int .i64 0]) ∧ Below w.heap.size w w' := by
  have hfin := or_join32 a.toNat b.toNat c.toNat d.toNat (u8_lo a) (u8_hi a) (u8_lo b) (u8_hi b) (u8_lo c) (u8_hi c) (u8_lo d) (u8_hi d)
  rw [← num4] at hfin
  have Hfin := hid hfin
  clear hfin
  go_enter Try.func74, Try.ntmps74
  go_wp2
  go_quiet (fail)
  go_wp2
  go_ret2
  rw [← Hfin.out]
  exact ⟨rfl, below_drewN (Below.refl _ _) _⟩

set_option maxHeartbeats 400000 in
theorem takeFour_no (l : List UInt8) (w : World) (hs : l.length < 4) :
    Calls Try.prog 74 #[.string (bs l)] w fun e w' => e = .returned (.tuple #[.int .u32 0, .int .i64 10]) ∧ Below w.heap.size w w' := by
  have h1 : (l.length : Int) < 4 := by omega
  go_enter Try.func74, Try.ntmps74
  go_wp2
  go_ret2
  exact ⟨rfl, Below.refl _ _⟩

def eight (n : Int) : List UInt8 := four (n / 4294967296) ++ four (n % 4294967296)

set_option maxHeartbeats 400000 in
theorem eight_any (n : Int) (w : World) (h0 : 0 ≤ n) (h1 : n < 18446744073709551616) :
    Calls Try.prog 54 #[.int .u64 n] w fun e w' => e = .returned (.string (bs (eight n))) ∧ Below w.heap.size w w' := by
  have hl : ∀ n, (four n).length = 4 := fun n => rfl
  go_enter Try.func54, Try.ntmps54
  go_wp2_with fail
  refine (four_any _ _ (by omega) (by omega)).mono ?_
  rintro e w1 ⟨rfl, hb1⟩
  go_wp2_with fail
  refine (four_any _ _ (by omega) (by omega)).mono ?_
  rintro e w2 ⟨rfl, hb2⟩
  go_wp2
  go_ret
  exact ⟨ret_str rfl, then_below hb1 hb2⟩

set_option maxHeartbeats 400000 in
theorem takeEight_yes (a b c d e f g h : UInt8) (t : List UInt8) (w : World) (hs : t.length + 8 ≤ 9223372036854775807) :
    Calls Try.prog 55 #[.string (bs (a :: b :: c :: d :: e :: f :: g :: h :: t))] w fun e' w' => e' = .returned (.tuple #[.int .u64 (num [a, b, c, d, e, f, g, h]), .int .i64 0]) ∧ Below w.heap.size w w' := by
  have hfin := or_join64 (num [a, b, c, d]) (num [e, f, g, h]) (num4_lo _ _ _ _) (num4_hi _ _ _ _) (num4_lo _ _ _ _) (num4_hi _ _ _ _)
  rw [← num8] at hfin
  have Hfin := hid hfin
  clear hfin
  have b1 := num4_lo a b c d
  have b2 := num4_hi a b c d
  have b3 := num4_lo e f g h
  have b4 := num4_hi e f g h
  go_enter Try.func55, Try.ntmps55
  go_wp2_with fail
  refine (takeFour_yes _ _ _ _ _ _ (by simp; omega)).mono ?_
  rintro e w1 ⟨rfl, hb1⟩
  go_wp2_with fail
  refine (takeFour_yes _ _ _ _ _ _ (by simp; omega)).mono ?_
  rintro e w2 ⟨rfl, hb2⟩
  go_wp2_with fail
  go_ret2
  rw [← Hfin.out]
  exact ⟨rfl, then_below hb1 hb2⟩

set_option maxHeartbeats 400000 in
theorem takeEight_no (l : List UInt8) (w : World) (hs : l.length < 8) :
    Calls Try.prog 55 #[.string (bs l)] w fun e w' => e = .returned (.tuple #[.int .u64 0, .int .i64 10]) ∧ Below w.heap.size w w' := by
  have h1 : (l.length : Int) < 8 := by omega
  go_enter Try.func55, Try.ntmps55
  go_wp2
  go_ret2
  exact ⟨rfl, Below.refl _ _⟩
end Go.Proofs.Ytioafhkblmebmaa
