import Derived.Test.YtlkkclooihjpiaaGreatBase
set_option linter.unusedVariables false
set_option linter.unusedSimpArgs false
namespace Go.Proofs.YtlkkclooihjpiaaGreat
open Go.RowKit
def byt (n : Int) : UInt8 := UInt8.ofNat n.toNat
def four (n : Int) : List UInt8 := [byt (n / 16777216), byt (n / 65536 % 256), byt (n / 256 % 256), byt (n % 256)]
def num (l : List UInt8) : Int := l.foldl (fun a c => a * 256 + (c.toNat : Int)) 0
set_option maxHeartbeats 400000 in
theorem four_any (n : Int) (w : World) (h0 : 0 ≤ n) (h1 : n < 4294967296) :
  Calls Tryz.prog 84 #[.int .u32 n] w fun e w' => e = .returned (.string (bs (four n))) ∧ Below w.heap.size w w' := by
 have kc := fun (W : World) (a0 a1 a2 a3 : Int) (T : TypeId) => run_convert_cells (P := Tryz.prog) (W.alloc (.cells #[.int .u8 a0, .int .u8 a1, .int .u8 a2, .int .u8 a3] T)) 28 9 5 Tryz.underlying28 Tryz.underlying5 Tryz.underlying9 W.heap.size 0 4 4 [a0, a1, a2, a3] rfl
  (by intro i hi; match i, hi with | 0, _ => simp | 1, _ => simp | 2, _ => simp | 3, _ => simp)
 go_enter Tryz.func84, Tryz.ntmps84
 go_wp2
 go_ret
 exact ⟨rfl, (Below.refl _ _).alloc (Nat.le_refl _) _⟩
theorem wraps_u32 (n : Int) (_h₀ : 0 ≤ n) (_h₁ : n < 2 ^ 32) : IntKind.u32.wrap n = n := by rw [IntKind.wrap_u32]; omega
theorem wraps_u64 (n : Int) (_h₀ : 0 ≤ n) (_h₁ : n < 2 ^ 64) : IntKind.u64.wrap n = n := by simp [IntKind.wrap, IntKind.bits, IntKind.signed]; omega
theorem or_join32 (a b c d : Int) (a0 : 0 ≤ a) (a1 : a < 256) (b0 : 0 ≤ b) (b1 : b < 256) (c0 : 0 ≤ c) (c1 : c < 256) (d0 : 0 ≤ d) (d1 : d < 256) :
  bits BinOp.or IntKind.u32 (bits BinOp.or IntKind.u32 (bits BinOp.or IntKind.u32 (a % 4294967296 * 16777216 % 4294967296) (b % 4294967296 * 65536 % 4294967296)) (c % 4294967296 * 256 % 4294967296)) (d % 4294967296) = ((a * 256 + b) * 256 + c) * 256 + d := by
 have e1 : a % 4294967296 * 16777216 % 4294967296 = a * 16777216 := by omega
 have e2 : b % 4294967296 * 65536 % 4294967296 = b * 65536 := by omega
 have e3 : c % 4294967296 * 256 % 4294967296 = c * 256 := by omega
 have e4 : d % 4294967296 = d := by omega
 rw [e1, e2, e3, e4]
 rw [bits_join .u32 32 (by decide) wraps_u32 24 (a * 16777216) (b * 65536) (by omega) (by omega) (by omega) (by omega) (by omega) (by omega)]
 rw [bits_join .u32 32 (by decide) wraps_u32 16 (a * 16777216 + b * 65536) (c * 256) (by omega) (by omega) (by omega) (by omega) (by omega) (by omega)]
 rw [bits_join .u32 32 (by decide) wraps_u32 8 (a * 16777216 + b * 65536 + c * 256) d (by omega) (by omega) (by omega) (by omega) (by omega) (by omega)]
 omega
theorem or_join64 (h l : Int) (h0 : 0 ≤ h) (h1 : h < 4294967296) (l0 : 0 ≤ l) (l1 : l < 4294967296) :
  bits BinOp.or IntKind.u64 (h * 4294967296) l = h * 4294967296 + l :=
 bits_join .u64 64 (by decide) wraps_u64 32 (h * 4294967296) l (by omega) (by omega) (by omega) (by omega) (by omega) (by omega)
theorem u8_lo (a : UInt8) : (0 : Int) ≤ (a.toNat : Int) := by omega
theorem u8_hi (a : UInt8) : (a.toNat : Int) < 256 := by have := a.toNat_lt; omega
theorem num4 (a b c d : UInt8) : num [a, b, c, d] = (((a.toNat : Int) * 256 + b.toNat) * 256 + c.toNat) * 256 + d.toNat := by simp [num]
theorem num4_lo (a b c d : UInt8) : 0 ≤ num [a, b, c, d] := by rw [num4]; omega
theorem num4_hi (a b c d : UInt8) : num [a, b, c, d] < 4294967296 := by
 rw [num4]; have := u8_hi a; have := u8_hi b; have := u8_hi c; have := u8_hi d; omega
theorem num_nil : num [] = 0 := rfl
theorem num_foldl (l : List UInt8) : ∀ x : Int, l.foldl (fun a c => a * 256 + (c.toNat : Int)) x = x * 256 ^ l.length + num l := by
 induction l with
 | nil => intro x; simp [num]
 | cons c l ih =>
  intro x
  have h2 : num (c :: l) = l.foldl (fun a c => a * 256 + (c.toNat : Int)) (c.toNat : Int) := by simp [num]
  rw [List.foldl_cons, ih, h2, ih, List.length_cons, Int.pow_succ, Int.add_mul, Int.mul_assoc, Int.mul_comm 256 (256 ^ l.length), Int.add_assoc]
theorem num_append (a b : List UInt8) : num (a ++ b) = num a * 256 ^ b.length + num b := by
 have h : num (a ++ b) = b.foldl (fun a c => a * 256 + (c.toNat : Int)) (num a) := by simp [num, List.foldl_append]
 rw [h, num_foldl]
theorem num_one (c : UInt8) : num [c] = (c.toNat : Int) := by simp [num]
theorem num_snoc (l : List UInt8) (c : UInt8) : num (l ++ [c]) = num l * 256 + (c.toNat : Int) := by rw [num_append, num_one]; simp
theorem num_lo (l : List UInt8) : 0 ≤ num l := by
 induction l with
 | nil => simp [num]
 | cons c l ih =>
  rw [show c :: l = [c] ++ l from rfl, num_append, num_one]
  exact Int.add_nonneg (Int.mul_nonneg (by omega) (Int.pow_nonneg (by decide))) ih
theorem num_hi (l : List UInt8) : num l < 256 ^ l.length := by
 induction l with
 | nil => simp [num]
 | cons c l ih =>
  rw [show c :: l = [c] ++ l from rfl, num_append, num_one]
  have h1 := u8_hi c
  have h2 : (c.toNat : Int) * 256 ^ l.length ≤ 255 * 256 ^ l.length := Int.mul_le_mul_of_nonneg_right (by omega) (Int.pow_nonneg (by decide))
  simp only [List.length_append, List.length_cons, List.length_nil, Int.pow_add]
  omega
theorem num8 (a b c d e f g h : UInt8) : num [a, b, c, d, e, f, g, h] = num [a, b, c, d] * 4294967296 + num [e, f, g, h] := by simp [num]; omega
attribute [irreducible] num
set_option maxHeartbeats 400000 in
theorem takeFour_yes (a b c d : UInt8) (t : List UInt8) (w : World) (hs : t.length + 4 ≤ 9223372036854775807) :
  Calls Tryz.prog 60 #[.string (bs (a :: b :: c :: d :: t))] w fun e w' => e = .returned (.tuple #[.int .u32 (num [a, b, c, d]), .int .i64 0]) ∧ Below w.heap.size w w' := by
 have hfin := or_join32 a.toNat b.toNat c.toNat d.toNat (u8_lo a) (u8_hi a) (u8_lo b) (u8_hi b) (u8_lo c) (u8_hi c) (u8_lo d) (u8_hi d)
 rw [← num4] at hfin
 have Hfin := hid hfin
 clear hfin
 go_enter Tryz.func60, Tryz.ntmps60
 go_wp2
 go_quiet (fail)
 go_wp2
 go_ret2
 rw [← Hfin.out]
 exact ⟨rfl, below_drewN (Below.refl _ _) _⟩
def eight (n : Int) : List UInt8 := four (n / 4294967296) ++ four (n % 4294967296)
set_option maxHeartbeats 400000 in
theorem eight_any (n : Int) (w : World) (h0 : 0 ≤ n) (h1 : n < 18446744073709551616) :
  Calls Tryz.prog 76 #[.int .u64 n] w fun e w' => e = .returned (.string (bs (eight n))) ∧ Below w.heap.size w w' := by
 have hl : ∀ n, (four n).length = 4 := fun n => rfl
 go_enter Tryz.func76, Tryz.ntmps76
 go_wp2_with fail
 refine (four_any _ _ (by omega) (by omega)).mono ?_
 rintro e w1 ⟨rfl, hb1⟩
 go_wp2_with fail
 refine (four_any _ _ (by omega) (by omega)).mono ?_
 rintro e w2 ⟨rfl, hb2⟩
 go_wp2
 go_ret
 exact ⟨ret_str rfl, then_below hb1 hb2⟩
set_option maxHeartbeats 400000 in
theorem takeEight_yes (a b c d e f g h : UInt8) (t : List UInt8) (w : World) (hs : t.length + 8 ≤ 9223372036854775807) :
  Calls Tryz.prog 61 #[.string (bs (a :: b :: c :: d :: e :: f :: g :: h :: t))] w fun e' w' => e' = .returned (.tuple #[.int .u64 (num [a, b, c, d, e, f, g, h]), .int .i64 0]) ∧ Below w.heap.size w w' := by
 have hfin := or_join64 (num [a, b, c, d]) (num [e, f, g, h]) (num4_lo _ _ _ _) (num4_hi _ _ _ _) (num4_lo _ _ _ _) (num4_hi _ _ _ _)
 rw [← num8] at hfin
 have Hfin := hid hfin
 clear hfin
 have b1 := num4_lo a b c d
 have b2 := num4_hi a b c d
 have b3 := num4_lo e f g h
 have b4 := num4_hi e f g h
 go_enter Tryz.func61, Tryz.ntmps61
 go_wp2_with fail
 refine (takeFour_yes _ _ _ _ _ _ (by simp; omega)).mono ?_
 rintro e w1 ⟨rfl, hb1⟩
 go_wp2_with fail
 refine (takeFour_yes _ _ _ _ _ _ (by simp; omega)).mono ?_
 rintro e w2 ⟨rfl, hb2⟩
 go_wp2_with fail
 go_ret2
 rw [← Hfin.out]
 exact ⟨rfl, then_below hb1 hb2⟩
end Go.Proofs.YtlkkclooihjpiaaGreat
namespace Go.Proofs.YtlkkclooihjpiaaGreat
open Go.RowKit
set_option maxRecDepth 20000
def pad8 (l : List UInt8) : List UInt8 := l ++ List.replicate (8 - l.length) 0
def wordA (l : List UInt8) : Int := num ((pad8 l).take 4)
def wordB (l : List UInt8) : Int := num ((pad8 l).drop 4)
def cells8 (l : List UInt8) : Array Value := ((pad8 l).map fun c => Value.int .u8 (c.toNat : Int)).toArray
theorem pad8_length (l : List UInt8) (h : l.length ≤ 8) : (pad8 l).length = 8 := by simp [pad8]; omega
theorem u8_back (c : UInt8) : UInt8.ofNat ((c.toNat : Int)).toNat = c := by simp
theorem pad8_conv (l : List UInt8) (h : l.length ≤ 8) (W : World) (T : TypeId) (b : Nat) (hb : W.heap[b]? = some (.cells (cells8 l) T (0, 0))) (o n : Nat) (hn : o + n ≤ 8) (i : Nat) (hi : i < n) :
  W.cell? ⟨b, o + i, none⟩ = some (.int .u8 ((((pad8 l).drop o).take n).map fun c => (c.toNat : Int))[i]!) := by
 have hl := pad8_length l h
 simp only [World.cell?, hb, cells8]
 have h1 : o + i < (pad8 l).length := by omega
 simp [List.getElem?_take, List.getElem?_drop, hi, h1]
set_option maxRecDepth 20000 in
theorem conv8 (l : List UInt8) (h : l.length ≤ 8) (W : World) (T : TypeId) (b : Nat) (hb : W.heap[b]? = some (.cells (cells8 l) T (0, 0))) (o n c : Nat) (hn : o + n ≤ 8) :
  (convert 28 9 (.slice (some ⟨b, o, none⟩) n c)).run Tryz.prog W = .ok (.string (bs (((pad8 l).drop o).take n))) W := by
 have hl := pad8_length l h
 have := run_convert_cells (P := Tryz.prog) W 28 9 5 Tryz.underlying28 Tryz.underlying5 Tryz.underlying9 b o n c ((((pad8 l).drop o).take n).map fun c => (c.toNat : Int)) (by simp; omega)
  (by intro i hi; rw [pad8_conv l h W T b hb o n hn i hi, List.getElem!_eq_getElem?_getD, List.getD_eq_getElem?_getD]; rfl)
 rw [this]
 congr 3
 simp [u8_back, Function.comp_def]
theorem copy8 (l : List UInt8) (h : l.length ≤ 8) (W : World) (T : TypeId) :
  (Builtin.copy_ #[28, 9] 3 #[.slice (some ⟨W.heap.size, 0, none⟩) 8 8, .string (bs l)]).run Tryz.prog (W.alloc (.cells #[.int .u8 0, .int .u8 0, .int .u8 0, .int .u8 0, .int .u8 0, .int .u8 0, .int .u8 0, .int .u8 0] T)) =
   .ok (goInt l.length) (W.alloc (.cells (cells8 l) T)) := by
 rw [run_copy_string (P := Tryz.prog) _ 28 9 3 5 W.heap.size 0 8 8 #[.int .u8 0, .int .u8 0, .int .u8 0, .int .u8 0, .int .u8 0, .int .u8 0, .int .u8 0, .int .u8 0] T l Tryz.underlying28 (by kernel_rfl) (by simp [World.alloc, -World.alloc_eq]) h (by simpa using h), setRow_alloc]
 congr 3
 apply Array.ext'
 simp [cells8, pad8]
 match l, h with
 | [], _ => rfl
 | [_], _ => rfl
 | [_, _], _ => rfl
 | [_, _, _], _ => rfl
 | [_, _, _, _], _ => rfl
 | [_, _, _, _, _], _ => rfl
 | [_, _, _, _, _, _], _ => rfl
 | [_, _, _, _, _, _, _], _ => rfl
 | [_, _, _, _, _, _, _, _], _ => rfl
 | _ :: _ :: _ :: _ :: _ :: _ :: _ :: _ :: _ :: _, h => simp at h
set_option maxHeartbeats 400000 in
theorem words_any (l : List UInt8) (w : World) (hs : l.length ≤ 8) :
  Calls Tryz.prog 126 #[.string (bs l)] w fun e w' => e = .returned (.tuple #[.int .u32 (wordA l), .int .u32 (wordB l)]) ∧ Below w.heap.size w w' := by
 have hp := pad8_length l hs
 have hcopy := copy8 l hs
 have hcv1 := conv8 l hs (w.alloc (.cells (cells8 l) 209)) 209 w.heap.size (by simp [World.alloc, -World.alloc_eq]) 0 4 8 (by omega)
 have hcv2 := fun (W : World) (hb : Below (w.heap.size + 1) (w.alloc (.cells (cells8 l) 209)) W) => conv8 l hs W 209 w.heap.size (by rw [hb.block _ (by omega)]; simp [World.alloc, -World.alloc_eq]) 4 4 4 (by omega)
 obtain ⟨a, b, c, d, e, f, g, h, hl⟩ : ∃ a b c d e f g h, pad8 l = [a, b, c, d, e, f, g, h] := by
  match pad8 l, hp with
  | [a, b, c, d, e, f, g, h], _ => exact ⟨a, b, c, d, e, f, g, h, rfl⟩
 have hA : wordA l = num [a, b, c, d] := by simp [wordA, hl]
 have hB : wordB l = num [e, f, g, h] := by simp [wordB, hl]
 rw [hA, hB]
 rw [hl] at hcv1 hcv2
 simp only [List.drop, List.take] at hcv1 hcv2
 clear hA hB hl hp
 go_enter Tryz.func126, Tryz.ntmps126
 go_wp2_with fail
 refine (takeFour_yes _ _ _ _ _ _ (by simp)).mono ?_
 rintro e w1 ⟨rfl, hb1⟩
 have hb0 : Below w.heap.size w w1 := ((Below.refl _ _).alloc (Nat.le_refl _) _).trans (hb1.mono (by simp))
 have hcv3 := hcv2 w1 (hb1.mono (by simp))
 clear hcv2 hcv1
 go_wp2_with fail
 refine (takeFour_yes _ _ _ _ _ _ (by simp)).mono ?_
 rintro e w2 ⟨rfl, hb2⟩
 go_wp2_with fail
 go_ret2
 exact ⟨rfl, then_below hb0 hb2⟩
set_option maxHeartbeats 400000 in
theorem addOne_any (x y pa pb : Int) (b : Nat) (w : World) (hb : w.heap[b]? = some (.cells #[.int .u32 pa, .int .u32 pb] 108 (0, 0))) :
  Calls Tryz.prog 112 #[.int .u32 x, .int .u32 y, .pointer (some ⟨b, 0, none⟩)] w fun e w' => e = .returned (.tuple #[]) ∧ Frm (· = b) w w' ∧
   w'.heap[b]? = some (.cells #[.int .u32 ((pa + (x + pb)) % 4294967296), .int .u32 ((pb + (y + (pa + (x + pb)))) % 4294967296)] 108 (0, 0)) := by
 have c0 := cell_of_block hb 0
 have c1 := cell_of_block hb 1
 have f0 := free_of_block hb 0
 have f1 := free_of_block hb 1
 simp at c0 c1
 go_enter Tryz.func112, Tryz.ntmps112
 go_wp2
 go_end0
 refine ⟨rfl, ((Frm.refl (· = b) w).setCell (p := ⟨b, 0, none⟩) (.inl rfl) _).setCell (p := ⟨b, 1, none⟩) (.inl rfl) _, ?_⟩
 rw [heap_setCell_same (heap_setCell_same hb 0 _) 1 _]
 rfl
def stepSum (p : Int × Int) (x y : Int) : Int × Int := ((p.1 + (x + p.2)) % 4294967296, (p.2 + (y + (p.1 + (x + p.2)))) % 4294967296)
def sumN : Nat → Int × Int → List UInt8 → Int × Int
 | 0, p, _ => p
 | n + 1, p, l => if l.isEmpty then p else sumN n (stepSum p (wordA (l.take 8)) (wordB (l.take 8))) (l.drop 8)
def sumAdd (p : Int × Int) (l : List UInt8) : Int × Int := sumN l.length p l
theorem sumN_nil (n : Nat) (p : Int × Int) : sumN n p [] = p := by cases n <;> simp [sumN]
theorem sumN_fuel : ∀ (n m : Nat) (p : Int × Int) (l : List UInt8), l.length ≤ n → l.length ≤ m → sumN n p l = sumN m p l := by
 intro n
 induction n with
 | zero => intro m p l h1 _; obtain rfl : l = [] := List.length_eq_zero_iff.1 (by omega); simp [sumN_nil]
 | succ n ih =>
  intro m p l h1 h2
  cases l with
  | nil => simp [sumN_nil]
  | cons c l =>
   cases m with
   | zero => simp at h2
   | succ m =>
    simp only [sumN, List.isEmpty_cons, Bool.false_eq_true, if_false]
    exact ih _ _ _ (by simp at h1 ⊢; omega) (by simp at h2 ⊢; omega)
theorem sumAdd_nil (p : Int × Int) : sumAdd p [] = p := rfl
theorem sumAdd_step (p : Int × Int) (l : List UInt8) (h : 0 < l.length) : sumAdd p l = sumAdd (stepSum p (wordA (l.take 8)) (wordB (l.take 8))) (l.drop 8) := by
 unfold sumAdd
 cases l with
 | nil => simp at h
 | cons c l =>
  simp only [List.length_cons, sumN, List.isEmpty_cons, Bool.false_eq_true, if_false]
  exact sumN_fuel _ _ _ _ (by simp) (Nat.le_refl _)
attribute [irreducible] sumAdd stepSum wordA wordB
def sizeOfStr : Value → Nat | .string s => s.size | _ => 0
def SumRel (b : Nat) (T : TypeId) (p : Int × Int) (l : List UInt8) (w : World) (v : Value) (wr : World) : Prop :=
 ∃ (m : List UInt8) (q : Int × Int), v = .string (bs m) ∧ sumAdd q m = sumAdd p l ∧ wr.heap[b]? = some (.cells #[.int .u32 q.1, .int .u32 q.2] T (0, 0)) ∧ Frm (· = b) w wr ∧ m.length ≤ l.length
set_option maxHeartbeats 400000 in
theorem blocks_any (l : List UInt8) (p : Int × Int) (b : Nat) (w : World) (hl : l.length ≤ 9223372036854775807) (hb : w.heap[b]? = some (.cells #[.int .u32 p.1, .int .u32 p.2] 108 (0, 0))) :
  Calls Tryz.prog 111 #[.string (bs l), .func (.func 112) #[] #[.pointer (some ⟨b, 0, none⟩)]] w fun e w' => e = .returned (.tuple #[]) ∧ Frm (· = b) w w' ∧
   w'.heap[b]? = some (.cells #[.int .u32 (sumAdd p l).1, .int .u32 (sumAdd p l).2] 108 (0, 0)) := by
 go_enter Tryz.func111, Tryz.ntmps111
 go_wp2_with fail
 go_loopw [0] (fun s wr => SumRel b 108 p l w s wr) (fun s _ => sizeOfStr s)
 case atStart => exact ⟨l, p, rfl, rfl, hb, Frm.refl _ _, Nat.le_refl _⟩
 case round =>
  obtain ⟨m, q, rfl, hq, hbr, hfr, hm⟩ := hrel
  have Hq := hid hq
  have Hb := hid hbr
  clear hq hbr hb
  by_cases h8 : 8 ≤ m.length
  ·have hlt : 0 < m.length := by omega
   have ht : (m.take 8).length ≤ 8 := by simp; omega
   go_wp2_with fail
   refine (words_any _ _ ht).mono ?_
   rintro e w1 ⟨rfl, hb1⟩
   have hbl : w1.heap[b]? = some (.cells #[.int .u32 q.1, .int .u32 q.2] 108 (0, 0)) := (hb1.block b (lt_of_block Hb.out)).trans Hb.out
   have Hb1 := hid hbl
   clear hbl
   go_wp2_with fail
   refine (addOne_any _ _ q.1 q.2 b _ Hb1.out).mono ?_
   rintro e w2 ⟨rfl, hf2, hb2⟩
   have Hb2 := hid hb2
   clear hb2
   go_wp2_with fail
   go_roundw
   case rel =>
    refine ⟨m.drop 8, stepSum q (wordA (m.take 8)) (wordB (m.take 8)), ?_, ?_, ?_, (hfr.trans (Frm.of_below hb1)).trans hf2, ?_⟩
    ·first | rfl | rw [show (m.drop 8).take (m.length - 8) = m.drop 8 from List.take_of_length_le (by simp)]
    ·rw [← Hq.out, sumAdd_step q m hlt]
    ·rw [Hb2.out]; simp only [stepSum]
    ·simp; omega
   case measure => simp [sizeOfStr, bs_size]; omega
  ·by_cases hlt : 0 < m.length
   ·have ht : m.length ≤ 8 := by omega
    have hk : m.take 8 = m := List.take_of_length_le ht
    have Hk := hid hk
    clear hk
    go_wp2_with fail
    refine (words_any _ _ ht).mono ?_
    rintro e w1 ⟨rfl, hb1⟩
    have hbl : w1.heap[b]? = some (.cells #[.int .u32 q.1, .int .u32 q.2] 108 (0, 0)) := (hb1.block b (lt_of_block Hb.out)).trans Hb.out
    have Hb1 := hid hbl
    clear hbl
    go_wp2_with fail
    refine (addOne_any _ _ q.1 q.2 b _ Hb1.out).mono ?_
    rintro e w2 ⟨rfl, hf2, hb2⟩
    have Hb2 := hid hb2
    clear hb2
    go_wp2_with fail
    go_roundw
    case rel =>
     refine ⟨[], stepSum q (wordA m) (wordB m), ?_, ?_, ?_, (hfr.trans (Frm.of_below hb1)).trans hf2, ?_⟩
     ·simp; rfl
     ·rw [← Hq.out, sumAdd_step q m hlt, Hk.out, List.drop_eq_nil_of_le ht]
     ·rw [Hb2.out]; simp only [stepSum]
     ·simp
    case measure => simp [sizeOfStr, bs_size]; omega
   ·have h0 : m = [] := List.length_eq_zero_iff.1 (by omega)
    subst h0
    go_wp2_with fail
    go_end0
    rw [sumAdd_nil] at Hq
    refine ⟨rfl, hfr, ?_⟩
    rw [← Hq.out]
    exact Hb.out
set_option maxHeartbeats 400000 in
theorem add_any (l : List UInt8) (p : Int × Int) (w : World) (hl : l.length ≤ 9223372036854775807) :
  Calls Tryz.prog 82 #[.agg #[.int .u32 p.1, .int .u32 p.2], .string (bs l)] w fun e w' => e = .returned (.agg #[.int .u32 (sumAdd p l).1, .int .u32 (sumAdd p l).2]) ∧ Below w.heap.size w w' := by
 go_enter Tryz.func82, Tryz.ntmps82
 go_wp2_with fail
 refine (blocks_any l p w.heap.size _ hl (heap_alloc_old (heap_alloc_new _ _))).mono ?_
 rintro e w1 ⟨rfl, hf, hb⟩
 have hb2 : w1.heap[w.heap.size + 1]? = some (.cells #[.int .u32 0, .int .u32 0] 108 (0, 0)) := by
  rw [hf.block _ (by simp) (by omega)]
  have := heap_alloc_new (w.alloc (.cells #[.int .u32 p.1, .int .u32 p.2] 108)) (.cells #[.int .u32 0, .int .u32 0] 108)
  simpa using this
 have hf0 : Below w.heap.size w w1 := (((Frm.refl (· = w.heap.size) w).alloc _).alloc _ |>.trans (hf.mono (fun _ h => h))).below (by omega)
 have c0 := cell_of_block hb 0
 have c1 := cell_of_block hb 1
 have d0 := cell_of_block hb2 0
 have d1 := cell_of_block hb2 1
 have f0 := free_of_block hb2 0
 have f1 := free_of_block hb2 1
 simp at c0 c1 d0 d1
 have Hb := hid hb
 have Hb2 := hid hb2
 clear hb hb2 hf
 go_wp2_with fail
 refine bodyPost_ret (v := .agg #[.int .u32 (sumAdd p l).1, .int .u32 (sumAdd p l).2]) (by simp [results, Tryz.results82, go_sem, d0, d1, f0, f1]) rfl ⟨rfl, ?_⟩
 exact (hf0.setCell (by simp) _).setCell (by simp) _
set_option maxHeartbeats 400000 in
theorem of_any (l : List UInt8) (w : World) (hl : l.length ≤ 9223372036854775807) :
  Calls Tryz.prog 75 #[.string (bs l)] w fun e w' => e = .returned (.agg #[.int .u32 (sumAdd (0, 0) l).1, .int .u32 (sumAdd (0, 0) l).2]) ∧ Below w.heap.size w w' := by
 go_enter Tryz.func75, Tryz.ntmps75
 go_wp2_with fail
 refine (add_any l (0, 0) _ hl).mono ?_
 rintro e w1 ⟨rfl, hb1⟩
 have hb2 : w1.heap[w.heap.size]? = some (.cells #[.int .u32 0, .int .u32 0] 108 (0, 0)) := (hb1.block _ (by simp)).trans (heap_alloc_new _ _)
 have hf0 : Below w.heap.size w w1 := ((Below.refl _ _).alloc (Nat.le_refl _) _).trans (hb1.mono (by simp))
 have d0 := cell_of_block hb2 0
 have d1 := cell_of_block hb2 1
 have f0 := free_of_block hb2 0
 have f1 := free_of_block hb2 1
 simp at d0 d1
 clear hb2 hb1
 go_wp2_with fail
 refine bodyPost_ret (v := .agg #[.int .u32 (sumAdd (0, 0) l).1, .int .u32 (sumAdd (0, 0) l).2]) (by simp [results, Tryz.results75, go_sem, d0, d1, f0, f1]) rfl ⟨rfl, ?_⟩
 exact (hf0.setCell (by simp) _).setCell (by simp) _
def textOf (p : Int × Int) : List UInt8 := four p.1 ++ four p.2
set_option maxHeartbeats 400000 in
theorem text_any (p : Int × Int) (w : World) (h0 : 0 ≤ p.1) (h1 : p.1 < 4294967296) (h2 : 0 ≤ p.2) (h3 : p.2 < 4294967296) :
  Calls Tryz.prog 80 #[.agg #[.int .u32 p.1, .int .u32 p.2]] w fun e w' => e = .returned (.string (bs (textOf p))) ∧ Below w.heap.size w w' := by
 go_enter Tryz.func80, Tryz.ntmps80
 have c0 := fun d os => cell_regrown (w := w.alloc (.cells #[.int .u32 p.1, .int .u32 p.2] 108)) (a := ⟨w.heap.size, 0, none⟩) (v := .int .u32 p.1) (by simp) d os
 have c1 := fun d os => cell_regrown (w := w.alloc (.cells #[.int .u32 p.1, .int .u32 p.2] 108)) (a := ⟨w.heap.size, 1, none⟩) (v := .int .u32 p.2) (by simp) d os
 have hl : ∀ n, (four n).length = 4 := fun n => rfl
 go_wp2_with fail
 refine region_below (by kernel_rfl) (by kernel_rfl) ?_
 repeat (go_big_quiet_step ((go_at_call 84; exact Calls.regrown_of (four_any _ _ (by assumption) (by assumption)))))
 refine wpQuiet_nil ?_
 intro w1 hb1
 go_wp2_with fail
 go_ret
 exact ⟨rfl, ((Below.refl _ _).alloc (Nat.le_refl _) _).trans (hb1.mono (by simp))⟩
end Go.Proofs.YtlkkclooihjpiaaGreat
namespace Go.Proofs.YtlkkclooihjpiaaGreat
open Go.RowKit
set_option maxRecDepth 20000
theorem eight_length (n : Int) : (eight n).length = 8 := rfl
theorem stepSum_bd (p : Int × Int) (x y : Int) : (0 ≤ (stepSum p x y).1 ∧ (stepSum p x y).1 < 4294967296) ∧ (0 ≤ (stepSum p x y).2 ∧ (stepSum p x y).2 < 4294967296) := by
 unfold stepSum; simp only; omega
theorem sumN_bd : ∀ (n : Nat) (p : Int × Int) (l : List UInt8), (0 ≤ p.1 ∧ p.1 < 4294967296) → (0 ≤ p.2 ∧ p.2 < 4294967296) → (0 ≤ (sumN n p l).1 ∧ (sumN n p l).1 < 4294967296) ∧ (0 ≤ (sumN n p l).2 ∧ (sumN n p l).2 < 4294967296)
 | 0, p, l, h1, h2 => ⟨h1, h2⟩
 | n + 1, p, l, h1, h2 => by
  unfold sumN
  split
  ·exact ⟨h1, h2⟩
  ·exact sumN_bd n _ _ (stepSum_bd p _ _).1 (stepSum_bd p _ _).2
theorem sumAdd_bd (p : Int × Int) (l : List UInt8) (h1 : 0 ≤ p.1 ∧ p.1 < 4294967296) (h2 : 0 ≤ p.2 ∧ p.2 < 4294967296) : (0 ≤ (sumAdd p l).1 ∧ (sumAdd p l).1 < 4294967296) ∧ (0 ≤ (sumAdd p l).2 ∧ (sumAdd p l).2 < 4294967296) := by
 unfold sumAdd; exact sumN_bd _ _ _ h1 h2
theorem eight_of (l : List UInt8) (h : 8 ≤ l.length) : ∃ a b c d e f g i t, l = a :: b :: c :: d :: e :: f :: g :: i :: t := by
 match l, h with
 | a :: b :: c :: d :: e :: f :: g :: i :: t, _ => exact ⟨a, b, c, d, e, f, g, i, t, rfl⟩
theorem takeEight_any (l : List UInt8) (w : World) (h : 8 ≤ l.length) (hs : l.length ≤ 9223372036854775807) :
  Calls Tryz.prog 61 #[.string (bs l)] w fun e' w' => e' = .returned (.tuple #[.int .u64 (num (l.take 8)), .int .i64 0]) ∧ Below w.heap.size w w' := by
 obtain ⟨a, b, c, d, e, f, g, i, t, rfl⟩ := eight_of l h
 exact takeEight_yes a b c d e f g i t w (by simpa using hs)
theorem num8_lt (l : List UInt8) : 0 ≤ num (l.take 8) ∧ num (l.take 8) < 18446744073709551616 := by
 refine ⟨num_lo _, ?_⟩
 have h := num_hi (l.take 8)
 have h2 : (l.take 8).length ≤ 8 := by simp; omega
 have h3 : (256 : Nat) ^ (l.take 8).length ≤ 256 ^ 8 := Nat.pow_le_pow_right (by decide) h2
 have h4 : ((256 : Int) ^ (l.take 8).length) = ((256 ^ (l.take 8).length : Nat) : Int) := by simp
 omega
theorem byt_toNat (n : Int) (h0 : 0 ≤ n) (h1 : n < 256) : ((byt n).toNat : Int) = n := by simp [byt]; omega
theorem num_four (n : Int) (h0 : 0 ≤ n) (h1 : n < 4294967296) : num (four n) = n := by
 unfold four
 rw [num4, byt_toNat _ (by omega) (by omega), byt_toNat _ (by omega) (by omega), byt_toNat _ (by omega) (by omega), byt_toNat _ (by omega) (by omega)]
 omega
theorem num_eight (n : Int) (h0 : 0 ≤ n) (h1 : n < 18446744073709551616) : num (eight n) = n := by
 unfold eight
 rw [num_append, num_four _ (by omega) (by omega), num_four _ (by omega) (by omega)]
 have : (four (n % 4294967296)).length = 4 := rfl
 rw [this]
 omega
theorem num_inj : ∀ (a b : List UInt8), a.length = b.length → num a = num b → a = b
 | [], [], _, _ => rfl
 | [], _ :: _, h, _ => by simp at h
 | _ :: _, [], h, _ => by simp at h
 | x :: a, y :: b, h, e => by
  have hl : a.length = b.length := by simpa using h
  have e1 : num (x :: a) = (x.toNat : Int) * 256 ^ a.length + num a := by rw [show x :: a = [x] ++ a from rfl, num_append, num_one]
  have e2 : num (y :: b) = (y.toNat : Int) * 256 ^ b.length + num b := by rw [show y :: b = [y] ++ b from rfl, num_append, num_one]
  rw [e1, e2, hl] at e
  have h1 := num_hi a
  have h2 := num_hi b
  have l1 := num_lo a
  have l2 := num_lo b
  rw [hl] at h1
  generalize (256 : Int) ^ b.length = M at *
  have hx : (x.toNat : Int) = y.toNat := by
   rcases Int.lt_trichotomy (x.toNat : Int) y.toNat with hlt | heq | hgt
   ·have : ((x.toNat : Int) + 1) * M ≤ (y.toNat : Int) * M := Int.mul_le_mul_of_nonneg_right (by omega) (by omega)
    rw [Int.add_mul] at this
    omega
   ·exact heq
   ·have : ((y.toNat : Int) + 1) * M ≤ (x.toNat : Int) * M := Int.mul_le_mul_of_nonneg_right (by omega) (by omega)
    rw [Int.add_mul] at this
    omega
  have hxy : x = y := by
   apply UInt8.toNat_inj.1
   omega
  subst hxy
  rw [num_inj a b hl (by omega)]
theorem textOf_length (p : Int × Int) : (textOf p).length = 8 := rfl
end Go.Proofs.YtlkkclooihjpiaaGreat
