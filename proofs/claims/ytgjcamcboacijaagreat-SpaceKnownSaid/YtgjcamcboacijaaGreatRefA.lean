/- The references' numbers and sums: counterfoilref01.Fixed, Value; counterfoilref02.word, Add, Text. -/
import Derived.Test.YtgjcamcboacijaaGreatPlain
import Derived.StillTailTactics
namespace Go.Proofs.YtgjcamcboacijaaGreat
open Go.RowKit
set_option linter.unusedVariables false
set_option linter.unusedSimpArgs false
set_option maxRecDepth 20000

def fixedL (n : Int) : Nat → List UInt8
  | 0 => []
  | k + 1 => byt (n / 256 ^ k % 256) :: fixedL n k
theorem fixedL_length (n : Int) : ∀ k, (fixedL n k).length = k
  | 0 => rfl
  | k + 1 => by simp [fixedL, fixedL_length n k]
theorem u8_int (n : Int) (h0 : 0 ≤ n) (h1 : n < 256) : ((byt n).toNat : Int) = n := by
  simp [byt]; omega
theorem info_u8 : (Tryz.prog.info? 5).map (fun i => (i.zero, i.size, i.bytes)) = some (some (.int .u8 0), 1, 1) := by kernel_rfl

theorem fixedL_succ (n : Int) (k : Nat) : fixedL n (k + 1) = byt (n / 256 ^ k % 256) :: fixedL n k := rfl
theorem fixedL_zero (n : Int) : fixedL n 0 = [] := rfl
attribute [irreducible] fixedL

def FixedRel (N : Int) (many : Nat) (w : World) (v0 v5 : Value) (wr : World) : Prop :=
  ∃ k : Nat, k ≤ many ∧ v0 = .int .u64 (N / 256 ^ k) ∧ wr.ownsRow w.heap.size 5 1 v5 k (cellsOf (fixedL N k)) ∧ Below w.heap.size w wr

theorem div_pow_bd (n : Int) (k : Nat) (h0 : 0 ≤ n) (h1 : n < 18446744073709551616) : 0 ≤ n / 256 ^ k ∧ n / 256 ^ k < 18446744073709551616 := by
  have hp : (0 : Int) < 256 ^ k := Int.pow_pos (by decide)
  refine ⟨Int.ediv_nonneg h0 (Int.le_of_lt hp), ?_⟩
  have := Int.ediv_le_self (b := 256 ^ k) h0
  omega

set_option maxHeartbeats 1000000 in
theorem fixed_any (n : Int) (many : Nat) (w : World) (h0 : 0 ≤ n) (h1 : n < 18446744073709551616) (hm : many ≤ 8) :
    Calls Tryz.prog 31 #[.int .u64 n, .int .i64 many] w fun e w' => e = .returned (.string (bs (fixedL n many))) ∧ Below w.heap.size w w' := by
  obtain ⟨i0, hi, hz0, hz1, hz2⟩ := info_parts info_u8
  go_enter Tryz.func31, Tryz.ntmps31
  go_wp2_with fail
  go_loopw [0, 5] (fun v0 v5 wr => FixedRel n many w v0 v5 wr) (fun _ v5 _ => many - sliceLen v5)
  case atStart => exact ⟨0, Nat.zero_le _, by simp, by rw [fixedL_zero]; exact World.ownsRow_nil _ _ _ _, Below.refl _ _⟩
  case round =>
    obtain ⟨k, hk, rfl, hown, hb⟩ := hrel
    have hfin := run_convert_own (P := Tryz.prog) wr 70 9 5 Tryz.underlying70 Tryz.underlying5 Tryz.underlying9 _ _ _ _ hown
    obtain ⟨q, hq⟩ : ∃ q, q = n / 256 ^ k := ⟨_, rfl⟩
    have hqb := div_pow_bd n k h0 h1
    rw [← hq] at hqb ⊢
    obtain ⟨hq0, hq1⟩ := hqb
    have hnext : q / 256 = n / 256 ^ (k + 1) := by rw [hq, Int.ediv_ediv_of_nonneg (Int.pow_nonneg (by decide)), Int.pow_succ]
    have hstep : fixedL n (k + 1) = byt (q % 256) :: fixedL n k := by rw [fixedL_succ, hq]
    have hcell : cellsOf (fixedL n (k + 1)) = [.int .u8 (q % 256)] ++ cellsOf (fixedL n k) := by
      rw [hstep]; simp [cellsOf, u8_int (q % 256) (by omega) (by omega)]
    have Hnext := hid hnext
    have Hcell := hid hcell
    clear hnext hstep hcell hq
    have Hown := hid hown
    rcases hown.2 with ⟨rfl, rfl⟩ | ⟨g, cap, cur, rfl, hbg, hg, hnc, hcm, hcs, htake⟩
    · clear hown
      by_cases hlt : 0 < many
      · clear hfin
        go_wp2_with fail
        refine ⟨⟨1, by omega, by rw [← Hnext.out], ?_, hb.alloc hb.size _⟩, by simp [sliceLen]; omega⟩
        rw [show (1 : Nat) = 0 + 1 from rfl, Hcell.out, fixedL_zero]
        exact ownsRow_full hb.size (heap_alloc_new _ _) rfl (by simp [maxLen])
      · go_wp2_with fail
        go_ret
        obtain rfl : many = 0 := by omega
        exact ⟨rfl, hb⟩
    · clear hown
      by_cases hlt : k < many
      · clear hfin hg hcs htake
        go_wp2_with (at_builtin; refine wpList_append_rows rfl _ _ 70 rfl w.heap.size w.heap.size 5 i0 (.int .u8 0) 1 1 Tryz.underlying70 hi hz0 hz1 hz2 rfl (by decide) _ 1 [.int .u8 (q % 256)] rfl ?o1 _ k (cellsOf (fixedL n k)) rfl (Hown.out.alloc _) (cellsOf_one _) ?b1 ?b2 ?b3 ?_)
        case o1 => exact ownsRow_full hb.size (heap_alloc_new _ _) rfl (by simp [maxLen])
        case b1 => simp [maxLen]; omega
        case b2 => omega
        case b3 => simp; have := hb.size; omega
        intro v' w' hown' hgrow
        have hown2 : w'.ownsRow w.heap.size 5 1 v' (k + 1) (cellsOf (fixedL n (k + 1))) := by rw [Hcell.out, Nat.add_comm k 1]; exact hown'
        have hb' : Below w.heap.size w w' := (hb.alloc hb.size (.cells #[.int .u8 (q % 256)] 5)).grown hgrow (by simp; have := hb.size; omega) (by intro j hj; simp [Value.ownBlock] at hj; subst hj; exact hb.size)
        clear hgrow
        go_wp2_with fail
        refine ⟨⟨k + 1, by omega, by rw [← Hnext.out], hown2, hb'⟩, by rw [ownsRow_len hown2]; simp [sliceLen]; omega⟩
      · go_wp2_with fail
        go_ret
        obtain rfl : many = k := by omega
        exact ⟨rfl, hb⟩

def ValueRel (l : List UInt8) (w : World) (v3 v4 : Value) (wr : World) : Prop :=
  ∃ k : Nat, k ≤ l.length ∧ v4 = .int .i64 k ∧ v3 = .int .u64 (num (l.take k) % 18446744073709551616) ∧ wr = w

set_option maxHeartbeats 400000 in
/-- 'Value' of any text: modulo 2^64. -/
theorem value_any (l : List UInt8) (w : World) (hl : l.length ≤ 9223372036854775807) :
    Calls Tryz.prog 36 #[.string (bs l)] w fun e w' => e = .returned (.int .u64 (num l % 18446744073709551616)) ∧ Below w.heap.size w w' := by
  go_enter Tryz.func36, Tryz.ntmps36
  go_wp2_with fail
  go_loopw [3, 4] (fun v3 v4 wr => ValueRel l w v3 v4 wr) (fun _ v4 _ => l.length - (intOf v4).toNat)
  case atStart => exact ⟨0, Nat.zero_le _, rfl, by simp [num_nil], rfl⟩
  case round =>
    obtain ⟨k, hk, rfl, rfl, rfl⟩ := hrel
    by_cases hlt : k < l.length
    · have hstep : num (l.take (k + 1)) % 18446744073709551616 = ((256 * (num (l.take k) % 18446744073709551616)) % 18446744073709551616 + (l[k].toNat : Int)) % 18446744073709551616 := by
        rw [List.take_succ_eq_append_getElem hlt, num_snoc]; omega
      have hlo := u8_lo l[k]
      have hhi := u8_hi l[k]
      have Hstep := hid hstep
      clear hstep
      obtain ⟨q, hq⟩ : ∃ q, q = num (l.take k) % 18446744073709551616 := ⟨_, rfl⟩
      have hq0 : 0 ≤ q := by omega
      have hq1 : q < 18446744073709551616 := by omega
      rw [← hq] at Hstep ⊢
      clear hq
      go_wp2_with fail
      refine ⟨⟨k + 1, by omega, by go_num, ?_, rfl⟩, by simp [intOf]; omega⟩
      rw [Hstep.out, IntKind.wrap_u64, IntKind.wrap_u64]
    · go_wp2_with fail
      go_ret
      obtain rfl : k = l.length := by omega
      exact ⟨by simp, Below.refl _ _⟩

/-- 'word': so many bytes from a place on, noughts behind the end. -/
def wordTo (l : List UInt8) (p k : Nat) : Int := num (((l.drop p).take k) ++ List.replicate (k - ((l.drop p).take k).length) 0)
theorem wordTo_zero (l : List UInt8) (p : Nat) : wordTo l p 0 = 0 := by simp [wordTo, num_nil]
theorem wordTo_in (l : List UInt8) (p k : Nat) (h : p + k < l.length) : wordTo l p (k + 1) = 256 * wordTo l p k + (l[p + k].toNat : Int) := by
  unfold wordTo
  have h1 : (l.drop p).take (k + 1) = (l.drop p).take k ++ [l[p + k]] := by
    rw [List.take_succ_eq_append_getElem (by simp; omega)]
    simp
  have h2 : k + 1 - ((l.drop p).take (k + 1)).length = 0 := by simp; omega
  have h3 : k - ((l.drop p).take k).length = 0 := by simp; omega
  rw [h2, h3, h1]
  simp only [List.replicate_zero, List.append_nil]
  rw [num_snoc]; omega
theorem wordTo_out (l : List UInt8) (p k : Nat) (h : ¬ p + k < l.length) : wordTo l p (k + 1) = 256 * wordTo l p k := by
  unfold wordTo
  have h1 : (l.drop p).take (k + 1) = (l.drop p).take k := by
    rw [List.take_of_length_le (by simp; omega), List.take_of_length_le (by simp; omega)]
  have h2 : k + 1 - ((l.drop p).take k).length = (k - ((l.drop p).take k).length) + 1 := by simp; omega
  rw [h1, h2, List.replicate_succ', ← List.append_assoc, num_snoc]
  simp; omega
theorem wordTo_lo (l : List UInt8) (p k : Nat) : 0 ≤ wordTo l p k := num_lo _
theorem wordTo_hi (l : List UInt8) (p k : Nat) (hk : k ≤ 4) : wordTo l p k < 4294967296 := by
  have h := num_hi (((l.drop p).take k) ++ List.replicate (k - ((l.drop p).take k).length) 0)
  have hlen : (((l.drop p).take k) ++ List.replicate (k - ((l.drop p).take k).length) (0 : UInt8)).length = k := by simp; omega
  rw [hlen] at h
  unfold wordTo
  match k, hk, h with
  | 0, _, h => omega
  | 1, _, h => omega
  | 2, _, h => omega
  | 3, _, h => omega
  | 4, _, h => omega
theorem wordTo_hi3 (l : List UInt8) (p k : Nat) (hk : k < 4) : wordTo l p k < 16777216 := by
  have h := num_hi (((l.drop p).take k) ++ List.replicate (k - ((l.drop p).take k).length) 0)
  have hlen : (((l.drop p).take k) ++ List.replicate (k - ((l.drop p).take k).length) (0 : UInt8)).length = k := by simp; omega
  rw [hlen] at h
  unfold wordTo
  match k, hk, h with
  | 0, _, h => omega
  | 1, _, h => omega
  | 2, _, h => omega
  | 3, _, h => omega
attribute [irreducible] wordTo

def WordRel (l : List UInt8) (p : Nat) (w : World) (v5 v6 : Value) (wr : World) : Prop :=
  ∃ k : Nat, k ≤ 4 ∧ v6 = .int .i64 ((p + k : Nat) : Int) ∧ v5 = .int .u64 (wordTo l p k) ∧ wr = w

theorem wordTo_A (l : List UInt8) (p : Nat) : wordTo l p 4 = wordA ((l.drop p).take 8) := by
  unfold wordTo wordA pad8
  congr 1
  rw [List.take_append, List.take_take, List.take_replicate]
  congr 2
  simp; omega
theorem wordTo_B (l : List UInt8) (p : Nat) : wordTo l (p + 4) 4 = wordB ((l.drop p).take 8) := by
  unfold wordTo wordB pad8
  congr 1
  rw [List.drop_append, List.drop_take, List.drop_drop, List.drop_replicate]
  congr 2
  simp; omega

def AddRel (b : Nat) (T : TypeId) (p : Int × Int) (l : List UInt8) (W : World) (v : Value) (wr : World) : Prop :=
  ∃ (k : Nat) (q : Int × Int), v = .int .i64 k ∧ k ≤ l.length + 7 ∧ sumAdd q (l.drop k) = sumAdd p l ∧ wr.heap[b]? = some (.cells #[.int .u32 q.1, .int .u32 q.2] T (0, 0)) ∧ Frm (· = b) W wr

theorem fixed_text (x : Int) (w : World) (h0 : 0 ≤ x) (h1 : x < 4294967296) :
    Calls Tryz.prog 31 #[.int .u64 x, .int .i64 4] w fun e w' => e = .returned (.string (bs (four x))) ∧ Below w.heap.size w w' := by
  have h : fixedL x 4 = four x := by
    rw [fixedL_succ, fixedL_succ, fixedL_succ, fixedL_succ, fixedL_zero]
    simp only [four]
    congr 2
    · simp; omega
    · congr 2
      simp
  rw [← h]
  exact fixed_any x 4 w h0 (by omega) (by omega)

end Go.Proofs.YtgjcamcboacijaaGreat
