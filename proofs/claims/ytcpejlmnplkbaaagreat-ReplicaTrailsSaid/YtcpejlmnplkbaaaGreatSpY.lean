import Derived.Test.YtcpejlmnplkbaaaGreatPlain
import Derived.StillTailTactics
import Derived.Test.YtcpejlmnplkbaaaGreatSpE
set_option linter.unusedVariables false
set_option linter.unusedSimpArgs false
namespace Go.Proofs.YtcpejlmnplkbaaaGreat
open Go.RowKit
set_option maxRecDepth 20000
def fixedL (n : Int) : Nat → List UInt8
 | 0 => []
 | k + 1 => byt (n / 256 ^ k % 256) :: fixedL n k
theorem fixedL_length (n : Int) : ∀ k, (fixedL n k).length = k
 | 0 => rfl
 | k + 1 => by simp [fixedL, fixedL_length n k]
theorem u8_int (n : Int) (h0 : 0 ≤ n) (h1 : n < 256) : ((byt n).toNat : Int) = n := by
 simp [byt]; omega
theorem info_u8 : (Tryz.prog.info? 5).map (fun i => (i.zero, i.size, i.bytes)) = some (some (.int .u8 0), 1, 1) := by kernel_rfl
theorem fixedL_succ (n : Int) (k : Nat) : fixedL n (k + 1) = byt (n / 256 ^ k % 256) :: fixedL n k := rfl
theorem fixedL_zero (n : Int) : fixedL n 0 = [] := rfl
attribute [irreducible] fixedL
def FixedRel (N : Int) (many : Nat) (w : World) (v0 v5 : Value) (wr : World) : Prop :=
 ∃ k : Nat, k ≤ many ∧ v0 = .int .u64 (N / 256 ^ k) ∧ wr.ownsRow w.heap.size 5 1 v5 k (cellsOf (fixedL N k)) ∧ Below w.heap.size w wr
theorem div_pow_bd (n : Int) (k : Nat) (h0 : 0 ≤ n) (h1 : n < 18446744073709551616) : 0 ≤ n / 256 ^ k ∧ n / 256 ^ k < 18446744073709551616 := by
 have hp : (0 : Int) < 256 ^ k := Int.pow_pos (by decide)
 refine ⟨Int.ediv_nonneg h0 (Int.le_of_lt hp), ?_⟩
 have := Int.ediv_le_self (b := 256 ^ k) h0
 omega
set_option maxHeartbeats 1000000 in
theorem fixed_any (n : Int) (many : Nat) (w : World) (h0 : 0 ≤ n) (h1 : n < 18446744073709551616) (hm : many ≤ 8) :
  Calls Tryz.prog 66 #[.int .u64 n, .int .i64 many] w fun e w' => e = .returned (.string (bs (fixedL n many))) ∧ Below w.heap.size w w' := by
 obtain ⟨i0, hi, hz0, hz1, hz2⟩ := info_parts info_u8
 go_enter Tryz.func66, Tryz.ntmps66
 go_wp2_with fail
 go_loopw [0, 5] (fun v0 v5 wr => FixedRel n many w v0 v5 wr) (fun _ v5 _ => many - sliceLen v5)
 case atStart => exact ⟨0, Nat.zero_le _, by simp, by rw [fixedL_zero]; exact World.ownsRow_nil _ _ _ _, Below.refl _ _⟩
 case round =>
  obtain ⟨k, hk, rfl, hown, hb⟩ := hrel
  have hfin := run_convert_own (P := Tryz.prog) wr 117 9 5 Tryz.underlying117 Tryz.underlying5 Tryz.underlying9 _ _ _ _ hown
  obtain ⟨q, hq⟩ : ∃ q, q = n / 256 ^ k := ⟨_, rfl⟩
  have hqb := div_pow_bd n k h0 h1
  rw [← hq] at hqb ⊢
  obtain ⟨hq0, hq1⟩ := hqb
  have hnext : q / 256 = n / 256 ^ (k + 1) := by rw [hq, Int.ediv_ediv_of_nonneg (Int.pow_nonneg (by decide)), Int.pow_succ]
  have hstep : fixedL n (k + 1) = byt (q % 256) :: fixedL n k := by rw [fixedL_succ, hq]
  have hcell : cellsOf (fixedL n (k + 1)) = [.int .u8 (q % 256)] ++ cellsOf (fixedL n k) := by
   rw [hstep]; simp [cellsOf, u8_int (q % 256) (by omega) (by omega)]
  have Hnext := hid hnext
  have Hcell := hid hcell
  clear hnext hstep hcell hq
  have Hown := hid hown
  rcases hown.2 with ⟨rfl, rfl⟩ | ⟨g, cap, cur, rfl, hbg, hg, hnc, hcm, hcs, htake⟩
  ·clear hown
   by_cases hlt : 0 < many
   ·clear hfin
    go_wp2_with fail
    refine ⟨⟨1, by omega, by rw [← Hnext.out], ?_, hb.alloc hb.size _⟩, by simp [sliceLen]; omega⟩
    rw [show (1 : Nat) = 0 + 1 from rfl, Hcell.out, fixedL_zero]
    exact ownsRow_full hb.size (heap_alloc_new _ _) rfl (by simp [maxLen])
   ·go_wp2_with fail
    go_ret
    obtain rfl : many = 0 := by omega
    exact ⟨rfl, hb⟩
  ·clear hown
   by_cases hlt : k < many
   ·clear hfin hg hcs htake
    go_wp2_with (at_builtin; refine wpList_append_rows rfl _ _ 117 rfl w.heap.size w.heap.size 5 i0 (.int .u8 0) 1 1 Tryz.underlying117 hi hz0 hz1 hz2 rfl (by decide) _ 1 [.int .u8 (q % 256)] rfl ?o1 _ k (cellsOf (fixedL n k)) rfl (Hown.out.alloc _) (cellsOf_one _) ?b1 ?b2 ?b3 ?_)
    case o1 => exact ownsRow_full hb.size (heap_alloc_new _ _) rfl (by simp [maxLen])
    case b1 => simp [maxLen]; omega
    case b2 => omega
    case b3 => simp; have := hb.size; omega
    intro v' w' hown' hgrow
    have hown2 : w'.ownsRow w.heap.size 5 1 v' (k + 1) (cellsOf (fixedL n (k + 1))) := by rw [Hcell.out, Nat.add_comm k 1]; exact hown'
    have hb' : Below w.heap.size w w' := (hb.alloc hb.size (.cells #[.int .u8 (q % 256)] 5)).grown hgrow (by simp; have := hb.size; omega) (by intro j hj; simp [Value.ownBlock] at hj; subst hj; exact hb.size)
    clear hgrow
    go_wp2_with fail
    refine ⟨⟨k + 1, by omega, by rw [← Hnext.out], hown2, hb'⟩, by rw [ownsRow_len hown2]; simp [sliceLen]; omega⟩
   ·go_wp2_with fail
    go_ret
    obtain rfl : many = k := by omega
    exact ⟨rfl, hb⟩
def ValueRel (l : List UInt8) (w : World) (v3 v4 : Value) (wr : World) : Prop :=
 ∃ k : Nat, k ≤ l.length ∧ v4 = .int .i64 k ∧ v3 = .int .u64 (num (l.take k) % 18446744073709551616) ∧ wr = w
def wordTo (l : List UInt8) (p k : Nat) : Int := num (((l.drop p).take k) ++ List.replicate (k - ((l.drop p).take k).length) 0)
theorem wordTo_zero (l : List UInt8) (p : Nat) : wordTo l p 0 = 0 := by simp [wordTo, num_nil]
theorem wordTo_in (l : List UInt8) (p k : Nat) (h : p + k < l.length) : wordTo l p (k + 1) = 256 * wordTo l p k + (l[p + k].toNat : Int) := by
 unfold wordTo
 have h1 : (l.drop p).take (k + 1) = (l.drop p).take k ++ [l[p + k]] := by
  rw [List.take_succ_eq_append_getElem (by simp; omega)]
  simp
 have h2 : k + 1 - ((l.drop p).take (k + 1)).length = 0 := by simp; omega
 have h3 : k - ((l.drop p).take k).length = 0 := by simp; omega
 rw [h2, h3, h1]
 simp only [List.replicate_zero, List.append_nil]
 rw [num_snoc]; omega
theorem wordTo_out (l : List UInt8) (p k : Nat) (h : ¬ p + k < l.length) : wordTo l p (k + 1) = 256 * wordTo l p k := by
 unfold wordTo
 have h1 : (l.drop p).take (k + 1) = (l.drop p).take k := by
  rw [List.take_of_length_le (by simp; omega), List.take_of_length_le (by simp; omega)]
 have h2 : k + 1 - ((l.drop p).take k).length = (k - ((l.drop p).take k).length) + 1 := by simp; omega
 rw [h1, h2, List.replicate_succ', ← List.append_assoc, num_snoc]
 simp; omega
theorem wordTo_lo (l : List UInt8) (p k : Nat) : 0 ≤ wordTo l p k := num_lo _
theorem wordTo_hi (l : List UInt8) (p k : Nat) (hk : k ≤ 4) : wordTo l p k < 4294967296 := by
 have h := num_hi (((l.drop p).take k) ++ List.replicate (k - ((l.drop p).take k).length) 0)
 have hlen : (((l.drop p).take k) ++ List.replicate (k - ((l.drop p).take k).length) (0 : UInt8)).length = k := by simp; omega
 rw [hlen] at h
 unfold wordTo
 match k, hk, h with
 | 0, _, h => omega
 | 1, _, h => omega
 | 2, _, h => omega
 | 3, _, h => omega
 | 4, _, h => omega
theorem wordTo_hi3 (l : List UInt8) (p k : Nat) (hk : k < 4) : wordTo l p k < 16777216 := by
 have h := num_hi (((l.drop p).take k) ++ List.replicate (k - ((l.drop p).take k).length) 0)
 have hlen : (((l.drop p).take k) ++ List.replicate (k - ((l.drop p).take k).length) (0 : UInt8)).length = k := by simp; omega
 rw [hlen] at h
 unfold wordTo
 match k, hk, h with
 | 0, _, h => omega
 | 1, _, h => omega
 | 2, _, h => omega
 | 3, _, h => omega
attribute [irreducible] wordTo
def WordRel (l : List UInt8) (p : Nat) (w : World) (v5 v6 : Value) (wr : World) : Prop :=
 ∃ k : Nat, k ≤ 4 ∧ v6 = .int .i64 ((p + k : Nat) : Int) ∧ v5 = .int .u64 (wordTo l p k) ∧ wr = w
set_option maxHeartbeats 400000 in
theorem word_any (l : List UInt8) (p : Nat) (w : World) (hl : l.length ≤ 4611686018427387904) (hp : p ≤ l.length + 8) :
  Calls Tryz.prog 67 #[.string (bs l), .int .i64 p] w fun e w' => e = .returned (.int .u32 (wordTo l p 4)) ∧ w' = w := by
 go_enter Tryz.func67, Tryz.ntmps67
 go_wp2_with fail
 go_loopw [5, 6] (fun v5 v6 wr => WordRel l p w v5 v6 wr) (fun _ v6 _ => p + 4 - (intOf v6).toNat)
 case atStart => exact ⟨0, by omega, by simp, by rw [wordTo_zero], rfl⟩
 case round =>
  obtain ⟨k, hk, rfl, rfl, rfl⟩ := hrel
  have hq0 := wordTo_lo l p k
  by_cases hlt : k < 4
  ·have hq1 := wordTo_hi3 l p k hlt
   by_cases hin : p + k < l.length
   ·have Hstep := hid (wordTo_in l p k hin)
    go_wp2_with fail
    have hlo := u8_lo l[p + k]
    have hhi := u8_hi l[p + k]
    refine ⟨⟨k + 1, by omega, by go_num, ?_, rfl⟩, by simp [intOf]; omega⟩
    rw [Hstep.out]
    simp only [IntKind.wrap_u64]
    congr 1
    omega
   ·have Hstep := hid (wordTo_out l p k hin)
    go_wp2_with fail
    refine ⟨⟨k + 1, by omega, by go_num, ?_, rfl⟩, by simp [intOf]; omega⟩
    rw [Hstep.out]
  ·obtain rfl : k = 4 := by omega
   have hq1 := wordTo_hi l p 4 (Nat.le_refl _)
   go_wp2_with fail
   go_ret
   exact ⟨rfl, rfl⟩
theorem word_at (l : List UInt8) (z : Int) (w : World) (hl : l.length ≤ 4611686018427387904) (h0 : 0 ≤ z) (h1 : z ≤ l.length + 8) :
  Calls Tryz.prog 67 #[.string (bs l), .int .i64 z] w fun e w' => e = .returned (.int .u32 (wordTo l z.toNat 4)) ∧ w' = w := by
 obtain ⟨p, rfl⟩ := Int.eq_ofNat_of_zero_le h0
 exact word_any l p w hl (by omega)
theorem wordTo_A (l : List UInt8) (p : Nat) : wordTo l p 4 = wordA ((l.drop p).take 8) := by
 unfold wordTo wordA pad8
 congr 1
 rw [List.take_append, List.take_take, List.take_replicate]
 congr 2
 simp; omega
theorem wordTo_B (l : List UInt8) (p : Nat) : wordTo l (p + 4) 4 = wordB ((l.drop p).take 8) := by
 unfold wordTo wordB pad8
 congr 1
 rw [List.drop_append, List.drop_take, List.drop_drop, List.drop_replicate]
 congr 2
 simp; omega
def AddRel (b : Nat) (T : TypeId) (p : Int × Int) (l : List UInt8) (W : World) (v : Value) (wr : World) : Prop :=
 ∃ (k : Nat) (q : Int × Int), v = .int .i64 k ∧ k ≤ l.length + 7 ∧ sumAdd q (l.drop k) = sumAdd p l ∧ wr.heap[b]? = some (.cells #[.int .u32 q.1, .int .u32 q.2] T (0, 0)) ∧ Frm (· = b) W wr
set_option maxHeartbeats 1000000 in
set_option maxRecDepth 100000 in
theorem refAdd_any (l : List UInt8) (p : Int × Int) (w : World) (hl : l.length ≤ 4611686018427387904) :
  Calls Tryz.prog 42 #[.agg #[.int .u32 p.1, .int .u32 p.2], .string (bs l)] w fun e w' => e = .returned (.agg #[.int .u32 (sumAdd p l).1, .int .u32 (sumAdd p l).2]) ∧ Below w.heap.size w w' := by
 go_enter Tryz.func42, Tryz.ntmps42
 go_wp2_with fail
 go_loopw [5] (fun v wr => AddRel w.heap.size 103 p l ((w.alloc (.cells #[.int .u32 p.1, .int .u32 p.2] 103)).alloc (.cells #[.int .u32 0, .int .u32 0] 103)) v wr) (fun v _ => l.length + 8 - (intOf v).toNat)
 case atStart => exact ⟨0, p, rfl, by omega, by simp, heap_alloc_old (heap_alloc_new _ _), Frm.refl _ _⟩
 case round =>
  obtain ⟨k, q, rfl, hk, hq, hblk, hfr⟩ := hrel
  have c0 := cell_of_block hblk 0
  have c1 := cell_of_block hblk 1
  have f0 := free_of_block hblk 0
  have f1 := free_of_block hblk 1
  simp at c0 c1
  have Hq := hid hq
  have Hblk := hid hblk
  clear hq hblk
  by_cases hlt : k < l.length
  ·go_wp2_with fail
   refine region_tail 10 (fun W => W.heap[w.heap.size]? = some (.cells #[.int .u32 q.1, .int .u32 q.2] 103 (0, 0)) ∧ Frm (· = w.heap.size) wr W) (by kernel_rfl) (by kernel_rfl) ⟨Hblk.out, (Frm.refl _ _).drew⟩ ?_
   rintro W ⟨hb1, hf1⟩
   have c0 := cell_of_block hb1 0
   have c1 := cell_of_block hb1 1
   have f0 := free_of_block hb1 0
   have f1 := free_of_block hb1 1
   simp at c0 c1
   have Hb1 := hid hb1
   clear hb1
   simp only [List.take_succ_cons, List.take_zero, List.drop_succ_cons, List.drop_zero]
   repeat still_step
   still_call (word_at l _ _ hl (by omega) (by omega))
   repeat still_step
   refine wpStill_nil ?_
   go_wp2_with fail
   have hb2 := heap_setCell_same Hb1.out 0 (.int .u32 (((q.1 + wordTo l k 4) % 4294967296 + q.2) % 4294967296))
   refine region_tail 11 (fun W2 => W2.heap[w.heap.size]? = some (.cells #[.int .u32 (((q.1 + wordTo l k 4) % 4294967296 + q.2) % 4294967296), .int .u32 q.2] 103 (0, 0)) ∧ Frm (· = w.heap.size) wr W2) (by kernel_rfl) (by kernel_rfl) ⟨hb2, (hf1.setCell (.inl rfl) _).drew⟩ ?_
   clear hb2 Hb1 c0 c1 f0 f1 hf1
   have hw4 : IntKind.i64.wrap ((k : Int) + 4) = (k : Int) + 4 := IntWalk.i64_in _ (by omega)
   have hn4 : ((k : Int) + 4).toNat = k + 4 := by omega
   rintro W2 ⟨hb1, hf1⟩
   have c0 := cell_of_block hb1 0
   have c1 := cell_of_block hb1 1
   have f0 := free_of_block hb1 0
   have f1 := free_of_block hb1 1
   simp at c0 c1
   have Hb1 := hid hb1
   clear hb1
   simp only [List.take_succ_cons, List.take_zero, List.drop_succ_cons, List.drop_zero]
   repeat still_step
   still_call (word_at l _ _ hl (by omega) (by omega))
   repeat still_step
   refine wpStill_nil ?_
   clear hw4 hn4
   go_wp2_with fail
   refine ⟨⟨k + 8, stepSum q (wordA ((l.drop k).take 8)) (wordB ((l.drop k).take 8)), by go_num, by omega, ?_, ?_, (hfr.trans hf1).setCell (.inl rfl) _⟩, by simp [intOf]; omega⟩
   ·rw [← Hq.out, sumAdd_step q (l.drop k) (by simp; omega), List.drop_drop]
   ·rw [heap_setCell_same Hb1.out 1 _, ← wordTo_A, ← wordTo_B]
    simp only [stepSum]
    simp
    constructor <;> congr 1 <;> omega
  ·have hb2 : wr.heap[w.heap.size + 1]? = some (.cells #[.int .u32 0, .int .u32 0] 103 (0, 0)) := by
    rw [hfr.block _ (by simp) (by omega)]
    have := heap_alloc_new (w.alloc (.cells #[.int .u32 p.1, .int .u32 p.2] 103)) (.cells #[.int .u32 0, .int .u32 0] 103)
    simpa using this
   have hf0 : Below w.heap.size w wr := (((Frm.refl (· = w.heap.size) w).alloc _).alloc _ |>.trans (hfr.mono (fun _ h => h))).below (by omega)
   have d0 := cell_of_block hb2 0
   have d1 := cell_of_block hb2 1
   have g0 := free_of_block hb2 0
   have g1 := free_of_block hb2 1
   simp at d0 d1
   clear hb2 hfr
   have hq' : sumAdd p l = q := by rw [← Hq.out, List.drop_eq_nil_of_le (by omega), sumAdd_nil]
   have Hq2 := hid hq'
   clear hq' Hq
   go_wp2_with fail
   refine bodyPost_ret (v := .agg #[.int .u32 q.1, .int .u32 q.2]) (by simp [results, Tryz.results42, go_sem, d0, d1, g0, g1]) rfl ⟨by rw [Hq2.out], ?_⟩
   exact (hf0.setCell (by simp) _).setCell (by simp) _
theorem fixed_text (x : Int) (w : World) (h0 : 0 ≤ x) (h1 : x < 4294967296) :
  Calls Tryz.prog 66 #[.int .u64 x, .int .i64 4] w fun e w' => e = .returned (.string (bs (four x))) ∧ Below w.heap.size w w' := by
 have h : fixedL x 4 = four x := by
  rw [fixedL_succ, fixedL_succ, fixedL_succ, fixedL_succ, fixedL_zero]
  simp only [four]
  congr 2
  ·simp; omega
  ·congr 2
   simp
 rw [← h]
 exact fixed_any x 4 w h0 (by omega) (by omega)
set_option maxHeartbeats 400000 in
theorem refText_any (p : Int × Int) (w : World) (h0 : 0 ≤ p.1) (h1 : p.1 < 4294967296) (h2 : 0 ≤ p.2) (h3 : p.2 < 4294967296) :
  Calls Tryz.prog 41 #[.agg #[.int .u32 p.1, .int .u32 p.2]] w fun e w' => e = .returned (.string (bs (textOf p))) ∧ Below w.heap.size w w' := by
 go_enter Tryz.func41, Tryz.ntmps41
 have c0 := fun d os => cell_regrown (w := w.alloc (.cells #[.int .u32 p.1, .int .u32 p.2] 103)) (a := ⟨w.heap.size, 0, none⟩) (v := .int .u32 p.1) (by simp) d os
 have c1 := fun d os => cell_regrown (w := w.alloc (.cells #[.int .u32 p.1, .int .u32 p.2] 103)) (a := ⟨w.heap.size, 1, none⟩) (v := .int .u32 p.2) (by simp) d os
 have hl : ∀ n, (four n).length = 4 := fun n => rfl
 go_wp2_with fail
 refine region_below (by kernel_rfl) (by kernel_rfl) ?_
 repeat (go_big_quiet_step ((go_at_call 66; exact Calls.regrown_of (fixed_text _ _ (by assumption) (by assumption)))))
 refine wpQuiet_nil ?_
 intro w1 hb1
 go_wp2_with fail
 go_ret
 exact ⟨rfl, ((Below.refl _ _).alloc (Nat.le_refl _) _).trans (hb1.mono (by simp))⟩
end Go.Proofs.YtcpejlmnplkbaaaGreat
namespace Go.Proofs.YtcpejlmnplkbaaaGreat
open Go.RowKit Go.Maps
set_option maxRecDepth 20000
theorem rin_any (n : Int) (w : World) : Calls Tryz.prog 123 #[.int .i64 n] w fun e w' => e = .returned (.bool (pageB n)) ∧ w' = w := by
 unfold pageB
 by_cases h1 : 0 ≤ n
 ·have b1 : decide (0 ≤ n) = true := by simpa using h1
  go_enter Tryz.func123, Tryz.ntmps123
  go_wp2_with fail
  go_ret
  exact ⟨by simp [h1], rfl⟩
 ·have b1 : decide (0 ≤ n) = false := by simpa using h1
  go_enter Tryz.func123, Tryz.ntmps123
  go_wp2_with fail
  go_ret
  exact ⟨by simp [h1], rfl⟩
def rfour (n : Int) : List UInt8 := fixedL (IntKind.u64.wrap n) 4
theorem rfour_length (n : Int) : (rfour n).length = 4 := fixedL_length _ _
theorem rfour_four {n : Int} (h0 : 0 ≤ n) (h1 : n ≤ 256) : rfour n = four n := by
 unfold rfour four
 rw [fixedL_succ, fixedL_succ, fixedL_succ, fixedL_succ, fixedL_zero, IntKind.wrap_u64]
 rw [show n % 18446744073709551616 = n by omega, show n / 256 ^ 3 % 256 = n / 16777216 by omega, show n / 256 ^ 2 % 256 = n / 65536 % 256 by omega, show n / 256 ^ 1 % 256 = n / 256 % 256 by omega, show n / 256 ^ 0 % 256 = n % 256 by omega]
theorem fixed_eight {k : Int} (h0 : 0 ≤ k) (h1 : k < 18446744073709551616) : fixedL k 8 = eight k := by
 unfold eight four
 rw [fixedL_succ, fixedL_succ, fixedL_succ, fixedL_succ, fixedL_succ, fixedL_succ, fixedL_succ, fixedL_succ, fixedL_zero]
 rw [show k / 256 ^ 7 % 256 = k / 4294967296 / 16777216 by omega, show k / 256 ^ 6 % 256 = k / 4294967296 / 65536 % 256 by omega, show k / 256 ^ 5 % 256 = k / 4294967296 / 256 % 256 by omega, show k / 256 ^ 4 % 256 = k / 4294967296 % 256 by omega, show k / 256 ^ 3 % 256 = k % 4294967296 / 16777216 by omega, show k / 256 ^ 2 % 256 = k % 4294967296 / 65536 % 256 by omega, show k / 256 ^ 1 % 256 = k % 4294967296 / 256 % 256 by omega, show k / 256 ^ 0 % 256 = k % 4294967296 % 256 by omega]
 rfl
attribute [irreducible] rfour
theorem rfours_length : ∀ l : List Int, (l.flatMap rfour).length = 4 * l.length
 | [] => rfl
 | x :: r => by
  have := rfours_length r
  simp only [List.flatMap_cons, List.length_append, List.length_cons, this, rfour_length]
  omega
theorem step_all {m B q : Bool} {l : List Int} {i : Nat} {r : Int} (hm : m = (B && (l.take i).all pageB)) (hr : l[i]? = some r) (hq : pageB r = q) : (m && q) = (B && (l.take (i + 1)).all pageB) := by
 rw [List.take_add_one, hr, List.all_append, hm, ← hq]
 simp [Bool.and_assoc]
theorem rin_final {M : Bool} {f c k : Int} {l : List Int} {T0 s : List UInt8} {R0 : List UInt8 × Int} (hR : R0 = putH ⟨f, c, k, l⟩) (hl : l.length = 8) (hM : M = ((pageB f && f != 1 && pageB c) && (l.take 8).all pageB)) (hs : s = T0 ++ (l.take 8).flatMap rfour) (hT : T0 = wordP ++ (rfour f ++ (rfour c ++ eight k))) : R0 = if M then (s ++ List.replicate 456 0, 0) else ([], 2) := by
 have ht : l.take 8 = l := List.take_of_length_le (by omega)
 rw [ht] at hM hs
 have e : M = hdrMayB ⟨f, c, k, l⟩ := by rw [hM]; unfold hdrMayB; simp only; rw [Bool.and_comm]
 rw [hR]
 unfold putH
 rw [e]
 split
 ·rename_i hm
  obtain ⟨hr, hf, hc⟩ := hdrMay_all hm
  rw [hs, hT, rfour_four hf.1 hf.2.1, rfour_four hc.1 hc.2]
  have hx : l.flatMap rfour = l.flatMap four := by
   unfold List.flatMap
   congr 1
   exact List.map_congr_left fun n hn => rfour_four (hr n hn).1 (hr n hn).2
  rw [hx]
  unfold hdrPg hdrText zeros
  simp only [List.append_assoc]
 ·rfl
theorem u64_range (n : Int) : 0 ≤ IntKind.u64.wrap n ∧ IntKind.u64.wrap n < 18446744073709551616 := by
 rw [IntKind.wrap_u64]
 omega
theorem rfour_any (n u : Int) (hu : IntKind.u64.wrap n = u) (w : World) : Calls Tryz.prog 66 #[.int .u64 u, .int .i64 4] w fun e w' => e = .returned (.string (bs (rfour n))) ∧ Below w.heap.size w w' := by
 have h := u64_range n
 have A := fixed_any (IntKind.u64.wrap n) 4 w h.1 h.2 (by decide)
 rw [hu] at A
 unfold rfour
 rw [hu]
 exact A
theorem reight_any (k : Int) (h0 : 0 ≤ k) (h1 : k < 18446744073709551616) (w : World) : Calls Tryz.prog 66 #[.int .u64 k, .int .i64 8] w fun e w' => e = .returned (.string (bs (eight k))) ∧ Below w.heap.size w w' := by
 have A := fixed_any k 8 w h0 h1 (by decide)
 rw [fixed_eight h0 h1] at A
 exact A
set_option maxHeartbeats 8000000 in
set_option maxRecDepth 20000 in
theorem rput_any (h : Hdr) (hw : h.Wf) (w : World) : Calls Tryz.prog 103 #[hdrV h] w fun e w' => e = .returned (.tuple #[.string (bs (putH h).1), .int .i64 (putH h).2]) ∧ Below w.heap.size w w' := by
 have hwk := hw.commits
 obtain ⟨R0, hR0⟩ : ∃ R0, R0 = putH h := ⟨_, rfl⟩
 rw [← hR0]
 have HR0 := hid hR0
 clear hR0
 obtain ⟨f, c, k, r0, r1, r2, r3, r4, r5, r6, r7, rfl⟩ := hdr_form hw.len
 have hbox := heap_alloc_new w (.cells #[.int .i64 f, .int .i64 c, .int .u64 k, .int .i64 r0, .int .i64 r1, .int .i64 r2, .int .i64 r3, .int .i64 r4, .int .i64 r5, .int .i64 r6, .int .i64 r7] 143)
 have hb := (Below.refl w.heap.size w).alloc (Nat.le_refl _) (.cells #[.int .i64 f, .int .i64 c, .int .u64 k, .int .i64 r0, .int .i64 r1, .int .i64 r2, .int .i64 r3, .int .i64 r4, .int .i64 r5, .int .i64 r6, .int .i64 r7] 143)
 have HB := hid hb
 have Hbox := hid hbox
 unfold hdrV hdrCells at *
 simp only [List.map_cons, List.map_nil] at *
 obtain ⟨uf, u0⟩ : ∃ uf, IntKind.u64.wrap f = uf := ⟨_, rfl⟩
 obtain ⟨uc, u1⟩ : ∃ uc, IntKind.u64.wrap c = uc := ⟨_, rfl⟩
 have F1 := hid (fun W => rfour_any f uf u0 W)
 have F2 := hid (fun W => rfour_any c uc u1 W)
 have E1 := hid (fun W => reight_any k hwk.1 hwk.2 W)
 have IF := hid (fun W => rin_any f W)
 have IC := hid (fun W => rin_any c W)
 obtain ⟨⟨c0, c1, c2⟩, -, -⟩ := cells11 hbox
 have q0 := fun d os => cell_regrown c0 d os
 have q1 := fun d os => cell_regrown c1 d os
 have q2 := fun d os => cell_regrown c2 d os
 have l4 : ∀ n, (rfour n).length = 4 := fun n => rfour_length n
 have l8 : (eight k).length = 8 := rfl
 have lw : wordP.length = 8 := rfl
 have ew : ByteArray.mk #[99, 102, 45, 112, 97, 103, 101, 115] = bs wordP := rfl
 clear hbox hb hw hwk
 go_enter Tryz.func103, Tryz.ntmps103
 go_upto_region 1 with fail
 refine region_below (by kernel_rfl) (by kernel_rfl) ?_
 clear c0 c1 c2
 repeat (go_big_quiet_step ((first | (go_at_call 66; first | with_reducible exact Calls.regrown_of (F1.out _) | with_reducible exact Calls.regrown_of (F2.out _) | with_reducible exact Calls.regrown_of (E1.out _)))))
 refine wpQuiet_nil ?_
 intro w3 hb3
 have hbx3 := (hb3.block _ (lt_of_block Hbox.out)).trans Hbox.out
 have HB3 := hid (then_below HB.out hb3)
 have Hbx3 := hid hbx3
 obtain ⟨⟨c0, c1, -⟩, -, -⟩ := cells11 hbx3
 clear hb3 q0 q1 q2 F1 F2 E1 u0 u1 l4 l8 lw ew hbx3
 obtain ⟨T0, hT0⟩ : ∃ T0, T0 = wordP ++ (rfour f ++ (rfour c ++ eight k)) := ⟨_, rfl⟩
 have hTl : T0.length = 24 := by rw [hT0]; simp [rfour_length, eight_length, wordP]
 have HT0 := hid hT0
 have HTl := hid hTl
 rw [← hT0]
 clear hT0 hTl
 obtain ⟨x, hx⟩ : ∃ x, x = pageB f := ⟨_, rfl⟩
 obtain ⟨y, hy⟩ : ∃ y, y = pageB c := ⟨_, rfl⟩
 obtain ⟨z, hz⟩ : ∃ z, z = (f != 1) := ⟨_, rfl⟩
 have hM : (x && z && y) = (pageB f && f != 1 && pageB c) := by rw [hx, hy, hz]
 replace IF := IF.out
 replace IC := IC.out
 simp only [← hx] at IF
 simp only [← hy] at IC
 replace IF := hid IF
 replace IC := hid IC
 have HM := hid hM
 have hz2 := hz.symm
 clear hx hy hz hM
 cases x <;> cases z
 all_goals (go_wp2_with (first
       | (go_at_call 123; with_reducible refine (IF.out _).mono ?_; rintro e w2 ⟨rfl, hw⟩; obtain rfl := hw.symm; clear IF)
       | (go_at_call 123; with_reducible refine (IC.out _).mono ?_; rintro e w2 ⟨rfl, hw⟩; obtain rfl := hw.symm; clear IC)
       | go_in))
 all_goals (
  go_loopw [4, 5, 6] (fun v4 v5 v6 wr => ∃ (i : Nat) (s : List UInt8) (m : Bool), i ≤ 8 ∧ v6 = .int .i64 (i : Int) ∧ v5 = .bool m ∧ v4 = .string (bs s) ∧ m = ((pageB f && f != 1 && pageB c) && (([r0, r1, r2, r3, r4, r5, r6, r7] : List Int).take i).all pageB) ∧ s = T0 ++ (([r0, r1, r2, r3, r4, r5, r6, r7] : List Int).take i).flatMap rfour ∧ Below w.heap.size w wr ∧ wr.heap[w.heap.size]? = some (.cells #[.int .i64 f, .int .i64 c, .int .u64 k, .int .i64 r0, .int .i64 r1, .int .i64 r2, .int .i64 r3, .int .i64 r4, .int .i64 r5, .int .i64 r6, .int .i64 r7] 143 (0, 0))) (fun _ _ v6 _ => 8 - (intOf v6).toNat)
  case atStart => exact ⟨0, T0, _, by omega, rfl, rfl, rfl, by rw [← HM.out]; simp, by simp, HB3.out, Hbx3.out⟩
  case round =>
   obtain ⟨i, s, m, hi, rfl, rfl, rfl, hm, hs, hbw, hbx⟩ := hrel
   have HBw := hid hbw
   have Hbx := hid hbx
   have Hs := hid hs
   have Hm := hid hm
   have hsl : s.length = 24 + 4 * i := by
    rw [hs, List.length_append, HTl.out, rfours_length, List.length_take]
    simp
    omega
   obtain ⟨-, ⟨c3, c4, c5, c6, c7, c8, c9, c10⟩, -⟩ := cells11 hbx
   clear hs hbw hm hbx c0 c1 hz2
   by_cases hlt : i < 8
   ·have hi8 : i = 0 ∨ i = 1 ∨ i = 2 ∨ i = 3 ∨ i = 4 ∨ i = 5 ∨ i = 6 ∨ i = 7 := by omega
    have hcat : ¬ (9223372036854775807 < s.length + 4) := by omega
    have Hsl := hid hsl
    clear hi hlt hsl
    rcases hi8 with rfl | rfl | rfl | rfl | rfl | rfl | rfl | rfl
    ·have l4 : (rfour r0).length = 4 := rfour_length _
     obtain ⟨u, hu⟩ : ∃ u, IntKind.u64.wrap r0 = u := ⟨_, rfl⟩
     have G := hid (fun W => rfour_any r0 u hu W)
     obtain ⟨q, hq⟩ : ∃ q, pageB r0 = q := ⟨_, rfl⟩
     have I := fun W => rin_any r0 W
     simp only [hq] at I
     replace I := hid I
     have Hq := hid hq
     clear hq
     cases m
     all_goals (go_wp2_with (first | (go_at_call 123; with_reducible refine (I.out _).mono ?_; rintro e w2 ⟨rfl, hw⟩; obtain rfl := hw.symm; clear I) | (go_at_call 66; refine (G.out _).mono ?_; rintro e w4 ⟨rfl, hb4⟩; have HB4 := hid hb4; clear hb4) | go_in))
     all_goals go_roundw
     all_goals first | (case rel => exact ⟨1, s ++ rfour r0, _, by omega, by first | rfl | trivial, rfl, by first | rfl | trivial, by have h := step_all Hm.out rfl Hq.out; simpa only [Bool.true_and, Bool.false_and] using h, by rw [Hs.out]; simp, then_below HBw.out HB4.out, (HB4.out.block _ (lt_of_block Hbx.out)).trans Hbx.out⟩) | skip
     all_goals simp [intOf]
    ·have l4 : (rfour r1).length = 4 := rfour_length _
     obtain ⟨u, hu⟩ : ∃ u, IntKind.u64.wrap r1 = u := ⟨_, rfl⟩
     have G := hid (fun W => rfour_any r1 u hu W)
     obtain ⟨q, hq⟩ : ∃ q, pageB r1 = q := ⟨_, rfl⟩
     have I := fun W => rin_any r1 W
     simp only [hq] at I
     replace I := hid I
     have Hq := hid hq
     clear hq
     cases m
     all_goals (go_wp2_with (first | (go_at_call 123; with_reducible refine (I.out _).mono ?_; rintro e w2 ⟨rfl, hw⟩; obtain rfl := hw.symm; clear I) | (go_at_call 66; refine (G.out _).mono ?_; rintro e w4 ⟨rfl, hb4⟩; have HB4 := hid hb4; clear hb4) | go_in))
     all_goals go_roundw
     all_goals first | (case rel => exact ⟨2, s ++ rfour r1, _, by omega, by first | rfl | trivial, rfl, by first | rfl | trivial, by have h := step_all Hm.out rfl Hq.out; simpa only [Bool.true_and, Bool.false_and] using h, by rw [Hs.out]; simp, then_below HBw.out HB4.out, (HB4.out.block _ (lt_of_block Hbx.out)).trans Hbx.out⟩) | skip
     all_goals simp [intOf]
    ·have l4 : (rfour r2).length = 4 := rfour_length _
     obtain ⟨u, hu⟩ : ∃ u, IntKind.u64.wrap r2 = u := ⟨_, rfl⟩
     have G := hid (fun W => rfour_any r2 u hu W)
     obtain ⟨q, hq⟩ : ∃ q, pageB r2 = q := ⟨_, rfl⟩
     have I := fun W => rin_any r2 W
     simp only [hq] at I
     replace I := hid I
     have Hq := hid hq
     clear hq
     cases m
     all_goals (go_wp2_with (first | (go_at_call 123; with_reducible refine (I.out _).mono ?_; rintro e w2 ⟨rfl, hw⟩; obtain rfl := hw.symm; clear I) | (go_at_call 66; refine (G.out _).mono ?_; rintro e w4 ⟨rfl, hb4⟩; have HB4 := hid hb4; clear hb4) | go_in))
     all_goals go_roundw
     all_goals first | (case rel => exact ⟨3, s ++ rfour r2, _, by omega, by first | rfl | trivial, rfl, by first | rfl | trivial, by have h := step_all Hm.out rfl Hq.out; simpa only [Bool.true_and, Bool.false_and] using h, by rw [Hs.out]; simp, then_below HBw.out HB4.out, (HB4.out.block _ (lt_of_block Hbx.out)).trans Hbx.out⟩) | skip
     all_goals simp [intOf]
    ·have l4 : (rfour r3).length = 4 := rfour_length _
     obtain ⟨u, hu⟩ : ∃ u, IntKind.u64.wrap r3 = u := ⟨_, rfl⟩
     have G := hid (fun W => rfour_any r3 u hu W)
     obtain ⟨q, hq⟩ : ∃ q, pageB r3 = q := ⟨_, rfl⟩
     have I := fun W => rin_any r3 W
     simp only [hq] at I
     replace I := hid I
     have Hq := hid hq
     clear hq
     cases m
     all_goals (go_wp2_with (first | (go_at_call 123; with_reducible refine (I.out _).mono ?_; rintro e w2 ⟨rfl, hw⟩; obtain rfl := hw.symm; clear I) | (go_at_call 66; refine (G.out _).mono ?_; rintro e w4 ⟨rfl, hb4⟩; have HB4 := hid hb4; clear hb4) | go_in))
     all_goals go_roundw
     all_goals first | (case rel => exact ⟨4, s ++ rfour r3, _, by omega, by first | rfl | trivial, rfl, by first | rfl | trivial, by have h := step_all Hm.out rfl Hq.out; simpa only [Bool.true_and, Bool.false_and] using h, by rw [Hs.out]; simp, then_below HBw.out HB4.out, (HB4.out.block _ (lt_of_block Hbx.out)).trans Hbx.out⟩) | skip
     all_goals simp [intOf]
    ·have l4 : (rfour r4).length = 4 := rfour_length _
     obtain ⟨u, hu⟩ : ∃ u, IntKind.u64.wrap r4 = u := ⟨_, rfl⟩
     have G := hid (fun W => rfour_any r4 u hu W)
     obtain ⟨q, hq⟩ : ∃ q, pageB r4 = q := ⟨_, rfl⟩
     have I := fun W => rin_any r4 W
     simp only [hq] at I
     replace I := hid I
     have Hq := hid hq
     clear hq
     cases m
     all_goals (go_wp2_with (first | (go_at_call 123; with_reducible refine (I.out _).mono ?_; rintro e w2 ⟨rfl, hw⟩; obtain rfl := hw.symm; clear I) | (go_at_call 66; refine (G.out _).mono ?_; rintro e w4 ⟨rfl, hb4⟩; have HB4 := hid hb4; clear hb4) | go_in))
     all_goals go_roundw
     all_goals first | (case rel => exact ⟨5, s ++ rfour r4, _, by omega, by first | rfl | trivial, rfl, by first | rfl | trivial, by have h := step_all Hm.out rfl Hq.out; simpa only [Bool.true_and, Bool.false_and] using h, by rw [Hs.out]; simp, then_below HBw.out HB4.out, (HB4.out.block _ (lt_of_block Hbx.out)).trans Hbx.out⟩) | skip
     all_goals simp [intOf]
    ·have l4 : (rfour r5).length = 4 := rfour_length _
     obtain ⟨u, hu⟩ : ∃ u, IntKind.u64.wrap r5 = u := ⟨_, rfl⟩
     have G := hid (fun W => rfour_any r5 u hu W)
     obtain ⟨q, hq⟩ : ∃ q, pageB r5 = q := ⟨_, rfl⟩
     have I := fun W => rin_any r5 W
     simp only [hq] at I
     replace I := hid I
     have Hq := hid hq
     clear hq
     cases m
     all_goals (go_wp2_with (first | (go_at_call 123; with_reducible refine (I.out _).mono ?_; rintro e w2 ⟨rfl, hw⟩; obtain rfl := hw.symm; clear I) | (go_at_call 66; refine (G.out _).mono ?_; rintro e w4 ⟨rfl, hb4⟩; have HB4 := hid hb4; clear hb4) | go_in))
     all_goals go_roundw
     all_goals first | (case rel => exact ⟨6, s ++ rfour r5, _, by omega, by first | rfl | trivial, rfl, by first | rfl | trivial, by have h := step_all Hm.out rfl Hq.out; simpa only [Bool.true_and, Bool.false_and] using h, by rw [Hs.out]; simp, then_below HBw.out HB4.out, (HB4.out.block _ (lt_of_block Hbx.out)).trans Hbx.out⟩) | skip
     all_goals simp [intOf]
    ·have l4 : (rfour r6).length = 4 := rfour_length _
     obtain ⟨u, hu⟩ : ∃ u, IntKind.u64.wrap r6 = u := ⟨_, rfl⟩
     have G := hid (fun W => rfour_any r6 u hu W)
     obtain ⟨q, hq⟩ : ∃ q, pageB r6 = q := ⟨_, rfl⟩
     have I := fun W => rin_any r6 W
     simp only [hq] at I
     replace I := hid I
     have Hq := hid hq
     clear hq
     cases m
     all_goals (go_wp2_with (first | (go_at_call 123; with_reducible refine (I.out _).mono ?_; rintro e w2 ⟨rfl, hw⟩; obtain rfl := hw.symm; clear I) | (go_at_call 66; refine (G.out _).mono ?_; rintro e w4 ⟨rfl, hb4⟩; have HB4 := hid hb4; clear hb4) | go_in))
     all_goals go_roundw
     all_goals first | (case rel => exact ⟨7, s ++ rfour r6, _, by omega, by first | rfl | trivial, rfl, by first | rfl | trivial, by have h := step_all Hm.out rfl Hq.out; simpa only [Bool.true_and, Bool.false_and] using h, by rw [Hs.out]; simp, then_below HBw.out HB4.out, (HB4.out.block _ (lt_of_block Hbx.out)).trans Hbx.out⟩) | skip
     all_goals simp [intOf]
    ·have l4 : (rfour r7).length = 4 := rfour_length _
     obtain ⟨u, hu⟩ : ∃ u, IntKind.u64.wrap r7 = u := ⟨_, rfl⟩
     have G := hid (fun W => rfour_any r7 u hu W)
     obtain ⟨q, hq⟩ : ∃ q, pageB r7 = q := ⟨_, rfl⟩
     have I := fun W => rin_any r7 W
     simp only [hq] at I
     replace I := hid I
     have Hq := hid hq
     clear hq
     cases m
     all_goals (go_wp2_with (first | (go_at_call 123; with_reducible refine (I.out _).mono ?_; rintro e w2 ⟨rfl, hw⟩; obtain rfl := hw.symm; clear I) | (go_at_call 66; refine (G.out _).mono ?_; rintro e w4 ⟨rfl, hb4⟩; have HB4 := hid hb4; clear hb4) | go_in))
     all_goals go_roundw
     all_goals first | (case rel => exact ⟨8, s ++ rfour r7, _, by omega, by first | rfl | trivial, rfl, by first | rfl | trivial, by have h := step_all Hm.out rfl Hq.out; simpa only [Bool.true_and, Bool.false_and] using h, by rw [Hs.out]; simp, then_below HBw.out HB4.out, (HB4.out.block _ (lt_of_block Hbx.out)).trans Hbx.out⟩) | skip
     all_goals simp [intOf]
   ·obtain rfl : i = 8 := by omega
    have hf := rin_final HR0.out rfl Hm.out Hs.out HT0.out
    have Hf := hid hf
    clear hf hi hlt c3 c4 c5 c6 c7 c8 c9 c10
    cases m
    ·go_wp2_with fail
     go_ret2
     rw [Hf.out]
     exact ⟨rfl, HBw.out⟩
    ·have hl56 : s.length = 56 := by omega
     obtain ⟨j, hi, hz, hsz, hbt⟩ := info_parts (P := Tryz.prog) (e := 5) (z := .int .u8 0) (size := 1) (bytes := 1) (by kernel_rfl)
     obtain ⟨w1, hmk, hown, hgr⟩ := run_make_full (P := Tryz.prog) wr wr.heap.size 117 5 j _ 1 Tryz.underlying117 hi hz hsz .i64 .i64 456 (by rw [hbt]; omega) (by unfold maxLen; omega) (Nat.le_refl _)
     have e : (madeCells (Value.int .u8 0).cells (456 * 1)).toList = cellsOf (List.replicate 456 0) := by
      show (madeCells #[.int .u8 0] 456).toList = _
      rw [toList_madeCells_one]
      simp [cellsOf]
     rw [e] at hown
     have hconv := run_convert_own (P := Tryz.prog) w1 117 9 5 Tryz.underlying117 Tryz.underlying5 Tryz.underlying9 wr.heap.size _ _ _ hown
     have hmk' : (Instr.makeSlice 117 (.int .i64 456) (.int .i64 456)).run Tryz.prog wr = .ok (.slice (some ⟨wr.heap.size, 0, none⟩) 456 456) w1 := hmk
     have hgb : Below wr.heap.size wr w1 := ⟨hgr.os, hgr.tape, hgr.output, hgr.size, fun k hk => hgr.block k hk (fun e => by cases e)⟩
     have HG := hid (then_below HBw.out hgb)
     have hsl2 : (s.length : Int) = 56 := by omega
     have hcat : ¬ (9223372036854775807 < s.length + 456) := by omega
     obtain ⟨zz, hzz⟩ : ∃ zz : List UInt8, zz = List.replicate 456 0 := ⟨_, rfl⟩
     have lz : zz.length = 456 := by rw [hzz]; simp
     rw [← hzz] at hconv
     have Hzz := hid hzz
     clear hmk hgr hown e hi hz hsz hbt hgb hzz hl56 hsl
     go_wp2_with fail
     go_ret2
     rw [Hf.out, ← Hzz.out]
     exact ⟨rfl, HG.out⟩)
end Go.Proofs.YtcpejlmnplkbaaaGreat
namespace Go.Proofs.YtcpejlmnplkbaaaGreat
open Go.RowKit Go.Maps
set_option maxRecDepth 20000
set_option maxHeartbeats 400000 in
theorem value_still (l : List UInt8) (w : World) (hl : l.length ≤ 8) :
  Calls Tryz.prog 63 #[.string (bs l)] w fun e w' => e = .returned (.int .u64 (num l)) ∧ w' = w := by
 go_enter Tryz.func63, Tryz.ntmps63
 go_wp2_with fail
 go_loopw [3, 4] (fun v3 v4 wr => ValueRel l w v3 v4 wr) (fun _ v4 _ => l.length - (intOf v4).toNat)
 case atStart => exact ⟨0, Nat.zero_le _, rfl, by simp [num_nil], rfl⟩
 case round =>
  obtain ⟨k, hk, rfl, rfl, rfl⟩ := hrel
  by_cases hlt : k < l.length
  ·have hstep : num (l.take (k + 1)) % 18446744073709551616 = ((256 * (num (l.take k) % 18446744073709551616)) % 18446744073709551616 + (l[k].toNat : Int)) % 18446744073709551616 := by
    rw [List.take_succ_eq_append_getElem hlt, num_snoc]; omega
   have hlo := u8_lo l[k]
   have hhi := u8_hi l[k]
   have Hstep := hid hstep
   clear hstep
   obtain ⟨q, hq⟩ : ∃ q, q = num (l.take k) % 18446744073709551616 := ⟨_, rfl⟩
   have hq0 : 0 ≤ q := by omega
   have hq1 : q < 18446744073709551616 := by omega
   rw [← hq] at Hstep ⊢
   clear hq
   go_wp2_with fail
   refine ⟨⟨k + 1, by omega, by go_num, ?_, rfl⟩, by simp [intOf]; omega⟩
   rw [Hstep.out, IntKind.wrap_u64, IntKind.wrap_u64]
  ·go_wp2_with fail
   go_ret
   obtain rfl : k = l.length := by omega
   have e : num l % 18446744073709551616 = num l := Int.emod_eq_of_lt (num_lo _) (by have h := num8_lt l; rw [List.take_of_length_le hl] at h; exact h.2)
   exact ⟨by simp [e], rfl⟩
theorem at4_still (s : List UInt8) (o : Nat) (w : World) : Calls Tryz.prog 63 #[.string (bs ((s.drop o).take 4))] w fun e w' => e = .returned (.int .u64 (at4 s o)) ∧ w' = w :=
 value_still _ w (by rw [List.length_take]; omega)
structure RkSt (w W : World) (s : List UInt8) (i : Nat) : Prop where
 res : W.heap[w.heap.size]? = some (.cells #[.int .i64 0, .int .i64 0, .int .u64 0, .int .i64 0, .int .i64 0, .int .i64 0, .int .i64 0, .int .i64 0, .int .i64 0, .int .i64 0, .int .i64 0] 143 (0, 0))
 bel : Below w.heap.size w W
 row : W.heap[w.heap.size + 1]? = some (.cells (hdrCells ⟨at4 s 8, at4 s 12, num ((s.drop 16).take 8), rootsTo s i⟩).toArray 143 (0, 0))
theorem rk_start {w W : World} {s : List UInt8} (h1 : W.heap[w.heap.size]? = some (.cells #[.int .i64 0, .int .i64 0, .int .u64 0, .int .i64 0, .int .i64 0, .int .i64 0, .int .i64 0, .int .i64 0, .int .i64 0, .int .i64 0, .int .i64 0] 143 (0, 0))) (h2 : W.heap[w.heap.size + 1]? = some (.cells #[.int .i64 (at4 s 8), .int .i64 (at4 s 12), .int .u64 (num ((s.drop 16).take 8)), .int .i64 0, .int .i64 0, .int .i64 0, .int .i64 0, .int .i64 0, .int .i64 0, .int .i64 0, .int .i64 0] 143 (0, 0))) (h3 : Below w.heap.size w W) : RkSt w W.drew s 0 :=
 ⟨h1, ⟨h3.os, h3.tape, h3.output, h3.size, h3.block⟩, h2⟩
set_option maxHeartbeats 8000000 in
set_option maxRecDepth 20000 in
theorem rtake_short (s : List UInt8) (h : s.length ≠ 512) (hs : s.length ≤ 9223372036854775807) (w : World) : Calls Tryz.prog 73 #[.string (bs s)] w fun e w' => e = .returned (.tuple #[hdrV hdr0, .int .i64 7]) ∧ Below w.heap.size w w' := by
 have h1 : ((s.length : Int) != 512) = true := by simp; omega
 have hz := heap_alloc_new w (.cells #[.int .i64 0, .int .i64 0, .int .u64 0, .int .i64 0, .int .i64 0, .int .i64 0, .int .i64 0, .int .i64 0, .int .i64 0, .int .i64 0, .int .i64 0] 143)
 obtain ⟨⟨z0, z1, z2⟩, ⟨z3, z4, z5, z6, z7, z8, z9, z10⟩, zf⟩ := cells11 hz
 have hb := (Below.refl w.heap.size w).alloc (Nat.le_refl _) (.cells #[.int .i64 0, .int .i64 0, .int .u64 0, .int .i64 0, .int .i64 0, .int .i64 0, .int .i64 0, .int .i64 0, .int .i64 0, .int .i64 0, .int .i64 0] 143)
 have HB := hid hb
 clear hb hz h
 go_enter Tryz.func73, Tryz.ntmps73
 go_wp2_with fail
 refine bodyPost_ret (v := .tuple #[hdrV hdr0, .int .i64 7]) (by simp [results, Tryz.results73, go_sem, hdrV, hdrCells, hdr0]) rfl ⟨rfl, ?_⟩
 exact HB.out
set_option maxHeartbeats 8000000 in
set_option maxRecDepth 20000 in
theorem rtake_512 (s : List UInt8) (hl : s.length = 512) (w : World) : Calls Tryz.prog 73 #[.string (bs s)] w fun e w' => e = .returned (.tuple #[hdrV (takeH s).1, .int .i64 (takeH s).2]) ∧ Below w.heap.size w w' := by
 have hl2 : (s.length : Int) = 512 := by omega
 have V1 := hid (fun W => at4_still s 8 W)
 have V2 := hid (fun W => at4_still s 12 W)
 have V3 := hid (fun W => value_still ((s.drop 16).take 8) W (by rw [List.length_take]; omega))
 have a8 := at4_range s 8
 have a12 := at4_range s 12
 have w8 : IntKind.i64.wrap (at4 s 8) = at4 s 8 := IntWalk.i64_in _ (by omega)
 have w12 : IntKind.i64.wrap (at4 s 12) = at4 s 12 := IntWalk.i64_in _ (by omega)
 clear a8 a12
 obtain ⟨R, hRT⟩ : ∃ R, R = takeH s := ⟨_, rfl⟩
 rw [← hRT]
 have HRT := hid hRT
 clear hRT
 go_enter Tryz.func73, Tryz.ntmps73
 go_upto_region 3 with fail
 refine wp_region_held_drew (S := fun W => True) (by kernel_rfl) trivial (fun hHeld => ?_)
 refine ht 0 hHeld ?_
 refine ht 1 hHeld ?_
 refine ht 4 hHeld ?_
 refine ht 5 hHeld ?_
 refine ht 8 hHeld ?_
 refine ht 9 hHeld ?_
 refine held_both 2 12 (by kernel_rfl) rfl rfl (fun K hK => ?_) (fun K hK => ?_)
 go_simp
 refine (V1.out _).mono ?_
 rintro e wv ⟨rfl, hwv⟩
 obtain rfl := hwv.symm
 try dsimp only
 refine hK.out _ _ (trivial) (fun hHeld => ?_)
 clear hK K
 try simp only [Act.put, zl0, zl1, zl2]
 refine ht 3 hHeld ?_
 refine held_both 6 12 (by kernel_rfl) rfl rfl (fun K hK => ?_) (fun K hK => ?_)
 go_simp
 refine (V2.out _).mono ?_
 rintro e wv ⟨rfl, hwv⟩
 obtain rfl := hwv.symm
 try dsimp only
 refine hK.out _ _ (trivial) (fun hHeld => ?_)
 clear hK K
 try simp only [Act.put, zl0, zl1, zl2]
 refine ht 7 hHeld ?_
 refine held_both 10 12 (by kernel_rfl) rfl rfl (fun K hK => ?_) (fun K hK => ?_)
 go_simp
 refine (V3.out _).mono ?_
 rintro e wv ⟨rfl, hwv⟩
 obtain rfl := hwv.symm
 try dsimp only
 refine hK.out _ _ (trivial) (fun hHeld => ?_)
 clear hK K
 try simp only [Act.put, zl0, zl1, zl2]
 refine ht 11 hHeld ?_
 refine held_one 12 (by kernel_rfl) rfl (fun K hK => ?_)
 go_simp
 refine hK.out _ _ (trivial) (fun hHeld => ?_)
 clear hK K
 try simp only [Act.put, zl0, zl1, zl2]
 refine held_one 13 (by kernel_rfl) rfl (fun K hK => ?_)
 go_simp
 refine hK.out _ _ (trivial) (fun hHeld => ?_)
 clear hK K
 try simp only [Act.put, zl0, zl1, zl2]
 refine wpAnyH_done (by kernel_rfl) ?_ _
 rotate_left
 go_simp
 refine hK.out _ _ (trivial) (fun hHeld => ?_)
 clear hK K
 try simp only [Act.put, zl0, zl1, zl2]
 refine held_one 10 (by kernel_rfl) rfl (fun K hK => ?_)
 go_simp
 refine (V3.out _).mono ?_
 rintro e wv ⟨rfl, hwv⟩
 obtain rfl := hwv.symm
 try dsimp only
 refine hK.out _ _ (trivial) (fun hHeld => ?_)
 clear hK K
 try simp only [Act.put, zl0, zl1, zl2]
 refine ht 11 hHeld ?_
 refine held_one 13 (by kernel_rfl) rfl (fun K hK => ?_)
 go_simp
 refine hK.out _ _ (trivial) (fun hHeld => ?_)
 clear hK K
 try simp only [Act.put, zl0, zl1, zl2]
 refine wpAnyH_done (by kernel_rfl) ?_ _
 rotate_left
 go_simp
 refine hK.out _ _ (trivial) (fun hHeld => ?_)
 clear hK K
 try simp only [Act.put, zl0, zl1, zl2]
 refine held_one 6 (by kernel_rfl) rfl (fun K hK => ?_)
 go_simp
 refine (V2.out _).mono ?_
 rintro e wv ⟨rfl, hwv⟩
 obtain rfl := hwv.symm
 try dsimp only
 refine hK.out _ _ (trivial) (fun hHeld => ?_)
 clear hK K
 try simp only [Act.put, zl0, zl1, zl2]
 refine ht 7 hHeld ?_
 refine held_one 10 (by kernel_rfl) rfl (fun K hK => ?_)
 go_simp
 refine (V3.out _).mono ?_
 rintro e wv ⟨rfl, hwv⟩
 obtain rfl := hwv.symm
 try dsimp only
 refine hK.out _ _ (trivial) (fun hHeld => ?_)
 clear hK K
 try simp only [Act.put, zl0, zl1, zl2]
 refine ht 11 hHeld ?_
 refine held_one 13 (by kernel_rfl) rfl (fun K hK => ?_)
 go_simp
 refine hK.out _ _ (trivial) (fun hHeld => ?_)
 clear hK K
 try simp only [Act.put, zl0, zl1, zl2]
 refine wpAnyH_done (by kernel_rfl) ?_ _
 rotate_left
 go_simp
 refine hK.out _ _ (trivial) (fun hHeld => ?_)
 clear hK K
 try simp only [Act.put, zl0, zl1, zl2]
 refine held_one 2 (by kernel_rfl) rfl (fun K hK => ?_)
 go_simp
 refine (V1.out _).mono ?_
 rintro e wv ⟨rfl, hwv⟩
 obtain rfl := hwv.symm
 try dsimp only
 refine hK.out _ _ (trivial) (fun hHeld => ?_)
 clear hK K
 try simp only [Act.put, zl0, zl1, zl2]
 refine ht 3 hHeld ?_
 refine held_one 6 (by kernel_rfl) rfl (fun K hK => ?_)
 go_simp
 refine (V2.out _).mono ?_
 rintro e wv ⟨rfl, hwv⟩
 obtain rfl := hwv.symm
 try dsimp only
 refine hK.out _ _ (trivial) (fun hHeld => ?_)
 clear hK K
 try simp only [Act.put, zl0, zl1, zl2]
 refine ht 7 hHeld ?_
 refine held_one 10 (by kernel_rfl) rfl (fun K hK => ?_)
 go_simp
 refine (V3.out _).mono ?_
 rintro e wv ⟨rfl, hwv⟩
 obtain rfl := hwv.symm
 try dsimp only
 refine hK.out _ _ (trivial) (fun hHeld => ?_)
 clear hK K
 try simp only [Act.put, zl0, zl1, zl2]
 refine ht 11 hHeld ?_
 refine held_one 13 (by kernel_rfl) rfl (fun K hK => ?_)
 go_simp
 refine hK.out _ _ (trivial) (fun hHeld => ?_)
 clear hK K
 try simp only [Act.put, zl0, zl1, zl2]
 refine wpAnyH_done (by kernel_rfl) ?_ _
 rotate_left
 all_goals clear V1 V2 V3 w8 w12 hHeld
 all_goals (go_wp2_with fail)
 all_goals (
  have hbz := heap_two_old w (.cells #[.int .i64 0, .int .i64 0, .int .u64 0, .int .i64 0, .int .i64 0, .int .i64 0, .int .i64 0, .int .i64 0, .int .i64 0, .int .i64 0, .int .i64 0] 143) (.cells #[.int .i64 (at4 s 8), .int .i64 (at4 s 12), .int .u64 (num ((s.drop 16).take 8)), .int .i64 0, .int .i64 0, .int .i64 0, .int .i64 0, .int .i64 0, .int .i64 0, .int .i64 0, .int .i64 0] 143)
  have hbn := heap_two_new w (.cells #[.int .i64 0, .int .i64 0, .int .u64 0, .int .i64 0, .int .i64 0, .int .i64 0, .int .i64 0, .int .i64 0, .int .i64 0, .int .i64 0, .int .i64 0] 143) (.cells #[.int .i64 (at4 s 8), .int .i64 (at4 s 12), .int .u64 (num ((s.drop 16).take 8)), .int .i64 0, .int .i64 0, .int .i64 0, .int .i64 0, .int .i64 0, .int .i64 0, .int .i64 0, .int .i64 0] 143)
  have hbb := ((Below.refl w.heap.size w).alloc (Nat.le_refl _) (.cells #[.int .i64 0, .int .i64 0, .int .u64 0, .int .i64 0, .int .i64 0, .int .i64 0, .int .i64 0, .int .i64 0, .int .i64 0, .int .i64 0, .int .i64 0] 143)).alloc (by simp) (.cells #[.int .i64 (at4 s 8), .int .i64 (at4 s 12), .int .u64 (num ((s.drop 16).take 8)), .int .i64 0, .int .i64 0, .int .i64 0, .int .i64 0, .int .i64 0, .int .i64 0, .int .i64 0, .int .i64 0] 143)
  have hst := rk_start hbz hbn hbb
  have Hst0 := hid hst
  clear hbz hbn hbb hst
  go_loopw [5] (fun v5 wr => ∃ i : Nat, i ≤ 8 ∧ v5 = .int .i64 (i : Int) ∧ RkSt w wr s i) (fun v5 _ => 8 - (intOf v5).toNat)
  case atStart => exact ⟨0, by omega, rfl, Hst0.out⟩
  case round =>
   obtain ⟨i, hi, rfl, hst⟩ := hrel
   have Hst := hid hst
   have Hrow := hid hst.row
   clear hst Hst0
   by_cases hlt : i < 8
   ·have hi8 : i = 0 ∨ i = 1 ∨ i = 2 ∨ i = 3 ∨ i = 4 ∨ i = 5 ∨ i = 6 ∨ i = 7 := by omega
    clear hi hlt
    rcases hi8 with rfl | rfl | rfl | rfl | rfl | rfl | rfl | rfl
    ·have V := hid (fun W => at4_still s 24 W)
     have wx : IntKind.i64.wrap (at4 s 24) = at4 s 24 := IntWalk.i64_in _ (by have := at4_range s 24; omega)
     have c9 : wr.cell? ⟨w.heap.size + 1, 3, none⟩ = some (.int .i64 0) := (cell_of_block Hrow.out 3).trans rfl
     have f9 := free_of_block Hrow.out 3
     go_wp2_with (first | (go_at_call 63; refine (V.out _).mono ?_; rintro e w9 ⟨rfl, hw⟩; obtain rfl := hw.symm) | go_in)
     go_roundw
     case rel => exact ⟨1, by omega, by first | rfl | trivial, ⟨(Below.heap_setCell _ ⟨w.heap.size + 1, 3, none⟩ _ w.heap.size (by show w.heap.size ≠ w.heap.size + 1; omega)).trans Hst.out.res, Hst.out.bel.setCell (by show w.heap.size ≤ w.heap.size + 1; omega) _, (heap_setCell_same Hrow.out 3 _).trans rfl⟩⟩
     case measure => simp [intOf]
    ·have V := hid (fun W => at4_still s 28 W)
     have wx : IntKind.i64.wrap (at4 s 28) = at4 s 28 := IntWalk.i64_in _ (by have := at4_range s 28; omega)
     have c9 : wr.cell? ⟨w.heap.size + 1, 4, none⟩ = some (.int .i64 0) := (cell_of_block Hrow.out 4).trans rfl
     have f9 := free_of_block Hrow.out 4
     go_wp2_with (first | (go_at_call 63; refine (V.out _).mono ?_; rintro e w9 ⟨rfl, hw⟩; obtain rfl := hw.symm) | go_in)
     go_roundw
     case rel => exact ⟨2, by omega, by first | rfl | trivial, ⟨(Below.heap_setCell _ ⟨w.heap.size + 1, 4, none⟩ _ w.heap.size (by show w.heap.size ≠ w.heap.size + 1; omega)).trans Hst.out.res, Hst.out.bel.setCell (by show w.heap.size ≤ w.heap.size + 1; omega) _, (heap_setCell_same Hrow.out 4 _).trans rfl⟩⟩
     case measure => simp [intOf]
    ·have V := hid (fun W => at4_still s 32 W)
     have wx : IntKind.i64.wrap (at4 s 32) = at4 s 32 := IntWalk.i64_in _ (by have := at4_range s 32; omega)
     have c9 : wr.cell? ⟨w.heap.size + 1, 5, none⟩ = some (.int .i64 0) := (cell_of_block Hrow.out 5).trans rfl
     have f9 := free_of_block Hrow.out 5
     go_wp2_with (first | (go_at_call 63; refine (V.out _).mono ?_; rintro e w9 ⟨rfl, hw⟩; obtain rfl := hw.symm) | go_in)
     go_roundw
     case rel => exact ⟨3, by omega, by first | rfl | trivial, ⟨(Below.heap_setCell _ ⟨w.heap.size + 1, 5, none⟩ _ w.heap.size (by show w.heap.size ≠ w.heap.size + 1; omega)).trans Hst.out.res, Hst.out.bel.setCell (by show w.heap.size ≤ w.heap.size + 1; omega) _, (heap_setCell_same Hrow.out 5 _).trans rfl⟩⟩
     case measure => simp [intOf]
    ·have V := hid (fun W => at4_still s 36 W)
     have wx : IntKind.i64.wrap (at4 s 36) = at4 s 36 := IntWalk.i64_in _ (by have := at4_range s 36; omega)
     have c9 : wr.cell? ⟨w.heap.size + 1, 6, none⟩ = some (.int .i64 0) := (cell_of_block Hrow.out 6).trans rfl
     have f9 := free_of_block Hrow.out 6
     go_wp2_with (first | (go_at_call 63; refine (V.out _).mono ?_; rintro e w9 ⟨rfl, hw⟩; obtain rfl := hw.symm) | go_in)
     go_roundw
     case rel => exact ⟨4, by omega, by first | rfl | trivial, ⟨(Below.heap_setCell _ ⟨w.heap.size + 1, 6, none⟩ _ w.heap.size (by show w.heap.size ≠ w.heap.size + 1; omega)).trans Hst.out.res, Hst.out.bel.setCell (by show w.heap.size ≤ w.heap.size + 1; omega) _, (heap_setCell_same Hrow.out 6 _).trans rfl⟩⟩
     case measure => simp [intOf]
    ·have V := hid (fun W => at4_still s 40 W)
     have wx : IntKind.i64.wrap (at4 s 40) = at4 s 40 := IntWalk.i64_in _ (by have := at4_range s 40; omega)
     have c9 : wr.cell? ⟨w.heap.size + 1, 7, none⟩ = some (.int .i64 0) := (cell_of_block Hrow.out 7).trans rfl
     have f9 := free_of_block Hrow.out 7
     go_wp2_with (first | (go_at_call 63; refine (V.out _).mono ?_; rintro e w9 ⟨rfl, hw⟩; obtain rfl := hw.symm) | go_in)
     go_roundw
     case rel => exact ⟨5, by omega, by first | rfl | trivial, ⟨(Below.heap_setCell _ ⟨w.heap.size + 1, 7, none⟩ _ w.heap.size (by show w.heap.size ≠ w.heap.size + 1; omega)).trans Hst.out.res, Hst.out.bel.setCell (by show w.heap.size ≤ w.heap.size + 1; omega) _, (heap_setCell_same Hrow.out 7 _).trans rfl⟩⟩
     case measure => simp [intOf]
    ·have V := hid (fun W => at4_still s 44 W)
     have wx : IntKind.i64.wrap (at4 s 44) = at4 s 44 := IntWalk.i64_in _ (by have := at4_range s 44; omega)
     have c9 : wr.cell? ⟨w.heap.size + 1, 8, none⟩ = some (.int .i64 0) := (cell_of_block Hrow.out 8).trans rfl
     have f9 := free_of_block Hrow.out 8
     go_wp2_with (first | (go_at_call 63; refine (V.out _).mono ?_; rintro e w9 ⟨rfl, hw⟩; obtain rfl := hw.symm) | go_in)
     go_roundw
     case rel => exact ⟨6, by omega, by first | rfl | trivial, ⟨(Below.heap_setCell _ ⟨w.heap.size + 1, 8, none⟩ _ w.heap.size (by show w.heap.size ≠ w.heap.size + 1; omega)).trans Hst.out.res, Hst.out.bel.setCell (by show w.heap.size ≤ w.heap.size + 1; omega) _, (heap_setCell_same Hrow.out 8 _).trans rfl⟩⟩
     case measure => simp [intOf]
    ·have V := hid (fun W => at4_still s 48 W)
     have wx : IntKind.i64.wrap (at4 s 48) = at4 s 48 := IntWalk.i64_in _ (by have := at4_range s 48; omega)
     have c9 : wr.cell? ⟨w.heap.size + 1, 9, none⟩ = some (.int .i64 0) := (cell_of_block Hrow.out 9).trans rfl
     have f9 := free_of_block Hrow.out 9
     go_wp2_with (first | (go_at_call 63; refine (V.out _).mono ?_; rintro e w9 ⟨rfl, hw⟩; obtain rfl := hw.symm) | go_in)
     go_roundw
     case rel => exact ⟨7, by omega, by first | rfl | trivial, ⟨(Below.heap_setCell _ ⟨w.heap.size + 1, 9, none⟩ _ w.heap.size (by show w.heap.size ≠ w.heap.size + 1; omega)).trans Hst.out.res, Hst.out.bel.setCell (by show w.heap.size ≤ w.heap.size + 1; omega) _, (heap_setCell_same Hrow.out 9 _).trans rfl⟩⟩
     case measure => simp [intOf]
    ·have V := hid (fun W => at4_still s 52 W)
     have wx : IntKind.i64.wrap (at4 s 52) = at4 s 52 := IntWalk.i64_in _ (by have := at4_range s 52; omega)
     have c9 : wr.cell? ⟨w.heap.size + 1, 10, none⟩ = some (.int .i64 0) := (cell_of_block Hrow.out 10).trans rfl
     have f9 := free_of_block Hrow.out 10
     go_wp2_with (first | (go_at_call 63; refine (V.out _).mono ?_; rintro e w9 ⟨rfl, hw⟩; obtain rfl := hw.symm) | go_in)
     go_roundw
     case rel => exact ⟨8, by omega, by first | rfl | trivial, ⟨(Below.heap_setCell _ ⟨w.heap.size + 1, 10, none⟩ _ w.heap.size (by show w.heap.size ≠ w.heap.size + 1; omega)).trans Hst.out.res, Hst.out.bel.setCell (by show w.heap.size ≤ w.heap.size + 1; omega) _, (heap_setCell_same Hrow.out 10 _).trans rfl⟩⟩
     case measure => simp [intOf]
   ·obtain rfl : i = 8 := by omega
    have hr8 := Hrow.out
    have hH : (⟨at4 s 8, at4 s 12, num ((s.drop 16).take 8), rootsTo s 8⟩ : Hdr) = hdrOf s := by rw [rootsTo_all]; rfl
    rw [hH] at hr8
    have SP := fun W => rput_any (hdrOf s) (hdrOf_wf s) W
    have hT : takeH s = if putH (hdrOf s) = (s, 0) then (hdrOf s, 0) else (hdr0, 7) := by unfold takeH; rw [if_neg (by rw [hl]; simp)]
    obtain ⟨P, hP⟩ : ∃ P, P = putH (hdrOf s) := ⟨_, rfl⟩
    simp only [← hP] at SP hT
    obtain ⟨HH, hHH⟩ : ∃ HH, HH = hdrOf s := ⟨_, rfl⟩
    rw [← hHH] at hr8 hT
    simp only [← hHH] at SP
    have hHl : HH.roots.length = 8 := by rw [hHH]; exact (hdrOf_wf s).len
    clear hH hHH hP Hrow hl hl2
    obtain ⟨f', c', k', r0, r1, r2, r3, r4, r5, r6, r7, rfl⟩ := hdr_form hHl
    have hR2 := HRT.out.trans hT
    unfold hdrV hdrCells at SP
    unfold hdrCells at hr8
    simp only [List.map_cons, List.map_nil] at SP hr8
    replace SP := hid SP
    obtain ⟨⟨d0, d1, d2⟩, ⟨d3, d4, d5, d6, d7, d8, d9, d10⟩, df⟩ := cells11 hr8
    have Hr8 := hid hr8
    have Hst8 := hid Hst.out
    clear hT hHl hr8 hi
    obtain ⟨t, E⟩ := P
    dsimp only at SP
    by_cases he : E = 0
    rotate_left
    ·have b1 : (E != 0) = true := by simp [he]
     rw [if_neg (fun e => he (Prod.mk.inj e).2)] at hR2
     have HR2 := hid hR2
     clear he hR2
     go_wp2_with (first
      | (go_at_call 103; refine (SP.out _).mono ?_; rintro e w12 ⟨rfl, hb12⟩; have hr12 := (hb12.block _ (lt_of_block Hr8.out)).trans Hr8.out; have hz12 := (hb12.block _ (lt_of_block Hst8.out.res)).trans Hst8.out.res; have HB12 := hid (Hst8.out.bel.trans (hb12.mono Hst8.out.bel.size)); clear d0 d1 d2 d3 d4 d5 d6 d7 d8 d9 d10 df; obtain ⟨⟨d0, d1, d2⟩, ⟨d3, d4, d5, d6, d7, d8, d9, d10⟩, df⟩ := cells11 hr12; obtain ⟨⟨z0, z1, z2⟩, ⟨z3, z4, z5, z6, z7, z8, z9, z10⟩, zf⟩ := cells11 hz12; clear hr12 hz12 hb12)
      | go_in)
     rw [HR2.out]
     refine bodyPost_ret (v := .tuple #[hdrV hdr0, .int .i64 7]) (by simp [results, Tryz.results73, go_sem, hdrV, hdrCells, hdr0, z0, z1, z2, z3, z4, z5, z6, z7, z8, z9, z10, zf]) rfl ⟨rfl, ?_⟩
     iterate 11 refine Below.setCell ?_ (by simp) _
     exact HB12.out
    have b1 : (E != 0) = false := by simp [he]
    by_cases ht : t = s
    ·have b2 : (t != s) = false := by simp [ht]
     have b3 : (t == s) = true := by simp [ht]
     rw [if_pos (by rw [ht, he])] at hR2
     have HR2 := hid hR2
     clear he ht hR2
     go_wp2_with (first
      | (go_at_call 103; refine (SP.out _).mono ?_; rintro e w12 ⟨rfl, hb12⟩; have hr12 := (hb12.block _ (lt_of_block Hr8.out)).trans Hr8.out; have hz12 := (hb12.block _ (lt_of_block Hst8.out.res)).trans Hst8.out.res; have HB12 := hid (Hst8.out.bel.trans (hb12.mono Hst8.out.bel.size)); clear d0 d1 d2 d3 d4 d5 d6 d7 d8 d9 d10 df; obtain ⟨⟨d0, d1, d2⟩, ⟨d3, d4, d5, d6, d7, d8, d9, d10⟩, df⟩ := cells11 hr12; obtain ⟨⟨z0, z1, z2⟩, ⟨z3, z4, z5, z6, z7, z8, z9, z10⟩, zf⟩ := cells11 hz12; clear hr12 hz12 hb12)
      | go_in)
     rw [HR2.out]
     refine bodyPost_ret (v := .tuple #[.agg #[.int .i64 f', .int .i64 c', .int .u64 k', .int .i64 r0, .int .i64 r1, .int .i64 r2, .int .i64 r3, .int .i64 r4, .int .i64 r5, .int .i64 r6, .int .i64 r7], .int .i64 0]) (by simp [results, Tryz.results73, go_sem, z0, z1, z2, z3, z4, z5, z6, z7, z8, z9, z10, zf]) rfl ⟨rfl, ?_⟩
     iterate 11 refine Below.setCell ?_ (by simp) _
     exact HB12.out
    ·have b2 : (t != s) = true := by simp [ht]
     have b3 : (t == s) = false := by simp [ht]
     rw [if_neg (fun e => ht (Prod.mk.inj e).1)] at hR2
     have HR2 := hid hR2
     clear he ht hR2
     go_wp2_with (first
      | (go_at_call 103; refine (SP.out _).mono ?_; rintro e w12 ⟨rfl, hb12⟩; have hr12 := (hb12.block _ (lt_of_block Hr8.out)).trans Hr8.out; have hz12 := (hb12.block _ (lt_of_block Hst8.out.res)).trans Hst8.out.res; have HB12 := hid (Hst8.out.bel.trans (hb12.mono Hst8.out.bel.size)); clear d0 d1 d2 d3 d4 d5 d6 d7 d8 d9 d10 df; obtain ⟨⟨d0, d1, d2⟩, ⟨d3, d4, d5, d6, d7, d8, d9, d10⟩, df⟩ := cells11 hr12; obtain ⟨⟨z0, z1, z2⟩, ⟨z3, z4, z5, z6, z7, z8, z9, z10⟩, zf⟩ := cells11 hz12; clear hr12 hz12 hb12)
      | go_in)
     rw [HR2.out]
     refine bodyPost_ret (v := .tuple #[hdrV hdr0, .int .i64 7]) (by simp [results, Tryz.results73, go_sem, hdrV, hdrCells, hdr0, z0, z1, z2, z3, z4, z5, z6, z7, z8, z9, z10, zf]) rfl ⟨rfl, ?_⟩
     iterate 11 refine Below.setCell ?_ (by simp) _
     exact HB12.out)
theorem rtake_any (s : List UInt8) (hs : s.length ≤ 9223372036854775807) (w : World) : Calls Tryz.prog 73 #[.string (bs s)] w fun e w' => e = .returned (.tuple #[hdrV (takeH s).1, .int .i64 (takeH s).2]) ∧ Below w.heap.size w w' := by
 by_cases h : s.length = 512
 ·exact rtake_512 s h w
 ·have := rtake_short s h hs w
  unfold takeH
  rw [if_pos h]
  exact this
end Go.Proofs.YtcpejlmnplkbaaaGreat
