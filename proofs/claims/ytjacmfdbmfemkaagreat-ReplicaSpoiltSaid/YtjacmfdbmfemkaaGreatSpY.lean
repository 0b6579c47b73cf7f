import Derived.Test.YtjacmfdbmfemkaaGreatPlain
import Derived.StillTailTactics
import Derived.Test.YtjacmfdbmfemkaaGreatSpE
set_option linter.unusedVariables false
set_option linter.unusedSimpArgs false
namespace Go.Proofs.YtjacmfdbmfemkaaGreat
open Go.RowKit
set_option maxRecDepth 20000
def fixedL (n : Int) : Nat → List UInt8
 | 0 => []
 | k + 1 => byt (n / 256 ^ k % 256) :: fixedL n k
theorem u8_int (n : Int) (h0 : 0 ≤ n) (h1 : n < 256) : ((byt n).toNat : Int) = n := by
 simp [byt]; omega
theorem info_u8 : (Tryz.prog.info? 5).map (fun i => (i.zero, i.size, i.bytes)) = some (some (.int .u8 0), 1, 1) := by kernel_rfl
theorem fixedL_succ (n : Int) (k : Nat) : fixedL n (k + 1) = byt (n / 256 ^ k % 256) :: fixedL n k := rfl
theorem fixedL_zero (n : Int) : fixedL n 0 = [] := rfl
attribute [irreducible] fixedL
def FixedRel (N : Int) (many : Nat) (w : World) (v0 v5 : Value) (wr : World) : Prop :=
 ∃ k : Nat, k ≤ many ∧ v0 = .int .u64 (N / 256 ^ k) ∧ wr.ownsRow w.heap.size 5 1 v5 k (cellsOf (fixedL N k)) ∧ Below w.heap.size w wr
theorem div_pow_bd (n : Int) (k : Nat) (h0 : 0 ≤ n) (h1 : n < 18446744073709551616) : 0 ≤ n / 256 ^ k ∧ n / 256 ^ k < 18446744073709551616 := by
 have hp : (0 : Int) < 256 ^ k := Int.pow_pos (by decide)
 refine ⟨Int.ediv_nonneg h0 (Int.le_of_lt hp), ?_⟩
 have := Int.ediv_le_self (b := 256 ^ k) h0
 omega
set_option maxHeartbeats 1000000 in
theorem fixed_any (n : Int) (many : Nat) (w : World) (h0 : 0 ≤ n) (h1 : n < 18446744073709551616) (hm : many ≤ 8) :
  Calls Tryz.prog 101 #[.int .u64 n, .int .i64 many] w fun e w' => e = .returned (.string (bs (fixedL n many))) ∧ Below w.heap.size w w' := by
 obtain ⟨i0, hi, hz0, hz1, hz2⟩ := info_parts info_u8
 go_enter Tryz.func101, Tryz.ntmps101
 go_wp2_with fail
 go_loopw [0, 5] (fun v0 v5 wr => FixedRel n many w v0 v5 wr) (fun _ v5 _ => many - sliceLen v5)
 case atStart => exact ⟨0, Nat.zero_le _, by simp, by rw [fixedL_zero]; exact World.ownsRow_nil _ _ _ _, Below.refl _ _⟩
 case round =>
  obtain ⟨k, hk, rfl, hown, hb⟩ := hrel
  have hfin := run_convert_own (P := Tryz.prog) wr 99 9 5 Tryz.underlying99 Tryz.underlying5 Tryz.underlying9 _ _ _ _ hown
  obtain ⟨q, hq⟩ : ∃ q, q = n / 256 ^ k := ⟨_, rfl⟩
  have hqb := div_pow_bd n k h0 h1
  rw [← hq] at hqb ⊢
  obtain ⟨hq0, hq1⟩ := hqb
  have hnext : q / 256 = n / 256 ^ (k + 1) := by rw [hq, Int.ediv_ediv_of_nonneg (Int.pow_nonneg (by decide)), Int.pow_succ]
  have hstep : fixedL n (k + 1) = byt (q % 256) :: fixedL n k := by rw [fixedL_succ, hq]
  have hcell : cellsOf (fixedL n (k + 1)) = [.int .u8 (q % 256)] ++ cellsOf (fixedL n k) := by
   rw [hstep]; simp [cellsOf, u8_int (q % 256) (by omega) (by omega)]
  have Hnext := hid hnext
  have Hcell := hid hcell
  clear hnext hstep hcell hq
  have Hown := hid hown
  rcases hown.2 with ⟨rfl, rfl⟩ | ⟨g, cap, cur, rfl, hbg, hg, hnc, hcm, hcs, htake⟩
  ·clear hown
   by_cases hlt : 0 < many
   ·clear hfin
    go_wp2_with fail
    refine ⟨⟨1, by omega, by rw [← Hnext.out], ?_, hb.alloc hb.size _⟩, by simp [sliceLen]; omega⟩
    rw [show (1 : Nat) = 0 + 1 from rfl, Hcell.out, fixedL_zero]
    exact ownsRow_full hb.size (heap_alloc_new _ _) rfl (by simp [maxLen])
   ·go_wp2_with fail
    go_ret
    obtain rfl : many = 0 := by omega
    exact ⟨rfl, hb⟩
  ·clear hown
   by_cases hlt : k < many
   ·clear hfin hg hcs htake
    go_wp2_with (at_builtin; refine wpList_append_rows rfl _ _ 99 rfl w.heap.size w.heap.size 5 i0 (.int .u8 0) 1 1 Tryz.underlying99 hi hz0 hz1 hz2 rfl (by decide) _ 1 [.int .u8 (q % 256)] rfl ?o1 _ k (cellsOf (fixedL n k)) rfl (Hown.out.alloc _) (cellsOf_one _) ?b1 ?b2 ?b3 ?_)
    case o1 => exact ownsRow_full hb.size (heap_alloc_new _ _) rfl (by simp [maxLen])
    case b1 => simp [maxLen]; omega
    case b2 => omega
    case b3 => simp; have := hb.size; omega
    intro v' w' hown' hgrow
    have hown2 : w'.ownsRow w.heap.size 5 1 v' (k + 1) (cellsOf (fixedL n (k + 1))) := by rw [Hcell.out, Nat.add_comm k 1]; exact hown'
    have hb' : Below w.heap.size w w' := (hb.alloc hb.size (.cells #[.int .u8 (q % 256)] 5)).grown hgrow (by simp; have := hb.size; omega) (by intro j hj; simp [Value.ownBlock] at hj; subst hj; exact hb.size)
    clear hgrow
    go_wp2_with fail
    refine ⟨⟨k + 1, by omega, by rw [← Hnext.out], hown2, hb'⟩, by rw [ownsRow_len hown2]; simp [sliceLen]; omega⟩
   ·go_wp2_with fail
    go_ret
    obtain rfl : many = k := by omega
    exact ⟨rfl, hb⟩
def wordTo (l : List UInt8) (p k : Nat) : Int := num (((l.drop p).take k) ++ List.replicate (k - ((l.drop p).take k).length) 0)
theorem wordTo_zero (l : List UInt8) (p : Nat) : wordTo l p 0 = 0 := by simp [wordTo, num_nil]
theorem wordTo_in (l : List UInt8) (p k : Nat) (h : p + k < l.length) : wordTo l p (k + 1) = 256 * wordTo l p k + (l[p + k].toNat : Int) := by
 unfold wordTo
 have h1 : (l.drop p).take (k + 1) = (l.drop p).take k ++ [l[p + k]] := by
  rw [List.take_succ_eq_append_getElem (by simp; omega)]
  simp
 have h2 : k + 1 - ((l.drop p).take (k + 1)).length = 0 := by simp; omega
 have h3 : k - ((l.drop p).take k).length = 0 := by simp; omega
 rw [h2, h3, h1]
 simp only [List.replicate_zero, List.append_nil]
 rw [num_snoc]; omega
theorem wordTo_out (l : List UInt8) (p k : Nat) (h : ¬ p + k < l.length) : wordTo l p (k + 1) = 256 * wordTo l p k := by
 unfold wordTo
 have h1 : (l.drop p).take (k + 1) = (l.drop p).take k := by
  rw [List.take_of_length_le (by simp; omega), List.take_of_length_le (by simp; omega)]
 have h2 : k + 1 - ((l.drop p).take k).length = (k - ((l.drop p).take k).length) + 1 := by simp; omega
 rw [h1, h2, List.replicate_succ', ← List.append_assoc, num_snoc]
 simp; omega
theorem wordTo_lo (l : List UInt8) (p k : Nat) : 0 ≤ wordTo l p k := num_lo _
theorem wordTo_hi (l : List UInt8) (p k : Nat) (hk : k ≤ 4) : wordTo l p k < 4294967296 := by
 have h := num_hi (((l.drop p).take k) ++ List.replicate (k - ((l.drop p).take k).length) 0)
 have hlen : (((l.drop p).take k) ++ List.replicate (k - ((l.drop p).take k).length) (0 : UInt8)).length = k := by simp; omega
 rw [hlen] at h
 unfold wordTo
 match k, hk, h with
 | 0, _, h => omega
 | 1, _, h => omega
 | 2, _, h => omega
 | 3, _, h => omega
 | 4, _, h => omega
theorem wordTo_hi3 (l : List UInt8) (p k : Nat) (hk : k < 4) : wordTo l p k < 16777216 := by
 have h := num_hi (((l.drop p).take k) ++ List.replicate (k - ((l.drop p).take k).length) 0)
 have hlen : (((l.drop p).take k) ++ List.replicate (k - ((l.drop p).take k).length) (0 : UInt8)).length = k := by simp; omega
 rw [hlen] at h
 unfold wordTo
 match k, hk, h with
 | 0, _, h => omega
 | 1, _, h => omega
 | 2, _, h => omega
 | 3, _, h => omega
attribute [irreducible] wordTo
def WordRel (l : List UInt8) (p : Nat) (w : World) (v5 v6 : Value) (wr : World) : Prop :=
 ∃ k : Nat, k ≤ 4 ∧ v6 = .int .i64 ((p + k : Nat) : Int) ∧ v5 = .int .u64 (wordTo l p k) ∧ wr = w
set_option maxHeartbeats 400000 in
theorem word_any (l : List UInt8) (p : Nat) (w : World) (hl : l.length ≤ 4611686018427387904) (hp : p ≤ l.length + 8) :
  Calls Tryz.prog 102 #[.string (bs l), .int .i64 p] w fun e w' => e = .returned (.int .u32 (wordTo l p 4)) ∧ w' = w := by
 go_enter Tryz.func102, Tryz.ntmps102
 go_wp2_with fail
 go_loopw [5, 6] (fun v5 v6 wr => WordRel l p w v5 v6 wr) (fun _ v6 _ => p + 4 - (intOf v6).toNat)
 case atStart => exact ⟨0, by omega, by simp, by rw [wordTo_zero], rfl⟩
 case round =>
  obtain ⟨k, hk, rfl, rfl, rfl⟩ := hrel
  have hq0 := wordTo_lo l p k
  by_cases hlt : k < 4
  ·have hq1 := wordTo_hi3 l p k hlt
   by_cases hin : p + k < l.length
   ·have Hstep := hid (wordTo_in l p k hin)
    go_wp2_with fail
    have hlo := u8_lo l[p + k]
    have hhi := u8_hi l[p + k]
    refine ⟨⟨k + 1, by omega, by go_num, ?_, rfl⟩, by simp [intOf]; omega⟩
    rw [Hstep.out]
    simp only [IntKind.wrap_u64]
    congr 1
    omega
   ·have Hstep := hid (wordTo_out l p k hin)
    go_wp2_with fail
    refine ⟨⟨k + 1, by omega, by go_num, ?_, rfl⟩, by simp [intOf]; omega⟩
    rw [Hstep.out]
  ·obtain rfl : k = 4 := by omega
   have hq1 := wordTo_hi l p 4 (Nat.le_refl _)
   go_wp2_with fail
   go_ret
   exact ⟨rfl, rfl⟩
theorem word_at (l : List UInt8) (z : Int) (w : World) (hl : l.length ≤ 4611686018427387904) (h0 : 0 ≤ z) (h1 : z ≤ l.length + 8) :
  Calls Tryz.prog 102 #[.string (bs l), .int .i64 z] w fun e w' => e = .returned (.int .u32 (wordTo l z.toNat 4)) ∧ w' = w := by
 obtain ⟨p, rfl⟩ := Int.eq_ofNat_of_zero_le h0
 exact word_any l p w hl (by omega)
theorem wordTo_A (l : List UInt8) (p : Nat) : wordTo l p 4 = wordA ((l.drop p).take 8) := by
 unfold wordTo wordA pad8
 congr 1
 rw [List.take_append, List.take_take, List.take_replicate]
 congr 2
 simp; omega
theorem wordTo_B (l : List UInt8) (p : Nat) : wordTo l (p + 4) 4 = wordB ((l.drop p).take 8) := by
 unfold wordTo wordB pad8
 congr 1
 rw [List.drop_append, List.drop_take, List.drop_drop, List.drop_replicate]
 congr 2
 simp; omega
def AddRel (b : Nat) (T : TypeId) (p : Int × Int) (l : List UInt8) (W : World) (v : Value) (wr : World) : Prop :=
 ∃ (k : Nat) (q : Int × Int), v = .int .i64 k ∧ k ≤ l.length + 7 ∧ sumAdd q (l.drop k) = sumAdd p l ∧ wr.heap[b]? = some (.cells #[.int .u32 q.1, .int .u32 q.2] T (0, 0)) ∧ Frm (· = b) W wr
set_option maxHeartbeats 1000000 in
set_option maxRecDepth 100000 in
theorem refAdd_any (l : List UInt8) (p : Int × Int) (w : World) (hl : l.length ≤ 4611686018427387904) :
  Calls Tryz.prog 62 #[.agg #[.int .u32 p.1, .int .u32 p.2], .string (bs l)] w fun e w' => e = .returned (.agg #[.int .u32 (sumAdd p l).1, .int .u32 (sumAdd p l).2]) ∧ Below w.heap.size w w' := by
 go_enter Tryz.func62, Tryz.ntmps62
 go_wp2_with fail
 go_loopw [5] (fun v wr => AddRel w.heap.size 149 p l ((w.alloc (.cells #[.int .u32 p.1, .int .u32 p.2] 149)).alloc (.cells #[.int .u32 0, .int .u32 0] 149)) v wr) (fun v _ => l.length + 8 - (intOf v).toNat)
 case atStart => exact ⟨0, p, rfl, by omega, by simp, heap_alloc_old (heap_alloc_new _ _), Frm.refl _ _⟩
 case round =>
  obtain ⟨k, q, rfl, hk, hq, hblk, hfr⟩ := hrel
  have c0 := cell_of_block hblk 0
  have c1 := cell_of_block hblk 1
  have f0 := free_of_block hblk 0
  have f1 := free_of_block hblk 1
  simp at c0 c1
  have Hq := hid hq
  have Hblk := hid hblk
  clear hq hblk
  by_cases hlt : k < l.length
  ·go_wp2_with fail
   refine region_tail 10 (fun W => W.heap[w.heap.size]? = some (.cells #[.int .u32 q.1, .int .u32 q.2] 149 (0, 0)) ∧ Frm (· = w.heap.size) wr W) (by kernel_rfl) (by kernel_rfl) ⟨Hblk.out, (Frm.refl _ _).drew⟩ ?_
   rintro W ⟨hb1, hf1⟩
   have c0 := cell_of_block hb1 0
   have c1 := cell_of_block hb1 1
   have f0 := free_of_block hb1 0
   have f1 := free_of_block hb1 1
   simp at c0 c1
   have Hb1 := hid hb1
   clear hb1
   simp only [List.take_succ_cons, List.take_zero, List.drop_succ_cons, List.drop_zero]
   repeat still_step
   still_call (word_at l _ _ hl (by omega) (by omega))
   repeat still_step
   refine wpStill_nil ?_
   go_wp2_with fail
   have hb2 := heap_setCell_same Hb1.out 0 (.int .u32 (((q.1 + wordTo l k 4) % 4294967296 + q.2) % 4294967296))
   refine region_tail 11 (fun W2 => W2.heap[w.heap.size]? = some (.cells #[.int .u32 (((q.1 + wordTo l k 4) % 4294967296 + q.2) % 4294967296), .int .u32 q.2] 149 (0, 0)) ∧ Frm (· = w.heap.size) wr W2) (by kernel_rfl) (by kernel_rfl) ⟨hb2, (hf1.setCell (.inl rfl) _).drew⟩ ?_
   clear hb2 Hb1 c0 c1 f0 f1 hf1
   have hw4 : IntKind.i64.wrap ((k : Int) + 4) = (k : Int) + 4 := IntWalk.i64_in _ (by omega)
   have hn4 : ((k : Int) + 4).toNat = k + 4 := by omega
   rintro W2 ⟨hb1, hf1⟩
   have c0 := cell_of_block hb1 0
   have c1 := cell_of_block hb1 1
   have f0 := free_of_block hb1 0
   have f1 := free_of_block hb1 1
   simp at c0 c1
   have Hb1 := hid hb1
   clear hb1
   simp only [List.take_succ_cons, List.take_zero, List.drop_succ_cons, List.drop_zero]
   repeat still_step
   still_call (word_at l _ _ hl (by omega) (by omega))
   repeat still_step
   refine wpStill_nil ?_
   clear hw4 hn4
   go_wp2_with fail
   refine ⟨⟨k + 8, stepSum q (wordA ((l.drop k).take 8)) (wordB ((l.drop k).take 8)), by go_num, by omega, ?_, ?_, (hfr.trans hf1).setCell (.inl rfl) _⟩, by simp [intOf]; omega⟩
   ·rw [← Hq.out, sumAdd_step q (l.drop k) (by simp; omega), List.drop_drop]
   ·rw [heap_setCell_same Hb1.out 1 _, ← wordTo_A, ← wordTo_B]
    simp only [stepSum]
    simp
    constructor <;> congr 1 <;> omega
  ·have hb2 : wr.heap[w.heap.size + 1]? = some (.cells #[.int .u32 0, .int .u32 0] 149 (0, 0)) := by
    rw [hfr.block _ (by simp) (by omega)]
    have := heap_alloc_new (w.alloc (.cells #[.int .u32 p.1, .int .u32 p.2] 149)) (.cells #[.int .u32 0, .int .u32 0] 149)
    simpa using this
   have hf0 : Below w.heap.size w wr := (((Frm.refl (· = w.heap.size) w).alloc _).alloc _ |>.trans (hfr.mono (fun _ h => h))).below (by omega)
   have d0 := cell_of_block hb2 0
   have d1 := cell_of_block hb2 1
   have g0 := free_of_block hb2 0
   have g1 := free_of_block hb2 1
   simp at d0 d1
   clear hb2 hfr
   have hq' : sumAdd p l = q := by rw [← Hq.out, List.drop_eq_nil_of_le (by omega), sumAdd_nil]
   have Hq2 := hid hq'
   clear hq' Hq
   go_wp2_with fail
   refine bodyPost_ret (v := .agg #[.int .u32 q.1, .int .u32 q.2]) (by simp [results, Tryz.results62, go_sem, d0, d1, g0, g1]) rfl ⟨by rw [Hq2.out], ?_⟩
   exact (hf0.setCell (by simp) _).setCell (by simp) _
theorem fixed_text (x : Int) (w : World) (h0 : 0 ≤ x) (h1 : x < 4294967296) :
  Calls Tryz.prog 101 #[.int .u64 x, .int .i64 4] w fun e w' => e = .returned (.string (bs (four x))) ∧ Below w.heap.size w w' := by
 have h : fixedL x 4 = four x := by
  rw [fixedL_succ, fixedL_succ, fixedL_succ, fixedL_succ, fixedL_zero]
  simp only [four]
  congr 2
  ·simp; omega
  ·congr 2
   simp
 rw [← h]
 exact fixed_any x 4 w h0 (by omega) (by omega)
set_option maxHeartbeats 400000 in
theorem refText_any (p : Int × Int) (w : World) (h0 : 0 ≤ p.1) (h1 : p.1 < 4294967296) (h2 : 0 ≤ p.2) (h3 : p.2 < 4294967296) :
  Calls Tryz.prog 61 #[.agg #[.int .u32 p.1, .int .u32 p.2]] w fun e w' => e = .returned (.string (bs (textOf p))) ∧ Below w.heap.size w w' := by
 go_enter Tryz.func61, Tryz.ntmps61
 have c0 := fun d os => cell_regrown (w := w.alloc (.cells #[.int .u32 p.1, .int .u32 p.2] 149)) (a := ⟨w.heap.size, 0, none⟩) (v := .int .u32 p.1) (by simp) d os
 have c1 := fun d os => cell_regrown (w := w.alloc (.cells #[.int .u32 p.1, .int .u32 p.2] 149)) (a := ⟨w.heap.size, 1, none⟩) (v := .int .u32 p.2) (by simp) d os
 have hl : ∀ n, (four n).length = 4 := fun n => rfl
 go_wp2_with fail
 refine region_below (by kernel_rfl) (by kernel_rfl) ?_
 repeat (go_big_quiet_step ((go_at_call 101; exact Calls.regrown_of (fixed_text _ _ (by assumption) (by assumption)))))
 refine wpQuiet_nil ?_
 intro w1 hb1
 go_wp2_with fail
 go_ret
 exact ⟨rfl, ((Below.refl _ _).alloc (Nat.le_refl _) _).trans (hb1.mono (by simp))⟩
end Go.Proofs.YtjacmfdbmfemkaaGreat
namespace Go.Proofs.YtjacmfdbmfemkaaGreat
open Go.RowKit Go.Maps
set_option maxRecDepth 20000
def rfour (n : Int) : List UInt8 := fixedL (IntKind.u64.wrap n) 4
theorem fixed_eight {k : Int} (h0 : 0 ≤ k) (h1 : k < 18446744073709551616) : fixedL k 8 = eight k := by
 unfold eight four
 rw [fixedL_succ, fixedL_succ, fixedL_succ, fixedL_succ, fixedL_succ, fixedL_succ, fixedL_succ, fixedL_succ, fixedL_zero]
 rw [show k / 256 ^ 7 % 256 = k / 4294967296 / 16777216 by omega, show k / 256 ^ 6 % 256 = k / 4294967296 / 65536 % 256 by omega, show k / 256 ^ 5 % 256 = k / 4294967296 / 256 % 256 by omega, show k / 256 ^ 4 % 256 = k / 4294967296 % 256 by omega, show k / 256 ^ 3 % 256 = k % 4294967296 / 16777216 by omega, show k / 256 ^ 2 % 256 = k % 4294967296 / 65536 % 256 by omega, show k / 256 ^ 1 % 256 = k % 4294967296 / 256 % 256 by omega, show k / 256 ^ 0 % 256 = k % 4294967296 % 256 by omega]
 rfl
attribute [irreducible] rfour
end Go.Proofs.YtjacmfdbmfemkaaGreat
namespace Go.Proofs.YtjacmfdbmfemkaaGreat
open Go.RowKit Go.Maps
set_option maxRecDepth 20000
structure RkSt (w W : World) (s : List UInt8) (i : Nat) : Prop where
 res : W.heap[w.heap.size]? = some (.cells #[.int .i64 0, .int .i64 0, .int .u64 0, .int .i64 0, .int .i64 0, .int .i64 0, .int .i64 0, .int .i64 0, .int .i64 0, .int .i64 0, .int .i64 0] 114 (0, 0))
 bel : Below w.heap.size w W
 row : W.heap[w.heap.size + 1]? = some (.cells (hdrCells ⟨at4 s 8, at4 s 12, num ((s.drop 16).take 8), rootsTo s i⟩).toArray 114 (0, 0))
end Go.Proofs.YtjacmfdbmfemkaaGreat
