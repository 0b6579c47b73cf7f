/- Law FilesBack, walked. -/
import Derived.Test.YtifgnhbbcpmaiaaDkX
import Derived.Test.YtifgnhbbcpmaiaaDkZ
import Derived.Test.YtifgnhbbcpmaiaaDlA
namespace Go.Proofs.Ytifgnhbbcpmaiaa
open Go.RowKit Go.Maps
set_option linter.unusedVariables false
set_option linter.unusedSimpArgs false

theorem wrap64_in {n : Int} (h : -9223372036854775808 ≤ n ∧ n ≤ 9223372036854775807) : wrap64 n = n := by
  have h2 := IntWalk.i64_in n h
  first | exact h2 | simpa [wrap64] using h2 | (unfold wrap64; omega)
theorem toNat_a (q : Nat) : ((q : Int) * 64).toNat = q * 64 := by omega
theorem toNat_b (q : Nat) : (((q : Int) + 1) * 64).toNat = q * 64 + 64 := by omega
theorem slice_in {q n L : Nat} (h : q < n) (hl : L = 64 * n) : 0 ≤ (q : Int) * 64 ∧ (q : Int) * 64 ≤ ((q : Int) + 1) * 64 ∧ ((q : Int) + 1) * 64 ≤ (L : Int) := ⟨by omega, by omega, by omega⟩
theorem meas_300 {q : Nat} (h : q < 300) : 300 - (intOf (.int .i64 ((q : Int) + 1))).toNat < 300 - (intOf (.int .i64 (q : Int))).toNat := by simp only [intOf]; omega
theorem load_op {w : World} {BX : Nat} {x : OpM} (h : w.heap[BX]? = some (.cells (opCells x).toArray 34 (0, 0))) :
    (Instr.loadAt 34 (.pointer (some ⟨BX, 0, none⟩))).run Try.prog w = .ok (opV x) w :=
  run_loadAt_mid w _ _ _ _ _ (range_whole h) Try.underlying34 rfl (by kernel_rfl)
theorem build_op (w : World) (x : OpM) : (Instr.buildSlice 22 1 #[(0, opV x)]).run Try.prog w = .ok (.slice (some ⟨w.heap.size, 0, none⟩) 1 1) (w.alloc (.cells (opCells x).toArray 34)) :=
  run_buildSlice_one w 22 34 _ (opV ⟨0, 0, 0, 0, 0, [], none, 0, []⟩) 7 Try.underlying22 (by kernel_rfl) rfl rfl (by omega) (by omega)

section
variable {v : Value} {l : List OpM} {x : OpM}
set_option maxHeartbeats 4000000 in
set_option maxRecDepth 20000 in
theorem back_out (w : World) (h : OpsAt (alive w) w v l) (hx : OpOk (alive w) w x) (f : Int) (hf : in64 f) (hbad : f < 0 ∨ 8 ≤ f ∨ x.at_ < 0 ∨ 100 < x.at_) :
    Calls Try.prog 5 #[v, opV x, .int .i64 f] w fun e w' => e = .returned (.bool true) ∧ Below w.heap.size w w' := by
  have H := hid h
  clear h
  by_cases h1 : f < 0
  · have h1' : decide (f < 0) = true := by simpa using h1
    clear hbad h1
    obtain ⟨x2, hx2⟩ : ∃ x2 : OpM, x2 = { x with kind := 0, file := f } := ⟨_, rfl⟩
    have Hx2 := hid (show OpOk (alive w) w x2 by rw [hx2]; exact ⟨(show in64 (0 : Int) from ⟨by omega, by omega⟩), hf, hx.at_, hx.n, hx.s, hx.kl, hx.keep, hx.ks⟩)
    have Hat2 := hid (show x2.at_ = x.at_ by rw [hx2])
    have Hk2 := hid (show x2.kind = 0 by rw [hx2])
    have hc2 : (opCells x2).toArray = (((opCells x).toArray.setIfInBounds 0 (.int .i64 0)).setIfInBounds 1 (.int .i64 f)) := by rw [hx2]; rfl
    have Hc2 := hid hc2
    clear hc2 hx2
    unfold opV opCells
    go_enter Try.func5, Try.ntmps5
    go_upto_region 1 with fail
    obtain ⟨wB, hwB⟩ : ∃ wB, wB = w.alloc (.cells (opCells x).toArray 34) := ⟨_, rfl⟩
    have X0 := hid (show wB.heap[w.heap.size]? = some (.cells (opCells x).toArray 34 (0, 0)) by rw [hwB]; exact heap_alloc_new _ _)
    have B0 := hid (show Below w.heap.size w wB by rw [hwB]; exact (Below.refl _ _).alloc (Nat.le_refl _) _)
    unfold opCells at hwB
    rw [← hwB]
    obtain ⟨BX, hBX⟩ : ∃ BX, BX = w.heap.size := ⟨_, rfl⟩
    rw [← hBX] at X0 ⊢
    have HBX := hid hBX
    clear hwB hBX
    go_upto_region 3 with (first
      | (go_at_call 9; refine (works_any wB).mono ?_; rintro e w1 ⟨rfl, hb⟩; have B1 := hid (then_below B0.out hb); have X1 := hid ((hb.block BX (lt_of_block X0.out)).trans X0.out); clear hb B0 X0)
      | go_in)
    have c0 : w1.cell? ⟨BX, 0, none⟩ = some (.int .i64 x.kind) := (cell_of_block X1.out 0).trans rfl
    have c1 : w1.cell? ⟨BX, 1, none⟩ = some (.int .i64 x.file) := (cell_of_block X1.out 1).trans rfl
    have f0 := free_of_block X1.out 0
    have f1 := free_of_block X1.out 1
    go_upto_region 4 with fail
    have hx3 := heap_setCell_same (heap_setCell_same X1.out 0 (.int .i64 0)) 1 (.int .i64 f)
    rw [← Hc2.out] at hx3
    have hb3 : Below w.heap.size w ((w1.setCell ⟨BX, 0, none⟩ (.int .i64 0)).setCell ⟨BX, 1, none⟩ (.int .i64 f)) := ⟨B1.out.os, B1.out.tape, B1.out.output, by simpa using B1.out.size, fun j hj => ((Below.heap_setCell _ ⟨BX, 1, none⟩ _ j (show j ≠ BX by have := HBX.out; omega)).trans (Below.heap_setCell w1 ⟨BX, 0, none⟩ _ j (show j ≠ BX by have := HBX.out; omega))).trans (B1.out.block j hj)⟩
    obtain ⟨w3, hw3⟩ : ∃ w3, w3 = (w1.setCell ⟨BX, 0, none⟩ (.int .i64 0)).setCell ⟨BX, 1, none⟩ (.int .i64 f) := ⟨_, rfl⟩
    rw [← hw3] at hx3 hb3 ⊢
    have X3 := hid hx3
    have B3 := hid hb3
    clear hw3 hx3 hb3 c0 c1 f0 f1

    go_wp2_with (first
      | (go_at_call 10; refine (heavy_any (H.out.move (all_lt (fun k hk => hk) B3.out)) (fun k hk => Nat.lt_of_lt_of_le hk B3.out.size)).mono ?_; rintro e wxB4 ⟨he, hb⟩; have B4 := hid (then_below B3.out hb); have X4 := hid ((hb.block BX (lt_of_block X3.out)).trans X3.out); rcases bool_said he with rfl | ⟨rfl, hl⟩ <;> clear hb he B3)
      | (go_at_call 11; refine (far_any (H.out.move (all_lt (fun k hk => hk) B4.out)) (fun k hk => Nat.lt_of_lt_of_le hk B4.out.size) hl.len).mono ?_; rintro e wxB5 ⟨he, hb⟩; have B5 := hid (then_below B4.out hb); have X5 := hid ((hb.block BX (lt_of_block X4.out)).trans X4.out); have p0 : wxB5.cell? ⟨BX, 0, none⟩ = some (.int .i64 x2.kind) := (cell_of_block X5.out 0).trans rfl; have p1 : wxB5.cell? ⟨BX, 1, none⟩ = some (.int .i64 x2.file) := (cell_of_block X5.out 1).trans rfl; have p2 : wxB5.cell? ⟨BX, 2, none⟩ = some (.int .i64 x2.at_) := (cell_of_block X5.out 2).trans rfl; have p3 : wxB5.cell? ⟨BX, 3, none⟩ = some (.int .i64 x2.n) := (cell_of_block X5.out 3).trans rfl; have p4 : wxB5.cell? ⟨BX, 4, none⟩ = some (.int .u8 (x2.c.toNat : Int)) := (cell_of_block X5.out 4).trans rfl; have p5 : wxB5.cell? ⟨BX, 5, none⟩ = some (.string (bs x2.s)) := (cell_of_block X5.out 5).trans rfl; have p6 : wxB5.cell? ⟨BX, 6, none⟩ = some (.slice x2.ka x2.keep.length x2.kcap) := (cell_of_block X5.out 6).trans rfl; have hbs := build_op wxB5 x2; unfold opV opCells at hbs; rcases bool_said he with rfl | ⟨rfl, -⟩ <;> clear hb he B4)
      | (go_at_call 10; have O5 := one_op (w := wxB5) (Hx2.out.move (fun j hj => B5.out.block j hj)) (fun j hj => Nat.lt_of_lt_of_le hj B5.out.size); refine (heavy_any O5 (fun j hj => hj.elim (fun h => Nat.lt_of_lt_of_le (Nat.lt_of_lt_of_le h B5.out.size) (by simp)) (fun h => by subst h; simp))).mono ?_; rintro e w6 ⟨he, hb⟩; have B6 := hid (then_below (B5.out.alloc B5.out.size (.cells (opCells x2).toArray 34)) hb); have X6 := hid ((hb.block BX (lt_of_block (heap_alloc_old X5.out))).trans (heap_alloc_old X5.out)); have q2 : w6.cell? ⟨BX, 2, none⟩ = some (.int .i64 x2.at_) := (cell_of_block X6.out 2).trans rfl; rcases bool_said he with rfl | ⟨rfl, hlx⟩ <;> clear hb he O5 hbs B5 p0 p1 p2 p3 p4 p5 p6)
      | go_in)
    all_goals
      go_ret
      first | exact ⟨rfl, B4.out⟩ | exact ⟨rfl, B5.out⟩ | exact ⟨rfl, B6.out⟩
  have h1' : decide (f < 0) = false := by simpa using h1
  by_cases h2 : 8 ≤ f
  · have h2' : decide (8 ≤ f) = true := by simpa using h2
    clear hbad h1 h2
    obtain ⟨x2, hx2⟩ : ∃ x2 : OpM, x2 = { x with kind := 0, file := f } := ⟨_, rfl⟩
    have Hx2 := hid (show OpOk (alive w) w x2 by rw [hx2]; exact ⟨(show in64 (0 : Int) from ⟨by omega, by omega⟩), hf, hx.at_, hx.n, hx.s, hx.kl, hx.keep, hx.ks⟩)
    have Hat2 := hid (show x2.at_ = x.at_ by rw [hx2])
    have Hk2 := hid (show x2.kind = 0 by rw [hx2])
    have hc2 : (opCells x2).toArray = (((opCells x).toArray.setIfInBounds 0 (.int .i64 0)).setIfInBounds 1 (.int .i64 f)) := by rw [hx2]; rfl
    have Hc2 := hid hc2
    clear hc2 hx2
    unfold opV opCells
    go_enter Try.func5, Try.ntmps5
    go_upto_region 1 with fail
    obtain ⟨wB, hwB⟩ : ∃ wB, wB = w.alloc (.cells (opCells x).toArray 34) := ⟨_, rfl⟩
    have X0 := hid (show wB.heap[w.heap.size]? = some (.cells (opCells x).toArray 34 (0, 0)) by rw [hwB]; exact heap_alloc_new _ _)
    have B0 := hid (show Below w.heap.size w wB by rw [hwB]; exact (Below.refl _ _).alloc (Nat.le_refl _) _)
    unfold opCells at hwB
    rw [← hwB]
    obtain ⟨BX, hBX⟩ : ∃ BX, BX = w.heap.size := ⟨_, rfl⟩
    rw [← hBX] at X0 ⊢
    have HBX := hid hBX
    clear hwB hBX
    go_upto_region 3 with (first
      | (go_at_call 9; refine (works_any wB).mono ?_; rintro e w1 ⟨rfl, hb⟩; have B1 := hid (then_below B0.out hb); have X1 := hid ((hb.block BX (lt_of_block X0.out)).trans X0.out); clear hb B0 X0)
      | go_in)
    have c0 : w1.cell? ⟨BX, 0, none⟩ = some (.int .i64 x.kind) := (cell_of_block X1.out 0).trans rfl
    have c1 : w1.cell? ⟨BX, 1, none⟩ = some (.int .i64 x.file) := (cell_of_block X1.out 1).trans rfl
    have f0 := free_of_block X1.out 0
    have f1 := free_of_block X1.out 1
    go_upto_region 4 with fail
    have hx3 := heap_setCell_same (heap_setCell_same X1.out 0 (.int .i64 0)) 1 (.int .i64 f)
    rw [← Hc2.out] at hx3
    have hb3 : Below w.heap.size w ((w1.setCell ⟨BX, 0, none⟩ (.int .i64 0)).setCell ⟨BX, 1, none⟩ (.int .i64 f)) := ⟨B1.out.os, B1.out.tape, B1.out.output, by simpa using B1.out.size, fun j hj => ((Below.heap_setCell _ ⟨BX, 1, none⟩ _ j (show j ≠ BX by have := HBX.out; omega)).trans (Below.heap_setCell w1 ⟨BX, 0, none⟩ _ j (show j ≠ BX by have := HBX.out; omega))).trans (B1.out.block j hj)⟩
    obtain ⟨w3, hw3⟩ : ∃ w3, w3 = (w1.setCell ⟨BX, 0, none⟩ (.int .i64 0)).setCell ⟨BX, 1, none⟩ (.int .i64 f) := ⟨_, rfl⟩
    rw [← hw3] at hx3 hb3 ⊢
    have X3 := hid hx3
    have B3 := hid hb3
    clear hw3 hx3 hb3 c0 c1 f0 f1

    go_wp2_with (first
      | (go_at_call 10; refine (heavy_any (H.out.move (all_lt (fun k hk => hk) B3.out)) (fun k hk => Nat.lt_of_lt_of_le hk B3.out.size)).mono ?_; rintro e wxB4 ⟨he, hb⟩; have B4 := hid (then_below B3.out hb); have X4 := hid ((hb.block BX (lt_of_block X3.out)).trans X3.out); rcases bool_said he with rfl | ⟨rfl, hl⟩ <;> clear hb he B3)
      | (go_at_call 11; refine (far_any (H.out.move (all_lt (fun k hk => hk) B4.out)) (fun k hk => Nat.lt_of_lt_of_le hk B4.out.size) hl.len).mono ?_; rintro e wxB5 ⟨he, hb⟩; have B5 := hid (then_below B4.out hb); have X5 := hid ((hb.block BX (lt_of_block X4.out)).trans X4.out); have p0 : wxB5.cell? ⟨BX, 0, none⟩ = some (.int .i64 x2.kind) := (cell_of_block X5.out 0).trans rfl; have p1 : wxB5.cell? ⟨BX, 1, none⟩ = some (.int .i64 x2.file) := (cell_of_block X5.out 1).trans rfl; have p2 : wxB5.cell? ⟨BX, 2, none⟩ = some (.int .i64 x2.at_) := (cell_of_block X5.out 2).trans rfl; have p3 : wxB5.cell? ⟨BX, 3, none⟩ = some (.int .i64 x2.n) := (cell_of_block X5.out 3).trans rfl; have p4 : wxB5.cell? ⟨BX, 4, none⟩ = some (.int .u8 (x2.c.toNat : Int)) := (cell_of_block X5.out 4).trans rfl; have p5 : wxB5.cell? ⟨BX, 5, none⟩ = some (.string (bs x2.s)) := (cell_of_block X5.out 5).trans rfl; have p6 : wxB5.cell? ⟨BX, 6, none⟩ = some (.slice x2.ka x2.keep.length x2.kcap) := (cell_of_block X5.out 6).trans rfl; have hbs := build_op wxB5 x2; unfold opV opCells at hbs; rcases bool_said he with rfl | ⟨rfl, -⟩ <;> clear hb he B4)
      | (go_at_call 10; have O5 := one_op (w := wxB5) (Hx2.out.move (fun j hj => B5.out.block j hj)) (fun j hj => Nat.lt_of_lt_of_le hj B5.out.size); refine (heavy_any O5 (fun j hj => hj.elim (fun h => Nat.lt_of_lt_of_le (Nat.lt_of_lt_of_le h B5.out.size) (by simp)) (fun h => by subst h; simp))).mono ?_; rintro e w6 ⟨he, hb⟩; have B6 := hid (then_below (B5.out.alloc B5.out.size (.cells (opCells x2).toArray 34)) hb); have X6 := hid ((hb.block BX (lt_of_block (heap_alloc_old X5.out))).trans (heap_alloc_old X5.out)); have q2 : w6.cell? ⟨BX, 2, none⟩ = some (.int .i64 x2.at_) := (cell_of_block X6.out 2).trans rfl; rcases bool_said he with rfl | ⟨rfl, hlx⟩ <;> clear hb he O5 hbs B5 p0 p1 p2 p3 p4 p5 p6)
      | go_in)
    all_goals
      go_ret
      first | exact ⟨rfl, B4.out⟩ | exact ⟨rfl, B5.out⟩ | exact ⟨rfl, B6.out⟩
  have h2' : decide (8 ≤ f) = false := by simpa using h2
  by_cases h3 : x.at_ < 0
  · have h3' : decide (x.at_ < 0) = true := by simpa using h3
    clear hbad h1 h2 h3
    obtain ⟨x2, hx2⟩ : ∃ x2 : OpM, x2 = { x with kind := 0, file := f } := ⟨_, rfl⟩
    have Hx2 := hid (show OpOk (alive w) w x2 by rw [hx2]; exact ⟨(show in64 (0 : Int) from ⟨by omega, by omega⟩), hf, hx.at_, hx.n, hx.s, hx.kl, hx.keep, hx.ks⟩)
    have Hat2 := hid (show x2.at_ = x.at_ by rw [hx2])
    have Hk2 := hid (show x2.kind = 0 by rw [hx2])
    have hc2 : (opCells x2).toArray = (((opCells x).toArray.setIfInBounds 0 (.int .i64 0)).setIfInBounds 1 (.int .i64 f)) := by rw [hx2]; rfl
    have Hc2 := hid hc2
    clear hc2 hx2
    unfold opV opCells
    go_enter Try.func5, Try.ntmps5
    go_upto_region 1 with fail
    obtain ⟨wB, hwB⟩ : ∃ wB, wB = w.alloc (.cells (opCells x).toArray 34) := ⟨_, rfl⟩
    have X0 := hid (show wB.heap[w.heap.size]? = some (.cells (opCells x).toArray 34 (0, 0)) by rw [hwB]; exact heap_alloc_new _ _)
    have B0 := hid (show Below w.heap.size w wB by rw [hwB]; exact (Below.refl _ _).alloc (Nat.le_refl _) _)
    unfold opCells at hwB
    rw [← hwB]
    obtain ⟨BX, hBX⟩ : ∃ BX, BX = w.heap.size := ⟨_, rfl⟩
    rw [← hBX] at X0 ⊢
    have HBX := hid hBX
    clear hwB hBX
    go_upto_region 3 with (first
      | (go_at_call 9; refine (works_any wB).mono ?_; rintro e w1 ⟨rfl, hb⟩; have B1 := hid (then_below B0.out hb); have X1 := hid ((hb.block BX (lt_of_block X0.out)).trans X0.out); clear hb B0 X0)
      | go_in)
    have c0 : w1.cell? ⟨BX, 0, none⟩ = some (.int .i64 x.kind) := (cell_of_block X1.out 0).trans rfl
    have c1 : w1.cell? ⟨BX, 1, none⟩ = some (.int .i64 x.file) := (cell_of_block X1.out 1).trans rfl
    have f0 := free_of_block X1.out 0
    have f1 := free_of_block X1.out 1
    go_upto_region 4 with fail
    have hx3 := heap_setCell_same (heap_setCell_same X1.out 0 (.int .i64 0)) 1 (.int .i64 f)
    rw [← Hc2.out] at hx3
    have hb3 : Below w.heap.size w ((w1.setCell ⟨BX, 0, none⟩ (.int .i64 0)).setCell ⟨BX, 1, none⟩ (.int .i64 f)) := ⟨B1.out.os, B1.out.tape, B1.out.output, by simpa using B1.out.size, fun j hj => ((Below.heap_setCell _ ⟨BX, 1, none⟩ _ j (show j ≠ BX by have := HBX.out; omega)).trans (Below.heap_setCell w1 ⟨BX, 0, none⟩ _ j (show j ≠ BX by have := HBX.out; omega))).trans (B1.out.block j hj)⟩
    obtain ⟨w3, hw3⟩ : ∃ w3, w3 = (w1.setCell ⟨BX, 0, none⟩ (.int .i64 0)).setCell ⟨BX, 1, none⟩ (.int .i64 f) := ⟨_, rfl⟩
    rw [← hw3] at hx3 hb3 ⊢
    have X3 := hid hx3
    have B3 := hid hb3
    clear hw3 hx3 hb3 c0 c1 f0 f1
    rw [← Hat2.out] at h3'
    go_wp2_with (first
      | (go_at_call 10; refine (heavy_any (H.out.move (all_lt (fun k hk => hk) B3.out)) (fun k hk => Nat.lt_of_lt_of_le hk B3.out.size)).mono ?_; rintro e wxB4 ⟨he, hb⟩; have B4 := hid (then_below B3.out hb); have X4 := hid ((hb.block BX (lt_of_block X3.out)).trans X3.out); rcases bool_said he with rfl | ⟨rfl, hl⟩ <;> clear hb he B3)
      | (go_at_call 11; refine (far_any (H.out.move (all_lt (fun k hk => hk) B4.out)) (fun k hk => Nat.lt_of_lt_of_le hk B4.out.size) hl.len).mono ?_; rintro e wxB5 ⟨he, hb⟩; have B5 := hid (then_below B4.out hb); have X5 := hid ((hb.block BX (lt_of_block X4.out)).trans X4.out); have p0 : wxB5.cell? ⟨BX, 0, none⟩ = some (.int .i64 x2.kind) := (cell_of_block X5.out 0).trans rfl; have p1 : wxB5.cell? ⟨BX, 1, none⟩ = some (.int .i64 x2.file) := (cell_of_block X5.out 1).trans rfl; have p2 : wxB5.cell? ⟨BX, 2, none⟩ = some (.int .i64 x2.at_) := (cell_of_block X5.out 2).trans rfl; have p3 : wxB5.cell? ⟨BX, 3, none⟩ = some (.int .i64 x2.n) := (cell_of_block X5.out 3).trans rfl; have p4 : wxB5.cell? ⟨BX, 4, none⟩ = some (.int .u8 (x2.c.toNat : Int)) := (cell_of_block X5.out 4).trans rfl; have p5 : wxB5.cell? ⟨BX, 5, none⟩ = some (.string (bs x2.s)) := (cell_of_block X5.out 5).trans rfl; have p6 : wxB5.cell? ⟨BX, 6, none⟩ = some (.slice x2.ka x2.keep.length x2.kcap) := (cell_of_block X5.out 6).trans rfl; have hbs := build_op wxB5 x2; unfold opV opCells at hbs; rcases bool_said he with rfl | ⟨rfl, -⟩ <;> clear hb he B4)
      | (go_at_call 10; have O5 := one_op (w := wxB5) (Hx2.out.move (fun j hj => B5.out.block j hj)) (fun j hj => Nat.lt_of_lt_of_le hj B5.out.size); refine (heavy_any O5 (fun j hj => hj.elim (fun h => Nat.lt_of_lt_of_le (Nat.lt_of_lt_of_le h B5.out.size) (by simp)) (fun h => by subst h; simp))).mono ?_; rintro e w6 ⟨he, hb⟩; have B6 := hid (then_below (B5.out.alloc B5.out.size (.cells (opCells x2).toArray 34)) hb); have X6 := hid ((hb.block BX (lt_of_block (heap_alloc_old X5.out))).trans (heap_alloc_old X5.out)); have q2 : w6.cell? ⟨BX, 2, none⟩ = some (.int .i64 x2.at_) := (cell_of_block X6.out 2).trans rfl; rcases bool_said he with rfl | ⟨rfl, hlx⟩ <;> clear hb he O5 hbs B5 p0 p1 p2 p3 p4 p5 p6)
      | go_in)
    all_goals
      go_ret
      first | exact ⟨rfl, B4.out⟩ | exact ⟨rfl, B5.out⟩ | exact ⟨rfl, B6.out⟩
  have h3' : decide (x.at_ < 0) = false := by simpa using h3
  have h4' : decide (100 < x.at_) = true := by simp only [decide_eq_true_eq]; omega
  clear hbad h1 h2 h3
  obtain ⟨x2, hx2⟩ : ∃ x2 : OpM, x2 = { x with kind := 0, file := f } := ⟨_, rfl⟩
  have Hx2 := hid (show OpOk (alive w) w x2 by rw [hx2]; exact ⟨(show in64 (0 : Int) from ⟨by omega, by omega⟩), hf, hx.at_, hx.n, hx.s, hx.kl, hx.keep, hx.ks⟩)
  have Hat2 := hid (show x2.at_ = x.at_ by rw [hx2])
  have Hk2 := hid (show x2.kind = 0 by rw [hx2])
  have hc2 : (opCells x2).toArray = (((opCells x).toArray.setIfInBounds 0 (.int .i64 0)).setIfInBounds 1 (.int .i64 f)) := by rw [hx2]; rfl
  have Hc2 := hid hc2
  clear hc2 hx2
  unfold opV opCells
  go_enter Try.func5, Try.ntmps5
  go_upto_region 1 with fail
  obtain ⟨wB, hwB⟩ : ∃ wB, wB = w.alloc (.cells (opCells x).toArray 34) := ⟨_, rfl⟩
  have X0 := hid (show wB.heap[w.heap.size]? = some (.cells (opCells x).toArray 34 (0, 0)) by rw [hwB]; exact heap_alloc_new _ _)
  have B0 := hid (show Below w.heap.size w wB by rw [hwB]; exact (Below.refl _ _).alloc (Nat.le_refl _) _)
  unfold opCells at hwB
  rw [← hwB]
  obtain ⟨BX, hBX⟩ : ∃ BX, BX = w.heap.size := ⟨_, rfl⟩
  rw [← hBX] at X0 ⊢
  have HBX := hid hBX
  clear hwB hBX
  go_upto_region 3 with (first
    | (go_at_call 9; refine (works_any wB).mono ?_; rintro e w1 ⟨rfl, hb⟩; have B1 := hid (then_below B0.out hb); have X1 := hid ((hb.block BX (lt_of_block X0.out)).trans X0.out); clear hb B0 X0)
    | go_in)
  have c0 : w1.cell? ⟨BX, 0, none⟩ = some (.int .i64 x.kind) := (cell_of_block X1.out 0).trans rfl
  have c1 : w1.cell? ⟨BX, 1, none⟩ = some (.int .i64 x.file) := (cell_of_block X1.out 1).trans rfl
  have f0 := free_of_block X1.out 0
  have f1 := free_of_block X1.out 1
  go_upto_region 4 with fail
  have hx3 := heap_setCell_same (heap_setCell_same X1.out 0 (.int .i64 0)) 1 (.int .i64 f)
  rw [← Hc2.out] at hx3
  have hb3 : Below w.heap.size w ((w1.setCell ⟨BX, 0, none⟩ (.int .i64 0)).setCell ⟨BX, 1, none⟩ (.int .i64 f)) := ⟨B1.out.os, B1.out.tape, B1.out.output, by simpa using B1.out.size, fun j hj => ((Below.heap_setCell _ ⟨BX, 1, none⟩ _ j (show j ≠ BX by have := HBX.out; omega)).trans (Below.heap_setCell w1 ⟨BX, 0, none⟩ _ j (show j ≠ BX by have := HBX.out; omega))).trans (B1.out.block j hj)⟩
  obtain ⟨w3, hw3⟩ : ∃ w3, w3 = (w1.setCell ⟨BX, 0, none⟩ (.int .i64 0)).setCell ⟨BX, 1, none⟩ (.int .i64 f) := ⟨_, rfl⟩
  rw [← hw3] at hx3 hb3 ⊢
  have X3 := hid hx3
  have B3 := hid hb3
  clear hw3 hx3 hb3 c0 c1 f0 f1
  rw [← Hat2.out] at h3' h4'
  go_wp2_with (first
    | (go_at_call 10; refine (heavy_any (H.out.move (all_lt (fun k hk => hk) B3.out)) (fun k hk => Nat.lt_of_lt_of_le hk B3.out.size)).mono ?_; rintro e wxB4 ⟨he, hb⟩; have B4 := hid (then_below B3.out hb); have X4 := hid ((hb.block BX (lt_of_block X3.out)).trans X3.out); rcases bool_said he with rfl | ⟨rfl, hl⟩ <;> clear hb he B3)
    | (go_at_call 11; refine (far_any (H.out.move (all_lt (fun k hk => hk) B4.out)) (fun k hk => Nat.lt_of_lt_of_le hk B4.out.size) hl.len).mono ?_; rintro e wxB5 ⟨he, hb⟩; have B5 := hid (then_below B4.out hb); have X5 := hid ((hb.block BX (lt_of_block X4.out)).trans X4.out); have p0 : wxB5.cell? ⟨BX, 0, none⟩ = some (.int .i64 x2.kind) := (cell_of_block X5.out 0).trans rfl; have p1 : wxB5.cell? ⟨BX, 1, none⟩ = some (.int .i64 x2.file) := (cell_of_block X5.out 1).trans rfl; have p2 : wxB5.cell? ⟨BX, 2, none⟩ = some (.int .i64 x2.at_) := (cell_of_block X5.out 2).trans rfl; have p3 : wxB5.cell? ⟨BX, 3, none⟩ = some (.int .i64 x2.n) := (cell_of_block X5.out 3).trans rfl; have p4 : wxB5.cell? ⟨BX, 4, none⟩ = some (.int .u8 (x2.c.toNat : Int)) := (cell_of_block X5.out 4).trans rfl; have p5 : wxB5.cell? ⟨BX, 5, none⟩ = some (.string (bs x2.s)) := (cell_of_block X5.out 5).trans rfl; have p6 : wxB5.cell? ⟨BX, 6, none⟩ = some (.slice x2.ka x2.keep.length x2.kcap) := (cell_of_block X5.out 6).trans rfl; have hbs := build_op wxB5 x2; unfold opV opCells at hbs; rcases bool_said he with rfl | ⟨rfl, -⟩ <;> clear hb he B4)
    | (go_at_call 10; have O5 := one_op (w := wxB5) (Hx2.out.move (fun j hj => B5.out.block j hj)) (fun j hj => Nat.lt_of_lt_of_le hj B5.out.size); refine (heavy_any O5 (fun j hj => hj.elim (fun h => Nat.lt_of_lt_of_le (Nat.lt_of_lt_of_le h B5.out.size) (by simp)) (fun h => by subst h; simp))).mono ?_; rintro e w6 ⟨he, hb⟩; have B6 := hid (then_below (B5.out.alloc B5.out.size (.cells (opCells x2).toArray 34)) hb); have X6 := hid ((hb.block BX (lt_of_block (heap_alloc_old X5.out))).trans (heap_alloc_old X5.out)); have q2 : w6.cell? ⟨BX, 2, none⟩ = some (.int .i64 x2.at_) := (cell_of_block X6.out 2).trans rfl; rcases bool_said he with rfl | ⟨rfl, hlx⟩ <;> clear hb he O5 hbs B5 p0 p1 p2 p3 p4 p5 p6)
    | go_in)
  all_goals
    go_ret
    first | exact ⟨rfl, B4.out⟩ | exact ⟨rfl, B5.out⟩ | exact ⟨rfl, B6.out⟩

set_option maxHeartbeats 4000000 in
set_option maxRecDepth 20000 in
theorem back_in (w : World) (h : OpsAt (alive w) w v l) (hx : OpOk (alive w) w x) (k a : Nat) (hk : k < 8) (hat : x.at_ = (a : Int)) (ha : a ≤ 100) :
    Calls Try.prog 5 #[v, opV x, .int .i64 (k : Int)] w fun e w' => e = .returned (.bool true) ∧ Below w.heap.size w w' := by
  have H := hid h
  have Hat0 := hid hat
  clear hat
  have hf : in64 (k : Int) := ⟨by omega, by omega⟩
  have h1' : decide ((k : Int) < 0) = false := by simp
  have h2' : decide (8 ≤ (k : Int)) = false := by simp only [decide_eq_false_iff_not]; omega
  have h3' : decide ((a : Int) < 0) = false := by simp
  have h4' : decide (100 < (a : Int)) = false := by simp only [decide_eq_false_iff_not]; omega
  clear h
  obtain ⟨x2, hx2⟩ : ∃ x2 : OpM, x2 = { x with kind := 0, file := (k : Int) } := ⟨_, rfl⟩
  have Hx2 := hid (show OpOk (alive w) w x2 by rw [hx2]; exact ⟨(show in64 (0 : Int) from ⟨by omega, by omega⟩), hf, hx.at_, hx.n, hx.s, hx.kl, hx.keep, hx.ks⟩)
  have Hat2 := hid (show x2.at_ = x.at_ by rw [hx2])
  have Hk2 := hid (show x2.kind = 0 by rw [hx2])
  have hc2 : (opCells x2).toArray = (((opCells x).toArray.setIfInBounds 0 (.int .i64 0)).setIfInBounds 1 (.int .i64 (k : Int))) := by rw [hx2]; rfl
  have Hc2 := hid hc2
  clear hc2 hx2
  unfold opV opCells
  go_enter Try.func5, Try.ntmps5
  go_upto_region 1 with fail
  obtain ⟨wB, hwB⟩ : ∃ wB, wB = w.alloc (.cells (opCells x).toArray 34) := ⟨_, rfl⟩
  have X0 := hid (show wB.heap[w.heap.size]? = some (.cells (opCells x).toArray 34 (0, 0)) by rw [hwB]; exact heap_alloc_new _ _)
  have B0 := hid (show Below w.heap.size w wB by rw [hwB]; exact (Below.refl _ _).alloc (Nat.le_refl _) _)
  unfold opCells at hwB
  rw [← hwB]
  obtain ⟨BX, hBX⟩ : ∃ BX, BX = w.heap.size := ⟨_, rfl⟩
  rw [← hBX] at X0 ⊢
  have HBX := hid hBX
  clear hwB hBX
  go_upto_region 3 with (first
    | (go_at_call 9; refine (works_any wB).mono ?_; rintro e w1 ⟨rfl, hb⟩; have B1 := hid (then_below B0.out hb); have X1 := hid ((hb.block BX (lt_of_block X0.out)).trans X0.out); clear hb B0 X0)
    | go_in)
  have c0 : w1.cell? ⟨BX, 0, none⟩ = some (.int .i64 x.kind) := (cell_of_block X1.out 0).trans rfl
  have c1 : w1.cell? ⟨BX, 1, none⟩ = some (.int .i64 x.file) := (cell_of_block X1.out 1).trans rfl
  have f0 := free_of_block X1.out 0
  have f1 := free_of_block X1.out 1
  go_upto_region 4 with fail
  have hx3 := heap_setCell_same (heap_setCell_same X1.out 0 (.int .i64 0)) 1 (.int .i64 (k : Int))
  rw [← Hc2.out] at hx3
  have hb3 : Below w.heap.size w ((w1.setCell ⟨BX, 0, none⟩ (.int .i64 0)).setCell ⟨BX, 1, none⟩ (.int .i64 (k : Int))) := ⟨B1.out.os, B1.out.tape, B1.out.output, by simpa using B1.out.size, fun j hj => ((Below.heap_setCell _ ⟨BX, 1, none⟩ _ j (show j ≠ BX by have := HBX.out; omega)).trans (Below.heap_setCell w1 ⟨BX, 0, none⟩ _ j (show j ≠ BX by have := HBX.out; omega))).trans (B1.out.block j hj)⟩
  obtain ⟨w3, hw3⟩ : ∃ w3, w3 = (w1.setCell ⟨BX, 0, none⟩ (.int .i64 0)).setCell ⟨BX, 1, none⟩ (.int .i64 (k : Int)) := ⟨_, rfl⟩
  rw [← hw3] at hx3 hb3 ⊢
  have X3 := hid hx3
  have B3 := hid hb3
  clear hw3 hx3 hb3 c0 c1 f0 f1
  have Hat := hid (Hat2.out.trans Hat0.out)
  go_upto_region 6 with (first
    | (go_at_call 10; refine (heavy_any (H.out.move (all_lt (fun k hk => hk) B3.out)) (fun k hk => Nat.lt_of_lt_of_le hk B3.out.size)).mono ?_; rintro e wxB4 ⟨he, hb⟩; have B4 := hid (then_below B3.out hb); have X4 := hid ((hb.block BX (lt_of_block X3.out)).trans X3.out); rcases bool_said he with rfl | ⟨rfl, hl⟩ <;> clear hb he B3)
    | (go_at_call 11; refine (far_any (H.out.move (all_lt (fun k hk => hk) B4.out)) (fun k hk => Nat.lt_of_lt_of_le hk B4.out.size) hl.len).mono ?_; rintro e wxB5 ⟨he, hb⟩; have B5 := hid (then_below B4.out hb); have X5 := hid ((hb.block BX (lt_of_block X4.out)).trans X4.out); have p0 : wxB5.cell? ⟨BX, 0, none⟩ = some (.int .i64 x2.kind) := (cell_of_block X5.out 0).trans rfl; have p1 : wxB5.cell? ⟨BX, 1, none⟩ = some (.int .i64 x2.file) := (cell_of_block X5.out 1).trans rfl; have p2 : wxB5.cell? ⟨BX, 2, none⟩ = some (.int .i64 x2.at_) := (cell_of_block X5.out 2).trans rfl; have p3 : wxB5.cell? ⟨BX, 3, none⟩ = some (.int .i64 x2.n) := (cell_of_block X5.out 3).trans rfl; have p4 : wxB5.cell? ⟨BX, 4, none⟩ = some (.int .u8 (x2.c.toNat : Int)) := (cell_of_block X5.out 4).trans rfl; have p5 : wxB5.cell? ⟨BX, 5, none⟩ = some (.string (bs x2.s)) := (cell_of_block X5.out 5).trans rfl; have p6 : wxB5.cell? ⟨BX, 6, none⟩ = some (.slice x2.ka x2.keep.length x2.kcap) := (cell_of_block X5.out 6).trans rfl; have hbs := build_op wxB5 x2; unfold opV opCells at hbs; rcases bool_said he with rfl | ⟨rfl, -⟩ <;> clear hb he B4)
    | (go_at_call 10; have O5 := one_op (w := wxB5) (Hx2.out.move (fun j hj => B5.out.block j hj)) (fun j hj => Nat.lt_of_lt_of_le hj B5.out.size); refine (heavy_any O5 (fun j hj => hj.elim (fun h => Nat.lt_of_lt_of_le (Nat.lt_of_lt_of_le h B5.out.size) (by simp)) (fun h => by subst h; simp))).mono ?_; rintro e w6 ⟨he, hb⟩; have B6 := hid (then_below (B5.out.alloc B5.out.size (.cells (opCells x2).toArray 34)) hb); have X6 := hid ((hb.block BX (lt_of_block (heap_alloc_old X5.out))).trans (heap_alloc_old X5.out)); have q2 : w6.cell? ⟨BX, 2, none⟩ = some (.int .i64 (a : Int)) := (by rw [cell_of_block X6.out]; simp [opCells, Hat.out]); rcases bool_said he with rfl | ⟨rfl, hlx⟩ <;> clear hb he O5 hbs B5 p0 p1 p2 p3 p4 p5 p6)
    | go_in)
  all_goals first | (go_ret; first | exact ⟨rfl, B4.out⟩ | exact ⟨rfl, B5.out⟩ | exact ⟨rfl, B6.out⟩) | skip
  have H6 := hid ((H.out.move (all_lt (fun k hk => hk) B6.out)).mono (T := alive w6) (fun j hj => Nat.lt_of_lt_of_le hj B6.out.size))
  go_upto_region 8 with (first
    | (go_at_call 12; refine (new_any w6).mono ?_; rintro e w4 ⟨b, F, rfl, hd, hb, ho, -⟩; have M4 := hid (Made.new (Below.refl w6.heap.size w6) hd hb ho); clear hd hb ho)
    | (go_at_call 13; refine (run_any M4.out.disk (H6.out.move (all_lt (fun k hk => hk) M4.out.below)) (fun k hk => ⟨Nat.lt_of_lt_of_le hk M4.out.below.size, fun ho => absurd (M4.out.fresh k ho) (Nat.not_le.2 hk)⟩) hl.ok hl.len (newM_small.mono (by omega))).mono ?_; rintro e w5 ⟨rfl, hd⟩; obtain ⟨F5, hm⟩ := M4.out.did hd; have HSd := hid ((run_small l newM newM_small hl.ok).mono (M := 102400) (by have := hl.len; omega)); obtain ⟨D, hD⟩ : ∃ D, D = runM newM l := ⟨_, rfl⟩; rw [← hD] at hm HSd; have M5 := hid hm; clear hd hm hD M4)
    | go_in)
  by_cases hD : D.off = true
  · have HSc := hid (show (crashM D []).Small 102400 from crash_small HSd.out)
    have hoc : (crashM D []).off = false := rfl
    go_upto_region 10 with (first
      | (go_at_call 19; have ON := on_any M5.out.disk; rw [hD] at ON; refine ON.mono ?_; rintro e w6' ⟨rfl, rfl⟩; clear ON)
      | (go_at_call 17; refine (crash_nil M5.out.disk (HSd.out.mono (by omega))).mono ?_; rintro e w7 ⟨rfl, hd⟩; obtain ⟨F7, hm⟩ := M5.out.did hd; have M7 := hid hm; clear hd hm M5)
      | go_in)
    obtain ⟨d1, hd1⟩ : ∃ d1, d1 = crashM D [] := ⟨_, rfl⟩
    rw [← hd1] at M7 HSc hoc
    have Hoc := hid hoc
    clear hd1 hoc
    obtain ⟨A, hA⟩ : ∃ A : Nat → List UInt8, ∀ f : Nat, allM d1 (f : Int) = A f := ⟨fun f => allM d1 f, fun _ => rfl⟩
    have HAf := hid hA
    clear hA
    go_wp2_with fail
    obtain ⟨WB, hWB⟩ : ∃ WB, WB = w7.heap.size := ⟨_, rfl⟩
    have hw0 := heap_alloc_new w7 (.cells (strs A 0).toArray 38)
    have hM8 := M7.out.under ((Below.refl w7.heap.size w7).alloc (Nat.le_refl _) (.cells (strs A 0).toArray 38))
    have HWo := hid (show ¬ F7.own WB ∧ ¬ F7.sh WB from ⟨fun ho => by have := M7.out.disk.olt WB ho; omega, fun ho => by have := M7.out.disk.slt WB ho; omega⟩)
    have HW0 := hid (show w6.heap.size ≤ WB from by have := M7.out.below.size; omega)
    rw [← hWB]
    rw [← hWB] at hw0
    have HwA := hid hw0
    have M8 := hid hM8
    clear hw0 hM8 hWB
    go_loopw [61] (fun v61 wr => ∃ i : Nat, v61 = .int .i64 (i : Int) ∧ i ≤ 8 ∧ Made w6 wr b F7 d1 ∧ wr.heap[WB]? = some (.cells (strs A i).toArray 38 (0, 0))) (fun v61 _ => 8 - (intOf v61).toNat)
    case atStart => exact ⟨0, rfl, by omega, M8.out, HwA.out⟩
    case round =>
      obtain ⟨i, rfl, hi8, hm, hblk⟩ := hrel
      have M9 := hid hm
      have Hblk := hid hblk
      clear hm hblk
      by_cases hlt : i < 8
      · have hlt2 : decide ((i : Int) < 8) = true := by simp; omega
        have hlt3 : (i : Int) < 8 := by omega
        go_wp2_with (first
          | (go_at_call 15; refine (all_any M9.out.disk (i : Int)).mono ?_; rintro e w10 ⟨rfl, hb⟩; rw [HAf.out]; have M10 := hid (M9.out.under hb); have Hblk2 := hid ((hb.block WB (lt_of_block Hblk.out)).trans Hblk.out); have c10 : w10.cell? ⟨WB, i, none⟩ = some (.string ⟨#[]⟩) := (by rw [cell_of_block Hblk2.out, strs_get A hlt]; simp); have f10 : w10.frozen? ⟨WB, i, none⟩ = false := free_of_block Hblk2.out i; clear hb M9)
          | go_in)
        go_roundw
        case rel =>
          refine ⟨i + 1, by simp, by omega, M10.out.set HWo.out HW0.out _, ?_⟩
          rw [← strs_set A hlt]
          exact heap_setCell_same Hblk2.out i _
        case measure => simp [intOf]; omega
      · obtain rfl : i = 8 := by omega
        clear hlt
        have HXr := hid ((M9.out.below.block BX (lt_of_block X6.out)).trans X6.out)
        obtain ⟨z, hz⟩ : ∃ z : Int, ((d1.now k).length : Int) = z := ⟨_, rfl⟩
        have Hz := hid hz
        obtain ⟨s, hs⟩ : ∃ s, s = bytesM x2 := ⟨_, rfl⟩
        have Hs := hid hs
        have hslen : s.length ≤ 16384 := by rw [hs]; exact bytes_len (hlx.ok x2 (by simp))
        have Hslen := hid hslen
        have HN1 := hid (M9.out.disk.ok.ns k hk)
        clear hz hs hslen
        go_upto_region 16 with fail
        refine wp_region_held_drew (S := fun W => Below wr.heap.size wr W) (by kernel_rfl) ((Below.refl _ _).drew) (fun hHeld => ?_)
        refine held_take (v := ?pvaA0) 0 rfl (by kernel_rfl) (by kernel_rfl) (by kernel_rfl) (fun _ _ _ h => h) (by rfl) hHeld ?pyaA0 ?praA0
        case pyaA0 => (intro W hSw; go_simp; with_reducible rfl)
        simp only [Act.put, List.setIfInBounds_toArray, List.set_cons_zero, List.set_cons_succ]
        refine held_take (v := ?pvaA1) 1 rfl (by kernel_rfl) (by kernel_rfl) (by kernel_rfl) (fun _ _ _ h => h) (by rfl) hHeld ?pyaA1 ?praA1
        case pyaA1 => (intro W hSw; go_simp; with_reducible rfl)
        simp only [Act.put, List.setIfInBounds_toArray, List.set_cons_zero, List.set_cons_succ]
        refine held_take (v := opV x2) 3 rfl (by kernel_rfl) (by kernel_rfl) (by kernel_rfl) (fun _ _ _ h => h) (by rfl) hHeld (fun W hSw => exec_load rfl rfl (run_loadAt_mid W _ _ _ _ _ (range_whole ((hSw.block BX (lt_of_block HXr.out)).trans HXr.out)) Try.underlying34 rfl (by kernel_rfl))) ?_
        simp only [Act.put, List.setIfInBounds_toArray, List.set_cons_zero, List.set_cons_succ]
        refine held_one 2 (by kernel_rfl) rfl (fun K hK => ?_)
        go_simp
        refine (size_any (M9.out.disk.below (Below.refl _ _).drew) (k : Int)).mono ?_
        rintro e w11 ⟨rfl, rfl⟩
        try dsimp only
        rw [if_pos (by omega), Int.toNat_natCast, Hz.out]
        refine hK.out _ _ ((Below.refl _ _).drew) (fun hHeld => ?_)
        clear hK K
        try simp only [Act.put, List.setIfInBounds_toArray, List.set_cons_zero, List.set_cons_succ]
        refine held_one 4 (by kernel_rfl) rfl (fun K hK => ?_)
        go_simp
        refine (bytes_any x2 wr.drew).mono ?_
        rintro e w12 ⟨rfl, hb⟩
        try dsimp only
        rw [← Hs.out]
        have M12 := hid (M9.out.under (below_undrew hb))
        have Hb12 := hid (((below_undrew hb).block WB (lt_of_block Hblk.out)).trans Hblk.out)
        refine hK.out _ _ (below_undrew hb) (fun hHeld => ?_)
        clear hK K hb
        try simp only [Act.put, List.setIfInBounds_toArray, List.set_cons_zero, List.set_cons_succ]
        refine held_take (v := ?pvaB5) 5 rfl (by kernel_rfl) (by kernel_rfl) (by kernel_rfl) (fun _ _ _ h => h) (by rfl) hHeld ?pyaB5 ?praB5
        case pyaB5 => (intro W hSw; go_simp; with_reducible rfl)
        simp only [Act.put, List.setIfInBounds_toArray, List.set_cons_zero, List.set_cons_succ]
        refine held_take (v := ?pvaB6) 6 rfl (by kernel_rfl) (by kernel_rfl) (by kernel_rfl) (fun _ _ _ h => h) (by rfl) hHeld ?pyaB6 ?praB6
        case pyaB6 => (intro W hSw; go_simp; with_reducible rfl)
        simp only [Act.put, List.setIfInBounds_toArray, List.set_cons_zero, List.set_cons_succ]
        refine wpAnyH_done (by kernel_rfl) ?_ _
        clear hHeld HXr M9 Hblk
        have HXr := hid ((M12.out.below.block BX (lt_of_block X6.out)).trans X6.out)
        have q2 : w12.cell? ⟨BX, 2, none⟩ = some (.int .i64 (a : Int)) := by rw [cell_of_block HXr.out]; simp [opCells, Hat.out]
        have WR := hid (write_any M12.out.disk (k : Int) (a : Int) s (HSc.out.mono (by omega)) (by have := Hslen.out; omega))
        obtain ⟨r, hr⟩ : ∃ r, (writeM d1 (k : Int) (a : Int) s).1 = r := ⟨_, rfl⟩
        obtain ⟨d2, hd2⟩ : ∃ d2, d2 = (writeM d1 (k : Int) (a : Int) s).2 := ⟨_, rfl⟩
        by_cases hr0 : r = 0
        · have hwrote := write_zero (s := s) Hoc.out (by rw [hr]; exact hr0)
          rw [← hd2] at hwrote WR
          rw [hr, hr0] at WR
          obtain ⟨m, hm⟩ : ∃ m, m = s.length / 64 := ⟨_, rfl⟩
          rw [← hm] at hwrote
          have Hw := hid hwrote
          have hsz2 : (((d2.now k).length : Nat) : Int) = max z ((a : Int) + (m : Int)) := by rw [hwrote.size, ← Hz.out]; omega
          have Hsz2 := hid hsz2
          have hlen := hwrote.len
          have hdiv : (s.length : Int).tdiv 64 = (m : Int) := by rw [Int.tdiv_eq_ediv_of_nonneg (by omega)]; omega
          have hm2 := hwrote.len
          have Hm16 := hid (show m ≤ 256 from by have := Hslen.out; omega)
          have hwm : IntKind.i64.wrap ((a : Int) + (m : Int)) = (a : Int) + (m : Int) := IntWalk.i64_in _ (by have := Hm16.out; omega)
          have hw64 : wrap64 (m : Int) = (m : Int) := wrap64_in (by have := Hm16.out; omega)
          clear hr hd2 hr0 hwrote hm hsz2 hm2 hlen
          go_upto_region 21 with (first
            | (go_at_call 21; refine (WR.out).mono ?_; rintro e w13 ⟨rfl, hd⟩; obtain ⟨F13, hm, hkp⟩ := M12.out.did2 hd; have M13 := hid hm; have Hb13 := hid ((hkp WB (lt_of_block Hb12.out) HWo.out.1).1.trans Hb12.out); have HX13 := hid ((M13.out.below.block BX (lt_of_block X6.out)).trans X6.out); have q3 : w13.cell? ⟨BX, 2, none⟩ = some (.int .i64 (a : Int)) := (by rw [cell_of_block HX13.out]; simp [opCells, Hat.out]); clear hd hm hkp WR M12 q2 Hb12)
            | (go_at_call 22; have RD := read_any M13.out.disk (k : Int) (a : Int) (m : Int) (by omega); rw [Hw.out.read hk] at RD; refine RD.mono ?_; clear RD; rintro e w14 ⟨rfl, hb⟩; have M14 := hid (M13.out.under hb); have Hb14 := hid ((hb.block WB (lt_of_block Hb13.out)).trans Hb13.out); clear hb M13 Hb13 q3 HX13)
            | go_in)
          have HX14 := hid ((M14.out.below.block BX (lt_of_block X6.out)).trans X6.out)
          clear HXr
          have HXr := HX14
          refine wp_region_held_drew (S := fun W => Below w14.heap.size w14 W) (by kernel_rfl) ((Below.refl _ _).drew) (fun hHeld => ?_)
          refine held_take (v := ?pvaC0) 0 rfl (by kernel_rfl) (by kernel_rfl) (by kernel_rfl) (fun _ _ _ h => h) (by rfl) hHeld ?pyaC0 ?praC0
          case pyaC0 => (intro W hSw; go_simp; with_reducible rfl)
          simp only [Act.put, List.setIfInBounds_toArray, List.set_cons_zero, List.set_cons_succ]
          refine held_take (v := ?pvaC1) 1 rfl (by kernel_rfl) (by kernel_rfl) (by kernel_rfl) (fun _ _ _ h => h) (by rfl) hHeld ?pyaC1 ?praC1
          case pyaC1 => (intro W hSw; go_simp; with_reducible rfl)
          simp only [Act.put, List.setIfInBounds_toArray, List.set_cons_zero, List.set_cons_succ]
          refine held_take (v := ?pvaC2) 2 rfl (by kernel_rfl) (by kernel_rfl) (by kernel_rfl) (fun _ _ _ h => h) (by rfl) hHeld ?pyaC2 ?praC2
          case pyaC2 => (intro W hSw; go_simp; with_reducible rfl)
          simp only [Act.put, List.setIfInBounds_toArray, List.set_cons_zero, List.set_cons_succ]
          refine held_take (v := ?pvaC3) 3 rfl (by kernel_rfl) (by kernel_rfl) (by kernel_rfl) (fun _ _ _ h => h) (by rfl) hHeld ?pyaC3 ?praC3
          case pyaC3 => (intro W hSw; go_simp; with_reducible rfl)
          simp only [Act.put, List.setIfInBounds_toArray, List.set_cons_zero, List.set_cons_succ]
          refine held_take (v := ?pvaC4) 4 rfl (by kernel_rfl) (by kernel_rfl) (by kernel_rfl) (fun _ _ _ h => h) (by rfl) hHeld ?pyaC4 ?praC4
          case pyaC4 => (intro W hSw; go_simp; with_reducible rfl)
          simp only [Act.put, List.setIfInBounds_toArray, List.set_cons_zero, List.set_cons_succ]
          refine held_take (v := ?pvaC5) 5 rfl (by kernel_rfl) (by kernel_rfl) (by kernel_rfl) (fun _ _ _ h => h) (by rfl) hHeld ?pyaC5 ?praC5
          case pyaC5 => (intro W hSw; go_simp; with_reducible rfl)
          simp only [Act.put, List.setIfInBounds_toArray, List.set_cons_zero, List.set_cons_succ]
          refine held_take (v := ?pvaC6) 6 rfl (by kernel_rfl) (by kernel_rfl) (by kernel_rfl) (fun _ _ _ h => h) (by rfl) hHeld ?pyaC6 ?praC6
          case pyaC6 => (intro W hSw; go_simp; with_reducible rfl)
          simp only [Act.put, List.setIfInBounds_toArray, List.set_cons_zero, List.set_cons_succ]
          refine held_take (v := ?pvaC7) 7 rfl (by kernel_rfl) (by kernel_rfl) (by kernel_rfl) (fun _ _ _ h => h) (by rfl) hHeld ?pyaC7 ?praC7
          case pyaC7 => (intro W hSw; go_simp; with_reducible rfl)
          simp only [Act.put, List.setIfInBounds_toArray, List.set_cons_zero, List.set_cons_succ]
          refine held_take (v := ?pvaC8) 8 rfl (by kernel_rfl) (by kernel_rfl) (by kernel_rfl) (fun _ _ _ h => h) (by rfl) hHeld ?pyaC8 ?praC8
          case pyaC8 => (intro W hSw; go_simp; with_reducible rfl)
          simp only [Act.put, List.setIfInBounds_toArray, List.set_cons_zero, List.set_cons_succ]
          refine held_take (v := ?pvaC9) 9 rfl (by kernel_rfl) (by kernel_rfl) (by kernel_rfl) (fun _ _ _ h => h) (by rfl) hHeld ?pyaC9 ?praC9
          case pyaC9 => (intro W hSw; go_simp; with_reducible rfl)
          simp only [Act.put, List.setIfInBounds_toArray, List.set_cons_zero, List.set_cons_succ]
          refine held_take (v := ?pvaC11) 11 rfl (by kernel_rfl) (by kernel_rfl) (by kernel_rfl) (fun _ _ _ h => h) (by rfl) hHeld ?pyaC11 ?praC11
          case pyaC11 => (intro W hSw; go_simp; with_reducible rfl)
          simp only [Act.put, List.setIfInBounds_toArray, List.set_cons_zero, List.set_cons_succ]
          refine held_take (v := ?pvaC12) 12 rfl (by kernel_rfl) (by kernel_rfl) (by kernel_rfl) (fun _ _ _ h => h) (by rfl) hHeld ?pyaC12 ?praC12
          case pyaC12 => (intro W hSw; go_simp; with_reducible rfl)
          simp only [Act.put, List.setIfInBounds_toArray, List.set_cons_zero, List.set_cons_succ]
          refine held_take (v := .int .i64 (a : Int)) 13 rfl (by kernel_rfl) (by kernel_rfl) (by kernel_rfl) (fun _ _ _ h => h) (by rfl) hHeld ?pyaC13 ?praC13
          case pyaC13 => (intro W hSw; have yy : W.cell? ⟨BX, 2, none⟩ = some (.int .i64 (a : Int)) := (by rw [cell_of_block ((hSw.block BX (lt_of_block HXr.out)).trans HXr.out)]; simp [opCells, Hat.out]); go_simp)
          simp only [Act.put, List.setIfInBounds_toArray, List.set_cons_zero, List.set_cons_succ]
          refine held_take (v := ?pvaC14) 14 rfl (by kernel_rfl) (by kernel_rfl) (by kernel_rfl) (fun _ _ _ h => h) (by rfl) hHeld ?pyaC14 ?praC14
          case pyaC14 => (intro W hSw; go_simp; with_reducible rfl)
          simp only [Act.put, List.setIfInBounds_toArray, List.set_cons_zero, List.set_cons_succ]
          refine held_take (v := ?pvaC15) 15 rfl (by kernel_rfl) (by kernel_rfl) (by kernel_rfl) (fun _ _ _ h => h) (by rfl) hHeld ?pyaC15 ?praC15
          case pyaC15 => (intro W hSw; go_simp; with_reducible rfl)
          simp only [Act.put, List.setIfInBounds_toArray, List.set_cons_zero, List.set_cons_succ]
          refine held_take (v := ?pvaC16) 16 rfl (by kernel_rfl) (by kernel_rfl) (by kernel_rfl) (fun _ _ _ h => h) (by rfl) hHeld ?pyaC16 ?praC16
          case pyaC16 => (intro W hSw; go_simp; with_reducible rfl)
          simp only [Act.put, List.setIfInBounds_toArray, List.set_cons_zero, List.set_cons_succ]
          refine held_one 10 (by kernel_rfl) rfl (fun K hK => ?_)
          go_simp
          refine (size_any (M14.out.disk.below (Below.refl _ _).drew) (k : Int)).mono ?_
          rintro e w15 ⟨rfl, rfl⟩
          try dsimp only
          rw [if_pos (by omega), Int.toNat_natCast, Hsz2.out]
          refine hK.out _ _ ((Below.refl _ _).drew) (fun hHeld => ?_)
          clear hK K
          try simp only [Act.put, List.setIfInBounds_toArray, List.set_cons_zero, List.set_cons_succ]
          refine held_take (v := ?pvaD17) 17 rfl (by kernel_rfl) (by kernel_rfl) (by kernel_rfl) (fun _ _ _ h => h) (by rfl) hHeld ?pyaD17 ?praD17
          case pyaD17 => (intro W hSw; go_simp; with_reducible rfl)
          simp only [Act.put, List.setIfInBounds_toArray, List.set_cons_zero, List.set_cons_succ]
          refine held_take (v := ?pvaD18) 18 rfl (by kernel_rfl) (by kernel_rfl) (by kernel_rfl) (fun _ _ _ h => h) (by rfl) hHeld ?pyaD18 ?praD18
          case pyaD18 => (intro W hSw; go_simp; with_reducible rfl)
          simp only [Act.put, List.setIfInBounds_toArray, List.set_cons_zero, List.set_cons_succ]
          refine wpAnyH_done (by kernel_rfl) ?_ _
          have hM15 := M14.out.under ((Below.refl w14.heap.size w14).drew)
          have hb15 : w14.drew.heap[WB]? = some (.cells (strs A 8).toArray 38 (0, 0)) := Hb14.out
          have M15 := hid hM15
          have Hb15 := hid hb15
          clear hHeld hM15 hb15 HXr HX14
          go_wp2_with fail
          go_loopw [123] (fun v123 wr => ∃ i : Nat, v123 = .int .i64 (i : Int) ∧ i ≤ 8 ∧ Made w6 wr b F13 d2 ∧ wr.heap[WB]? = some (.cells (strs A 8).toArray 38 (0, 0))) (fun v123 _ => 8 - (intOf v123).toNat)
          case atStart => exact ⟨0, rfl, by omega, M15.out, Hb15.out⟩
          case round =>
            obtain ⟨i, rfl, hi8, hm, hblk⟩ := hrel
            have M16 := hid hm
            have Hb16 := hid hblk
            clear hm hblk
            by_cases hlt : i < 8
            · have hlt2 : decide ((i : Int) < 8) = true := by simp; omega
              have hlt3 : (i : Int) < 8 := by omega
              by_cases hik : i = k
              · have hik1 : ((i : Int) != (k : Int)) = false := by simp; omega
                have hik2 : ((i : Int) == (k : Int)) = true := by simp; omega
                obtain ⟨p, hp⟩ : ∃ p, p = allM d2 (i : Int) := ⟨_, rfl⟩
                have Hp := hid hp
                have hplen : p.length = 64 * min (d2.now k).length 300 := by rw [hp, hik]; exact all_len hk Hw.out.off (M16.out.disk.ok.ns k hk)
                have hqlen : (A i).length = 64 * min (d1.now k).length 300 := by rw [← HAf.out, hik]; exact all_len hk Hoc.out (HN1.out)
                obtain ⟨pl, hpl⟩ : ∃ pl, pl = min (d2.now k).length 300 := ⟨_, rfl⟩
                obtain ⟨ql, hql⟩ : ∃ ql, ql = min (d1.now k).length 300 := ⟨_, rfl⟩
                rw [← hpl] at hplen
                rw [← hql] at hqlen
                have hqp : ql ≤ pl := by rw [hql, hpl]; have := Hw.out.size; omega
                have hdivp : (p.length : Int).tdiv 64 = (pl : Int) := by rw [hplen, Int.tdiv_eq_ediv_of_nonneg (by omega)]; omega
                have hwp : wrap64 (pl : Int) = (pl : Int) := wrap64_in (by omega)
                have hmin : min z 300 = (ql : Int) := by have := Hz.out; omega
                have hq300 : ql ≤ 300 := by omega
                have Hdis := hid (show ∀ q, q < ql → (q < a ∨ a + m ≤ q) → secOf p q = secOf (A i) q from fun q hq ho => by
                  rw [hp, ← HAf.out, hik]
                  exact Hw.out.beside hk Hoc.out HN1.out (M16.out.disk.ok.ns k hk) (by omega) ho)
                have Hplen := hid hplen
                have Hqlen := hid hqlen
                have Hik := hid hik
                clear hp hpl hql hplen hqlen hik
                go_upto_region 29 with (first
                  | (go_at_call 15; refine (all_any M16.out.disk (i : Int)).mono ?_; rintro e w17 ⟨rfl, hb⟩; rw [← Hp.out]; have M17 := hid (M16.out.under hb); have Hb17 := hid ((hb.block WB (lt_of_block Hb16.out)).trans Hb16.out); clear hb M16 Hb16)
                  | go_in)
                go_wp2_with fail
                go_loopw [17] (fun v17 wr => ∃ q : Nat, v17 = .int .i64 (q : Int) ∧ q ≤ 300 ∧ Made w6 wr b F13 d2 ∧ wr.heap[WB]? = some (.cells (strs A 8).toArray 38 (0, 0))) (fun v17 _ => 300 - (intOf v17).toNat)
                case atStart => exact ⟨0, rfl, by omega, M17.out, Hb17.out⟩
                case round =>
                  obtain ⟨q, rfl, hq3, hm, hblk⟩ := hrel
                  have M18 := hid hm
                  have Hb18 := hid hblk
                  clear hm hblk M17 Hb17
                  by_cases hqlt : q < ql
                  · have hc1 : decide ((q : Int) < (ql : Int)) = true := decide_eq_true (Int.ofNat_lt.2 hqlt)
                    have hqpl : q < pl := Nat.lt_of_lt_of_le hqlt hqp
                    have hc2 : decide ((q : Int) < (pl : Int)) = true := decide_eq_true (Int.ofNat_lt.2 (Nat.lt_of_lt_of_le hqlt hqp))
                    go_upto_region 32 with fail
                    have hc2b : wr.cell? ⟨BX, 2, none⟩ = some (.int .i64 (a : Int)) := by rw [cell_of_block ((M18.out.below.block BX (lt_of_block X6.out)).trans X6.out)]; simp [opCells, Hat.out]
                    have hcw : wr.cell? ⟨WB, i, none⟩ = some (.string (bs (A i))) := by rw [cell_of_block Hb18.out, strs_get A hlt, if_pos hlt]
                    have r1 := fun d os => cell_regrown hc2b d os
                    have r2 := fun d os => cell_regrown hcw d os
                    have e1 := toNat_a q
                    have e2 := toNat_b q
                    have b1 := slice_in hqpl Hplen.out
                    have b2 := slice_in hqlt Hqlen.out
                    clear hc2b hcw
                    by_cases hqa : q < a
                    · have hS : List.take 64 (List.drop (q * 64) p) = List.take 64 (List.drop (q * 64) (A i)) := Hdis.out q hqlt (.inl hqa)
                      refine region_below (by kernel_rfl) (by kernel_rfl) ?_
                      repeat (go_big_quiet_step (fail))
                      refine wpQuiet_nil ?_
                      intro w19 hb19
                      have M19 := hid (M18.out.under hb19)
                      have Hb19 := hid ((hb19.block WB (lt_of_block Hb18.out)).trans Hb18.out)
                      clear hb19 r1 r2 M18 Hb18
                      go_wp2_with fail
                      go_roundw
                      case rel => exact ⟨q + 1, by simp, Nat.le_trans hqlt hq300, M19.out, Hb19.out⟩
                      case measure => exact meas_300 (Nat.lt_of_lt_of_le hqlt hq300)
                    · by_cases hqm : (a : Int) + (m : Int) ≤ (q : Int)
                      · have hS : List.take 64 (List.drop (q * 64) p) = List.take 64 (List.drop (q * 64) (A i)) := Hdis.out q hqlt (.inr (by omega))
                        have hqm' : decide ((a : Int) + (m : Int) ≤ (q : Int)) = true := decide_eq_true hqm
                        refine region_below (by kernel_rfl) (by kernel_rfl) ?_
                        repeat (go_big_quiet_step (fail))
                        refine wpQuiet_nil ?_
                        intro w19 hb19
                        have M19 := hid (M18.out.under hb19)
                        have Hb19 := hid ((hb19.block WB (lt_of_block Hb18.out)).trans Hb18.out)
                        clear hb19 r1 r2 M18 Hb18
                        go_wp2_with fail
                        go_roundw
                        case rel => exact ⟨q + 1, by simp, Nat.le_trans hqlt hq300, M19.out, Hb19.out⟩
                        case measure => exact meas_300 (Nat.lt_of_lt_of_le hqlt hq300)
                      · have hqm' : decide ((a : Int) + (m : Int) ≤ (q : Int)) = false := decide_eq_false hqm
                        refine region_below (by kernel_rfl) (by kernel_rfl) ?_
                        repeat (go_big_quiet_step (fail))
                        refine wpQuiet_nil ?_
                        intro w19 hb19
                        have M19 := hid (M18.out.under hb19)
                        have Hb19 := hid ((hb19.block WB (lt_of_block Hb18.out)).trans Hb18.out)
                        clear hb19 r1 r2 M18 Hb18
                        go_wp2_with fail
                        go_roundw
                        case rel => exact ⟨q + 1, by simp, Nat.le_trans hqlt hq300, M19.out, Hb19.out⟩
                        case measure => exact meas_300 (Nat.lt_of_lt_of_le hqlt hq300)
                  · have hc1 : decide ((q : Int) < (ql : Int)) = false := decide_eq_false (fun h => hqlt (Int.ofNat_lt.1 h))
                    go_wp2_with fail
                    go_roundw
                    case rel => exact ⟨i + 1, by simp, by omega, M18.out, Hb18.out⟩
                    case measure => simp [intOf]; omega
              · have hik1 : ((i : Int) != (k : Int)) = true := by simp; omega
                have hik2 : ((i : Int) == (k : Int)) = false := by simp; omega
                have hp := Hw.out.else_ Hoc.out hlt hik
                rw [HAf.out] at hp
                have Hp := hid hp
                clear hp
                go_upto_region 29 with (first
                  | (go_at_call 15; refine (all_any M16.out.disk (i : Int)).mono ?_; rintro e w17 ⟨rfl, hb⟩; rw [Hp.out]; have M17 := hid (M16.out.under hb); have Hb17 := hid ((hb.block WB (lt_of_block Hb16.out)).trans Hb16.out); have c17 : w17.cell? ⟨WB, i, none⟩ = some (.string (bs (A i))) := (by rw [cell_of_block Hb17.out, strs_get A hlt, if_pos hlt]); clear hb M16 Hb16)
                  | go_in)
                go_wp2_with fail
                go_loopw [17] (fun v17 wr => v17 = .int .i64 0 ∧ Made w6 wr b F13 d2 ∧ wr.heap[WB]? = some (.cells (strs A 8).toArray 38 (0, 0))) (fun _ _ => 0)
                case atStart => exact ⟨rfl, M17.out, Hb17.out⟩
                case round =>
                  obtain ⟨rfl, hm, hblk⟩ := hrel
                  have M18 := hid hm
                  have Hb18 := hid hblk
                  clear hm hblk M17 Hb17 c17
                  go_wp2_with fail
                  go_roundw
                  case rel => exact ⟨i + 1, by simp, by omega, M18.out, Hb18.out⟩
                  case measure => simp [intOf]; omega
            · obtain rfl : i = 8 := by omega
              go_wp2_with fail
              go_ret
              exact ⟨rfl, B6.out.trans (M16.out.below.mono B6.out.size)⟩
        · have hf := write_fail (d := d1) (f := (k : Int)) (a := (a : Int)) (s := s) (by rw [hr]; exact hr0)
          rw [← hd2] at hf WR
          rw [hr] at WR
          have Hz2 := hid (show ((d2.now k).length : Int) = z by rw [hf, Hz.out])
          have hrne : (r != 0) = true := by simpa using hr0
          clear hr hd2 hr0 hf
          go_wp2_with (first
            | (go_at_call 21; refine (WR.out).mono ?_; rintro e w13 ⟨rfl, hd⟩; obtain ⟨F13, hm⟩ := M12.out.did hd; have M13 := hid hm; clear hd hm WR M12)
            | (go_at_call 16; refine (size_any M13.out.disk (k : Int)).mono ?_; rintro e w14 ⟨rfl, rfl⟩; rw [if_pos (by omega), Int.toNat_natCast, Hz2.out])
            | go_in)
          all_goals
            go_ret
            exact ⟨rfl, B6.out.trans (M13.out.below.mono B6.out.size)⟩
  · have hD' : D.off = false := by simpa using hD
    have HSc := HSd
    have Hoc := hid hD'
    go_upto_region 10 with (first
      | (go_at_call 19; have ON := on_any M5.out.disk; rw [hD'] at ON; refine ON.mono ?_; rintro e w7 ⟨rfl, rfl⟩; clear ON; have M7 := M5; clear M5)
      | go_in)
    obtain ⟨F7, d1, hM7, hHSc, hHoc⟩ : ∃ (F7 : Foot) (d1 : Dsk), Hid (Made w6 w7 b F7 d1) ∧ Hid (d1.Small 102400) ∧ Hid (d1.off = false) := ⟨F5, D, M7, HSc, Hoc⟩
    clear M7 HSc Hoc HSd hD hD'
    have M7 := hM7
    have HSc := hHSc
    have Hoc := hHoc
    clear hM7 hHSc hHoc
    obtain ⟨A, hA⟩ : ∃ A : Nat → List UInt8, ∀ f : Nat, allM d1 (f : Int) = A f := ⟨fun f => allM d1 f, fun _ => rfl⟩
    have HAf := hid hA
    clear hA
    go_wp2_with fail
    obtain ⟨WB, hWB⟩ : ∃ WB, WB = w7.heap.size := ⟨_, rfl⟩
    have hw0 := heap_alloc_new w7 (.cells (strs A 0).toArray 38)
    have hM8 := M7.out.under ((Below.refl w7.heap.size w7).alloc (Nat.le_refl _) (.cells (strs A 0).toArray 38))
    have HWo := hid (show ¬ F7.own WB ∧ ¬ F7.sh WB from ⟨fun ho => by have := M7.out.disk.olt WB ho; omega, fun ho => by have := M7.out.disk.slt WB ho; omega⟩)
    have HW0 := hid (show w6.heap.size ≤ WB from by have := M7.out.below.size; omega)
    rw [← hWB]
    rw [← hWB] at hw0
    have HwA := hid hw0
    have M8 := hid hM8
    clear hw0 hM8 hWB
    go_loopw [61] (fun v61 wr => ∃ i : Nat, v61 = .int .i64 (i : Int) ∧ i ≤ 8 ∧ Made w6 wr b F7 d1 ∧ wr.heap[WB]? = some (.cells (strs A i).toArray 38 (0, 0))) (fun v61 _ => 8 - (intOf v61).toNat)
    case atStart => exact ⟨0, rfl, by omega, M8.out, HwA.out⟩
    case round =>
      obtain ⟨i, rfl, hi8, hm, hblk⟩ := hrel
      have M9 := hid hm
      have Hblk := hid hblk
      clear hm hblk
      by_cases hlt : i < 8
      · have hlt2 : decide ((i : Int) < 8) = true := by simp; omega
        have hlt3 : (i : Int) < 8 := by omega
        go_wp2_with (first
          | (go_at_call 15; refine (all_any M9.out.disk (i : Int)).mono ?_; rintro e w10 ⟨rfl, hb⟩; rw [HAf.out]; have M10 := hid (M9.out.under hb); have Hblk2 := hid ((hb.block WB (lt_of_block Hblk.out)).trans Hblk.out); have c10 : w10.cell? ⟨WB, i, none⟩ = some (.string ⟨#[]⟩) := (by rw [cell_of_block Hblk2.out, strs_get A hlt]; simp); have f10 : w10.frozen? ⟨WB, i, none⟩ = false := free_of_block Hblk2.out i; clear hb M9)
          | go_in)
        go_roundw
        case rel =>
          refine ⟨i + 1, by simp, by omega, M10.out.set HWo.out HW0.out _, ?_⟩
          rw [← strs_set A hlt]
          exact heap_setCell_same Hblk2.out i _
        case measure => simp [intOf]; omega
      · obtain rfl : i = 8 := by omega
        clear hlt
        have HXr := hid ((M9.out.below.block BX (lt_of_block X6.out)).trans X6.out)
        obtain ⟨z, hz⟩ : ∃ z : Int, ((d1.now k).length : Int) = z := ⟨_, rfl⟩
        have Hz := hid hz
        obtain ⟨s, hs⟩ : ∃ s, s = bytesM x2 := ⟨_, rfl⟩
        have Hs := hid hs
        have hslen : s.length ≤ 16384 := by rw [hs]; exact bytes_len (hlx.ok x2 (by simp))
        have Hslen := hid hslen
        have HN1 := hid (M9.out.disk.ok.ns k hk)
        clear hz hs hslen
        go_upto_region 16 with fail
        refine wp_region_held_drew (S := fun W => Below wr.heap.size wr W) (by kernel_rfl) ((Below.refl _ _).drew) (fun hHeld => ?_)
        refine held_take (v := ?pvbA0) 0 rfl (by kernel_rfl) (by kernel_rfl) (by kernel_rfl) (fun _ _ _ h => h) (by rfl) hHeld ?pybA0 ?prbA0
        case pybA0 => (intro W hSw; go_simp; with_reducible rfl)
        simp only [Act.put, List.setIfInBounds_toArray, List.set_cons_zero, List.set_cons_succ]
        refine held_take (v := ?pvbA1) 1 rfl (by kernel_rfl) (by kernel_rfl) (by kernel_rfl) (fun _ _ _ h => h) (by rfl) hHeld ?pybA1 ?prbA1
        case pybA1 => (intro W hSw; go_simp; with_reducible rfl)
        simp only [Act.put, List.setIfInBounds_toArray, List.set_cons_zero, List.set_cons_succ]
        refine held_take (v := opV x2) 3 rfl (by kernel_rfl) (by kernel_rfl) (by kernel_rfl) (fun _ _ _ h => h) (by rfl) hHeld (fun W hSw => exec_load rfl rfl (run_loadAt_mid W _ _ _ _ _ (range_whole ((hSw.block BX (lt_of_block HXr.out)).trans HXr.out)) Try.underlying34 rfl (by kernel_rfl))) ?_
        simp only [Act.put, List.setIfInBounds_toArray, List.set_cons_zero, List.set_cons_succ]
        refine held_one 2 (by kernel_rfl) rfl (fun K hK => ?_)
        go_simp
        refine (size_any (M9.out.disk.below (Below.refl _ _).drew) (k : Int)).mono ?_
        rintro e w11 ⟨rfl, rfl⟩
        try dsimp only
        rw [if_pos (by omega), Int.toNat_natCast, Hz.out]
        refine hK.out _ _ ((Below.refl _ _).drew) (fun hHeld => ?_)
        clear hK K
        try simp only [Act.put, List.setIfInBounds_toArray, List.set_cons_zero, List.set_cons_succ]
        refine held_one 4 (by kernel_rfl) rfl (fun K hK => ?_)
        go_simp
        refine (bytes_any x2 wr.drew).mono ?_
        rintro e w12 ⟨rfl, hb⟩
        try dsimp only
        rw [← Hs.out]
        have M12 := hid (M9.out.under (below_undrew hb))
        have Hb12 := hid (((below_undrew hb).block WB (lt_of_block Hblk.out)).trans Hblk.out)
        refine hK.out _ _ (below_undrew hb) (fun hHeld => ?_)
        clear hK K hb
        try simp only [Act.put, List.setIfInBounds_toArray, List.set_cons_zero, List.set_cons_succ]
        refine held_take (v := ?pvbB5) 5 rfl (by kernel_rfl) (by kernel_rfl) (by kernel_rfl) (fun _ _ _ h => h) (by rfl) hHeld ?pybB5 ?prbB5
        case pybB5 => (intro W hSw; go_simp; with_reducible rfl)
        simp only [Act.put, List.setIfInBounds_toArray, List.set_cons_zero, List.set_cons_succ]
        refine held_take (v := ?pvbB6) 6 rfl (by kernel_rfl) (by kernel_rfl) (by kernel_rfl) (fun _ _ _ h => h) (by rfl) hHeld ?pybB6 ?prbB6
        case pybB6 => (intro W hSw; go_simp; with_reducible rfl)
        simp only [Act.put, List.setIfInBounds_toArray, List.set_cons_zero, List.set_cons_succ]
        refine wpAnyH_done (by kernel_rfl) ?_ _
        clear hHeld HXr M9 Hblk
        have HXr := hid ((M12.out.below.block BX (lt_of_block X6.out)).trans X6.out)
        have q2 : w12.cell? ⟨BX, 2, none⟩ = some (.int .i64 (a : Int)) := by rw [cell_of_block HXr.out]; simp [opCells, Hat.out]
        have WR := hid (write_any M12.out.disk (k : Int) (a : Int) s (HSc.out.mono (by omega)) (by have := Hslen.out; omega))
        obtain ⟨r, hr⟩ : ∃ r, (writeM d1 (k : Int) (a : Int) s).1 = r := ⟨_, rfl⟩
        obtain ⟨d2, hd2⟩ : ∃ d2, d2 = (writeM d1 (k : Int) (a : Int) s).2 := ⟨_, rfl⟩
        by_cases hr0 : r = 0
        · have hwrote := write_zero (s := s) Hoc.out (by rw [hr]; exact hr0)
          rw [← hd2] at hwrote WR
          rw [hr, hr0] at WR
          obtain ⟨m, hm⟩ : ∃ m, m = s.length / 64 := ⟨_, rfl⟩
          rw [← hm] at hwrote
          have Hw := hid hwrote
          have hsz2 : (((d2.now k).length : Nat) : Int) = max z ((a : Int) + (m : Int)) := by rw [hwrote.size, ← Hz.out]; omega
          have Hsz2 := hid hsz2
          have hlen := hwrote.len
          have hdiv : (s.length : Int).tdiv 64 = (m : Int) := by rw [Int.tdiv_eq_ediv_of_nonneg (by omega)]; omega
          have hm2 := hwrote.len
          have Hm16 := hid (show m ≤ 256 from by have := Hslen.out; omega)
          have hwm : IntKind.i64.wrap ((a : Int) + (m : Int)) = (a : Int) + (m : Int) := IntWalk.i64_in _ (by have := Hm16.out; omega)
          have hw64 : wrap64 (m : Int) = (m : Int) := wrap64_in (by have := Hm16.out; omega)
          clear hr hd2 hr0 hwrote hm hsz2 hm2 hlen
          go_upto_region 21 with (first
            | (go_at_call 21; refine (WR.out).mono ?_; rintro e w13 ⟨rfl, hd⟩; obtain ⟨F13, hm, hkp⟩ := M12.out.did2 hd; have M13 := hid hm; have Hb13 := hid ((hkp WB (lt_of_block Hb12.out) HWo.out.1).1.trans Hb12.out); have HX13 := hid ((M13.out.below.block BX (lt_of_block X6.out)).trans X6.out); have q3 : w13.cell? ⟨BX, 2, none⟩ = some (.int .i64 (a : Int)) := (by rw [cell_of_block HX13.out]; simp [opCells, Hat.out]); clear hd hm hkp WR M12 q2 Hb12)
            | (go_at_call 22; have RD := read_any M13.out.disk (k : Int) (a : Int) (m : Int) (by omega); rw [Hw.out.read hk] at RD; refine RD.mono ?_; clear RD; rintro e w14 ⟨rfl, hb⟩; have M14 := hid (M13.out.under hb); have Hb14 := hid ((hb.block WB (lt_of_block Hb13.out)).trans Hb13.out); clear hb M13 Hb13 q3 HX13)
            | go_in)
          have HX14 := hid ((M14.out.below.block BX (lt_of_block X6.out)).trans X6.out)
          clear HXr
          have HXr := HX14
          refine wp_region_held_drew (S := fun W => Below w14.heap.size w14 W) (by kernel_rfl) ((Below.refl _ _).drew) (fun hHeld => ?_)
          refine held_take (v := ?pvbC0) 0 rfl (by kernel_rfl) (by kernel_rfl) (by kernel_rfl) (fun _ _ _ h => h) (by rfl) hHeld ?pybC0 ?prbC0
          case pybC0 => (intro W hSw; go_simp; with_reducible rfl)
          simp only [Act.put, List.setIfInBounds_toArray, List.set_cons_zero, List.set_cons_succ]
          refine held_take (v := ?pvbC1) 1 rfl (by kernel_rfl) (by kernel_rfl) (by kernel_rfl) (fun _ _ _ h => h) (by rfl) hHeld ?pybC1 ?prbC1
          case pybC1 => (intro W hSw; go_simp; with_reducible rfl)
          simp only [Act.put, List.setIfInBounds_toArray, List.set_cons_zero, List.set_cons_succ]
          refine held_take (v := ?pvbC2) 2 rfl (by kernel_rfl) (by kernel_rfl) (by kernel_rfl) (fun _ _ _ h => h) (by rfl) hHeld ?pybC2 ?prbC2
          case pybC2 => (intro W hSw; go_simp; with_reducible rfl)
          simp only [Act.put, List.setIfInBounds_toArray, List.set_cons_zero, List.set_cons_succ]
          refine held_take (v := ?pvbC3) 3 rfl (by kernel_rfl) (by kernel_rfl) (by kernel_rfl) (fun _ _ _ h => h) (by rfl) hHeld ?pybC3 ?prbC3
          case pybC3 => (intro W hSw; go_simp; with_reducible rfl)
          simp only [Act.put, List.setIfInBounds_toArray, List.set_cons_zero, List.set_cons_succ]
          refine held_take (v := ?pvbC4) 4 rfl (by kernel_rfl) (by kernel_rfl) (by kernel_rfl) (fun _ _ _ h => h) (by rfl) hHeld ?pybC4 ?prbC4
          case pybC4 => (intro W hSw; go_simp; with_reducible rfl)
          simp only [Act.put, List.setIfInBounds_toArray, List.set_cons_zero, List.set_cons_succ]
          refine held_take (v := ?pvbC5) 5 rfl (by kernel_rfl) (by kernel_rfl) (by kernel_rfl) (fun _ _ _ h => h) (by rfl) hHeld ?pybC5 ?prbC5
          case pybC5 => (intro W hSw; go_simp; with_reducible rfl)
          simp only [Act.put, List.setIfInBounds_toArray, List.set_cons_zero, List.set_cons_succ]
          refine held_take (v := ?pvbC6) 6 rfl (by kernel_rfl) (by kernel_rfl) (by kernel_rfl) (fun _ _ _ h => h) (by rfl) hHeld ?pybC6 ?prbC6
          case pybC6 => (intro W hSw; go_simp; with_reducible rfl)
          simp only [Act.put, List.setIfInBounds_toArray, List.set_cons_zero, List.set_cons_succ]
          refine held_take (v := ?pvbC7) 7 rfl (by kernel_rfl) (by kernel_rfl) (by kernel_rfl) (fun _ _ _ h => h) (by rfl) hHeld ?pybC7 ?prbC7
          case pybC7 => (intro W hSw; go_simp; with_reducible rfl)
          simp only [Act.put, List.setIfInBounds_toArray, List.set_cons_zero, List.set_cons_succ]
          refine held_take (v := ?pvbC8) 8 rfl (by kernel_rfl) (by kernel_rfl) (by kernel_rfl) (fun _ _ _ h => h) (by rfl) hHeld ?pybC8 ?prbC8
          case pybC8 => (intro W hSw; go_simp; with_reducible rfl)
          simp only [Act.put, List.setIfInBounds_toArray, List.set_cons_zero, List.set_cons_succ]
          refine held_take (v := ?pvbC9) 9 rfl (by kernel_rfl) (by kernel_rfl) (by kernel_rfl) (fun _ _ _ h => h) (by rfl) hHeld ?pybC9 ?prbC9
          case pybC9 => (intro W hSw; go_simp; with_reducible rfl)
          simp only [Act.put, List.setIfInBounds_toArray, List.set_cons_zero, List.set_cons_succ]
          refine held_take (v := ?pvbC11) 11 rfl (by kernel_rfl) (by kernel_rfl) (by kernel_rfl) (fun _ _ _ h => h) (by rfl) hHeld ?pybC11 ?prbC11
          case pybC11 => (intro W hSw; go_simp; with_reducible rfl)
          simp only [Act.put, List.setIfInBounds_toArray, List.set_cons_zero, List.set_cons_succ]
          refine held_take (v := ?pvbC12) 12 rfl (by kernel_rfl) (by kernel_rfl) (by kernel_rfl) (fun _ _ _ h => h) (by rfl) hHeld ?pybC12 ?prbC12
          case pybC12 => (intro W hSw; go_simp; with_reducible rfl)
          simp only [Act.put, List.setIfInBounds_toArray, List.set_cons_zero, List.set_cons_succ]
          refine held_take (v := .int .i64 (a : Int)) 13 rfl (by kernel_rfl) (by kernel_rfl) (by kernel_rfl) (fun _ _ _ h => h) (by rfl) hHeld ?pybC13 ?prbC13
          case pybC13 => (intro W hSw; have yy : W.cell? ⟨BX, 2, none⟩ = some (.int .i64 (a : Int)) := (by rw [cell_of_block ((hSw.block BX (lt_of_block HXr.out)).trans HXr.out)]; simp [opCells, Hat.out]); go_simp)
          simp only [Act.put, List.setIfInBounds_toArray, List.set_cons_zero, List.set_cons_succ]
          refine held_take (v := ?pvbC14) 14 rfl (by kernel_rfl) (by kernel_rfl) (by kernel_rfl) (fun _ _ _ h => h) (by rfl) hHeld ?pybC14 ?prbC14
          case pybC14 => (intro W hSw; go_simp; with_reducible rfl)
          simp only [Act.put, List.setIfInBounds_toArray, List.set_cons_zero, List.set_cons_succ]
          refine held_take (v := ?pvbC15) 15 rfl (by kernel_rfl) (by kernel_rfl) (by kernel_rfl) (fun _ _ _ h => h) (by rfl) hHeld ?pybC15 ?prbC15
          case pybC15 => (intro W hSw; go_simp; with_reducible rfl)
          simp only [Act.put, List.setIfInBounds_toArray, List.set_cons_zero, List.set_cons_succ]
          refine held_take (v := ?pvbC16) 16 rfl (by kernel_rfl) (by kernel_rfl) (by kernel_rfl) (fun _ _ _ h => h) (by rfl) hHeld ?pybC16 ?prbC16
          case pybC16 => (intro W hSw; go_simp; with_reducible rfl)
          simp only [Act.put, List.setIfInBounds_toArray, List.set_cons_zero, List.set_cons_succ]
          refine held_one 10 (by kernel_rfl) rfl (fun K hK => ?_)
          go_simp
          refine (size_any (M14.out.disk.below (Below.refl _ _).drew) (k : Int)).mono ?_
          rintro e w15 ⟨rfl, rfl⟩
          try dsimp only
          rw [if_pos (by omega), Int.toNat_natCast, Hsz2.out]
          refine hK.out _ _ ((Below.refl _ _).drew) (fun hHeld => ?_)
          clear hK K
          try simp only [Act.put, List.setIfInBounds_toArray, List.set_cons_zero, List.set_cons_succ]
          refine held_take (v := ?pvbD17) 17 rfl (by kernel_rfl) (by kernel_rfl) (by kernel_rfl) (fun _ _ _ h => h) (by rfl) hHeld ?pybD17 ?prbD17
          case pybD17 => (intro W hSw; go_simp; with_reducible rfl)
          simp only [Act.put, List.setIfInBounds_toArray, List.set_cons_zero, List.set_cons_succ]
          refine held_take (v := ?pvbD18) 18 rfl (by kernel_rfl) (by kernel_rfl) (by kernel_rfl) (fun _ _ _ h => h) (by rfl) hHeld ?pybD18 ?prbD18
          case pybD18 => (intro W hSw; go_simp; with_reducible rfl)
          simp only [Act.put, List.setIfInBounds_toArray, List.set_cons_zero, List.set_cons_succ]
          refine wpAnyH_done (by kernel_rfl) ?_ _
          have hM15 := M14.out.under ((Below.refl w14.heap.size w14).drew)
          have hb15 : w14.drew.heap[WB]? = some (.cells (strs A 8).toArray 38 (0, 0)) := Hb14.out
          have M15 := hid hM15
          have Hb15 := hid hb15
          clear hHeld hM15 hb15 HXr HX14
          go_wp2_with fail
          go_loopw [123] (fun v123 wr => ∃ i : Nat, v123 = .int .i64 (i : Int) ∧ i ≤ 8 ∧ Made w6 wr b F13 d2 ∧ wr.heap[WB]? = some (.cells (strs A 8).toArray 38 (0, 0))) (fun v123 _ => 8 - (intOf v123).toNat)
          case atStart => exact ⟨0, rfl, by omega, M15.out, Hb15.out⟩
          case round =>
            obtain ⟨i, rfl, hi8, hm, hblk⟩ := hrel
            have M16 := hid hm
            have Hb16 := hid hblk
            clear hm hblk
            by_cases hlt : i < 8
            · have hlt2 : decide ((i : Int) < 8) = true := by simp; omega
              have hlt3 : (i : Int) < 8 := by omega
              by_cases hik : i = k
              · have hik1 : ((i : Int) != (k : Int)) = false := by simp; omega
                have hik2 : ((i : Int) == (k : Int)) = true := by simp; omega
                obtain ⟨p, hp⟩ : ∃ p, p = allM d2 (i : Int) := ⟨_, rfl⟩
                have Hp := hid hp
                have hplen : p.length = 64 * min (d2.now k).length 300 := by rw [hp, hik]; exact all_len hk Hw.out.off (M16.out.disk.ok.ns k hk)
                have hqlen : (A i).length = 64 * min (d1.now k).length 300 := by rw [← HAf.out, hik]; exact all_len hk Hoc.out (HN1.out)
                obtain ⟨pl, hpl⟩ : ∃ pl, pl = min (d2.now k).length 300 := ⟨_, rfl⟩
                obtain ⟨ql, hql⟩ : ∃ ql, ql = min (d1.now k).length 300 := ⟨_, rfl⟩
                rw [← hpl] at hplen
                rw [← hql] at hqlen
                have hqp : ql ≤ pl := by rw [hql, hpl]; have := Hw.out.size; omega
                have hdivp : (p.length : Int).tdiv 64 = (pl : Int) := by rw [hplen, Int.tdiv_eq_ediv_of_nonneg (by omega)]; omega
                have hwp : wrap64 (pl : Int) = (pl : Int) := wrap64_in (by omega)
                have hmin : min z 300 = (ql : Int) := by have := Hz.out; omega
                have hq300 : ql ≤ 300 := by omega
                have Hdis := hid (show ∀ q, q < ql → (q < a ∨ a + m ≤ q) → secOf p q = secOf (A i) q from fun q hq ho => by
                  rw [hp, ← HAf.out, hik]
                  exact Hw.out.beside hk Hoc.out HN1.out (M16.out.disk.ok.ns k hk) (by omega) ho)
                have Hplen := hid hplen
                have Hqlen := hid hqlen
                have Hik := hid hik
                clear hp hpl hql hplen hqlen hik
                go_upto_region 29 with (first
                  | (go_at_call 15; refine (all_any M16.out.disk (i : Int)).mono ?_; rintro e w17 ⟨rfl, hb⟩; rw [← Hp.out]; have M17 := hid (M16.out.under hb); have Hb17 := hid ((hb.block WB (lt_of_block Hb16.out)).trans Hb16.out); clear hb M16 Hb16)
                  | go_in)
                go_wp2_with fail
                go_loopw [17] (fun v17 wr => ∃ q : Nat, v17 = .int .i64 (q : Int) ∧ q ≤ 300 ∧ Made w6 wr b F13 d2 ∧ wr.heap[WB]? = some (.cells (strs A 8).toArray 38 (0, 0))) (fun v17 _ => 300 - (intOf v17).toNat)
                case atStart => exact ⟨0, rfl, by omega, M17.out, Hb17.out⟩
                case round =>
                  obtain ⟨q, rfl, hq3, hm, hblk⟩ := hrel
                  have M18 := hid hm
                  have Hb18 := hid hblk
                  clear hm hblk M17 Hb17
                  by_cases hqlt : q < ql
                  · have hc1 : decide ((q : Int) < (ql : Int)) = true := decide_eq_true (Int.ofNat_lt.2 hqlt)
                    have hqpl : q < pl := Nat.lt_of_lt_of_le hqlt hqp
                    have hc2 : decide ((q : Int) < (pl : Int)) = true := decide_eq_true (Int.ofNat_lt.2 (Nat.lt_of_lt_of_le hqlt hqp))
                    go_upto_region 32 with fail
                    have hc2b : wr.cell? ⟨BX, 2, none⟩ = some (.int .i64 (a : Int)) := by rw [cell_of_block ((M18.out.below.block BX (lt_of_block X6.out)).trans X6.out)]; simp [opCells, Hat.out]
                    have hcw : wr.cell? ⟨WB, i, none⟩ = some (.string (bs (A i))) := by rw [cell_of_block Hb18.out, strs_get A hlt, if_pos hlt]
                    have r1 := fun d os => cell_regrown hc2b d os
                    have r2 := fun d os => cell_regrown hcw d os
                    have e1 := toNat_a q
                    have e2 := toNat_b q
                    have b1 := slice_in hqpl Hplen.out
                    have b2 := slice_in hqlt Hqlen.out
                    clear hc2b hcw
                    by_cases hqa : q < a
                    · have hS : List.take 64 (List.drop (q * 64) p) = List.take 64 (List.drop (q * 64) (A i)) := Hdis.out q hqlt (.inl hqa)
                      refine region_below (by kernel_rfl) (by kernel_rfl) ?_
                      repeat (go_big_quiet_step (fail))
                      refine wpQuiet_nil ?_
                      intro w19 hb19
                      have M19 := hid (M18.out.under hb19)
                      have Hb19 := hid ((hb19.block WB (lt_of_block Hb18.out)).trans Hb18.out)
                      clear hb19 r1 r2 M18 Hb18
                      go_wp2_with fail
                      go_roundw
                      case rel => exact ⟨q + 1, by simp, Nat.le_trans hqlt hq300, M19.out, Hb19.out⟩
                      case measure => exact meas_300 (Nat.lt_of_lt_of_le hqlt hq300)
                    · by_cases hqm : (a : Int) + (m : Int) ≤ (q : Int)
                      · have hS : List.take 64 (List.drop (q * 64) p) = List.take 64 (List.drop (q * 64) (A i)) := Hdis.out q hqlt (.inr (by omega))
                        have hqm' : decide ((a : Int) + (m : Int) ≤ (q : Int)) = true := decide_eq_true hqm
                        refine region_below (by kernel_rfl) (by kernel_rfl) ?_
                        repeat (go_big_quiet_step (fail))
                        refine wpQuiet_nil ?_
                        intro w19 hb19
                        have M19 := hid (M18.out.under hb19)
                        have Hb19 := hid ((hb19.block WB (lt_of_block Hb18.out)).trans Hb18.out)
                        clear hb19 r1 r2 M18 Hb18
                        go_wp2_with fail
                        go_roundw
                        case rel => exact ⟨q + 1, by simp, Nat.le_trans hqlt hq300, M19.out, Hb19.out⟩
                        case measure => exact meas_300 (Nat.lt_of_lt_of_le hqlt hq300)
                      · have hqm' : decide ((a : Int) + (m : Int) ≤ (q : Int)) = false := decide_eq_false hqm
                        refine region_below (by kernel_rfl) (by kernel_rfl) ?_
                        repeat (go_big_quiet_step (fail))
                        refine wpQuiet_nil ?_
                        intro w19 hb19
                        have M19 := hid (M18.out.under hb19)
                        have Hb19 := hid ((hb19.block WB (lt_of_block Hb18.out)).trans Hb18.out)
                        clear hb19 r1 r2 M18 Hb18
                        go_wp2_with fail
                        go_roundw
                        case rel => exact ⟨q + 1, by simp, Nat.le_trans hqlt hq300, M19.out, Hb19.out⟩
                        case measure => exact meas_300 (Nat.lt_of_lt_of_le hqlt hq300)
                  · have hc1 : decide ((q : Int) < (ql : Int)) = false := decide_eq_false (fun h => hqlt (Int.ofNat_lt.1 h))
                    go_wp2_with fail
                    go_roundw
                    case rel => exact ⟨i + 1, by simp, by omega, M18.out, Hb18.out⟩
                    case measure => simp [intOf]; omega
              · have hik1 : ((i : Int) != (k : Int)) = true := by simp; omega
                have hik2 : ((i : Int) == (k : Int)) = false := by simp; omega
                have hp := Hw.out.else_ Hoc.out hlt hik
                rw [HAf.out] at hp
                have Hp := hid hp
                clear hp
                go_upto_region 29 with (first
                  | (go_at_call 15; refine (all_any M16.out.disk (i : Int)).mono ?_; rintro e w17 ⟨rfl, hb⟩; rw [Hp.out]; have M17 := hid (M16.out.under hb); have Hb17 := hid ((hb.block WB (lt_of_block Hb16.out)).trans Hb16.out); have c17 : w17.cell? ⟨WB, i, none⟩ = some (.string (bs (A i))) := (by rw [cell_of_block Hb17.out, strs_get A hlt, if_pos hlt]); clear hb M16 Hb16)
                  | go_in)
                go_wp2_with fail
                go_loopw [17] (fun v17 wr => v17 = .int .i64 0 ∧ Made w6 wr b F13 d2 ∧ wr.heap[WB]? = some (.cells (strs A 8).toArray 38 (0, 0))) (fun _ _ => 0)
                case atStart => exact ⟨rfl, M17.out, Hb17.out⟩
                case round =>
                  obtain ⟨rfl, hm, hblk⟩ := hrel
                  have M18 := hid hm
                  have Hb18 := hid hblk
                  clear hm hblk M17 Hb17 c17
                  go_wp2_with fail
                  go_roundw
                  case rel => exact ⟨i + 1, by simp, by omega, M18.out, Hb18.out⟩
                  case measure => simp [intOf]; omega
            · obtain rfl : i = 8 := by omega
              go_wp2_with fail
              go_ret
              exact ⟨rfl, B6.out.trans (M16.out.below.mono B6.out.size)⟩
        · have hf := write_fail (d := d1) (f := (k : Int)) (a := (a : Int)) (s := s) (by rw [hr]; exact hr0)
          rw [← hd2] at hf WR
          rw [hr] at WR
          have Hz2 := hid (show ((d2.now k).length : Int) = z by rw [hf, Hz.out])
          have hrne : (r != 0) = true := by simpa using hr0
          clear hr hd2 hr0 hf
          go_wp2_with (first
            | (go_at_call 21; refine (WR.out).mono ?_; rintro e w13 ⟨rfl, hd⟩; obtain ⟨F13, hm⟩ := M12.out.did hd; have M13 := hid hm; clear hd hm WR M12)
            | (go_at_call 16; refine (size_any M13.out.disk (k : Int)).mono ?_; rintro e w14 ⟨rfl, rfl⟩; rw [if_pos (by omega), Int.toNat_natCast, Hz2.out])
            | go_in)
          all_goals
            go_ret
            exact ⟨rfl, B6.out.trans (M13.out.below.mono B6.out.size)⟩

theorem back_any (w : World) (h : OpsAt (alive w) w v l) (hx : OpOk (alive w) w x) (f : Int) (hf : in64 f) :
    Calls Try.prog 5 #[v, opV x, .int .i64 f] w fun e w' => e = .returned (.bool true) ∧ Below w.heap.size w w' := by
  by_cases hbad : f < 0 ∨ 8 ≤ f ∨ x.at_ < 0 ∨ 100 < x.at_
  · exact back_out w h hx f hf hbad
  · obtain ⟨k, rfl⟩ : ∃ k : Nat, f = k := ⟨f.toNat, by omega⟩
    obtain ⟨a, ha⟩ : ∃ a : Nat, x.at_ = (a : Int) := ⟨x.at_.toNat, by omega⟩
    exact back_in w h hx k a (by omega) ha (by omega)
end
end Go.Proofs.Ytifgnhbbcpmaiaa
