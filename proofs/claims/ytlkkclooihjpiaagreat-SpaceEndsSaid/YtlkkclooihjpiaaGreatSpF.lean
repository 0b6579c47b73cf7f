/- Pages of trees (node): numbers, a builder's WriteByte; free pages. -/
import Derived.Test.YtlkkclooihjpiaaGreatSpE
import Derived.Lib.FrozenHead2
import Derived.Deep.DeepMust
set_option linter.unusedVariables false
set_option linter.unusedSimpArgs false
namespace Go.Proofs.YtlkkclooihjpiaaGreat
open Go.RowKit Go.Maps
set_option maxRecDepth 20000
set_option maxHeartbeats 2000000 in
set_option maxRecDepth 100000 in
theorem writeByte_any (B b : Nat) (l : List UInt8) (c : UInt8) (w : World) (h : BldF B b l w) (hlen : l.length + 1 ≤ 140737488355328) (hBw : B ≤ w.heap.size) :
  Calls Tryz.prog 93 #[.pointer (some ⟨b, 0, none⟩), .int .u8 (c.toNat : Int)] w fun e w' => e = .returned .nilIface ∧ (BldF B b (l ++ [c]) w' ∧ Frm (WS 5 B b w) w w') := by
 obtain ⟨i0, hi, hz0, hz1, hz2⟩ := info_parts (P := Tryz.prog) (e := 5) (z := .int .u8 0) (size := 1) (bytes := 1) (by kernel_rfl)
 go_enter Tryz.func93, Tryz.ntmps93
 go_wp2_with fail
 refine (copyCheck_any B b _ _ h).mono ?_
 rintro e w1 ⟨rfl, h1, hf1⟩
 obtain ⟨hB, v, hbk, hown, hne⟩ := h1
 rw [Lib.byteCells_length] at hown
 have c0 : w1.cell? ⟨b, 0, none⟩ = some (.pointer (some ⟨b, 0, none⟩)) := by rw [Lib.cell_of_heap hbk]; rfl
 have c1 : w1.cell? ⟨b, 1, none⟩ = some v := by rw [Lib.cell_of_heap hbk]; rfl
 have hlt : b < w1.heap.size := lt_of_block hbk
 have hs1 := hf1.size
 go_wp2_with (at_builtin; go_must (refine wpList_append_ownF _ rfl _ _ 28 rfl B 5 i0 _ 1 1 Tryz.underlying28 hi hz0 hz1 hz2 rfl (by decide) _ _ _ rfl (hown.alloc (.cells #[.int .u8 (c.toNat : Int)] 5)) ⟨w1.heap.size, 0, none⟩ 1 1 [.int .u8 (c.toNat : Int)] rfl (by simp) (World.news_of_block (cs := #[.int .u8 (c.toNat : Int)]) (t := 5) (fr := (0, 0)) (heap_alloc_new w1 _)) (by intro u hu; rw [List.mem_singleton.1 hu]; rfl) ?c3 ?c4 ?c5 ?_))
 case c3 => unfold maxLen; omega
 case c4 => omega
 case c5 => simp; omega
 intro v' w2 hown' hgrow _
 have hb1a : (w1.alloc (.cells #[.int .u8 (c.toNat : Int)] 5)).heap[b]? = some (.cells #[.pointer (some ⟨b, 0, none⟩), v] 163 (0, 0)) := heap_alloc_old hbk
 have hb2 : w2.heap[b]? = some (.cells #[.pointer (some ⟨b, 0, none⟩), v] 163 (0, 0)) := by
  rw [hgrow.block b (by simp; omega) (fun e => hne e.symm)]
  exact hb1a
 have d0 : w2.cell? ⟨b, 0, none⟩ = some (.pointer (some ⟨b, 0, none⟩)) := by rw [Lib.cell_of_heap hb2]; rfl
 have d1 : w2.cell? ⟨b, 1, none⟩ = some v := by rw [Lib.cell_of_heap hb2]; rfl
 have f1 : w2.frozen? ⟨b, 1, none⟩ = false := Lib.frozen_of_heap hb2 1
 have hfr : Frm (WS 5 B b w) w w2 := by
  refine ⟨hgrow.os.trans hf1.os, hgrow.tape.trans hf1.tape, hgrow.output.trans hf1.output, Nat.le_trans hf1.size (Nat.le_trans (by simp) hgrow.size), fun k hk hs => ?_⟩
  have hkb : k ≠ b := fun e => hs ⟨by omega, .inl e⟩
  have hkv : some k ≠ v.ownBlock := by
   intro e
   apply hs
   have hlt2 := hown.lt k e.symm
   refine ⟨hlt2.1, .inr ?_⟩
   rcases hown.2 with ⟨rfl, _⟩ | ⟨g, cap, cur, fz, rfl, _, hg, _⟩
   ·simp [Value.ownBlock] at e
   ·simp [Value.ownBlock] at e
    subst e
    exact ⟨cur, fz, by rw [← hf1.block k hk hkb]; exact hg⟩
  rw [hgrow.block k (by simp; omega) hkv, Below.heap_alloc w1 _ k (Nat.lt_of_lt_of_le hk hf1.size), hf1.block k hk hkb]
 obtain ⟨ao, n', cap, rfl⟩ : ∃ ao n' cap, v' = .slice ao n' cap := by
  rcases hown'.2 with ⟨hv, _⟩ | ⟨g, cap, cur, fz, hv, _⟩
  ·exact ⟨_, _, _, hv⟩
  ·exact ⟨_, _, _, hv⟩
 go_wp2
 go_ret
 refine ⟨rfl, .inr ?_, hfr.setCell (.inl ⟨hB, .inl rfl⟩) _⟩
 exact Lib.BuilderAtF.put (T := 163) (e := 5) hB hb2 (bs' := Lib.byteCells (l ++ [c])) (by simpa [Lib.byteCells_append, Lib.byteCells_length, bs_size, Lib.strCells_eq, bs_data, Lib.byteCells] using hown') (by decide)
theorem row_store {w : World} {base n g cap : Nat} {e : TypeId} {xs : List Value} (h : w.ownsRow base e 1 (.slice (some ⟨g, 0, none⟩) n cap) n xs) {i : Nat} (hi : i < n) (u : Value) :
  (∃ old, w.cell? ⟨g, i, none⟩ = some old) ∧ w.frozen? ⟨g, i, none⟩ = false ∧ (w.setCell ⟨g, i, none⟩ u).ownsRow base e 1 (.slice (some ⟨g, 0, none⟩) n cap) n (xs.set i u) ∧ w.grownBy (w.setCell ⟨g, i, none⟩ u) (some g) := by
 have hl := h.1
 refine ⟨⟨xs[i]'(by omega), ?_⟩, h.frozenAt i, h.stored i u⟩
 rw [h.cellAt i (by omega), List.getElem?_eq_getElem (by omega)]
-- NUMBERS
def num4V (n : Int) (k : Nat) : List Value := (List.range 4).map fun j => .int .u8 (if j < k then ([n / 16777216, n / 65536 % 256, n / 256 % 256, n % 256] : List Int).getD j 0 else 0)
set_option maxHeartbeats 2000000 in
set_option maxRecDepth 20000 in
theorem number4_any (n : Int) (h0 : 0 ≤ n) (h1 : n < 4294967296) (w : World) : Calls Tryz.prog 94 #[.int .i64 n, .int .i64 4] w fun e w' => e = .returned (.string (bs (four n))) ∧ Below w.heap.size w w' := by
 obtain ⟨i, hi, hz, hs, hb⟩ := info_parts (P := Tryz.prog) (e := 5) (z := .int .u8 0) (size := 1) (bytes := 1) (by kernel_rfl)
 obtain ⟨w1, hmk, hown, hgr⟩ := run_make_full (P := Tryz.prog) w w.heap.size 28 5 i _ 1 Tryz.underlying28 hi hz hs .i64 .i64 4 (by rw [hb]; omega) (by unfold maxLen; omega) (Nat.le_refl _)
 have e : (madeCells (Value.int .u8 0).cells (4 * 1)).toList = [.int .u8 0, .int .u8 0, .int .u8 0, .int .u8 0] := by
  show (madeCells #[.int .u8 0] 4).toList = _
  rw [toList_madeCells_one]
  rfl
 rw [e] at hown
 have hmk' : (Instr.makeSlice 28 (.int .i64 4) (.int .i64 4)).run Tryz.prog w = .ok (.slice (some ⟨w.heap.size, 0, none⟩) 4 4) w1 := hmk
 have Hgr := hid hgr
 have Hown := hid hown
 have hfin : num4V n 4 = cellsOf (four n) := by
  show [Value.int .u8 (n / 16777216), Value.int .u8 (n / 65536 % 256), Value.int .u8 (n / 256 % 256), Value.int .u8 (n % 256)] = [Value.int .u8 ((byt (n / 16777216)).toNat : Int), Value.int .u8 ((byt (n / 65536 % 256)).toNat : Int), Value.int .u8 ((byt (n / 256 % 256)).toNat : Int), Value.int .u8 ((byt (n % 256)).toNat : Int)]
  rw [byt_toNat (n / 16777216) (by omega) (by omega), byt_toNat (n / 65536 % 256) (by omega) (by omega), byt_toNat (n / 256 % 256) (by omega) (by omega), byt_toNat (n % 256) (by omega) (by omega)]
 have Hfin := hid hfin
 clear hgr hown hmk e hz hs hb hi hfin
 go_enter Tryz.func94, Tryz.ntmps94
 go_wp2_with fail
 go_loopw [11] (fun v11 wr => ∃ k : Nat, k ≤ 4 ∧ v11 = .int .i64 (k : Int) ∧ wr.ownsRow w.heap.size 5 1 (.slice (some ⟨w.heap.size, 0, none⟩) 4 4) 4 (num4V n k) ∧ Below w.heap.size w wr) (fun v11 _ => 4 - (intOf v11).toNat)
 case atStart => exact ⟨0, by omega, rfl, Hown.out, ⟨Hgr.out.os, Hgr.out.tape, Hgr.out.output, Hgr.out.size, fun k hk => Hgr.out.block k hk (fun e => by cases e)⟩⟩
 case round =>
  obtain ⟨k, hk, rfl, hrow, hbw⟩ := hrel
  have Hrow := hid hrow
  have HBw := hid hbw
  clear hbw
  by_cases hlt : k < 4
  ·obtain ⟨⟨old, c0⟩, f0, -, -⟩ := row_store hrow hlt (.int .u8 0)
   have hk4 : k = 0 ∨ k = 1 ∨ k = 2 ∨ k = 3 := by omega
   clear hrow hk hlt
   rcases hk4 with rfl | rfl | rfl | rfl
   ·go_wp2_with fail
    go_roundw
    case rel => exact ⟨1, by omega, by first | rfl | trivial, (row_store Hrow.out (i := 0) (by decide) (.int .u8 (n / 16777216))).2.2.1, HBw.out.setCell (p := ⟨w.heap.size, 0, none⟩) (Nat.le_refl _) _⟩
    case measure => simp [intOf]
   ·go_wp2_with fail
    go_roundw
    case rel => exact ⟨2, by omega, by first | rfl | trivial, (row_store Hrow.out (i := 1) (by decide) (.int .u8 (n / 65536 % 256))).2.2.1, HBw.out.setCell (p := ⟨w.heap.size, 1, none⟩) (Nat.le_refl _) _⟩
    case measure => simp [intOf]
   ·go_wp2_with fail
    go_roundw
    case rel => exact ⟨3, by omega, by first | rfl | trivial, (row_store Hrow.out (i := 2) (by decide) (.int .u8 (n / 256 % 256))).2.2.1, HBw.out.setCell (p := ⟨w.heap.size, 2, none⟩) (Nat.le_refl _) _⟩
    case measure => simp [intOf]
   ·go_wp2_with fail
    go_roundw
    case rel => exact ⟨4, by omega, by first | rfl | trivial, (row_store Hrow.out (i := 3) (by decide) (.int .u8 (n % 256))).2.2.1, HBw.out.setCell (p := ⟨w.heap.size, 3, none⟩) (Nat.le_refl _) _⟩
    case measure => simp [intOf]
  ·obtain rfl : k = 4 := by omega
   have hr := Hrow.out
   rw [Hfin.out] at hr
   have hconv := run_convert_own (P := Tryz.prog) wr 28 9 5 Tryz.underlying28 Tryz.underlying5 Tryz.underlying9 w.heap.size _ _ _ hr
   clear hrow hr hlt hk
   go_wp2_with fail
   go_ret
   exact ⟨rfl, HBw.out⟩
def num2V (n : Int) (k : Nat) : List Value := (List.range 2).map fun j => .int .u8 (if j < k then ([n / 256, n % 256] : List Int).getD j 0 else 0)
set_option maxHeartbeats 2000000 in
set_option maxRecDepth 20000 in
theorem number2_any (n : Int) (h0 : 0 ≤ n) (h1 : n < 65536) (w : World) : Calls Tryz.prog 94 #[.int .i64 n, .int .i64 2] w fun e w' => e = .returned (.string (bs ([byt (n / 256), byt (n % 256)]))) ∧ Below w.heap.size w w' := by
 obtain ⟨i, hi, hz, hs, hb⟩ := info_parts (P := Tryz.prog) (e := 5) (z := .int .u8 0) (size := 1) (bytes := 1) (by kernel_rfl)
 obtain ⟨w1, hmk, hown, hgr⟩ := run_make_full (P := Tryz.prog) w w.heap.size 28 5 i _ 1 Tryz.underlying28 hi hz hs .i64 .i64 2 (by rw [hb]; omega) (by unfold maxLen; omega) (Nat.le_refl _)
 have e : (madeCells (Value.int .u8 0).cells (2 * 1)).toList = [.int .u8 0, .int .u8 0] := by
  show (madeCells #[.int .u8 0] 2).toList = _
  rw [toList_madeCells_one]
  rfl
 rw [e] at hown
 have hmk' : (Instr.makeSlice 28 (.int .i64 2) (.int .i64 2)).run Tryz.prog w = .ok (.slice (some ⟨w.heap.size, 0, none⟩) 2 2) w1 := hmk
 have Hgr := hid hgr
 have Hown := hid hown
 have hfin : num2V n 2 = cellsOf ([byt (n / 256), byt (n % 256)]) := by
  show [Value.int .u8 (n / 256), Value.int .u8 (n % 256)] = [Value.int .u8 ((byt (n / 256)).toNat : Int), Value.int .u8 ((byt (n % 256)).toNat : Int)]
  rw [byt_toNat (n / 256) (by omega) (by omega), byt_toNat (n % 256) (by omega) (by omega)]
 have Hfin := hid hfin
 clear hgr hown hmk e hz hs hb hi hfin
 go_enter Tryz.func94, Tryz.ntmps94
 go_wp2_with fail
 go_loopw [11] (fun v11 wr => ∃ k : Nat, k ≤ 2 ∧ v11 = .int .i64 (k : Int) ∧ wr.ownsRow w.heap.size 5 1 (.slice (some ⟨w.heap.size, 0, none⟩) 2 2) 2 (num2V n k) ∧ Below w.heap.size w wr) (fun v11 _ => 2 - (intOf v11).toNat)
 case atStart => exact ⟨0, by omega, rfl, Hown.out, ⟨Hgr.out.os, Hgr.out.tape, Hgr.out.output, Hgr.out.size, fun k hk => Hgr.out.block k hk (fun e => by cases e)⟩⟩
 case round =>
  obtain ⟨k, hk, rfl, hrow, hbw⟩ := hrel
  have Hrow := hid hrow
  have HBw := hid hbw
  clear hbw
  by_cases hlt : k < 2
  ·obtain ⟨⟨old, c0⟩, f0, -, -⟩ := row_store hrow hlt (.int .u8 0)
   have hk4 : k = 0 ∨ k = 1 := by omega
   clear hrow hk hlt
   rcases hk4 with rfl | rfl
   ·go_wp2_with fail
    go_roundw
    case rel => exact ⟨1, by omega, by first | rfl | trivial, (row_store Hrow.out (i := 0) (by decide) (.int .u8 (n / 256))).2.2.1, HBw.out.setCell (p := ⟨w.heap.size, 0, none⟩) (Nat.le_refl _) _⟩
    case measure => simp [intOf]
   ·go_wp2_with fail
    go_roundw
    case rel => exact ⟨2, by omega, by first | rfl | trivial, (row_store Hrow.out (i := 1) (by decide) (.int .u8 (n % 256))).2.2.1, HBw.out.setCell (p := ⟨w.heap.size, 1, none⟩) (Nat.le_refl _) _⟩
    case measure => simp [intOf]
  ·obtain rfl : k = 2 := by omega
   have hr := Hrow.out
   rw [Hfin.out] at hr
   have hconv := run_convert_own (P := Tryz.prog) wr 28 9 5 Tryz.underlying28 Tryz.underlying5 Tryz.underlying9 w.heap.size _ _ _ hr
   clear hrow hr hlt hk
   go_wp2_with fail
   go_ret
   exact ⟨rfl, HBw.out⟩
end Go.Proofs.YtlkkclooihjpiaaGreat
