import Derived.Test.YtlkkclooihjpiaaGreatDkF
import Derived.Laws.IdiomStrings
set_option linter.unusedVariables false
set_option linter.unusedSimpArgs false
namespace Go.Proofs.YtlkkclooihjpiaaGreat
open Go.RowKit Go.Maps
set_option maxRecDepth 20000
section
variable {w : World} {b : Nat} {F : Foot} {d : Dsk}
theorem Did.same (h : DiskAt w b F d) : Did w b F d w := ⟨F, h, FootStep.refl _ _⟩
set_option maxRecDepth 20000 in
theorem cut_any (h : DiskAt w b F d) (f n : Int) (hs : d.Small 1099511627776) :
  Calls Tryz.prog 103 #[.pointer (some ⟨b, 0, none⟩), .int .i64 f, .int .i64 n] w fun e w' => e = .returned (.int .i64 (cutM d f n).1) ∧ Did w b F (cutM d f n).2 w' := by
 have R := ready_any h f
 by_cases hr : readyM d f = 0
 ·obtain ⟨ho, hf0, hf8⟩ : d.off = false ∧ 0 ≤ f ∧ f < 8 := by
   unfold readyM at hr
   split at hr
   ·omega
   ·split at hr
    ·rename_i h1 h2; exact ⟨by simpa using h1, h2⟩
    ·omega
  obtain ⟨k, rfl⟩ : ∃ k : Nat, f = k := ⟨f.toNat, by omega⟩
  have hk : k < 8 := by omega
  by_cases hn : n < 0 ∨ ((d.now k).length : Int) < n
  ·have e : cutM d k n = (5, d) := by unfold cutM; rw [if_neg (by simpa using hr), Int.toNat_natCast, if_pos hn]
   rw [e]
   rw [hr] at R
   obtain ⟨nm0, sm0, lv0, am0, h0⟩ := id h
   have c0 := (h0.cell (k * 2)).trans (now_cells d nm0 sm0 lv0 am0 hk).1
   obtain ⟨z, hz⟩ : ∃ z : Int, z = (d.now k).length := ⟨_, rfl⟩
   rw [← hz] at c0 hn
   have R := hid R
   have H := hid h
   clear h0 hz e hr h hs
   by_cases h1 : n < 0
   ·have h1' : decide (n < 0) = true := by simpa using h1
    clear hn
    go_enter Tryz.func103, Tryz.ntmps103
    go_wp2_with (first | (go_at_call 23; refine (R.out).mono ?_; rintro e w1 ⟨rfl, rfl⟩) | go_in)
    go_ret
    exact ⟨rfl, Did.same H.out⟩
   ·have h1' : decide (n < 0) = false := by simpa using h1
    have h2 : z < n := by omega
    have h2' : decide (z < n) = true := by simpa using h2
    clear hn h1
    go_enter Tryz.func103, Tryz.ntmps103
    go_wp2_with (first | (go_at_call 23; refine (R.out).mono ?_; rintro e w1 ⟨rfl, rfl⟩) | go_in)
    go_ret
    exact ⟨rfl, Did.same H.out⟩
  ·obtain ⟨j, rfl⟩ : ∃ j : Nat, n = j := ⟨n.toNat, by omega⟩
   have hj : j ≤ (d.now k).length := by omega
   by_cases hm : (meetsM d).1 = 0
   ·have e : cutM d k j = (0, applyM (meetsM d).2 ⟨k, j, true, nought⟩) := by
     unfold cutM
     rw [if_neg (by simpa using hr), Int.toNat_natCast, if_neg hn, if_neg (by simpa using hm), Int.toNat_natCast]
    rw [e]
    exact cut_main h k j hs hk ho hj hm
   ·have e : cutM d k j = meetsM d := by
     unfold cutM
     rw [if_neg (by simpa using hr), Int.toNat_natCast, if_neg hn, if_pos hm]
    rw [e]
    rw [hr] at R
    have M := meets_any h hs
    obtain ⟨r, hr2⟩ : ∃ r, r = (meetsM d).1 := ⟨_, rfl⟩
    obtain ⟨d1, hd1⟩ : ∃ d1, d1 = (meetsM d).2 := ⟨_, rfl⟩
    rw [← hr2, ← hd1] at M ⊢
    rw [← hr2] at hm
    have hrne : (r != 0) = true := by simpa using hm
    obtain ⟨nm0, sm0, lv0, am0, h0⟩ := id h
    have c0 := (h0.cell (k * 2)).trans (now_cells d nm0 sm0 lv0 am0 hk).1
    have h1' : decide ((j : Int) < 0) = false := by simp
    have h2' : decide (((d.now k).length : Int) < (j : Int)) = false := by simp; omega
    obtain ⟨z, hz⟩ : ∃ z : Int, z = (d.now k).length := ⟨_, rfl⟩
    rw [← hz] at c0 h2'
    have R := hid R
    have M := hid M
    clear hr2 hd1 h0 e hr h hs hz hj hn hm
    go_enter Tryz.func103, Tryz.ntmps103
    go_wp2_with (first | (go_at_call 23; refine (R.out).mono ?_; rintro e w1 ⟨rfl, rfl⟩) | (go_at_call 24; refine (M.out).mono ?_; rintro e w2 ⟨rfl, hd2⟩) | go_in)
    go_ret
    exact ⟨rfl, hd2⟩
 ·have e : cutM d f n = (readyM d f, d) := by unfold cutM; rw [if_pos hr]
  rw [e]
  obtain ⟨r, hr2⟩ : ∃ r, r = readyM d f := ⟨_, rfl⟩
  rw [← hr2] at R ⊢
  rw [← hr2] at hr
  have hrne : (r != 0) = true := by simpa using hr
  have R := hid R
  have H := hid h
  clear hr2 e hr h hs
  go_enter Tryz.func103, Tryz.ntmps103
  go_wp2_with (first | (go_at_call 23; refine (R.out).mono ?_; rintro e w1 ⟨rfl, rfl⟩) | go_in)
  go_ret
  exact ⟨rfl, Did.same H.out⟩
end
def newM : Dsk := ⟨fun _ => [], fun _ => [], [], fun _ => 0, 0, -1, false, 0⟩
def Foot.two (i j : Nat) : Foot := ⟨fun k => k = i ∨ k = j, fun _ => False⟩
theorem new_mem (w : World) : DiskMem ((w.alloc (.map #[] 0)).alloc (.cells (diskCells newM (fun _ => none) (fun _ => none) (.slice none 0 0) w.heap.size).toArray 70)) (w.heap.size + 1) (Foot.two w.heap.size (w.heap.size + 1)) newM (fun _ => none) (fun _ => none) (.slice none 0 0) w.heap.size := by
 have hz : (w.alloc (.map #[] 0)).heap.size = w.heap.size + 1 := by simp
 refine ⟨?_, fun f _ => rfl, fun f _ => rfl, fun f _ m hm => (by cases hm), fun f _ m hm => (by cases hm), World.ownsRow_nil _ _ _ _, fun g hg => (by cases hg), ?_, .inl rfl, .inr rfl, fun _ _ h => h, ?_, fun _ h => h.elim, ?_⟩
 ·rw [← hz]; exact heap_alloc_new _ _
 ·exact ⟨.map [], (World.ownsMap_made w _ _ _).alloc _, fun k => rfl⟩
 ·rintro k (rfl | rfl)
  ·simp; omega
  ·simp
 ·exact ⟨fun f _ => by simp [newM], fun f _ => by simp [newM], fun f _ s hs => (by cases hs), fun f _ s hs => (by cases hs), fun c hc => (by cases hc), by simp [newM]⟩
theorem new_any (w : World) : Calls Tryz.prog 6 #[] w fun e w' => ∃ b F, e = .returned (.pointer (some ⟨b, 0, none⟩)) ∧ DiskAt w' b F newM ∧ Below w.heap.size w w' ∧ (∀ k, F.own k → w.heap.size ≤ k) ∧ (∀ k, F.sh k → w.heap.size ≤ k) := by
 have hmm := @run_makeMap Tryz.prog
 go_enter Tryz.func6, Tryz.ntmps6
 go_wp2_with fail
 go_ret
 refine ⟨w.heap.size + 1, Foot.two w.heap.size (w.heap.size + 1), rfl, ⟨_, _, _, _, new_mem w⟩, ((Below.refl _ _).alloc (Nat.le_refl _) _).alloc (by simp) _, ?_, fun _ h => h.elim⟩
 rintro k (rfl | rfl) <;> simp
end Go.Proofs.YtlkkclooihjpiaaGreat
namespace Go.Proofs.YtlkkclooihjpiaaGreat
open Go.RowKit Go.Maps
set_option maxRecDepth 20000
def secOf (s : List UInt8) (i : Nat) : Sec := (s.drop (i * 64)).take 64
def wrChg (k a : Nat) (s : List UInt8) (i : Nat) : Chg := ⟨k, a + i, false, secOf s i⟩
def wrN (d : Dsk) (k a : Nat) (s : List UInt8) : Nat → Dsk
 | 0 => d
 | n + 1 => applyM (wrN d k a s n) (wrChg k a s n)
def writeM (d : Dsk) (f a : Int) (s : List UInt8) : Int × Dsk :=
 if readyM d f ≠ 0 then (readyM d f, d)
 else if s.length / 64 = 0 ∨ s.length % 64 ≠ 0 then (2, d)
 else if a < 0 ∨ (8192 : Int) < (s.length / 64 : Nat) ∨ (8192 : Int) - (s.length / 64 : Nat) < a then (5, d)
 else if (meetsM d).1 ≠ 0 then meetsM d else (0, wrN (meetsM d).2 f.toNat a.toNat s (s.length / 64))
theorem wrN_loose (d : Dsk) (k a : Nat) (s : List UInt8) : ∀ n, (wrN d k a s n).loose.length = d.loose.length + n
 | 0 => rfl
 | n + 1 => by show ((wrN d k a s n).loose ++ [_]).length = _; rw [List.length_append, wrN_loose d k a s n]; rfl
theorem secOf_length {s : List UInt8} {i : Nat} (h : (i + 1) * 64 ≤ s.length) : (secOf s i).length = 64 := by simp [secOf]; omega
theorem bytesRow_range {w : World} {B : Nat} {s : ByteArray} {l : List UInt8} {cap : Nat} {T : TypeId} {fr : Nat × Nat} (hl : s = bs l) (h : w.heap[B]? = some (.cells (bytesRow s cap) T fr)) : w.rangeAt B 0 (cellsOf l) := fun j v hv => by
 rw [cell_of_row w B (0 + j) _ T fr h]
 subst hl
 simp only [cellsOf, List.getElem?_map, Option.map_eq_some_iff] at hv
 obtain ⟨c, hc, rfl⟩ := hv
 have hj : j < l.length := (List.getElem?_eq_some_iff.1 hc).1
 have hcj : l[j] = c := by rw [List.getElem?_eq_getElem hj] at hc; exact Option.some.inj hc
 simp [bytesRow, bs, Array.getElem?_append, hj, hcj]
theorem run_array64 (w : World) (p : Addr) (cap : Nat) : (Instr.arrayAt 73 (.slice (some p) 64 cap)).run Tryz.prog w = .ok (.pointer (some p)) w := by
 simp [Instr.arrayAt, run_underlying Tryz.underlying73, Result.andThen]
theorem fold_set : ∀ (cs : List Value) (off k : Nat) (cells : Array Value), off + k + cs.length ≤ cells.size →
  ((cs.zipIdx k).foldl (fun acc (x : Value × Nat) => acc.setIfInBounds (off + x.2) x.1) cells).toList = cells.toList.take (off + k) ++ cs ++ cells.toList.drop (off + k + cs.length)
 | [], off, k, cells, h => by simp
 | c :: r, off, k, cells, h => by
  simp only [List.zipIdx_cons, List.foldl_cons]
  rw [fold_set r off (k + 1) _ (by simp at h ⊢; omega)]
  have hk : off + k < cells.toList.length := by simp at h ⊢; omega
  simp only [Array.toList_setIfInBounds, List.length_cons]
  have e1 : off + (k + 1) = off + k + 1 := by omega
  have e2 : off + k + 1 + r.length = off + k + (r.length + 1) := by omega
  rw [e1, List.take_succ_eq_append_getElem (by simp; omega), List.getElem_set_self, List.take_set, List.drop_set, if_pos (by omega), e2]
  have e3 : (List.take (off + k) cells.toList).set (off + k) c = List.take (off + k) cells.toList := List.set_eq_of_length_le (by simp; omega)
  rw [e3]
  simp
theorem build_at (w : World) (x y : Int) (bytes : List Value) (h : bytes.length = 64) :
  (Instr.build 75 #[(0, .int .i64 x), (1, .int .i64 y), (3, .agg bytes.toArray)]).run Tryz.prog w = .ok (.agg ([Value.int .i64 x, Value.int .i64 y, Value.bool false] ++ bytes).toArray) w := by
 have hz : ∀ w, (zeroValue 75).run Tryz.prog w = .ok (.agg (chgCells ⟨0, 0, false, nought⟩).toArray) w := fun _ => by kernel_rfl
 have hfill : Instr.fill (fun i => (#[(0, 1), (1, 1), (2, 1), (3, 64)] : Array (Nat × Nat))[i]?) (chgCells ⟨0, 0, false, nought⟩).toArray [(0, .int .i64 x), (1, .int .i64 y), (3, .agg bytes.toArray)] = some ([Value.int .i64 x, Value.int .i64 y, Value.bool false] ++ bytes).toArray := by
  have hc : (chgCells ⟨0, 0, false, nought⟩).length = 67 := rfl
  have h1 : Instr.fill (fun i => (#[(0, 1), (1, 1), (2, 1), (3, 64)] : Array (Nat × Nat))[i]?) (chgCells ⟨0, 0, false, nought⟩).toArray [(0, .int .i64 x), (1, .int .i64 y), (3, .agg bytes.toArray)] =
   Instr.fill (fun i => (#[(0, 1), (1, 1), (2, 1), (3, 64)] : Array (Nat × Nat))[i]?) ([Value.int .i64 x, Value.int .i64 y, Value.bool false] ++ cellsOf nought).toArray [(3, .agg bytes.toArray)] := by rfl
  rw [h1]
  have hn : (cellsOf nought).length = 64 := rfl
  have hf := fold_set bytes 3 0 ([Value.int .i64 x, Value.int .i64 y, Value.bool false] ++ cellsOf nought).toArray (by simp [hn, h])
  simp only [Nat.add_zero] at hf
  have hsz : (Value.agg bytes.toArray).cells.size = 64 := by simp [Value.cells, h]
  have h2 : ([Value.int .i64 x, Value.int .i64 y, Value.bool false] ++ cellsOf nought).toArray.size = 67 := by simp [hn]
  have hp : (#[(0, 1), (1, 1), (2, 1), (3, 64)] : Array (Nat × Nat))[3]? = some (3, 64) := rfl
  unfold Instr.fill
  simp only [hp, hsz, h2]
  unfold Instr.fill
  simp only [ne_eq, not_true_eq_false, decide_false, Bool.false_or, gt_iff_lt, Nat.reduceAdd, Nat.lt_irrefl, if_false, Bool.false_eq_true, Option.some.injEq]
  apply Array.ext'
  rw [← Array.foldl_toList, Array.toList_zipIdx]
  simp only [Value.cells]
  refine hf.trans ?_
  simp [h, hn]
 simp only [Instr.build, Sem.run_bind, hz, Result.andThen_ok, run_underlying Tryz.underlying75, Sem.run_pure]
 refine (congrArg (fun r => Result.andThen r _) (show _ = Result.ok (#[(0, 1), (1, 1), (2, 1), (3, 64)] : Array (Nat × Nat)) w from by kernel_rfl)).trans ?_
 simp only [Result.andThen_ok]
 have hcells : (Value.agg (chgCells ⟨0, 0, false, nought⟩).toArray).cells = (chgCells ⟨0, 0, false, nought⟩).toArray := rfl
 rw [hcells, hfill]
 rfl
theorem build_chg (w : World) (k a : Nat) (s : List UInt8) (i : Nat) (h : (secOf s i).length = 64) :
  (Instr.build 75 #[(0, .int .i64 (k : Int)), (1, .int .i64 ((a : Int) + (i : Int))), (3, .agg (cellsOf (secOf s i)).toArray)]).run Tryz.prog w = .ok (.agg (chgCells (wrChg k a s i)).toArray) w := by
 rw [build_at w _ _ _ (by rw [cellsOf_length, h])]
 simp [chgCells, wrChg]
theorem sec_eq (s : List UInt8) (i : Nat) : List.take ((((i : Int) + 1) * 64).toNat - ((i : Int) * 64).toNat) (List.drop ((i : Int) * 64).toNat s) = secOf s i := by
 have e1 : (((i : Int) + 1) * 64).toNat - ((i : Int) * 64).toNat = 64 := by omega
 have e2 : ((i : Int) * 64).toNat = i * 64 := by omega
 rw [e1, e2]
 rfl
section
variable {w : World} {b : Nat} {F : Foot} {d : Dsk}
set_option maxHeartbeats 1000000 in
set_option maxRecDepth 100000 in
theorem write_main (h : DiskAt w b F d) (k a : Nat) (s : List UInt8) (hs : d.Small 1099511527776) (hk : k < 8) (ho : d.off = false) (hn0 : s.length / 64 ≠ 0) (hn1 : s.length % 64 = 0) (hn2 : a + s.length / 64 ≤ 8192) (hm : (meetsM d).1 = 0) :
  Calls Tryz.prog 7 #[.pointer (some ⟨b, 0, none⟩), .int .i64 (k : Int), .int .i64 (a : Int), .string (bs s)] w fun e w' => e = .returned (.int .i64 0) ∧ Did w b F (wrN (meetsM d).2 k a s (s.length / 64)) w' := by
 have R := ready_any h (k : Int)
 have hr0 : readyM d (k : Int) = 0 := by unfold readyM; rw [ho, if_neg (by simp), if_pos (by omega)]
 rw [hr0] at R
 have M := meets_any h (hs.mono (by omega))
 rw [hm] at M
 obtain ⟨d1, hd1⟩ : ∃ d1, d1 = (meetsM d).2 := ⟨_, rfl⟩
 rw [← hd1] at M ⊢
 obtain ⟨n, hn⟩ : ∃ n, n = s.length / 64 := ⟨_, rfl⟩
 have hsl : s.length = n * 64 := by omega
 have hq : ((s.length : Int)).tdiv 64 = (n : Int) := by rw [Int.tdiv_eq_ediv_of_nonneg (by omega)]; omega
 have hq2 : ((s.length : Int)).tmod 64 = 0 := by rw [Int.tmod_eq_emod_of_nonneg (by omega)]; omega
 rw [← hn] at hn0 hn2 ⊢
 have e1 : d1.loose = d.loose := by rw [hd1]; rfl
 have HS := hid (show d1.loose.length ≤ 1099511527776 by rw [e1]; exact hs.loose)
 have R := hid R
 have M := hid M
 have n0 : ((n : Int) == 0) = false := by simp; omega
 have n1 : (n : Int) ≤ 8192 := by omega
 have n2 : (a : Int) ≤ 8192 - (n : Int) := by omega
 have hk8 : (k : Int) < 8 := by omega
 have Hsl := hid hsl
 clear hd1 hm hr0 e1 hs hn hn0 hn1
 go_enter Tryz.func7, Tryz.ntmps7
 go_wp2_with (first | (go_at_call 23; refine (R.out).mono ?_; rintro e w1 ⟨rfl, rfl⟩) | (go_at_call 24; refine (M.out).mono ?_; rintro e w2 ⟨rfl, hd2⟩) | go_in)
 go_loopw [49] (fun v49 wr => ∃ i : Nat, v49 = .int .i64 (i : Int) ∧ i ≤ n ∧ ∃ F', DiskAt wr b F' (wrN d1 k a s i) ∧ FootStep F F' w1 wr) (fun v49 _ => n - (intOf v49).toNat)
 case atStart => exact ⟨0, rfl, Nat.zero_le _, hd2⟩
 case round =>
  obtain ⟨i, rfl, hin, F2, ⟨nm, sm, lv, am, hmem⟩, hst⟩ := hrel
  by_cases hlt : i < n
  ·have Hmem := hid hmem
   have Hst := hid hst
   have Hsec := hid (secOf_length (s := s) (i := i) (by have := Hsl.out; omega))
   obtain ⟨c, hc⟩ : ∃ c, c = wrChg k a s i := ⟨_, rfl⟩
   have HC := hid (show c.file = k ∧ c.at_ ≤ 8192 ∧ c.bytes.length = 64 ∧ (c.cut = false → c.at_ < 8192) by rw [hc]; exact ⟨rfl, by simp only [wrChg]; omega, Hsec.out, fun _ => by simp only [wrChg]; omega⟩)
   have Hc := hid hc
   obtain ⟨d2, hd2'⟩ : ∃ d2, d2 = wrN d1 k a s i := ⟨_, rfl⟩
   have Hd2 := hid hd2'
   rw [← hd2'] at Hmem
   have HS2 := hid (show d2.loose.length ≤ 1099511627776 by rw [hd2', wrN_loose]; have := HS.out; omega)
   have f1 : IntKind.i64.wrap ((a : Int) + (i : Int)) = (a : Int) + (i : Int) := IntWalk.i64_in _ (by omega)
   have f2 : IntKind.i64.wrap ((i : Int) * 64) = (i : Int) * 64 := IntWalk.i64_in _ (by omega)
   have f3 : IntKind.i64.wrap ((i : Int) + 1) = (i : Int) + 1 := IntWalk.i64_in _ (by omega)
   have f4 : IntKind.i64.wrap (((i : Int) + 1) * 64) = ((i : Int) + 1) * 64 := IntWalk.i64_in _ (by omega)
   have hil : (i : Int) < (n : Int) := by omega
   clear hmem hst hc hd2' hd2
   go_upto_region 15 with fail
   refine wp_region_lit ?_
   refine wpList_value (w' := wr) rfl (.int .i64 (k : Int)) (by go_simp) ?_
   simp only [Act.put, List.setIfInBounds_toArray, List.set_cons_zero, List.set_cons_succ]
   refine wpList_value (w' := wr) rfl (.int .i64 (a : Int)) (by go_simp) ?_
   simp only [Act.put, List.setIfInBounds_toArray, List.set_cons_zero, List.set_cons_succ]
   refine wpList_value (w' := wr) rfl (.int .i64 (i : Int)) (by go_simp) ?_
   simp only [Act.put, List.setIfInBounds_toArray, List.set_cons_zero, List.set_cons_succ]
   refine wpList_value (w' := wr) rfl (.int .i64 ((a : Int) + (i : Int))) (by go_simp) ?_
   simp only [Act.put, List.setIfInBounds_toArray, List.set_cons_zero, List.set_cons_succ]
   refine wpList_value (w' := wr) rfl (.string (bs s)) (by go_simp) ?_
   simp only [Act.put, List.setIfInBounds_toArray, List.set_cons_zero, List.set_cons_succ]
   refine wpList_value (w' := wr) rfl (.int .i64 (i : Int)) (by go_simp) ?_
   simp only [Act.put, List.setIfInBounds_toArray, List.set_cons_zero, List.set_cons_succ]
   refine wpList_value (w' := wr) rfl (.int .i64 ((i : Int) * 64)) (by go_simp) ?_
   simp only [Act.put, List.setIfInBounds_toArray, List.set_cons_zero, List.set_cons_succ]
   refine wpList_value (w' := wr) rfl (.int .i64 (i : Int)) (by go_simp) ?_
   simp only [Act.put, List.setIfInBounds_toArray, List.set_cons_zero, List.set_cons_succ]
   refine wpList_value (w' := wr) rfl (.int .i64 ((i : Int) + 1)) (by go_simp) ?_
   simp only [Act.put, List.setIfInBounds_toArray, List.set_cons_zero, List.set_cons_succ]
   refine wpList_value (w' := wr) rfl (.int .i64 (((i : Int) + 1) * 64)) (by go_simp) ?_
   simp only [Act.put, List.setIfInBounds_toArray, List.set_cons_zero, List.set_cons_succ]
   refine wpList_value (w' := wr) rfl (.string (bs (secOf s i))) (by go_simp; rw [if_pos ⟨by omega, by omega⟩, if_pos ⟨by omega, by omega⟩, sec_eq]) ?_
   simp only [Act.put, List.setIfInBounds_toArray, List.set_cons_zero, List.set_cons_succ]
   refine wpList_value rfl _ (exec_convert rfl (by rfl) (run_bytes_of_string _ 9 28 5 _ Tryz.underlying9 Tryz.underlying28 Tryz.underlying5)) ?_
   obtain ⟨cap, hcap⟩ : ∃ cap, cap = grownCap wr (bs (secOf s i)).size 0 5 := ⟨_, rfl⟩
   rw [← hcap]
   clear hcap
   have hra := bytesRow_range (l := secOf s i) (cap := cap) rfl (heap_alloc_new wr.drew (.cells (bytesRow (bs (secOf s i)) cap) 5 ((bytesRow (bs (secOf s i)) cap).size, (bytesRow (bs (secOf s i)) cap).size + 1)))
   have hbel1 : Below wr.heap.size wr (wr.drew.alloc (.cells (bytesRow (bs (secOf s i)) cap) 5 ((bytesRow (bs (secOf s i)) cap).size, (bytesRow (bs (secOf s i)) cap).size + 1))) := (Below.refl _ wr).drew.alloc (Nat.le_refl _) _
   obtain ⟨wa, hwa⟩ : ∃ wa, wa = wr.drew.alloc (.cells (bytesRow (bs (secOf s i)) cap) 5 ((bytesRow (bs (secOf s i)) cap).size, (bytesRow (bs (secOf s i)) cap).size + 1)) := ⟨_, rfl⟩
   rw [← hwa] at hra hbel1 ⊢
   clear hwa
   rw [bs_size, Hsec.out]
   simp only [Act.put, List.setIfInBounds_toArray, List.set_cons_zero, List.set_cons_succ]
   refine wpList_value rfl (.pointer (some ⟨wr.heap.size, 0, none⟩)) (exec_array rfl (by rfl) (run_array64 wa _ _)) ?_
   simp only [Act.put, List.setIfInBounds_toArray, List.set_cons_zero, List.set_cons_succ]
   refine wpList_value rfl (.agg (cellsOf (secOf s i)).toArray) (exec_load rfl (by rfl) (run_loadAt_mid wa _ _ _ _ _ hra Tryz.underlying73 rfl (by rw [cellsOf_length, Hsec.out]; kernel_rfl))) ?_
   simp only [Act.put, List.setIfInBounds_toArray, List.set_cons_zero, List.set_cons_succ]
   refine wpList_value rfl (.agg (chgCells c).toArray) (exec_build (vs := #[(0, .int .i64 (k : Int)), (1, .int .i64 ((a : Int) + (i : Int))), (3, .agg (cellsOf (secOf s i)).toArray)]) rfl (by simp [Act.eval]) (by rw [Hc.out]; exact build_chg wa k a s i Hsec.out)) ?_
   simp only [Act.put, List.setIfInBounds_toArray, List.set_cons_zero, List.set_cons_succ]
   refine wpList_value rfl (.pointer (some ⟨wa.heap.size, 0, none⟩)) (w' := wa.alloc (.cells (chgCells ⟨0, 0, false, nought⟩).toArray 75)) (by kernel_rfl) ?_
   simp only [Act.put, List.setIfInBounds_toArray, List.set_cons_zero, List.set_cons_succ]
   refine wpList_skip rfl (exec_store rfl rfl rfl (run_storeAt_new wa 75 _ _ (by rw [List.size_toArray, chgCells_length HC.out.2.2.1]; kernel_rfl) (by rw [List.size_toArray, List.size_toArray, chgCells_length HC.out.2.2.1]; rfl) (all_oneCell_toArray (chgCells_one c)))) ?_
   refine wpList_nil ?_
   simp only [Act.put, List.setIfInBounds_toArray, List.set_cons_zero, List.set_cons_succ]
   have hbel2 := hbel1.trans ((Below.refl wa.heap.size wa).alloc (Nat.le_refl _) (.cells (chgCells c).toArray 75) |>.mono hbel1.size)
   obtain ⟨B, hB⟩ : ∃ B, B = wa.heap.size := ⟨_, rfl⟩
   rw [← hB]
   have hBn := heap_alloc_new wa (.cells (chgCells c).toArray 75)
   rw [← hB] at hBn
   have hBr : wr.heap.size ≤ B := by rw [hB]; exact hbel1.size
   have HBo := hid (show ∀ k, F2.own k → k < B from fun k hk => Nat.lt_of_lt_of_le (Hmem.out.olt k hk) hBr)
   have HBb := hid (show B ≠ b by have := lt_of_block Hmem.out.blk; omega)
   have hm3 := Hmem.out.keep (w' := wa.alloc (.cells (chgCells c).toArray 75)) (fun k hk => hbel2.block k (hk.elim (Hmem.out.olt k) (Hmem.out.slt k))) hbel2.size
   have HST3 := hid (Hst.out.trans (footstep_below (F := F2) hbel2))
   obtain ⟨w2, hw2⟩ : ∃ w2, w2 = wa.alloc (.cells (chgCells c).toArray 75) := ⟨_, rfl⟩
   rw [← hw2] at hBn hm3 HST3 ⊢
   have HB := hid hBn
   have HM := hid hm3
   clear hB hBn hBr hbel1 hbel2 hm3 hw2 Hmem Hst hra
   go_upto_region 16 with fail
   have Hi74 := hid (show (Tryz.prog.info? 75).map (·.size) = some (chgCells c).length by rw [chgCells_length HC.out.2.2.1]; kernel_rfl)
   obtain ⟨a0, a1, af0, af1⟩ := now_here HM.out hk
   have hk8 : (k : Int) < 8 := by omega
   refine wp_region_held_drew (S := fun W => W.rangeAt B 0 (chgCells c)) (by kernel_rfl) (range_whole (w := w2.drew) HB.out) (fun hHeld => ?_)
   refine held_take (v := ?pv0) 0 rfl (by kernel_rfl) (by kernel_rfl) (by kernel_rfl) (fun _ _ _ h => h) (by rfl) hHeld ?py0 ?pr0
   case py0 => (intro W hSw; go_simp; with_reducible rfl)
   simp only [Act.put, List.setIfInBounds_toArray, List.set_cons_zero, List.set_cons_succ]
   refine held_take (v := ?pv1) 1 rfl (by kernel_rfl) (by kernel_rfl) (by kernel_rfl) (fun _ _ _ h => h) (by rfl) hHeld ?py1 ?pr1
   case py1 => (intro W hSw; go_simp; with_reducible rfl)
   simp only [Act.put, List.setIfInBounds_toArray, List.set_cons_zero, List.set_cons_succ]
   refine held_take (v := ?pv2) 2 rfl (by kernel_rfl) (by kernel_rfl) (by kernel_rfl) (fun _ _ _ h => h) (by rfl) hHeld ?py2 ?pr2
   case py2 => (intro W hSw; go_simp; with_reducible rfl)
   simp only [Act.put, List.setIfInBounds_toArray, List.set_cons_zero, List.set_cons_succ]
   refine held_take (v := ?pv3) 3 rfl (by kernel_rfl) (by kernel_rfl) (by kernel_rfl) (fun _ _ _ h => h) (by rfl) hHeld ?py3 ?pr3
   case py3 => (intro W hSw; go_simp; with_reducible rfl)
   simp only [Act.put, List.setIfInBounds_toArray, List.set_cons_zero, List.set_cons_succ]
   refine held_take (v := ?pv4) 4 rfl (by kernel_rfl) (by kernel_rfl) (by kernel_rfl) (fun _ _ _ h => h) (by rfl) hHeld ?py4 ?pr4
   case py4 => (intro W hSw; go_simp; with_reducible rfl)
   simp only [Act.put, List.setIfInBounds_toArray, List.set_cons_zero, List.set_cons_succ]
   refine held_take (v := ?pv5) 5 rfl (by kernel_rfl) (by kernel_rfl) (by kernel_rfl) (fun _ _ _ h => h) (by rfl) hHeld ?py5 ?pr5
   case py5 => (intro W hSw; go_simp; with_reducible rfl)
   simp only [Act.put, List.setIfInBounds_toArray, List.set_cons_zero, List.set_cons_succ]
   refine held_take (v := ?pv6) 6 rfl (by kernel_rfl) (by kernel_rfl) (by kernel_rfl) (fun _ _ _ h => h) (by rfl) hHeld ?py6 ?pr6
   case py6 => (intro W hSw; go_simp; with_reducible rfl)
   simp only [Act.put, List.setIfInBounds_toArray, List.set_cons_zero, List.set_cons_succ]
   refine held_take (v := .agg (chgCells c).toArray) 8 rfl (by kernel_rfl) (by kernel_rfl) (by kernel_rfl) (fun _ _ _ h => h) (by rfl) hHeld (fun W hSw => exec_load rfl rfl (run_loadAt_mid W _ _ _ _ _ hSw Tryz.underlying75 rfl Hi74.out)) ?_
   simp only [Act.put, List.setIfInBounds_toArray, List.set_cons_zero, List.set_cons_succ]
   refine held_take (v := ?pv10) 10 rfl (by kernel_rfl) (by kernel_rfl) (by kernel_rfl) (fun _ _ _ h => h) (by rfl) hHeld ?py10 ?pr10
   case py10 => (intro W hSw; go_simp; with_reducible rfl)
   simp only [Act.put, List.setIfInBounds_toArray, List.set_cons_zero, List.set_cons_succ]
   refine held_take (v := ?pv11) 11 rfl (by kernel_rfl) (by kernel_rfl) (by kernel_rfl) (fun _ _ _ h => h) (by rfl) hHeld ?py11 ?pr11
   case py11 => (intro W hSw; go_simp; with_reducible rfl)
   simp only [Act.put, List.setIfInBounds_toArray, List.set_cons_zero, List.set_cons_succ]
   refine held_one 7 (by kernel_rfl) rfl (fun K hK => ?_)
   go_simp
   refine hK.out _ _ (range_whole (w := w2.drew) HB.out) (fun hHeld => ?_)
   clear hK K
   try simp only [Act.put, List.setIfInBounds_toArray, List.set_cons_zero, List.set_cons_succ]
   have hdoes := does_any (nm k) (d2.now k) c w2.drew (HM.out.now k hk) HC.out.2.2.1 (HM.out.ok.nl k hk) HC.out.2.1
   unfold chgV at hdoes
   have Hdoes := hid hdoes
   clear hdoes a0 a1 af0 af1
   refine held_one 9 (by kernel_rfl) rfl (fun K hK => ?_)
   go_simp
   refine (Hdoes.out).mono ?_
   rintro e w4 ⟨m4, rfl, hm4, hf4, hb4⟩
   have Hb4 := hid (below_undrew hb4)
   have Hm4 := hid (show w2.heap.size ≤ m4 from hm4)
   have Hf4 := hid hf4
   have HB4 := hid ((Hb4.out.block B (lt_of_block HB.out)).trans HB.out)
   clear hm4 hf4 hb4 Hdoes
   try dsimp only
   refine hK.out _ _ (range_whole HB4.out) (fun hHeld => ?_)
   clear hK K
   try simp only [Act.put, List.setIfInBounds_toArray, List.set_cons_zero, List.set_cons_succ]
   refine held_take (v := ?pv12) 12 rfl (by kernel_rfl) (by kernel_rfl) (by kernel_rfl) (fun _ _ _ h => h) (by rfl) hHeld ?py12 ?pr12
   case py12 => (intro W hSw; go_simp; with_reducible rfl)
   simp only [Act.put, List.setIfInBounds_toArray, List.set_cons_zero, List.set_cons_succ]
   obtain ⟨a0, a1, af0, af1⟩ := now_here (HM.out.keep (w' := w4) (fun k hk => Hb4.out.block k (hk.elim (HM.out.olt k) (HM.out.slt k))) Hb4.out.size) hk
   obtain ⟨hm5, hst5⟩ := HM.out.write_now hk Hb4.out Hm4.out Hf4.out (does_len (HM.out.ok.nl k hk) HC.out.2.2.2) (does_sec (HM.out.ok.ns k hk) HC.out.2.2.1)
   have hB5 := two_other (w := w4) HB4.out (b := b) (k * 2) (k * 2 + 1) (.int .i64 (doesM (d2.now k) c).length) (.map (some m4)) HBb.out
   have HM5 := hid hm5
   have HST5 := hid hst5
   have HB5 := hid hB5
   clear hm5 hst5 hB5
   obtain ⟨z5, hz5⟩ : ∃ z : Int, z = (doesM (d2.now k) c).length := ⟨_, rfl⟩
   simp only [← hz5] at HM5 HST5 HB5 ⊢
   clear hz5
   refine held_one 13 (by kernel_rfl) rfl (fun K hK => ?_)
   go_simp
   refine hK.out _ _ (range_whole HB5.out) (fun hHeld => ?_)
   clear hK K
   try simp only [Act.put, List.setIfInBounds_toArray, List.set_cons_zero, List.set_cons_succ]
   refine wpAnyH_done (by kernel_rfl) ?_ _
   clear a0 a1 af0 af1
   obtain ⟨w5, hw5⟩ : ∃ w5, w5 = (w4.setCell ⟨b, k * 2, none⟩ (.int .i64 z5)).setCell ⟨b, k * 2 + 1, none⟩ (.map (some m4)) := ⟨_, rfl⟩
   rw [← hw5] at HM5 HST5 HB5 ⊢
   clear hw5 hHeld
   go_upto_region 17 with fail
   obtain ⟨a32, -, -, -, -⟩ := HM5.out.five
   have af := HM5.out.free 32
   refine wp_region_held_drew (S := fun W => W.rangeAt B 0 (chgCells c)) (by kernel_rfl) (range_whole (w := w5.drew) HB5.out) (fun hHeld => ?_)
   refine held_take (v := ?qv0) 0 rfl (by kernel_rfl) (by kernel_rfl) (by kernel_rfl) (fun _ _ _ h => h) (by rfl) hHeld ?qy0 ?qr0
   case qy0 => (intro W hSw; go_simp; with_reducible rfl)
   simp only [Act.put, List.setIfInBounds_toArray, List.set_cons_zero, List.set_cons_succ]
   refine held_take (v := ?qv1) 1 rfl (by kernel_rfl) (by kernel_rfl) (by kernel_rfl) (fun _ _ _ h => h) (by rfl) hHeld ?qy1 ?qr1
   case qy1 => (intro W hSw; go_simp; with_reducible rfl)
   simp only [Act.put, List.setIfInBounds_toArray, List.set_cons_zero, List.set_cons_succ]
   refine held_take (v := ?qv2) 2 rfl (by kernel_rfl) (by kernel_rfl) (by kernel_rfl) (fun _ _ _ h => h) (by rfl) hHeld ?qy2 ?qr2
   case qy2 => (intro W hSw; go_simp; with_reducible rfl)
   simp only [Act.put, List.setIfInBounds_toArray, List.set_cons_zero, List.set_cons_succ]
   refine held_take (v := ?qv3) 3 rfl (by kernel_rfl) (by kernel_rfl) (by kernel_rfl) (fun _ _ _ h => h) (by rfl) hHeld ?qy3 ?qr3
   case qy3 => (intro W hSw; go_simp; with_reducible rfl)
   simp only [Act.put, List.setIfInBounds_toArray, List.set_cons_zero, List.set_cons_succ]
   refine held_take (v := .agg (chgCells c).toArray) 5 rfl (by kernel_rfl) (by kernel_rfl) (by kernel_rfl) (fun _ _ _ h => h) (by rfl) hHeld (fun W hSw => exec_load rfl rfl (run_loadAt_mid W _ _ _ _ _ hSw Tryz.underlying75 rfl Hi74.out)) ?_
   simp only [Act.put, List.setIfInBounds_toArray, List.set_cons_zero, List.set_cons_succ]
   have hb5 := lt_of_block HM5.out.blk
   have a32a : (w5.drew.alloc (.cells (chgCells c).toArray 75)).cell? ⟨b, 32, none⟩ = some lv := (cell_of_block (heap_alloc_old (w := w5.drew) HM5.out.blk) 32).trans rfl
   refine held_two (vi := lv) (vj := .slice (some ⟨w5.heap.size, 0, none⟩) 1 1) (w' := w5.drew.alloc (.cells (chgCells c).toArray 75)) 4 6 (by decide) (by kernel_rfl) (by kernel_rfl) (by kernel_rfl) rfl rfl (by rfl) (by rfl) (by rfl) (by rfl) (by go_simp) (exec_buildSlice (vs := #[(0, .agg (chgCells c).toArray)]) rfl (by simp [Act.eval, Act.put]) (run_buildSlice_one _ 68 75 _ (chgV ⟨0, 0, false, nought⟩) 67 Tryz.underlying68 (by kernel_rfl) (by rfl) (by rw [List.size_toArray, chgCells_length HC.out.2.2.1]) (by omega) (by omega))) (by go_simp) (exec_buildSlice (vs := #[(0, .agg (chgCells c).toArray)]) rfl (by simp [Act.eval, Act.put]) (run_buildSlice_one _ 68 75 _ (chgV ⟨0, 0, false, nought⟩) 67 Tryz.underlying68 (by kernel_rfl) (by rfl) (by rw [List.size_toArray, chgCells_length HC.out.2.2.1]) (by omega) (by omega))) rfl (range_whole (w := w5.drew) HB5.out) (range_whole (heap_alloc_old (w := w5.drew) HB5.out)) ?_
   have hHeld := range_whole (heap_alloc_old (w := w5.drew) (o := .cells (chgCells c).toArray 75) HB5.out)
   try simp only [Act.put, List.setIfInBounds_toArray, List.set_cons_zero, List.set_cons_succ]
   clear a32a hb5
   obtain ⟨i0, hi, hz0, hz1, hz2⟩ := info_parts (P := Tryz.prog) (e := 75) (z := chgV ⟨0, 0, false, nought⟩) (size := 67) (bytes := 88) (by kernel_rfl)
   refine held_one 7 (by kernel_rfl) rfl (fun K hK => ?_)
   refine step_append_lies _ (by rfl) _ _ 68 (by rfl) 0 75 i0 _ 67 88 Tryz.underlying68 hi hz0 hz1 hz2 rfl (by omega) lv d2.loose.length (chgsCells d2.loose) (by rfl) (row_alloc HM5.out _) ⟨w5.heap.size, 0, none⟩ 1 1 (chgCells c) (by rfl) (by rw [chgCells_length HC.out.2.2.1]) (World.news_of_block (cs := (chgCells c).toArray) (t := 75) (fr := (0, 0)) (heap_alloc_new w5.drew _)) (chgCells_one c) (by omega) (by unfold maxLen; have := HS2.out; omega) (by have := HS2.out; omega) (Nat.zero_le _) (w5.drew.heap.size + 1) (by simp) ?_
   intro g cap w7 hown7 hgrow7 hat7 hlt7
   have HB7 := hid ((hgrow7.block B (by simp; exact Nat.lt_succ_of_lt (lt_of_block HB5.out)) (fun e => by have := HBo.out B (HM5.out.rown B e.symm); omega)).trans (heap_alloc_old (w := w5.drew) HB5.out))
   obtain ⟨b32, bf⟩ := after_append HM5.out hgrow7
   obtain ⟨hm8, hst8⟩ := HM5.out.push (c := c) ((Below.refl _ w5).drew.alloc (Nat.le_refl _) _) hown7 hgrow7 (hat7.imp id (fun e => by rw [e]; simp)) hlt7 ⟨by rw [HC.out.1]; exact hk, HC.out.2.1, HC.out.2.2.1, HC.out.2.2.2⟩
   have HM8 := hid hm8
   have HST8 := hid hst8
   clear hm8 hst8 hown7 hgrow7 hat7 hlt7 a32 af
   refine hK.out _ _ (range_whole HB7.out) (fun hHeld => ?_)
   clear hK K
   try simp only [Act.put, List.setIfInBounds_toArray, List.set_cons_zero, List.set_cons_succ]
   refine held_take (v := ?qv8) 8 rfl (by kernel_rfl) (by kernel_rfl) (by kernel_rfl) (fun _ _ _ h => h) (by rfl) hHeld ?qy8 ?qr8
   case qy8 => (intro W hSw; go_simp; with_reducible rfl)
   simp only [Act.put, List.setIfInBounds_toArray, List.set_cons_zero, List.set_cons_succ]
   refine held_take (v := ?qv9) 9 rfl (by kernel_rfl) (by kernel_rfl) (by kernel_rfl) (fun _ _ _ h => h) (by rfl) hHeld ?qy9 ?qr9
   case qy9 => (intro W hSw; go_simp; with_reducible rfl)
   simp only [Act.put, List.setIfInBounds_toArray, List.set_cons_zero, List.set_cons_succ]
   refine held_one 10 (by kernel_rfl) rfl (fun K hK => ?_)
   go_simp
   refine hK.out _ _ (range_whole (one_other HB7.out HBb.out _ _)) (fun hHeld => ?_)
   clear hK K
   try simp only [Act.put, List.setIfInBounds_toArray, List.set_cons_zero, List.set_cons_succ]
   refine wpAnyH_done (by kernel_rfl) ?_ _
   clear b32 bf hHeld
   go_wp2_with fail
   go_roundw
   case rel =>
    have e : wrN d1 k a s (i + 1) = { now := put d2.now k (doesM (d2.now k) c), sure := d2.sure, loose := d2.loose ++ [c], armed := d2.armed, ops := d2.ops, goes := d2.goes, off := d2.off, narm := d2.narm } := by
     show applyM (wrN d1 k a s i) (wrChg k a s i) = _
     rw [← Hd2.out, ← Hc.out]
     unfold applyM
     rw [HC.out.1]
    refine ⟨i + 1, by simp, by omega, _, ?_, HST3.out.trans (HST5.out.trans HST8.out)⟩
    rw [e]
    exact ⟨_, _, _, _, HM8.out⟩
   case measure => simp [intOf]; omega
  ·have hi : i = n := by omega
   subst hi
   have hlt' : decide ((i : Int) < (i : Int)) = false := by simp
   have H := hid hmem
   have Hst := hid hst
   clear hmem hst hd2
   go_wp2_with fail
   go_ret
   exact ⟨rfl, F2, ⟨nm, sm, lv, am, H.out⟩, Hst.out⟩
end
end Go.Proofs.YtlkkclooihjpiaaGreat
