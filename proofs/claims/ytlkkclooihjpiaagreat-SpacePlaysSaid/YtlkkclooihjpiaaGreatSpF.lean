/- Plain laws: on a calm disk no step of the log's fails, also behind a crash. -/
import Derived.Test.YtlkkclooihjpiaaGreatSqE
import Derived.Test.YtlkkclooihjpiaaGreatSpE
import Derived.Lib.FrozenHead2
import Derived.Deep.DeepMust
set_option linter.unusedVariables false
set_option linter.unusedSimpArgs false
namespace Go.Proofs.YtlkkclooihjpiaaGreat
open Go.RowKit Go.Maps
set_option maxRecDepth 20000
def Steady (n : Nat) (g : Lg) : Prop := g.off = false ∧ g.list.length = n ∧ hdMay g.head = true
def Fine (n : Nat) (m : LgM) : Prop := ∀ g d, Calm d → Steady n g → (m g d).1 = 0 ∧ Calm (m g d).2.2 ∧ Steady n (m g d).2.1
section
variable {g : Lg} {d : Dsk} {n : Nat} {S : List (List UInt8) → Prop} {L M : List (List UInt8)}
theorem fine_puts {h : Hd} (has : Bool) (hm : hdMay h = true) : Fine n (lputsM h has) := by
 intro g d hc hg
 have hl : (lputsS h has).length = 1 * 64 := by rw [lputsS_eq has hm, headS_len]
 have hw : (writeM d ((1 : Nat) : Int) ((0 : Nat) : Int) (lputsS h has)).1 = 0 := write_ok hc (by decide) hl (by decide) (by decide)
 exact ⟨hw, calm_write hc 1 0 _, hg⟩
theorem fine_sync : Fine n lsyncM := fun g d hc hg => ⟨sync_ok hc (k := 1) (by decide), calm_sync hc 1, hg⟩
theorem fine_sync0 : Fine n lsync0M := fun g d hc hg => ⟨sync_ok hc (k := 0) (by decide), calm_sync hc 0, hg⟩
theorem fine_write {s : List UInt8} {m : Nat} (hs : s.length = m * 64) (h0 : 0 < m) (hm : 1 + 9 * n + m ≤ 8192) : Fine n (lwriteM s) := by
 intro g d hc hg
 have hw := write_ok hc (k := 1) (a := 1 + 9 * n) (by decide) hs h0 hm
 have e : ((1 + 9 * n : Nat) : Int) = 1 + 9 * (g.list.length : Int) := by rw [hg.2.1]; omega
 rw [e] at hw
 exact ⟨hw, calm_write hc 1 _ _, hg⟩
theorem fine_page {m : Nat} {s : List UInt8} (hs : s.length = 512) (h1 : 1 ≤ m) (h2 : m ≤ 256) : Fine n (lpageM (m : Int) s) := by
 intro g d hc hg
 have hw := write_ok hc (k := 0) (a := 8 * (m - 1)) (m := 8) (by decide) (by omega) (by decide) (by omega)
 have e : ((8 * (m - 1) : Nat) : Int) = 8 * ((m : Int) - 1) := by omega
 rw [e] at hw
 exact ⟨hw, calm_write hc 0 _ _, hg⟩
theorem fine_cut (P : Nat) : Fine n (lcutM (P : Int)) := by
 intro g d hc hg
 unfold lcutM
 by_cases h : 8 * (P : Int) < ((d.now 0).length : Int)
 ·rw [if_pos h]
  refine ⟨?_, calm_cut hc 0 _, hg⟩
  have e : (8 * (P : Int)) = ((8 * P : Nat) : Int) := by omega
  rw [e] at h ⊢
  show (cutM d ((0 : Nat) : Int) ((8 * P : Nat) : Int)).1 = 0
  unfold cutM
  rw [if_neg (by simpa using ready_on (k := 0) (by decide) hc.on), Int.toNat_natCast, if_neg (by omega), if_neg (by simpa using (calm_meets hc).1)]
 ·rw [if_neg h]
  exact ⟨rfl, hc, hg⟩
theorem fine_steps : ∀ (l : List LgM), (∀ m ∈ l, Fine n m) → Fine n (lstepsM l)
 | [], _ => fun g d hc hg => ⟨rfl, hc, hg⟩
 | m :: r, hl => fun g d hc hg => by
  obtain ⟨e, c, k⟩ := hl m List.mem_cons_self g d hc hg
  rw [steps_done e]
  exact fine_steps r (fun x hx => hl x (List.mem_cons_of_mem _ hx)) _ _ c k
theorem fine_mend : Fine n lmendM := by
 intro g d hc hg
 unfold lmendM
 split
 ·exact fine_steps [lputsM g.head g.has, lsyncM] (fun m hm => by
   rcases List.mem_cons.1 hm with rfl | hm
   ·exact fine_puts _ hg.2.2
   ·rw [List.mem_singleton.1 hm]; exact fine_sync) g d hc hg
 ·exact ⟨rfl, hc, hg⟩
theorem append_fine (hc : Calm d) (ho : g.off = false) (hm : hdMay g.head = true) {pages : Int} {x : List Img} (hp : 1 ≤ pages ∧ pages ≤ 256) (h0 : x ≠ []) (hx : ∀ i ∈ x, imgBad i = false) (hr : g.list.length + x.length ≤ 256) :
  (lappendM pages x g d).1 = 0 ∧ Calm (lappendM pages x g d).2.2 ∧ (lappendM pages x g d).2.1.off = false := by
 have hl : x.length ≠ 0 := fun e => h0 (List.length_eq_zero_iff.1 e)
 have hany : ¬ x.any imgBad = true := by
  intro e
  obtain ⟨i, hi, hb⟩ := List.any_eq_true.1 e
  rw [hx i hi] at hb
  cases hb
 have htext : (appText g pages x).1.length = (9 * x.length) * 64 := by
  unfold appText
  rw [putsN_length_ok _ _ _ (frsOf_ok hp hx), frsOf_length]
  omega
 have hS : hdMay (appHead g pages x) = true := by unfold hdMay appHead inB; simp; omega
 obtain ⟨e1, e2, e3⟩ := fine_steps (n := g.list.length) (appSteps g pages x) (fun m hm2 => by
  unfold appSteps at hm2
  simp only [List.mem_cons, List.not_mem_nil, or_false] at hm2
  rcases hm2 with rfl | rfl | rfl | rfl | rfl
  ·exact fine_mend
  ·exact fine_write htext (by omega) (by omega)
  ·exact fine_sync
  ·exact fine_puts _ hS
  ·exact fine_sync) g d hc ⟨ho, rfl, hm⟩
 unfold lappendM
 rw [if_neg (by rw [ho]; decide), if_neg (by omega), if_neg hany, if_neg (by omega), if_neg (by rw [e1]; simp)]
 exact ⟨rfl, e2, e3.1⟩
theorem check_fine (hc : Calm d) (ho : g.off = false) (hm : hdMay g.head = true) (hg : g.Ok) : (lcheckM g d).1 = 0 ∧ Calm (lcheckM g d).2.2 ∧ (lcheckM g d).2.1.off = false ∧ hdMay (lcheckM g d).2.1.head = true ∧ (lcheckM g d).2.1.list.length = 0 := by
 have hp := hg.pages
 obtain ⟨P, hP⟩ : ∃ P : Nat, g.head.pages = (P : Int) := ⟨g.head.pages.toNat, by omega⟩
 unfold lcheckM
 rw [if_neg (by rw [ho]; decide)]
 by_cases hl : g.list.length = 0
 ·rw [if_pos hl]
  exact ⟨rfl, hc, ho, hm, hl⟩
 rw [if_neg hl]
 have hS : hdMay (ckHead g) = true := by unfold hdMay ckHead inB; simp; omega
 obtain ⟨e1, e2, e3⟩ := fine_steps (n := g.list.length) (ckSteps g) (fun m hm2 => by
  unfold ckSteps at hm2
  rw [hP] at hm2
  simp only [List.mem_cons, List.mem_append, List.not_mem_nil, or_false] at hm2
  rcases hm2 with rfl | h | rfl | rfl | rfl | rfl
  ·exact fine_mend
  ·unfold ckPages at h
   obtain ⟨i, hi, h⟩ := List.mem_filterMap.1 h
   have hi := List.mem_range.1 hi
   obtain ⟨s, hs, rfl⟩ := Option.map_eq_some_iff.1 h
   refine fine_page ?_ (by omega) (by omega)
   obtain ⟨f, hf, e, -⟩ := lastAt_mem hs
   have := hg.data f hf
   unfold frOk at this
   simp only [Bool.and_eq_true, decide_eq_true_eq] at this
   rw [← e]
   exact this.2
  ·exact fine_cut P
  ·exact fine_sync0
  ·exact fine_puts _ hS
  ·exact fine_sync) g d hc ⟨ho, rfl, hm⟩
 rw [if_neg (by rw [e1]; simp)]
 exact ⟨rfl, e2, e3.1, hS, rfl⟩
theorem put_fine (hc : Calm d) (ho : g.off = false) (hm : hdMay g.head = true) (hg : g.Ok) {p : Pg} {t : Tr} (ht : t.Ok) (hop : p.opn = 0) (hne : trImgs t ≠ []) :
  (putM p t g d).1 = 0 ∧ Calm (putM p t g d).2.2.2 ∧ (putM p t g d).2.2.1.off = false := by
 have hx : ∀ i ∈ trImgs t, imgBad i = false := trImgs_good ht
 have hlen : (trImgs t).length ≤ 256 := trImgs_length t
 have hp : 1 ≤ t.pages ∧ t.pages ≤ 256 := by
  obtain ⟨i, hi⟩ := List.exists_mem_of_ne_nil _ hne
  have := ht.pages
  unfold trImgs at hi
  obtain ⟨q, hq, -⟩ := List.mem_map.1 hi
  have hq := (keysOf_mem.1 hq).2
  obtain ⟨s, hs⟩ := Option.isSome_iff_exists.1 hq
  have := ht.dom q s hs
  omega
 unfold putM
 split
 ·obtain ⟨c1, c2, c3, c4, c5⟩ := check_fine hc ho hm hg
  rw [if_neg (by rw [c1]; simp)]
  exact append_fine c2 c3 c4 hp hne hx (by omega)
 ·rename_i h
  exact append_fine hc ho hm hp hne hx (by omega)
end
end Go.Proofs.YtlkkclooihjpiaaGreat
/- Pages of trees (node): numbers, a builder's WriteByte; free pages. -/
namespace Go.Proofs.YtlkkclooihjpiaaGreat
open Go.RowKit Go.Maps
set_option maxRecDepth 20000
set_option maxHeartbeats 2000000 in
set_option maxRecDepth 100000 in
theorem writeByte_any (B b : Nat) (l : List UInt8) (c : UInt8) (w : World) (h : BldF B b l w) (hlen : l.length + 1 ≤ 140737488355328) (hBw : B ≤ w.heap.size) :
  Calls Tryz.prog 93 #[.pointer (some ⟨b, 0, none⟩), .int .u8 (c.toNat : Int)] w fun e w' => e = .returned .nilIface ∧ (BldF B b (l ++ [c]) w' ∧ Frm (WS 5 B b w) w w') := by
 obtain ⟨i0, hi, hz0, hz1, hz2⟩ := info_parts (P := Tryz.prog) (e := 5) (z := .int .u8 0) (size := 1) (bytes := 1) (by kernel_rfl)
 go_enter Tryz.func93, Tryz.ntmps93
 go_wp2_with fail
 refine (copyCheck_any B b _ _ h).mono ?_
 rintro e w1 ⟨rfl, h1, hf1⟩
 obtain ⟨hB, v, hbk, hown, hne⟩ := h1
 rw [Lib.byteCells_length] at hown
 have c0 : w1.cell? ⟨b, 0, none⟩ = some (.pointer (some ⟨b, 0, none⟩)) := by rw [Lib.cell_of_heap hbk]; rfl
 have c1 : w1.cell? ⟨b, 1, none⟩ = some v := by rw [Lib.cell_of_heap hbk]; rfl
 have hlt : b < w1.heap.size := lt_of_block hbk
 have hs1 := hf1.size
 go_wp2_with (at_builtin; go_must (refine wpList_append_ownF _ rfl _ _ 28 rfl B 5 i0 _ 1 1 Tryz.underlying28 hi hz0 hz1 hz2 rfl (by decide) _ _ _ rfl (hown.alloc (.cells #[.int .u8 (c.toNat : Int)] 5)) ⟨w1.heap.size, 0, none⟩ 1 1 [.int .u8 (c.toNat : Int)] rfl (by simp) (World.news_of_block (cs := #[.int .u8 (c.toNat : Int)]) (t := 5) (fr := (0, 0)) (heap_alloc_new w1 _)) (by intro u hu; rw [List.mem_singleton.1 hu]; rfl) ?c3 ?c4 ?c5 ?_))
 case c3 => unfold maxLen; omega
 case c4 => omega
 case c5 => simp; omega
 intro v' w2 hown' hgrow _
 have hb1a : (w1.alloc (.cells #[.int .u8 (c.toNat : Int)] 5)).heap[b]? = some (.cells #[.pointer (some ⟨b, 0, none⟩), v] 163 (0, 0)) := heap_alloc_old hbk
 have hb2 : w2.heap[b]? = some (.cells #[.pointer (some ⟨b, 0, none⟩), v] 163 (0, 0)) := by
  rw [hgrow.block b (by simp; omega) (fun e => hne e.symm)]
  exact hb1a
 have d0 : w2.cell? ⟨b, 0, none⟩ = some (.pointer (some ⟨b, 0, none⟩)) := by rw [Lib.cell_of_heap hb2]; rfl
 have d1 : w2.cell? ⟨b, 1, none⟩ = some v := by rw [Lib.cell_of_heap hb2]; rfl
 have f1 : w2.frozen? ⟨b, 1, none⟩ = false := Lib.frozen_of_heap hb2 1
 have hfr : Frm (WS 5 B b w) w w2 := by
  refine ⟨hgrow.os.trans hf1.os, hgrow.tape.trans hf1.tape, hgrow.output.trans hf1.output, Nat.le_trans hf1.size (Nat.le_trans (by simp) hgrow.size), fun k hk hs => ?_⟩
  have hkb : k ≠ b := fun e => hs ⟨by omega, .inl e⟩
  have hkv : some k ≠ v.ownBlock := by
   intro e
   apply hs
   have hlt2 := hown.lt k e.symm
   refine ⟨hlt2.1, .inr ?_⟩
   rcases hown.2 with ⟨rfl, _⟩ | ⟨g, cap, cur, fz, rfl, _, hg, _⟩
   ·simp [Value.ownBlock] at e
   ·simp [Value.ownBlock] at e
    subst e
    exact ⟨cur, fz, by rw [← hf1.block k hk hkb]; exact hg⟩
  rw [hgrow.block k (by simp; omega) hkv, Below.heap_alloc w1 _ k (Nat.lt_of_lt_of_le hk hf1.size), hf1.block k hk hkb]
 obtain ⟨ao, n', cap, rfl⟩ : ∃ ao n' cap, v' = .slice ao n' cap := by
  rcases hown'.2 with ⟨hv, _⟩ | ⟨g, cap, cur, fz, hv, _⟩
  ·exact ⟨_, _, _, hv⟩
  ·exact ⟨_, _, _, hv⟩
 go_wp2
 go_ret
 refine ⟨rfl, .inr ?_, hfr.setCell (.inl ⟨hB, .inl rfl⟩) _⟩
 exact Lib.BuilderAtF.put (T := 163) (e := 5) hB hb2 (bs' := Lib.byteCells (l ++ [c])) (by simpa [Lib.byteCells_append, Lib.byteCells_length, bs_size, Lib.strCells_eq, bs_data, Lib.byteCells] using hown') (by decide)
theorem row_store {w : World} {base n g cap : Nat} {e : TypeId} {xs : List Value} (h : w.ownsRow base e 1 (.slice (some ⟨g, 0, none⟩) n cap) n xs) {i : Nat} (hi : i < n) (u : Value) :
  (∃ old, w.cell? ⟨g, i, none⟩ = some old) ∧ w.frozen? ⟨g, i, none⟩ = false ∧ (w.setCell ⟨g, i, none⟩ u).ownsRow base e 1 (.slice (some ⟨g, 0, none⟩) n cap) n (xs.set i u) ∧ w.grownBy (w.setCell ⟨g, i, none⟩ u) (some g) := by
 have hl := h.1
 refine ⟨⟨xs[i]'(by omega), ?_⟩, h.frozenAt i, h.stored i u⟩
 rw [h.cellAt i (by omega), List.getElem?_eq_getElem (by omega)]
-- NUMBERS
def num4V (n : Int) (k : Nat) : List Value := (List.range 4).map fun j => .int .u8 (if j < k then ([n / 16777216, n / 65536 % 256, n / 256 % 256, n % 256] : List Int).getD j 0 else 0)
set_option maxHeartbeats 2000000 in
set_option maxRecDepth 20000 in
theorem number4_any (n : Int) (h0 : 0 ≤ n) (h1 : n < 4294967296) (w : World) : Calls Tryz.prog 94 #[.int .i64 n, .int .i64 4] w fun e w' => e = .returned (.string (bs (four n))) ∧ Below w.heap.size w w' := by
 obtain ⟨i, hi, hz, hs, hb⟩ := info_parts (P := Tryz.prog) (e := 5) (z := .int .u8 0) (size := 1) (bytes := 1) (by kernel_rfl)
 obtain ⟨w1, hmk, hown, hgr⟩ := run_make_full (P := Tryz.prog) w w.heap.size 28 5 i _ 1 Tryz.underlying28 hi hz hs .i64 .i64 4 (by rw [hb]; omega) (by unfold maxLen; omega) (Nat.le_refl _)
 have e : (madeCells (Value.int .u8 0).cells (4 * 1)).toList = [.int .u8 0, .int .u8 0, .int .u8 0, .int .u8 0] := by
  show (madeCells #[.int .u8 0] 4).toList = _
  rw [toList_madeCells_one]
  rfl
 rw [e] at hown
 have hmk' : (Instr.makeSlice 28 (.int .i64 4) (.int .i64 4)).run Tryz.prog w = .ok (.slice (some ⟨w.heap.size, 0, none⟩) 4 4) w1 := hmk
 have Hgr := hid hgr
 have Hown := hid hown
 have hfin : num4V n 4 = cellsOf (four n) := by
  show [Value.int .u8 (n / 16777216), Value.int .u8 (n / 65536 % 256), Value.int .u8 (n / 256 % 256), Value.int .u8 (n % 256)] = [Value.int .u8 ((byt (n / 16777216)).toNat : Int), Value.int .u8 ((byt (n / 65536 % 256)).toNat : Int), Value.int .u8 ((byt (n / 256 % 256)).toNat : Int), Value.int .u8 ((byt (n % 256)).toNat : Int)]
  rw [byt_toNat (n / 16777216) (by omega) (by omega), byt_toNat (n / 65536 % 256) (by omega) (by omega), byt_toNat (n / 256 % 256) (by omega) (by omega), byt_toNat (n % 256) (by omega) (by omega)]
 have Hfin := hid hfin
 clear hgr hown hmk e hz hs hb hi hfin
 go_enter Tryz.func94, Tryz.ntmps94
 go_wp2_with fail
 go_loopw [11] (fun v11 wr => ∃ k : Nat, k ≤ 4 ∧ v11 = .int .i64 (k : Int) ∧ wr.ownsRow w.heap.size 5 1 (.slice (some ⟨w.heap.size, 0, none⟩) 4 4) 4 (num4V n k) ∧ Below w.heap.size w wr) (fun v11 _ => 4 - (intOf v11).toNat)
 case atStart => exact ⟨0, by omega, rfl, Hown.out, ⟨Hgr.out.os, Hgr.out.tape, Hgr.out.output, Hgr.out.size, fun k hk => Hgr.out.block k hk (fun e => by cases e)⟩⟩
 case round =>
  obtain ⟨k, hk, rfl, hrow, hbw⟩ := hrel
  have Hrow := hid hrow
  have HBw := hid hbw
  clear hbw
  by_cases hlt : k < 4
  ·obtain ⟨⟨old, c0⟩, f0, -, -⟩ := row_store hrow hlt (.int .u8 0)
   have hk4 : k = 0 ∨ k = 1 ∨ k = 2 ∨ k = 3 := by omega
   clear hrow hk hlt
   rcases hk4 with rfl | rfl | rfl | rfl
   ·go_wp2_with fail
    go_roundw
    case rel => exact ⟨1, by omega, by first | rfl | trivial, (row_store Hrow.out (i := 0) (by decide) (.int .u8 (n / 16777216))).2.2.1, HBw.out.setCell (p := ⟨w.heap.size, 0, none⟩) (Nat.le_refl _) _⟩
    case measure => simp [intOf]
   ·go_wp2_with fail
    go_roundw
    case rel => exact ⟨2, by omega, by first | rfl | trivial, (row_store Hrow.out (i := 1) (by decide) (.int .u8 (n / 65536 % 256))).2.2.1, HBw.out.setCell (p := ⟨w.heap.size, 1, none⟩) (Nat.le_refl _) _⟩
    case measure => simp [intOf]
   ·go_wp2_with fail
    go_roundw
    case rel => exact ⟨3, by omega, by first | rfl | trivial, (row_store Hrow.out (i := 2) (by decide) (.int .u8 (n / 256 % 256))).2.2.1, HBw.out.setCell (p := ⟨w.heap.size, 2, none⟩) (Nat.le_refl _) _⟩
    case measure => simp [intOf]
   ·go_wp2_with fail
    go_roundw
    case rel => exact ⟨4, by omega, by first | rfl | trivial, (row_store Hrow.out (i := 3) (by decide) (.int .u8 (n % 256))).2.2.1, HBw.out.setCell (p := ⟨w.heap.size, 3, none⟩) (Nat.le_refl _) _⟩
    case measure => simp [intOf]
  ·obtain rfl : k = 4 := by omega
   have hr := Hrow.out
   rw [Hfin.out] at hr
   have hconv := run_convert_own (P := Tryz.prog) wr 28 9 5 Tryz.underlying28 Tryz.underlying5 Tryz.underlying9 w.heap.size _ _ _ hr
   clear hrow hr hlt hk
   go_wp2_with fail
   go_ret
   exact ⟨rfl, HBw.out⟩
def num2V (n : Int) (k : Nat) : List Value := (List.range 2).map fun j => .int .u8 (if j < k then ([n / 256, n % 256] : List Int).getD j 0 else 0)
set_option maxHeartbeats 2000000 in
set_option maxRecDepth 20000 in
theorem number2_any (n : Int) (h0 : 0 ≤ n) (h1 : n < 65536) (w : World) : Calls Tryz.prog 94 #[.int .i64 n, .int .i64 2] w fun e w' => e = .returned (.string (bs ([byt (n / 256), byt (n % 256)]))) ∧ Below w.heap.size w w' := by
 obtain ⟨i, hi, hz, hs, hb⟩ := info_parts (P := Tryz.prog) (e := 5) (z := .int .u8 0) (size := 1) (bytes := 1) (by kernel_rfl)
 obtain ⟨w1, hmk, hown, hgr⟩ := run_make_full (P := Tryz.prog) w w.heap.size 28 5 i _ 1 Tryz.underlying28 hi hz hs .i64 .i64 2 (by rw [hb]; omega) (by unfold maxLen; omega) (Nat.le_refl _)
 have e : (madeCells (Value.int .u8 0).cells (2 * 1)).toList = [.int .u8 0, .int .u8 0] := by
  show (madeCells #[.int .u8 0] 2).toList = _
  rw [toList_madeCells_one]
  rfl
 rw [e] at hown
 have hmk' : (Instr.makeSlice 28 (.int .i64 2) (.int .i64 2)).run Tryz.prog w = .ok (.slice (some ⟨w.heap.size, 0, none⟩) 2 2) w1 := hmk
 have Hgr := hid hgr
 have Hown := hid hown
 have hfin : num2V n 2 = cellsOf ([byt (n / 256), byt (n % 256)]) := by
  show [Value.int .u8 (n / 256), Value.int .u8 (n % 256)] = [Value.int .u8 ((byt (n / 256)).toNat : Int), Value.int .u8 ((byt (n % 256)).toNat : Int)]
  rw [byt_toNat (n / 256) (by omega) (by omega), byt_toNat (n % 256) (by omega) (by omega)]
 have Hfin := hid hfin
 clear hgr hown hmk e hz hs hb hi hfin
 go_enter Tryz.func94, Tryz.ntmps94
 go_wp2_with fail
 go_loopw [11] (fun v11 wr => ∃ k : Nat, k ≤ 2 ∧ v11 = .int .i64 (k : Int) ∧ wr.ownsRow w.heap.size 5 1 (.slice (some ⟨w.heap.size, 0, none⟩) 2 2) 2 (num2V n k) ∧ Below w.heap.size w wr) (fun v11 _ => 2 - (intOf v11).toNat)
 case atStart => exact ⟨0, by omega, rfl, Hown.out, ⟨Hgr.out.os, Hgr.out.tape, Hgr.out.output, Hgr.out.size, fun k hk => Hgr.out.block k hk (fun e => by cases e)⟩⟩
 case round =>
  obtain ⟨k, hk, rfl, hrow, hbw⟩ := hrel
  have Hrow := hid hrow
  have HBw := hid hbw
  clear hbw
  by_cases hlt : k < 2
  ·obtain ⟨⟨old, c0⟩, f0, -, -⟩ := row_store hrow hlt (.int .u8 0)
   have hk4 : k = 0 ∨ k = 1 := by omega
   clear hrow hk hlt
   rcases hk4 with rfl | rfl
   ·go_wp2_with fail
    go_roundw
    case rel => exact ⟨1, by omega, by first | rfl | trivial, (row_store Hrow.out (i := 0) (by decide) (.int .u8 (n / 256))).2.2.1, HBw.out.setCell (p := ⟨w.heap.size, 0, none⟩) (Nat.le_refl _) _⟩
    case measure => simp [intOf]
   ·go_wp2_with fail
    go_roundw
    case rel => exact ⟨2, by omega, by first | rfl | trivial, (row_store Hrow.out (i := 1) (by decide) (.int .u8 (n % 256))).2.2.1, HBw.out.setCell (p := ⟨w.heap.size, 1, none⟩) (Nat.le_refl _) _⟩
    case measure => simp [intOf]
  ·obtain rfl : k = 2 := by omega
   have hr := Hrow.out
   rw [Hfin.out] at hr
   have hconv := run_convert_own (P := Tryz.prog) wr 28 9 5 Tryz.underlying28 Tryz.underlying5 Tryz.underlying9 w.heap.size _ _ _ hr
   clear hrow hr hlt hk
   go_wp2_with fail
   go_ret
   exact ⟨rfl, HBw.out⟩
end Go.Proofs.YtlkkclooihjpiaaGreat
