/- A disk's Read. -/
import Derived.Test.YtlkkclooihjpiaaGreatDkL
set_option linter.unusedVariables false
set_option linter.unusedSimpArgs false
namespace Go.Proofs.YtlkkclooihjpiaaGreat
open Go.RowKit Go.Maps
set_option maxRecDepth 20000
set_option maxRecDepth 20000 in
theorem lookup_sec {w : World} {m : Option Nat} {l : List Sec} (h : FileAt w m l) (hs : ∀ s ∈ l, s.length = 64) (hl : l.length ≤ 8192) {i : Nat} (hi : i < l.length) :
  (Instr.lookup 64 (.map m) (.int .i64 (i : Int)) false).run Tryz.prog w = .ok (secV l[i]) w := by
 cases m with
 | none => cases (show l = [] from h); simp at hi
 | some b =>
  obtain ⟨D, hown, hh⟩ := h
  obtain ⟨v, ps, hrun, hR⟩ := hown.lookup (t := 64) (e := 73) keyI Tryz.underlying64 (z := secV nought) (by kernel_rfl) (secElem_mk nought_length) (key := .int .i64 (i : Int)) (kl := ik i) (keyOf_int_mk Tryz.underlying3 (WalkArith.wf_i64 (by omega)))
  obtain ⟨s, h1, rfl, h3⟩ := secElem_inv hR
  have h4 : D.atKey (ik i) dNought = .lit (.string s) := (Prod.mk.inj h3).1
  rw [hh.at_ i hi] at h4
  have h5 : l[i] = s := by injection h4 with h4; injection h4
  rw [hrun, h5]
theorem exec_lookup {P : Program} {o : Oper} {a : Act} {w : World} {t : TypeId} {x y : Operand} {u k v : Value} (ho : o.op = .lookup t x y false) (hx : a.eval x = u) (hy : a.eval y = k) (h : (Instr.lookup t u k false).run P w = .ok v w) :
  (execOp a.eval o).run P w = .ok (.value v) w := by
 unfold execOp
 simp only [ho, hx, hy, Sem.run_bind, h, Result.andThen_ok, Sem.run_pure]
def readM (d : Dsk) (f a n : Int) : List UInt8 × Int :=
 if readyM d f ≠ 0 then ([], readyM d f)
 else if a < 0 ∨ n < 0 ∨ ((d.now f.toNat).length : Int) < a ∨ ((d.now f.toNat).length : Int) - a < n then ([], 5)
 else ((((d.now f.toNat).drop a.toNat).take n.toNat).flatten, 0)
theorem flat_take {l : List Sec} (hs : ∀ s ∈ l, s.length = 64) {a i : Nat} (h : a + i ≤ l.length) : (((l.drop a).take i).flatten).length = 64 * i := by
 induction i with
 | zero => simp
 | succ i ih =>
  have h1 : i < (l.drop a).length := by simp; omega
  rw [List.take_succ_eq_append_getElem h1, List.flatten_append, List.length_append, ih (by omega)]
  have := hs ((l.drop a)[i]) (List.mem_of_mem_drop (List.getElem_mem h1))
  simp only [List.flatten_cons, List.flatten_nil, List.append_nil, this]
  omega
section
variable {w : World} {b : Nat} {F : Foot} {d : Dsk}
set_option maxHeartbeats 1000000 in
set_option maxRecDepth 20000 in
theorem read_main (h : DiskAt w b F d) (k a n : Nat) (hk : k < 8) (ho : d.off = false) (hn : a + n ≤ (d.now k).length) :
  Calls Tryz.prog 53 #[.pointer (some ⟨b, 0, none⟩), .int .i64 (k : Int), .int .i64 (a : Int), .int .i64 (n : Int)] w fun e w' => e = .returned (.tuple #[.string (bs (((d.now k).drop a).take n).flatten), .int .i64 0]) ∧ Below w.heap.size w w' := by
 have R := ready_any h (k : Int)
 have hr0 : readyM d (k : Int) = 0 := by unfold readyM; rw [ho, if_neg (by simp), if_pos (by omega)]
 rw [hr0] at R
 obtain ⟨nm, sm, lv, am, hmem⟩ := id h
 obtain ⟨l, hl⟩ : ∃ l, l = d.now k := ⟨_, rfl⟩
 have hfa := hmem.now k hk
 have hsec := hmem.ok.ns k hk
 have hlen := hmem.ok.nl k hk
 obtain ⟨a0, a1, af0, af1⟩ := now_here hmem hk
 rw [← hl] at hn hfa hsec hlen a0 ⊢
 obtain ⟨z, hz⟩ : ∃ z : Int, z = (l.length : Int) := ⟨_, rfl⟩
 rw [← hz] at a0
 have hk8 : (k : Int) < 8 := by omega
 have c1 : decide ((a : Int) < 0) = false := by simp
 have c2 : decide ((n : Int) < 0) = false := by simp
 have c3 : decide (z < (a : Int)) = false := by simp only [decide_eq_false_iff_not]; omega
 have hw : IntKind.i64.wrap (z - (a : Int)) = z - (a : Int) := IntWalk.i64_in _ (by omega)
 have hw2 : IntKind.i64.wrap ((a : Int) + (n : Int)) = (a : Int) + (n : Int) := IntWalk.i64_in _ (by omega)
 have c4 : decide (z - (a : Int) < (n : Int)) = false := by simp only [decide_eq_false_iff_not]; omega
 have HM := hid hmem
 have HFA := hid hfa
 have HSEC := hid hsec
 have HLEN := hid hlen
 have HN := hid hn
 have R := hid R
 clear hmem hfa hsec hlen hl hr0 h hz hn
 go_enter Tryz.func53, Tryz.ntmps53
 go_wp2_with (first | (go_at_call 23; refine (R.out).mono ?_; rintro e w1 ⟨rfl, rfl⟩) | go_in)
 go_loopw [12, 11] (fun v12 v11 wr => ∃ i : Nat, v12 = .int .i64 ((a : Int) + (i : Int)) ∧ i ≤ n ∧ wr.ownsRow w1.heap.size 5 1 v11 (64 * i) (cellsOf ((l.drop a).take i).flatten) ∧ Below w1.heap.size w1 wr) (fun v12 _ _ => a + n - (intOf v12).toNat)
 case atStart => exact ⟨0, rfl, Nat.zero_le _, World.ownsRow_nil _ _ _ _, Below.refl _ _⟩
 case round =>
  obtain ⟨i, rfl, hin, hrow, hbel⟩ := hrel
  have Hrow := hid hrow
  have Hbel := hid hbel
  clear hrow hbel
  by_cases hlt : i < n
  ·have hil : a + i < l.length := by have := HN.out; omega
   obtain ⟨s, hs⟩ : ∃ s, s = l[a + i] := ⟨_, rfl⟩
   have Hs := hid hs
   have Hs64 := hid (show s.length = 64 from HSEC.out s (hs ▸ List.getElem_mem _))
   have hlook := lookup_sec (w := wr) (HFA.out.keep (fun x hx => Hbel.out.block x (HM.out.slt x (HM.out.nsh k hk x hx)))) HSEC.out HLEN.out hil
   rw [← hs, Int.natCast_add] at hlook
   have Hlook := hid hlook
   have hmr := (Hbel.out.block b (lt_of_block HM.out.blk)).trans HM.out.blk
   have hcell : wr.cell? ⟨b, k * 2 + 1, none⟩ = some (.map (nm k)) := (cell_of_block hmr _).trans (by simpa using (now_cells d nm sm lv am hk).2)
   have hlt2 : decide ((a : Int) + (i : Int) < (a : Int) + (n : Int)) = true := by simp only [decide_eq_true_eq]; omega
   have hw3 : IntKind.i64.wrap ((a : Int) + (i : Int) + 1) = (a : Int) + (i : Int) + 1 := IntWalk.i64_in _ (by have := HLEN.out; omega)
   clear hs hlook a0 a1 af0 af1 c1 c2 c3 c4 hw
   go_upto_region 10 with fail
   refine wp_region_lit ?_
   refine wpList_value (w' := wr) rfl (.pointer (some ⟨b, 0, none⟩)) (by go_simp) ?_
   simp only [Act.put, List.setIfInBounds_toArray, List.set_cons_zero, List.set_cons_succ]
   refine wpList_value (w' := wr) rfl (.int .i64 (k : Int)) (by go_simp) ?_
   simp only [Act.put, List.setIfInBounds_toArray, List.set_cons_zero, List.set_cons_succ]
   refine wpList_value (w' := wr) rfl (.pointer (some ⟨b, 0, none⟩)) (by go_simp) ?_
   simp only [Act.put, List.setIfInBounds_toArray, List.set_cons_zero, List.set_cons_succ]
   refine wpList_value (w' := wr) rfl (.pointer (some ⟨b, 0, none⟩)) (by go_simp) ?_
   simp only [Act.put, List.setIfInBounds_toArray, List.set_cons_zero, List.set_cons_succ]
   refine wpList_value (w' := wr) rfl (.pointer (some ⟨b, k * 2, none⟩)) (by go_simp) ?_
   simp only [Act.put, List.setIfInBounds_toArray, List.set_cons_zero, List.set_cons_succ]
   refine wpList_value (w' := wr) rfl (.pointer (some ⟨b, k * 2 + 1, none⟩)) (by go_simp) ?_
   simp only [Act.put, List.setIfInBounds_toArray, List.set_cons_zero, List.set_cons_succ]
   refine wpList_value (w' := wr) rfl (.map (nm k)) (by go_simp) ?_
   simp only [Act.put, List.setIfInBounds_toArray, List.set_cons_zero, List.set_cons_succ]
   refine wpList_value (w' := wr) rfl (.int .i64 ((a : Int) + (i : Int))) (by go_simp) ?_
   simp only [Act.put, List.setIfInBounds_toArray, List.set_cons_zero, List.set_cons_succ]
   refine wpList_value (w' := wr) rfl (secV s) (exec_lookup rfl rfl rfl Hlook.out) ?_
   simp only [Act.put, List.setIfInBounds_toArray, List.set_cons_zero, List.set_cons_succ]
   refine wpList_value rfl (.pointer (some ⟨wr.heap.size, 0, none⟩)) (w' := wr.alloc (.cells (cellsOf nought).toArray 73)) (by kernel_rfl) ?_
   simp only [Act.put, List.setIfInBounds_toArray, List.set_cons_zero, List.set_cons_succ]
   refine wpList_skip rfl (exec_store rfl rfl rfl (run_storeAt_new wr 73 _ _ (by rw [List.size_toArray, cellsOf_length, Hs64.out]; kernel_rfl) (by rw [List.size_toArray, List.size_toArray, cellsOf_length, cellsOf_length, Hs64.out]; rfl) (all_oneCell_toArray (cellsOf_one s)))) ?_
   refine wpList_nil ?_
   simp only [Act.put, List.setIfInBounds_toArray, List.set_cons_zero, List.set_cons_succ]
   obtain ⟨B, hB⟩ : ∃ B, B = wr.heap.size := ⟨_, rfl⟩
   rw [← hB]
   have hBn := heap_alloc_new wr (.cells (cellsOf s).toArray 73)
   rw [← hB] at hBn
   have hbelA := Hbel.out.alloc Hbel.out.size (.cells (cellsOf s).toArray 73)
   have hrowA := row_keep Hrow.out (w' := wr.alloc (.cells (cellsOf s).toArray 73)) (fun x hx => Below.heap_alloc wr _ x (row_base Hrow.out hx).2)
   obtain ⟨wa, hwa⟩ : ∃ wa, wa = wr.alloc (.cells (cellsOf s).toArray 73) := ⟨_, rfl⟩
   rw [← hwa] at hBn hbelA hrowA ⊢
   have HBn := hid hBn
   have HbelA := hid hbelA
   have HrowA := hid hrowA
   clear hBn hbelA hrowA hwa hB Hbel Hrow Hlook hcell hmr
   go_upto_region 11 with fail
   refine wp_region_lit ?_
   refine wpList_value (w' := wa) rfl _ rfl ?_
   simp only [Act.put, List.setIfInBounds_toArray, List.set_cons_zero, List.set_cons_succ]
   refine wpList_value (w' := wa) rfl (.slice (some ⟨B, 0, none⟩) 64 64) (by go_simp) ?_
   simp only [Act.put, List.setIfInBounds_toArray, List.set_cons_zero, List.set_cons_succ]
   obtain ⟨i0, hi, hz0, hz1, hz2⟩ := info_parts (P := Tryz.prog) (e := 5) (z := .int .u8 0) (size := 1) (bytes := 1) (by kernel_rfl)
   refine wpList_append_own_at _ rfl _ _ 28 (by rfl) w1.heap.size 5 i0 _ 1 1 Tryz.underlying28 hi hz0 hz1 hz2 rfl (by omega) _ (64 * i) (cellsOf ((l.drop a).take i).flatten) (by rfl) HrowA.out ⟨B, 0, none⟩ 64 64 (cellsOf s) (by rfl) (by simp [cellsOf_length, Hs64.out]) (World.news_of_block (cs := (cellsOf s).toArray) (t := 73) (fr := (0, 0)) HBn.out) (cellsOf_one s) (by have := HLEN.out; unfold maxLen; omega) (by have := HLEN.out; omega) HbelA.out.size ?_
   intro v' w7 hown7 hgrow7 _ hat7
   have Hown7 := hid hown7
   have Hbel7 := hid (HbelA.out.grown hgrow7 HbelA.out.size (fun j hj => (row_base HrowA.out hj).1))
   clear hown7 hgrow7 hat7
   simp only [Act.put, List.setIfInBounds_toArray, List.set_cons_zero, List.set_cons_succ]
   go_wp2_with fail
   go_roundw
   case rel =>
    refine ⟨i + 1, by rw [Int.natCast_add, Int.add_assoc]; rfl, by omega, ?_, Hbel7.out⟩
    rw [List.take_succ_eq_append_getElem (by simp; omega), List.flatten_append, cellsOf_append, show 64 * (i + 1) = 64 * i + 64 by omega]
    have e : (l.drop a)[i]'(by simp; omega) = s := by rw [Hs.out]; simp
    rw [e]
    simpa using Hown7.out
   case measure => simp only [intOf]; omega
  ·obtain rfl : i = n := by omega
   have hlt' : decide ((a : Int) + (i : Int) < (a : Int) + (i : Int)) = false := by simp
   have hflen := flat_take HSEC.out HN.out
   have Hflen := hid hflen
   have hconv := run_convert_own (P := Tryz.prog) wr 28 9 5 Tryz.underlying28 Tryz.underlying5 Tryz.underlying9 w1.heap.size _ (64 * i) _ Hrow.out
   clear hflen a0 a1 af0 af1 c1 c2 c3 c4 hw
   go_wp2_with fail
   go_ret2
   exact ⟨rfl, Hbel.out⟩
set_option maxRecDepth 20000 in
theorem read_any (h : DiskAt w b F d) (f a n : Int) (ha : -9223372036854775808 ≤ a ∧ a ≤ 9223372036854775807) :
  Calls Tryz.prog 53 #[.pointer (some ⟨b, 0, none⟩), .int .i64 f, .int .i64 a, .int .i64 n] w fun e w' => e = .returned (.tuple #[.string (bs (readM d f a n).1), .int .i64 (readM d f a n).2]) ∧ Below w.heap.size w w' := by
 have R := ready_any h f
 by_cases hr : readyM d f = 0
 ·obtain ⟨ho, hf0, hf8⟩ := ready_zero hr
  obtain ⟨k, rfl⟩ : ∃ k : Nat, f = k := ⟨f.toNat, by omega⟩
  have hk : k < 8 := by omega
  by_cases hb : a < 0 ∨ n < 0 ∨ ((d.now k).length : Int) < a ∨ ((d.now k).length : Int) - a < n
  ·have e : readM d k a n = ([], 5) := by unfold readM; rw [if_neg (by simpa using hr), Int.toNat_natCast, if_pos hb]
   rw [e]
   rw [hr] at R
   obtain ⟨nm0, sm0, lv0, am0, h0⟩ := id h
   have hlen := h0.ok.nl k hk
   have c0 := (h0.cell (k * 2)).trans (now_cells d nm0 sm0 lv0 am0 hk).1
   obtain ⟨z, hz⟩ : ∃ z : Int, z = (d.now k).length := ⟨_, rfl⟩
   rw [← hz] at c0 hb
   have R := hid R
   have hk8 : (k : Int) < 8 := by omega
   clear h0 e hr h
   by_cases h1 : a < 0
   ·have h1' : decide (a < 0) = true := by simpa using h1
    clear hb hz
    go_enter Tryz.func53, Tryz.ntmps53
    go_wp2_with (first | (go_at_call 23; refine (R.out).mono ?_; rintro e w1 ⟨rfl, rfl⟩) | go_in)
    go_ret2
    exact ⟨rfl, Below.refl _ _⟩
   ·have h1' : decide (a < 0) = false := by simpa using h1
    by_cases h2 : n < 0
    ·have h2' : decide (n < 0) = true := by simpa using h2
     clear hb hz
     go_enter Tryz.func53, Tryz.ntmps53
     go_wp2_with (first | (go_at_call 23; refine (R.out).mono ?_; rintro e w1 ⟨rfl, rfl⟩) | go_in)
     go_ret2
     exact ⟨rfl, Below.refl _ _⟩
    ·have h2' : decide (n < 0) = false := by simpa using h2
     by_cases h3 : z < a
     ·have h3' : decide (z < a) = true := by simpa using h3
      clear hb hz
      go_enter Tryz.func53, Tryz.ntmps53
      go_wp2_with (first | (go_at_call 23; refine (R.out).mono ?_; rintro e w1 ⟨rfl, rfl⟩) | go_in)
      go_ret2
      exact ⟨rfl, Below.refl _ _⟩
     ·have h3' : decide (z < a) = false := by simpa using h3
      have hw : IntKind.i64.wrap (z - a) = z - a := IntWalk.i64_in _ (by omega)
      have h4' : decide (z - a < n) = true := by simp only [decide_eq_true_eq]; omega
      clear hb hz
      go_enter Tryz.func53, Tryz.ntmps53
      go_wp2_with (first | (go_at_call 23; refine (R.out).mono ?_; rintro e w1 ⟨rfl, rfl⟩) | go_in)
      go_ret2
      exact ⟨rfl, Below.refl _ _⟩
  ·obtain ⟨i, rfl⟩ : ∃ i : Nat, a = i := ⟨a.toNat, by omega⟩
   obtain ⟨j, rfl⟩ : ∃ j : Nat, n = j := ⟨n.toNat, by omega⟩
   have e : readM d k i j = ((((d.now k).drop i).take j).flatten, 0) := by
    unfold readM
    rw [if_neg (by simpa using hr), Int.toNat_natCast, if_neg hb, Int.toNat_natCast, Int.toNat_natCast]
   rw [e]
   exact read_main h k i j hk ho (by omega)
 ·have e : readM d f a n = ([], readyM d f) := by unfold readM; rw [if_pos hr]
  rw [e]
  obtain ⟨r, hr2⟩ : ∃ r, r = readyM d f := ⟨_, rfl⟩
  rw [← hr2] at R ⊢
  rw [← hr2] at hr
  have hrne : (r != 0) = true := by simpa using hr
  have R := hid R
  clear hr2 e hr h
  go_enter Tryz.func53, Tryz.ntmps53
  go_wp2_with (first | (go_at_call 23; refine (R.out).mono ?_; rintro e w1 ⟨rfl, rfl⟩) | go_in)
  go_ret2
  exact ⟨rfl, Below.refl _ _⟩
end
end Go.Proofs.YtlkkclooihjpiaaGreat
