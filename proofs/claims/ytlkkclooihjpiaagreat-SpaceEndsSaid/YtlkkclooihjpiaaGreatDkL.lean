/- A disk's Sync. -/
import Derived.Test.YtlkkclooihjpiaaGreatDkJ
set_option linter.unusedVariables false
set_option linter.unusedSimpArgs false
namespace Go.Proofs.YtlkkclooihjpiaaGreat
open Go.RowKit Go.Maps
set_option maxRecDepth 20000
section
variable {w : World} {b : Nat} {F : Foot} {d : Dsk}
set_option maxHeartbeats 1000000 in
set_option maxRecDepth 100000 in
theorem sync_main (h : DiskAt w b F d) (k : Nat) (hs : d.Small 1099511527776) (hk : k < 8) (ho : d.off = false) (hm : (meetsM d).1 = 0) :
  Calls Tryz.prog 105 #[.pointer (some ⟨b, 0, none⟩), .int .i64 (k : Int)] w fun e w' => e = .returned (.int .i64 0) ∧ Did w b F (sureM (meetsM d).2 k) w' := by
 have R := ready_any h (k : Int)
 have hr0 : readyM d (k : Int) = 0 := by unfold readyM; rw [ho, if_neg (by simp), if_pos (by omega)]
 rw [hr0] at R
 have M := meets_any h (hs.mono (by omega))
 rw [hm] at M
 obtain ⟨d1, hd1⟩ : ∃ d1, d1 = (meetsM d).2 := ⟨_, rfl⟩
 rw [← hd1] at M ⊢
 have e1 : d1.loose = d.loose := by rw [hd1]; rfl
 have HS := hid (show d1.loose.length ≤ 1099511527776 by rw [e1]; exact hs.loose)
 have R := hid R
 have M := hid M
 have hk8 : (k : Int) < 8 := by omega
 clear hd1 hm hr0 e1 hs
 go_enter Tryz.func105, Tryz.ntmps105
 go_upto_region 7 with (first | (go_at_call 23; refine (R.out).mono ?_; rintro e w1 ⟨rfl, rfl⟩) | (go_at_call 24; refine (M.out).mono ?_; rintro e w2 ⟨rfl, hd2⟩) | go_in)
 obtain ⟨F2, ⟨nm, sm, lv, am, hmem⟩, hst⟩ := hd2
 obtain ⟨a0, a1, af0, af1⟩ := now_here hmem hk
 obtain ⟨x0, x1, xf0, xf1⟩ := sure_here hmem hk
 have HM := hid hmem
 have HST := hid hst
 clear hmem hst
 refine region_tail 11 (fun W => W = w2.drew) (by kernel_rfl) (by kernel_rfl) rfl ?_
 rintro W rfl
 simp only [List.take_succ_cons, List.take_zero, List.drop_succ_cons, List.drop_zero]
 repeat still_step
 refine wpStill_nil ?_
 go_upto_region 8 with fail
 obtain ⟨hm3, hst3⟩ := HM.out.copy_sure hk
 have hm3' : DiskMem (((w2.setCell ⟨b, 16 + k * 2, none⟩ (.int .i64 (d1.now k).length)).setCell ⟨b, 16 + k * 2 + 1, none⟩ (.map (nm k))).drew) b F2 { d1 with sure := put d1.sure k (d1.now k) } nm (put sm k (nm k)) lv am := hm3.keep (fun _ _ => rfl) (Nat.le_refl _)
 have HM3 := hid hm3'
 have HST3 := hid (hst3.trans (footstep_below (F := F2) ((Below.refl _ _).drew)))
 clear hm3 hst3 hm3' a0 a1 af0 af1 x0 x1 xf0 xf1
 obtain ⟨w3, hw3⟩ : ∃ w3, w3 = ((w2.setCell ⟨b, 16 + k * 2, none⟩ (.int .i64 (d1.now k).length)).setCell ⟨b, 16 + k * 2 + 1, none⟩ (.map (nm k))).drew := ⟨_, rfl⟩
 rw [← hw3] at HM3 HST3 ⊢
 clear hw3
 obtain ⟨a32, -, -, -, -⟩ := HM3.out.five
 obtain ⟨n, hn⟩ : ∃ n, n = d1.loose.length := ⟨_, rfl⟩
 have Hn := hid hn
 have Hrow0 := hid (show w3.ownsRow 0 75 67 lv n (chgsCells d1.loose) by rw [hn]; exact HM3.out.row)
 rw [← hn] at HS
 have hnb : (n : Int) ≤ 1099511527776 := by have := HS.out; omega
 have hlv : (lv = .slice none 0 0 ∧ n = 0) ∨ ∃ g cap, lv = .slice (some ⟨g, 0, none⟩) n cap := row_form Hrow0.out
 clear hn
 rcases hlv with ⟨rfl, rfl⟩ | ⟨g, cap, rfl⟩
 ·have hnil : d1.loose = [] := List.eq_nil_of_length_eq_zero Hn.out.symm
  have Hnil := hid hnil
  clear hnil
  go_wp2_with fail
  go_loopw [37, 7] (fun v37 v7 wr => v37 = .int .i64 0 ∧ v7 = .slice none 0 0 ∧ wr = w3) (fun _ _ _ => 0)
  case atStart => exact ⟨rfl, rfl, rfl⟩
  case round =>
   obtain ⟨rfl, rfl, rfl⟩ := hrel
   have af := HM3.out.free 32
   go_wp2_with fail
   go_ret
   obtain ⟨hm8, hst8⟩ := HM3.out.new_row (l := []) (v := .slice none 0 0) (Below.refl _ _) (World.ownsRow_nil _ _ _ _) (fun c hc => by cases hc)
   have e : sureM d1 k = { now := d1.now, sure := put d1.sure k (d1.now k), loose := [], armed := d1.armed, ops := d1.ops, goes := d1.goes, off := d1.off, narm := d1.narm } := by
    unfold sureM keepsOf
    rw [Hnil.out]
    rfl
   rw [e]
   exact ⟨rfl, _, ⟨_, _, _, _, hm8⟩, HST.out.trans (HST3.out.trans hst8)⟩
 ·go_wp2_with fail
  go_loopw [37, 7] (fun v37 v wr => ∃ (i : Nat), v37 = .int .i64 (i : Int) ∧ i ≤ n ∧ wr.ownsRow w3.heap.size 75 67 v (keepsOf k (d1.loose.take i)).length (chgsCells (keepsOf k (d1.loose.take i))) ∧ Below w3.heap.size w3 wr) (fun v37 _ _ => n - (intOf v37).toNat)
  case atStart => exact ⟨0, rfl, Nat.zero_le _, World.ownsRow_nil _ _ _ _, Below.refl _ _⟩
  case round =>
   obtain ⟨i, rfl, hin, hrow, hbel⟩ := hrel
   have Hrow := hid hrow
   have Hbel := hid hbel
   have Hkl := hid (show (keepsOf k (d1.loose.take i)).length ≤ n by
    have h1 := List.length_filter_le (fun c : Chg => c.file != k) (d1.loose.take i)
    have h2 : (d1.loose.take i).length ≤ i := by simp; omega
    show (List.filter _ _).length ≤ n
    omega)
   clear hrow hbel
   by_cases hlt : i < n
   ·have hil : i < d1.loose.length := by have := Hn.out; omega
    obtain ⟨c, hc⟩ : ∃ c, c = d1.loose[i] := ⟨_, rfl⟩
    have Hci := hid hc
    have hget : d1.loose[i]? = some c := by rw [List.getElem?_eq_getElem hil, hc]
    have Hcb := hid ((HM3.out.ok.lo c (List.mem_of_getElem? hget)).2.2.1)
    have Hi74 := hid (show (Tryz.prog.info? 75).map (·.size) = some (chgCells c).length by rw [chgCells_length Hcb.out]; kernel_rfl)
    have Hrange := hid (show wr.rangeAt g (i * 67) (chgCells c) from row_range (base := 0) (row_keep Hrow0.out (fun x hx => Hbel.out.block x (HM3.out.olt x (HM3.out.rown x hx)))) (fun c hc => (HM3.out.ok.lo c hc).2.2.1) hget Hn.out.symm)
    have hil2 : (i : Int) < (n : Int) := by omega
    clear hc hget
    go_upto_region 11 with fail
    refine wp_region_lit ?_
    refine wpList_value (w' := wr) rfl (.pointer (some ⟨g, i * 67, none⟩)) (by go_simp) ?_
    simp only [Act.put, List.setIfInBounds_toArray, List.set_cons_zero, List.set_cons_succ]
    refine wpList_value rfl (.agg (chgCells c).toArray) (exec_load rfl (by rfl) (run_loadAt_mid wr _ _ _ _ _ Hrange.out Tryz.underlying75 rfl Hi74.out)) ?_
    simp only [Act.put, List.setIfInBounds_toArray, List.set_cons_zero, List.set_cons_succ]
    refine wpList_value rfl (.pointer (some ⟨wr.heap.size, 0, none⟩)) (w' := wr.alloc (.cells (chgCells ⟨0, 0, false, nought⟩).toArray 75)) (by kernel_rfl) ?_
    simp only [Act.put, List.setIfInBounds_toArray, List.set_cons_zero, List.set_cons_succ]
    refine wpList_skip rfl (exec_store rfl rfl rfl (run_storeAt_new wr 75 _ _ (by rw [List.size_toArray, chgCells_length Hcb.out]; kernel_rfl) (by rw [List.size_toArray, List.size_toArray, chgCells_length Hcb.out]; rfl) (all_oneCell_toArray (chgCells_one c)))) ?_
    refine wpList_nil ?_
    simp only [Act.put, List.setIfInBounds_toArray, List.set_cons_zero, List.set_cons_succ]
    obtain ⟨B, hB⟩ : ∃ B, B = wr.heap.size := ⟨_, rfl⟩
    rw [← hB]
    have hBn := heap_alloc_new wr (.cells (chgCells c).toArray 75)
    rw [← hB] at hBn
    have hbelA := Hbel.out.alloc Hbel.out.size (.cells (chgCells c).toArray 75)
    have hrowA := row_keep Hrow.out (w' := wr.alloc (.cells (chgCells c).toArray 75)) (fun x hx => Below.heap_alloc wr _ x (row_base Hrow.out hx).2)
    obtain ⟨wa, hwa⟩ : ∃ wa, wa = wr.alloc (.cells (chgCells c).toArray 75) := ⟨_, rfl⟩
    rw [← hwa] at hBn hbelA hrowA ⊢
    have HBn := hid hBn
    have HbelA := hid hbelA
    have HrowA := hid hrowA
    have q0 : wa.cell? ⟨B, 0, none⟩ = some (.int .i64 (c.file : Int)) := (cell_of_block hBn 0).trans rfl
    clear hBn hbelA hrowA hwa hB Hbel Hrow
    by_cases hf : c.file = k
    ·have hf' : ((c.file : Int) != (k : Int)) = false := by simp; omega
     go_wp2_with fail
     go_roundw
     case rel =>
      refine ⟨i + 1, by simp, by omega, ?_, HbelA.out⟩
      rw [List.take_succ_eq_append_getElem (by omega), ← Hci.out, keepsOf_snoc, if_pos hf]
      exact HrowA.out
     case measure => simp [intOf]; omega
    ·have hf' : ((c.file : Int) != (k : Int)) = true := by simp; omega
     go_upto_region 13 with fail
     refine wp_region_lit ?_
     refine wpList_value (w' := wa) rfl _ rfl ?_
     simp only [Act.put, List.setIfInBounds_toArray, List.set_cons_zero, List.set_cons_succ]
     refine wpList_value rfl (.agg (chgCells c).toArray) (exec_load rfl (by rfl) (run_loadAt_mid wa _ _ _ _ _ (range_whole HBn.out) Tryz.underlying75 rfl Hi74.out)) ?_
     simp only [Act.put, List.setIfInBounds_toArray, List.set_cons_zero, List.set_cons_succ]
     refine wpList_value rfl (.slice (some ⟨wa.heap.size, 0, none⟩) 1 1) (w' := wa.alloc (.cells (chgCells c).toArray 75)) (exec_buildSlice (vs := #[(0, .agg (chgCells c).toArray)]) rfl (by simp [Act.eval]) (run_buildSlice_one _ 68 75 _ (chgV ⟨0, 0, false, nought⟩) 67 Tryz.underlying68 (by kernel_rfl) (by rfl) (by rw [List.size_toArray, chgCells_length Hcb.out]) (by omega) (by omega))) ?_
     simp only [Act.put, List.setIfInBounds_toArray, List.set_cons_zero, List.set_cons_succ]
     obtain ⟨i0, hi, hz0, hz1, hz2⟩ := info_parts (P := Tryz.prog) (e := 75) (z := chgV ⟨0, 0, false, nought⟩) (size := 67) (bytes := 88) (by kernel_rfl)
     refine wpList_append_own_at _ rfl _ _ 68 (by rfl) w3.heap.size 75 i0 _ 67 88 Tryz.underlying68 hi hz0 hz1 hz2 rfl (by omega) _ (keepsOf k (d1.loose.take i)).length (chgsCells (keepsOf k (d1.loose.take i))) (by rfl) (row_keep HrowA.out (fun x hx => Below.heap_alloc wa _ x (row_base HrowA.out hx).2)) ⟨wa.heap.size, 0, none⟩ 1 1 (chgCells c) (by rfl) (by rw [chgCells_length Hcb.out]) (World.news_of_block (cs := (chgCells c).toArray) (t := 75) (fr := (0, 0)) (heap_alloc_new wa _)) (chgCells_one c) (by unfold maxLen; have := Hkl.out; have := HS.out; omega) (by have := Hkl.out; have := HS.out; omega) (by simp; have := HbelA.out.size; omega) ?_
     intro v' w7 hown7 hgrow7 _ hat7
     have Hown7 := hid hown7
     have Hbel7 := hid ((HbelA.out.alloc HbelA.out.size (.cells (chgCells c).toArray 75)).grown hgrow7 (by simp; have := HbelA.out.size; omega) (fun j hj => (row_base HrowA.out hj).1))
     clear hown7 hgrow7 hat7
     simp only [Act.put, List.setIfInBounds_toArray, List.set_cons_zero, List.set_cons_succ]
     go_wp2_with fail
     go_roundw
     case rel =>
      refine ⟨i + 1, by simp, by omega, ?_, Hbel7.out⟩
      rw [List.take_succ_eq_append_getElem (by omega), ← Hci.out, keepsOf_snoc, if_neg hf, List.length_append, chgsCells_snoc]
      exact Hown7.out
     case measure => simp [intOf]; omega
   ·obtain rfl : i = n := by omega
    have hlt' : decide ((i : Int) < (i : Int)) = false := by simp
    have hbb := (Hbel.out.block b (lt_of_block HM3.out.blk)).trans HM3.out.blk
    have a32 : wr.cell? ⟨b, 32, none⟩ = some (.slice (some ⟨g, 0, none⟩) i cap) := (cell_of_block hbb 32).trans rfl
    have af := free_of_block hbb 32
    have hall : d1.loose.take i = d1.loose := List.take_of_length_le (by have := Hn.out; omega)
    have Hall := hid hall
    clear hbb hall hlt
    rw [Hall.out] at Hrow
    rcases row_form Hrow.out with ⟨rfl, hz⟩ | ⟨g', cap', rfl⟩
    all_goals
     go_wp2_with fail
     go_ret
     obtain ⟨hm8, hst8⟩ := HM3.out.new_row Hbel.out Hrow.out (fun c hc => (List.mem_filter.1 hc).1)
     exact ⟨rfl, _, ⟨_, _, _, _, hm8⟩, HST.out.trans (HST3.out.trans hst8)⟩
end
end Go.Proofs.YtlkkclooihjpiaaGreat
/- A disk's Crash; Sync whole. -/
namespace Go.Proofs.YtlkkclooihjpiaaGreat
open Go.RowKit Go.Maps
set_option maxRecDepth 20000
section
variable {w w' : World} {b : Nat} {F : Foot} {d d' : Dsk} {nm sm : Nat → Option Nat} {lv : Value} {am : Nat}
set_option maxRecDepth 20000 in
theorem sync_any (h : DiskAt w b F d) (f : Int) (hs : d.Small 1099511527776) :
  Calls Tryz.prog 105 #[.pointer (some ⟨b, 0, none⟩), .int .i64 f] w fun e w' => e = .returned (.int .i64 (syncM d f).1) ∧ Did w b F (syncM d f).2 w' := by
 have R := ready_any h f
 by_cases hr : readyM d f = 0
 ·obtain ⟨ho, hf0, hf8⟩ := ready_zero hr
  obtain ⟨k, rfl⟩ : ∃ k : Nat, f = k := ⟨f.toNat, by omega⟩
  have hk : k < 8 := by omega
  by_cases hm : (meetsM d).1 = 0
  ·have e : syncM d k = (0, sureM (meetsM d).2 k) := by unfold syncM; rw [if_neg (by simpa using hr), if_neg (by simpa using hm), Int.toNat_natCast]
   rw [e]
   exact sync_main h k hs hk ho hm
  ·have e : syncM d k = meetsM d := by unfold syncM; rw [if_neg (by simpa using hr), if_pos hm]
   rw [e]
   rw [hr] at R
   have M := meets_any h (hs.mono (by omega))
   obtain ⟨r, hr2⟩ : ∃ r, r = (meetsM d).1 := ⟨_, rfl⟩
   obtain ⟨d1, hd1⟩ : ∃ d1, d1 = (meetsM d).2 := ⟨_, rfl⟩
   rw [← hr2, ← hd1] at M ⊢
   rw [← hr2] at hm
   have hrne : (r != 0) = true := by simpa using hm
   have R := hid R
   have M := hid M
   clear e hr h hs hr2 hd1 hm
   go_enter Tryz.func105, Tryz.ntmps105
   go_wp2_with (first | (go_at_call 23; refine (R.out).mono ?_; rintro e w1 ⟨rfl, rfl⟩) | (go_at_call 24; refine (M.out).mono ?_; rintro e w2 ⟨rfl, hd2⟩) | go_in)
   go_ret
   exact ⟨rfl, hd2⟩
 ·have e : syncM d f = (readyM d f, d) := by unfold syncM; rw [if_pos hr]
  rw [e]
  obtain ⟨r, hr2⟩ : ∃ r, r = readyM d f := ⟨_, rfl⟩
  rw [← hr2] at R ⊢
  rw [← hr2] at hr
  have hrne : (r != 0) = true := by simpa using hr
  have R := hid R
  have H := hid h
  clear hr2 e hr h hs
  go_enter Tryz.func105, Tryz.ntmps105
  go_wp2_with (first | (go_at_call 23; refine (R.out).mono ?_; rintro e w1 ⟨rfl, rfl⟩) | go_in)
  go_ret
  exact ⟨rfl, Did.same H.out⟩
def KeepAt (w : World) (v : Value) (ks : List Bool) : Prop := ∃ ao cap, v = .slice ao ks.length cap ∧ (ks = [] ∨ ∃ g o, ao = some ⟨g, o, none⟩ ∧ ∀ i b, ks[i]? = some b → w.cell? ⟨g, o + i, none⟩ = some (.bool b))
def keepBlk (v : Value) (ks : List Bool) : Option Nat := if ks.isEmpty then none else v.ownBlock
theorem KeepAt.keep {w w' : World} {v : Value} {ks : List Bool} (h : KeepAt w v ks) (hk : ∀ g, keepBlk v ks = some g → w'.heap[g]? = w.heap[g]?) : KeepAt w' v ks := by
 obtain ⟨ao, cap, rfl, h⟩ := h
 refine ⟨ao, cap, rfl, ?_⟩
 by_cases h0 : ks = []
 ·exact .inl h0
 refine .inr ?_
 obtain ⟨g, o, rfl, hc⟩ := h.resolve_left h0
 refine ⟨g, o, rfl, fun i b hi => ?_⟩
 have e := hk g (by simp [keepBlk, h0, Value.ownBlock])
 rw [← hc i b hi]
 unfold World.cell?
 simp only [e]
end
section
variable {w : World} {b : Nat} {F : Foot} {d : Dsk}
end
end Go.Proofs.YtlkkclooihjpiaaGreat
