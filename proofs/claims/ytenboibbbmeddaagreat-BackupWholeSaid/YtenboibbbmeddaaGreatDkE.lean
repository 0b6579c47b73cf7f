/- The disk's small calls: is, ahead, Size, On, Ops, Loose, ready, Power, meets, Arm. -/
import Derived.Test.YtenboibbbmeddaaGreatDkD
set_option linter.unusedVariables false
set_option linter.unusedSimpArgs false
namespace Go.Proofs.YtenboibbbmeddaaGreat
open Go.RowKit Go.Maps
set_option maxRecDepth 20000
theorem is_any (f : Int) (w : World) : Calls Tryz.prog 62 #[.int .i64 f] w fun e w' => e = .returned (.bool (decide (0 ≤ f) && decide (f < 8))) ∧ w' = w := by
 go_enter Tryz.func62, Tryz.ntmps62
 by_cases h1 : 0 ≤ f
 ·have h1' : decide (0 ≤ f) = true := by simpa using h1
  go_wp2_with fail
  go_ret
  exact ⟨by simp [h1], rfl⟩
 ·have h1' : decide (0 ≤ f) = false := by simpa using h1
  go_wp2_with fail
  go_ret
  exact ⟨by simp [h1], rfl⟩
theorem ahead_any (f : Int) (w : World) : Calls Tryz.prog 49 #[.int .i64 f] w fun e w' => e = .returned (.bool (decide (0 ≤ f) && decide (f ≤ 1099511627776))) ∧ w' = w := by
 go_enter Tryz.func49, Tryz.ntmps49
 by_cases h1 : 0 ≤ f
 ·have h1' : decide (0 ≤ f) = true := by simpa using h1
  go_wp2_with fail
  go_ret
  exact ⟨by simp [h1], rfl⟩
 ·have h1' : decide (0 ≤ f) = false := by simpa using h1
  go_wp2_with fail
  go_ret
  exact ⟨by simp [h1], rfl⟩
section
variable {w : World} {b : Nat} {F : Foot} {d : Dsk}
theorem on_any (h : DiskAt w b F d) : Calls Tryz.prog 31 #[.pointer (some ⟨b, 0, none⟩)] w fun e w' => e = .returned (.bool (!d.off)) ∧ w' = w := by
 obtain ⟨nm, sm, lv, am, h⟩ := h
 obtain ⟨-, -, -, -, c⟩ := h.five
 clear h
 go_enter Tryz.func31, Tryz.ntmps31
 go_wp2_with fail
 go_ret
 exact ⟨rfl, rfl⟩
theorem size_any (h : DiskAt w b F d) (f : Int) : Calls Tryz.prog 38 #[.pointer (some ⟨b, 0, none⟩), .int .i64 f] w fun e w' => e = .returned (.int .i64 (if 0 ≤ f ∧ f < 8 then ((d.now f.toNat).length : Int) else 0)) ∧ w' = w := by
 obtain ⟨nm, sm, lv, am, h⟩ := h
 by_cases hf : 0 ≤ f ∧ f < 8
 ·rw [if_pos hf]
  obtain ⟨k, rfl⟩ : ∃ k : Nat, f = k := ⟨f.toNat, by omega⟩
  have hk : k < 8 := by omega
  have hi : (decide (0 ≤ (k : Int)) && decide ((k : Int) < 8)) = true := by simp; omega
  have I := is_any (k : Int)
  rw [hi] at I
  have c := (h.cell (k * 2)).trans (now_cells d nm sm lv am hk).1
  have hf8 : (k : Int) < 8 := hf.2
  simp only [Int.toNat_natCast]
  obtain ⟨z, hz⟩ : ∃ z : Int, z = (d.now k).length := ⟨_, rfl⟩
  rw [← hz] at c ⊢
  have I := hid I
  clear h hf hz hi
  go_enter Tryz.func38, Tryz.ntmps38
  go_wp2_with (first | (go_at_call 62; refine (I.out _).mono ?_; rintro e w1 ⟨rfl, rfl⟩) | go_in)
  go_ret
  exact ⟨rfl, rfl⟩
 ·rw [if_neg hf]
  have hi : (decide (0 ≤ f) && decide (f < 8)) = false := by simp; omega
  have I := is_any f
  rw [hi] at I
  have I := hid I
  clear h hf hi
  go_enter Tryz.func38, Tryz.ntmps38
  go_wp2_with (first | (go_at_call 62; refine (I.out _).mono ?_; rintro e w1 ⟨rfl, rfl⟩) | go_in)
  go_ret
  exact ⟨rfl, rfl⟩
def readyM (d : Dsk) (f : Int) : Int := if d.off then 32 else if 0 ≤ f ∧ f < 8 then 0 else 2
theorem ready_any (h : DiskAt w b F d) (f : Int) : Calls Tryz.prog 96 #[.pointer (some ⟨b, 0, none⟩), .int .i64 f] w fun e w' => e = .returned (.int .i64 (readyM d f)) ∧ w' = w := by
 obtain ⟨nm, sm, lv, am, h⟩ := h
 obtain ⟨-, -, -, -, c⟩ := h.five
 clear h
 unfold readyM
 have I := is_any f
 cases ho : d.off with
 | true =>
  rw [ho] at c
  go_enter Tryz.func96, Tryz.ntmps96
  go_wp2_with fail
  go_ret
  exact ⟨rfl, rfl⟩
 | false =>
  rw [ho] at c
  by_cases hf : 0 ≤ f ∧ f < 8
  ·have hi : (decide (0 ≤ f) && decide (f < 8)) = true := by simp; omega
   rw [hi] at I
   have I := hid I
   rw [if_neg (by simp), if_pos hf]
   clear hf hi
   go_enter Tryz.func96, Tryz.ntmps96
   go_wp2_with (first | (go_at_call 62; refine (I.out _).mono ?_; rintro e w1 ⟨rfl, rfl⟩) | go_in)
   go_ret
   exact ⟨rfl, rfl⟩
  ·have hi : (decide (0 ≤ f) && decide (f < 8)) = false := by simp; omega
   rw [hi] at I
   have I := hid I
   rw [if_neg (by simp), if_neg hf]
   clear hf hi
   go_enter Tryz.func96, Tryz.ntmps96
   go_wp2_with (first | (go_at_call 62; refine (I.out _).mono ?_; rintro e w1 ⟨rfl, rfl⟩) | go_in)
   go_ret
   exact ⟨rfl, rfl⟩
def powerM (d : Dsk) (n : Int) : Int × Dsk := if 0 ≤ n ∧ n ≤ 1099511627776 then (0, { d with goes := d.ops + n }) else (2, d)
theorem power_any (h : DiskAt w b F d) (n : Int) (hs : d.Small 1099511627776) : Calls Tryz.prog 25 #[.pointer (some ⟨b, 0, none⟩), .int .i64 n] w fun e w' => e = .returned (.int .i64 (powerM d n).1) ∧ Did w b F (powerM d n).2 w' := by
 obtain ⟨nm, sm, lv, am, h⟩ := h
 have A := ahead_any n
 unfold powerM
 by_cases hn : 0 ≤ n ∧ n ≤ 1099511627776
 ·have hi : (decide (0 ≤ n) && decide (n ≤ 1099511627776)) = true := by simp; omega
  rw [hi] at A
  rw [if_pos hn]
  have hw : IntKind.i64.wrap (d.ops + n) = d.ops + n := IntWalk.i64_in _ (by have := hs.ops; have := h.ok.op0; omega)
  obtain ⟨-, -, c, c5, -⟩ := h.five
  have fr := h.free 35
  have A := hid A
  have H := hid h
  clear h hi hn hs
  go_enter Tryz.func25, Tryz.ntmps25
  go_wp2_with (first | (go_at_call 49; refine (A.out _).mono ?_; rintro e w1 ⟨rfl, rfl⟩) | go_in)
  go_ret
  obtain ⟨hm, hst⟩ := H.out.turn (d' := { d with goes := d.ops + n }) ((Frm.refl _ _).setCell (p := ⟨b, 35, none⟩) (.inl (.inl rfl)) (.int .i64 (d.ops + n))) (heap_setCell_same H.out.blk 35 _) (H.out.arm.keep (Below.heap_setCell _ ⟨b, 35, none⟩ _ _ H.out.ne_arm)) rfl rfl rfl H.out.ok.op0
  exact ⟨rfl, F, ⟨nm, sm, lv, am, hm⟩, hst⟩
 ·have hi : (decide (0 ≤ n) && decide (n ≤ 1099511627776)) = false := by simp; omega
  rw [hi] at A
  rw [if_neg hn]
  have A := hid A
  have H := hid h
  clear h hi hn hs
  go_enter Tryz.func25, Tryz.ntmps25
  go_wp2_with (first | (go_at_call 49; refine (A.out _).mono ?_; rintro e w1 ⟨rfl, rfl⟩) | go_in)
  go_ret
  exact ⟨rfl, F, ⟨nm, sm, lv, am, H.out⟩, FootStep.refl _ _⟩
def meetsM (d : Dsk) : Int × Dsk :=
 (if d.ops = d.goes then 32 else d.armed d.ops, { d with ops := d.ops + 1, armed := fun k => if k = d.ops then 0 else d.armed k, off := d.off || d.ops == d.goes })
theorem arm_drop {am n : Nat} {g : Int → Int} {D : DataW Unit} (hg : ∀ k : Int, D.atKey (ik k) (.lit (.int .i64 0)) = .lit (.int .i64 (g k))) (o k : Int) :
  (D.del (ik o)).atKey (ik k) (.lit (.int .i64 0)) = .lit (.int .i64 (if k = o then 0 else g k)) := by
 by_cases e : k = o
 ·rw [if_pos e, e, atKey_del_same]
 ·rw [if_neg e, atKey_del_other (ik_ne e), hg]
theorem zeroErr (w : World) : (zeroValue 29).run Tryz.prog w = .ok (.int .i64 0) w := by kernel_rfl
theorem turned_block {nm sm : Nat → Option Nat} {lv : Value} {am : Nat} {w2 : World} (h : DiskMem w b F d nm sm lv am) (ht : (w.setCell ⟨b, 34, none⟩ (.int .i64 (d.ops + 1))).mapTurned w2 am) :
  w2.heap[b]? = some (.cells (diskCells { d with ops := d.ops + 1 } nm sm lv am).toArray 72 (0, 0)) ∧ Frm (fun k => k = b ∨ k = am) w w2 ∧ w2.cell? ⟨b, 35, none⟩ = some (.int .i64 d.goes) ∧ w2.cell? ⟨b, 36, none⟩ = some (.bool d.off) ∧ w2.frozen? ⟨b, 36, none⟩ = false := by
 have hg := ht.grown
 have hz : (w.setCell ⟨b, 34, none⟩ (.int .i64 (d.ops + 1))).heap.size = w.heap.size := by simp
 have hb : w2.heap[b]? = some (.cells (diskCells { d with ops := d.ops + 1 } nm sm lv am).toArray 72 (0, 0)) :=
  (hg.block b (by rw [hz]; exact lt_of_block h.blk) (fun e => h.ne_arm (Option.some.inj e).symm)).trans (heap_setCell_same h.blk 34 _)
 refine ⟨hb, ?_, (cell_of_block hb 35).trans rfl, (cell_of_block hb 36).trans rfl, free_of_block hb 36⟩
 refine Frm.trans ((Frm.refl _ _).setCell (p := ⟨b, 34, none⟩) (.inl (.inl rfl)) (.int .i64 (d.ops + 1))) ⟨hg.os, hg.tape, hg.output, hg.size, fun k hk hne => hg.block k hk (fun e => hne (.inr (Option.some.inj e)))⟩
set_option maxRecDepth 20000 in
theorem meets_any (h : DiskAt w b F d) (hs : d.Small 1099511627776) : Calls Tryz.prog 97 #[.pointer (some ⟨b, 0, none⟩)] w fun e w' => e = .returned (.int .i64 (meetsM d).1) ∧ Did w b F (meetsM d).2 w' := by
 obtain ⟨nm, sm, lv, am, h⟩ := h
 have h0 := h.ok.op0
 have hwf : (Lit.int .i64 d.ops).wf = true := WalkArith.wf_i64 (by have := hs.ops; omega)
 have hw : IntKind.i64.wrap (d.ops + 1) = d.ops + 1 := IntWalk.i64_in _ (by have := hs.ops; omega)
 obtain ⟨-, c3, c4, c5, c6⟩ := h.five
 have fr4 := h.free 34
 have fr6 := h.free 36
 obtain ⟨D, hown, hg⟩ := h.arm
 have hne := h.ne_arm
 have hown1 : (w.setCell ⟨b, 34, none⟩ (.int .i64 (d.ops + 1))).ownsMap Tryz.prog 3 (plainElem Tryz.prog 29) am d.narm D := hown.setCell (a := ⟨b, 34, none⟩) hne _
 have hkey : keyOf Tryz.prog 3 (.int .i64 d.ops) = some (ik d.ops) := keyOf_int_mk Tryz.underlying3 hwf
 have H := hid h
 have Hg := hid hg
 have Hne := hid hne
 clear h hown hg hs h0 hwf hne
 obtain ⟨r, hr⟩ : ∃ r, r = meetsM d := ⟨_, rfl⟩
 rw [← hr]
 unfold meetsM at hr
 by_cases he : d.ops = d.goes
 ·have he' : (d.ops == d.goes) = true := by simpa using he
  rw [if_pos he, he', Bool.or_true] at hr
  have Hr := hid hr
  clear hr he
  go_enter Tryz.func97, Tryz.ntmps97
  go_wp2_with (first
   | (at_lookup; refine wpList_lookup_own_int _ rfl _ _ 65 rfl 3 29 .i64 keyI Tryz.underlying65 Tryz.underlying29 (zeroErr _) am d.narm D rfl hown1 _ _ rfl hkey ?_; intro ce hat hwc; have HA := hid hat; clear hat hwc)
   | (at_delete; refine wpList_delete_own _ rfl _ _ 65 3 rfl 29 keyI Tryz.underlying65 (plainElem Tryz.prog 29) am d.narm D rfl hown1 _ _ rfl hkey ?_; intro w2 hown2 hturn2; obtain ⟨hb2, hf2, d5, d6, df⟩ := turned_block H.out hturn2; have HB := hid hb2; have HF := hid hf2; have HO := hid hown2; clear hb2 hf2 hown2 hturn2 hown1)
   | go_in)
  go_ret
  rw [Hr.out]
  obtain ⟨hm, hst⟩ := H.out.turn (d' := { d with ops := d.ops + 1, armed := fun k => if k = d.ops then 0 else d.armed k, off := true }) (HF.out.setCell (p := ⟨b, 36, none⟩) (.inl (.inl rfl)) (.bool true)) (heap_setCell_same HB.out 36 _)
   ⟨_, (map_keep HO.out (Below.heap_setCell _ ⟨b, 36, none⟩ _ _ Hne.out)), arm_drop (am := am) (n := d.narm) Hg.out _⟩ rfl rfl rfl (by have := H.out.ok.op0; simp only; omega)
  exact ⟨rfl, F, ⟨nm, sm, lv, am, hm⟩, hst⟩
 ·have he' : (d.ops == d.goes) = false := by simpa using he
  rw [if_neg he, he', Bool.or_false] at hr
  have Hr := hid hr
  clear hr he
  go_enter Tryz.func97, Tryz.ntmps97
  go_wp2_with (first
   | (at_lookup; refine wpList_lookup_own_int _ rfl _ _ 65 rfl 3 29 .i64 keyI Tryz.underlying65 Tryz.underlying29 (zeroErr _) am d.narm D rfl hown1 _ _ rfl hkey ?_; intro ce hat hwc; have HA := hid hat; clear hat hwc)
   | (at_delete; refine wpList_delete_own _ rfl _ _ 65 3 rfl 29 keyI Tryz.underlying65 (plainElem Tryz.prog 29) am d.narm D rfl hown1 _ _ rfl hkey ?_; intro w2 hown2 hturn2; obtain ⟨hb2, hf2, d5, d6, df⟩ := turned_block H.out hturn2; have HB := hid hb2; have HF := hid hf2; have HO := hid hown2; clear hb2 hf2 hown2 hturn2 hown1)
   | go_in)
  go_ret
  rw [Hr.out]
  obtain ⟨hm, hst⟩ := H.out.turn (d' := { d with ops := d.ops + 1, armed := fun k => if k = d.ops then 0 else d.armed k }) HF.out HB.out
   ⟨_, HO.out, arm_drop (am := am) (n := d.narm) Hg.out _⟩ rfl rfl rfl (by have := H.out.ok.op0; simp only; omega)
  refine ⟨?_, F, ⟨nm, sm, lv, am, hm⟩, hst⟩
  have h1 := HA.out
  rw [Hg.out] at h1
  simp only [DataW.lit.injEq, Lit.int.injEq, true_and] at h1
  rw [h1]
  rfl
def armM (d : Dsk) (n e : Int) : Int × Dsk :=
 if 0 ≤ n ∧ n ≤ 1099511627776 ∧ (e = 30 ∨ e = 31) then (0, { d with armed := fun k => if k = d.ops + n then e else d.armed k, narm := d.narm + 1 }) else (2, d)
theorem arm_put {n : Nat} {g : Int → Int} {D : DataW Unit} (hm : IsMap D) (hg : ∀ k : Int, D.atKey (ik k) (.lit (.int .i64 0)) = .lit (.int .i64 (g k))) (o e k : Int) :
  (D.put (ik o) (.lit (.int .i64 e))).atKey (ik k) (.lit (.int .i64 0)) = .lit (.int .i64 (if k = o then e else g k)) := by
 by_cases h : k = o
 ·rw [if_pos h, h, atKey_put_same hm (ik_key _)]
 ·rw [if_neg h, atKey_put_other (ik_ne h), hg]
set_option maxRecDepth 20000 in
theorem arm_any (h : DiskAt w b F d) (n e : Int) (hs : d.Small 1099511627776) : Calls Tryz.prog 24 #[.pointer (some ⟨b, 0, none⟩), .int .i64 n, .int .i64 e] w fun r w' => r = .returned (.int .i64 (armM d n e).1) ∧ Did w b F (armM d n e).2 w' := by
 obtain ⟨nm, sm, lv, am, h⟩ := h
 have A := ahead_any n
 obtain ⟨r, hr⟩ : ∃ r, r = armM d n e := ⟨_, rfl⟩
 rw [← hr]
 unfold armM at hr
 by_cases hn : 0 ≤ n ∧ n ≤ 1099511627776
 ·have hi : (decide (0 ≤ n) && decide (n ≤ 1099511627776)) = true := by simp; omega
  rw [hi] at A
  have A := hid A
  by_cases he : e = 30 ∨ e = 31
  ·rw [if_pos ⟨hn.1, hn.2, he⟩] at hr
   have Hr := hid hr
   have h0 := h.ok.op0
   have hw : IntKind.i64.wrap (d.ops + n) = d.ops + n := IntWalk.i64_in _ (by have := hs.ops; omega)
   have hkey : keyOf Tryz.prog 3 (.int .i64 (d.ops + n)) = some (ik (d.ops + n)) := keyOf_int_mk Tryz.underlying3 (WalkArith.wf_i64 (by have := hs.ops; omega))
   have hval : plainElem (H := Unit) Tryz.prog 29 (.int .i64 e) = some (.lit (.int .i64 e), []) := plainElem_int Tryz.underlying29 (WalkArith.wf_i64 (by omega))
   obtain ⟨-, c3, c4, -, -⟩ := h.five
   obtain ⟨D, hown, hg⟩ := h.arm
   obtain ⟨w2, hrun, hown2, hgrow⟩ := (show w.drew.ownsMap Tryz.prog 3 (plainElem Tryz.prog 29) am d.narm D from hown).update keyI Tryz.underlying65 (by have := hs.arm; unfold maxLen; omega) hkey hval
   have hb2 := (hgrow.block b (lt_of_block h.blk) (fun e => h.ne_arm (Option.some.inj e).symm)).trans h.blk
   obtain ⟨hm, hst⟩ := h.turn (w' := w2) (d' := { d with armed := fun k => if k = d.ops + n then e else d.armed k, narm := d.narm + 1 }) ⟨hgrow.os, hgrow.tape, hgrow.output, hgrow.size, fun k hk hne => hgrow.block k hk (fun e => hne (.inr (Option.some.inj e)))⟩ hb2
    ⟨_, hown2, arm_put (n := d.narm) hown.isMap hg _ _⟩ rfl rfl rfl h.ok.op0
   have HM := hid hm
   have HS := hid hst
   clear hr hi hn hs h0 hkey hval hown hg hown2 hgrow hb2 hm hst h
   rcases he with rfl | rfl
   all_goals
    go_enter Tryz.func24, Tryz.ntmps24
    go_wp2_with (first | (go_at_call 49; refine (A.out _).mono ?_; rintro e w1 ⟨rfl, rfl⟩) | go_in)
    refine region_tail 11 (fun W => W = w1.drew) (by kernel_rfl) (by kernel_rfl) rfl ?_
    rintro W rfl
    simp only [List.take_succ_cons, List.take_zero, List.drop_succ_cons, List.drop_zero]
    repeat still_step
    refine wpStill_nil ?_
    go_wp2_with fail
    go_ret
    rw [Hr.out]
    exact ⟨rfl, F, ⟨nm, sm, lv, am, HM.out⟩, HS.out⟩
  ·rw [if_neg (by omega)] at hr
   have Hr := hid hr
   have e1 : (e != 30) = true := by simp; omega
   have e2 : (e != 31) = true := by simp; omega
   have H := hid h
   clear hr hi hn hs he h
   go_enter Tryz.func24, Tryz.ntmps24
   go_wp2_with (first | (go_at_call 49; refine (A.out _).mono ?_; rintro e w1 ⟨rfl, rfl⟩) | go_in)
   go_ret
   rw [Hr.out]
   exact ⟨rfl, F, ⟨nm, sm, lv, am, H.out⟩, FootStep.refl _ _⟩
 ·have hi : (decide (0 ≤ n) && decide (n ≤ 1099511627776)) = false := by simp; omega
  rw [hi] at A
  rw [if_neg (by omega)] at hr
  have Hr := hid hr
  have A := hid A
  have H := hid h
  clear hr h hi hn hs
  go_enter Tryz.func24, Tryz.ntmps24
  go_wp2_with (first | (go_at_call 49; refine (A.out _).mono ?_; rintro e w1 ⟨rfl, rfl⟩) | go_in)
  go_ret
  rw [Hr.out]
  exact ⟨rfl, F, ⟨nm, sm, lv, am, H.out⟩, FootStep.refl _ _⟩
end
end Go.Proofs.YtenboibbbmeddaaGreat
