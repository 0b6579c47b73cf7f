/- The disk's small calls: is, ahead, Size, On, Ops, Loose, ready, Power, meets, Arm. -/
import Derived.Test.YtlkkclooihjpiaaGreatDkD
set_option linter.unusedVariables false
set_option linter.unusedSimpArgs false
namespace Go.Proofs.YtlkkclooihjpiaaGreat
open Go.RowKit Go.Maps
set_option maxRecDepth 20000
theorem is_any (f : Int) (w : World) : Calls Tryz.prog 48 #[.int .i64 f] w fun e w' => e = .returned (.bool (decide (0 ≤ f) && decide (f < 8))) ∧ w' = w := by
 go_enter Tryz.func48, Tryz.ntmps48
 by_cases h1 : 0 ≤ f
 ·have h1' : decide (0 ≤ f) = true := by simpa using h1
  go_wp2_with fail
  go_ret
  exact ⟨by simp [h1], rfl⟩
 ·have h1' : decide (0 ≤ f) = false := by simpa using h1
  go_wp2_with fail
  go_ret
  exact ⟨by simp [h1], rfl⟩
section
variable {w : World} {b : Nat} {F : Foot} {d : Dsk}
theorem on_any (h : DiskAt w b F d) : Calls Tryz.prog 50 #[.pointer (some ⟨b, 0, none⟩)] w fun e w' => e = .returned (.bool (!d.off)) ∧ w' = w := by
 obtain ⟨nm, sm, lv, am, h⟩ := h
 obtain ⟨-, -, -, -, c⟩ := h.five
 clear h
 go_enter Tryz.func50, Tryz.ntmps50
 go_wp2_with fail
 go_ret
 exact ⟨rfl, rfl⟩
theorem size_any (h : DiskAt w b F d) (f : Int) : Calls Tryz.prog 52 #[.pointer (some ⟨b, 0, none⟩), .int .i64 f] w fun e w' => e = .returned (.int .i64 (if 0 ≤ f ∧ f < 8 then ((d.now f.toNat).length : Int) else 0)) ∧ w' = w := by
 obtain ⟨nm, sm, lv, am, h⟩ := h
 by_cases hf : 0 ≤ f ∧ f < 8
 ·rw [if_pos hf]
  obtain ⟨k, rfl⟩ : ∃ k : Nat, f = k := ⟨f.toNat, by omega⟩
  have hk : k < 8 := by omega
  have hi : (decide (0 ≤ (k : Int)) && decide ((k : Int) < 8)) = true := by simp; omega
  have I := is_any (k : Int)
  rw [hi] at I
  have c := (h.cell (k * 2)).trans (now_cells d nm sm lv am hk).1
  have hf8 : (k : Int) < 8 := hf.2
  simp only [Int.toNat_natCast]
  obtain ⟨z, hz⟩ : ∃ z : Int, z = (d.now k).length := ⟨_, rfl⟩
  rw [← hz] at c ⊢
  have I := hid I
  clear h hf hz hi
  go_enter Tryz.func52, Tryz.ntmps52
  go_wp2_with (first | (go_at_call 48; refine (I.out _).mono ?_; rintro e w1 ⟨rfl, rfl⟩) | go_in)
  go_ret
  exact ⟨rfl, rfl⟩
 ·rw [if_neg hf]
  have hi : (decide (0 ≤ f) && decide (f < 8)) = false := by simp; omega
  have I := is_any f
  rw [hi] at I
  have I := hid I
  clear h hf hi
  go_enter Tryz.func52, Tryz.ntmps52
  go_wp2_with (first | (go_at_call 48; refine (I.out _).mono ?_; rintro e w1 ⟨rfl, rfl⟩) | go_in)
  go_ret
  exact ⟨rfl, rfl⟩
def readyM (d : Dsk) (f : Int) : Int := if d.off then 32 else if 0 ≤ f ∧ f < 8 then 0 else 2
theorem ready_any (h : DiskAt w b F d) (f : Int) : Calls Tryz.prog 23 #[.pointer (some ⟨b, 0, none⟩), .int .i64 f] w fun e w' => e = .returned (.int .i64 (readyM d f)) ∧ w' = w := by
 obtain ⟨nm, sm, lv, am, h⟩ := h
 obtain ⟨-, -, -, -, c⟩ := h.five
 clear h
 unfold readyM
 have I := is_any f
 cases ho : d.off with
 | true =>
  rw [ho] at c
  go_enter Tryz.func23, Tryz.ntmps23
  go_wp2_with fail
  go_ret
  exact ⟨rfl, rfl⟩
 | false =>
  rw [ho] at c
  by_cases hf : 0 ≤ f ∧ f < 8
  ·have hi : (decide (0 ≤ f) && decide (f < 8)) = true := by simp; omega
   rw [hi] at I
   have I := hid I
   rw [if_neg (by simp), if_pos hf]
   clear hf hi
   go_enter Tryz.func23, Tryz.ntmps23
   go_wp2_with (first | (go_at_call 48; refine (I.out _).mono ?_; rintro e w1 ⟨rfl, rfl⟩) | go_in)
   go_ret
   exact ⟨rfl, rfl⟩
  ·have hi : (decide (0 ≤ f) && decide (f < 8)) = false := by simp; omega
   rw [hi] at I
   have I := hid I
   rw [if_neg (by simp), if_neg hf]
   clear hf hi
   go_enter Tryz.func23, Tryz.ntmps23
   go_wp2_with (first | (go_at_call 48; refine (I.out _).mono ?_; rintro e w1 ⟨rfl, rfl⟩) | go_in)
   go_ret
   exact ⟨rfl, rfl⟩
def meetsM (d : Dsk) : Int × Dsk :=
 (if d.ops = d.goes then 32 else d.armed d.ops, { d with ops := d.ops + 1, armed := fun k => if k = d.ops then 0 else d.armed k, off := d.off || d.ops == d.goes })
theorem arm_drop {am n : Nat} {g : Int → Int} {D : DataW Unit} (hg : ∀ k : Int, D.atKey (ik k) (.lit (.int .i64 0)) = .lit (.int .i64 (g k))) (o k : Int) :
  (D.del (ik o)).atKey (ik k) (.lit (.int .i64 0)) = .lit (.int .i64 (if k = o then 0 else g k)) := by
 by_cases e : k = o
 ·rw [if_pos e, e, atKey_del_same]
 ·rw [if_neg e, atKey_del_other (ik_ne e), hg]
theorem zeroErr (w : World) : (zeroValue 29).run Tryz.prog w = .ok (.int .i64 0) w := by kernel_rfl
theorem turned_block {nm sm : Nat → Option Nat} {lv : Value} {am : Nat} {w2 : World} (h : DiskMem w b F d nm sm lv am) (ht : (w.setCell ⟨b, 34, none⟩ (.int .i64 (d.ops + 1))).mapTurned w2 am) :
  w2.heap[b]? = some (.cells (diskCells { d with ops := d.ops + 1 } nm sm lv am).toArray 70 (0, 0)) ∧ Frm (fun k => k = b ∨ k = am) w w2 ∧ w2.cell? ⟨b, 35, none⟩ = some (.int .i64 d.goes) ∧ w2.cell? ⟨b, 36, none⟩ = some (.bool d.off) ∧ w2.frozen? ⟨b, 36, none⟩ = false := by
 have hg := ht.grown
 have hz : (w.setCell ⟨b, 34, none⟩ (.int .i64 (d.ops + 1))).heap.size = w.heap.size := by simp
 have hb : w2.heap[b]? = some (.cells (diskCells { d with ops := d.ops + 1 } nm sm lv am).toArray 70 (0, 0)) :=
  (hg.block b (by rw [hz]; exact lt_of_block h.blk) (fun e => h.ne_arm (Option.some.inj e).symm)).trans (heap_setCell_same h.blk 34 _)
 refine ⟨hb, ?_, (cell_of_block hb 35).trans rfl, (cell_of_block hb 36).trans rfl, free_of_block hb 36⟩
 refine Frm.trans ((Frm.refl _ _).setCell (p := ⟨b, 34, none⟩) (.inl (.inl rfl)) (.int .i64 (d.ops + 1))) ⟨hg.os, hg.tape, hg.output, hg.size, fun k hk hne => hg.block k hk (fun e => hne (.inr (Option.some.inj e)))⟩
set_option maxRecDepth 20000 in
theorem meets_any (h : DiskAt w b F d) (hs : d.Small 1099511627776) : Calls Tryz.prog 24 #[.pointer (some ⟨b, 0, none⟩)] w fun e w' => e = .returned (.int .i64 (meetsM d).1) ∧ Did w b F (meetsM d).2 w' := by
 obtain ⟨nm, sm, lv, am, h⟩ := h
 have h0 := h.ok.op0
 have hwf : (Lit.int .i64 d.ops).wf = true := WalkArith.wf_i64 (by have := hs.ops; omega)
 have hw : IntKind.i64.wrap (d.ops + 1) = d.ops + 1 := IntWalk.i64_in _ (by have := hs.ops; omega)
 obtain ⟨-, c3, c4, c5, c6⟩ := h.five
 have fr4 := h.free 34
 have fr6 := h.free 36
 obtain ⟨D, hown, hg⟩ := h.arm
 have hne := h.ne_arm
 have hown1 : (w.setCell ⟨b, 34, none⟩ (.int .i64 (d.ops + 1))).ownsMap Tryz.prog 3 (plainElem Tryz.prog 29) am d.narm D := hown.setCell (a := ⟨b, 34, none⟩) hne _
 have hkey : keyOf Tryz.prog 3 (.int .i64 d.ops) = some (ik d.ops) := keyOf_int_mk Tryz.underlying3 hwf
 have H := hid h
 have Hg := hid hg
 have Hne := hid hne
 clear h hown hg hs h0 hwf hne
 obtain ⟨r, hr⟩ : ∃ r, r = meetsM d := ⟨_, rfl⟩
 rw [← hr]
 unfold meetsM at hr
 by_cases he : d.ops = d.goes
 ·have he' : (d.ops == d.goes) = true := by simpa using he
  rw [if_pos he, he', Bool.or_true] at hr
  have Hr := hid hr
  clear hr he
  go_enter Tryz.func24, Tryz.ntmps24
  go_wp2_with (first
   | (at_lookup; refine wpList_lookup_own_int _ rfl _ _ 63 rfl 3 29 .i64 keyI Tryz.underlying63 Tryz.underlying29 (zeroErr _) am d.narm D rfl hown1 _ _ rfl hkey ?_; intro ce hat hwc; have HA := hid hat; clear hat hwc)
   | (at_delete; refine wpList_delete_own _ rfl _ _ 63 3 rfl 29 keyI Tryz.underlying63 (plainElem Tryz.prog 29) am d.narm D rfl hown1 _ _ rfl hkey ?_; intro w2 hown2 hturn2; obtain ⟨hb2, hf2, d5, d6, df⟩ := turned_block H.out hturn2; have HB := hid hb2; have HF := hid hf2; have HO := hid hown2; clear hb2 hf2 hown2 hturn2 hown1)
   | go_in)
  go_ret
  rw [Hr.out]
  obtain ⟨hm, hst⟩ := H.out.turn (d' := { d with ops := d.ops + 1, armed := fun k => if k = d.ops then 0 else d.armed k, off := true }) (HF.out.setCell (p := ⟨b, 36, none⟩) (.inl (.inl rfl)) (.bool true)) (heap_setCell_same HB.out 36 _)
   ⟨_, (map_keep HO.out (Below.heap_setCell _ ⟨b, 36, none⟩ _ _ Hne.out)), arm_drop (am := am) (n := d.narm) Hg.out _⟩ rfl rfl rfl (by have := H.out.ok.op0; simp only; omega)
  exact ⟨rfl, F, ⟨nm, sm, lv, am, hm⟩, hst⟩
 ·have he' : (d.ops == d.goes) = false := by simpa using he
  rw [if_neg he, he', Bool.or_false] at hr
  have Hr := hid hr
  clear hr he
  go_enter Tryz.func24, Tryz.ntmps24
  go_wp2_with (first
   | (at_lookup; refine wpList_lookup_own_int _ rfl _ _ 63 rfl 3 29 .i64 keyI Tryz.underlying63 Tryz.underlying29 (zeroErr _) am d.narm D rfl hown1 _ _ rfl hkey ?_; intro ce hat hwc; have HA := hid hat; clear hat hwc)
   | (at_delete; refine wpList_delete_own _ rfl _ _ 63 3 rfl 29 keyI Tryz.underlying63 (plainElem Tryz.prog 29) am d.narm D rfl hown1 _ _ rfl hkey ?_; intro w2 hown2 hturn2; obtain ⟨hb2, hf2, d5, d6, df⟩ := turned_block H.out hturn2; have HB := hid hb2; have HF := hid hf2; have HO := hid hown2; clear hb2 hf2 hown2 hturn2 hown1)
   | go_in)
  go_ret
  rw [Hr.out]
  obtain ⟨hm, hst⟩ := H.out.turn (d' := { d with ops := d.ops + 1, armed := fun k => if k = d.ops then 0 else d.armed k }) HF.out HB.out
   ⟨_, HO.out, arm_drop (am := am) (n := d.narm) Hg.out _⟩ rfl rfl rfl (by have := H.out.ok.op0; simp only; omega)
  refine ⟨?_, F, ⟨nm, sm, lv, am, hm⟩, hst⟩
  have h1 := HA.out
  rw [Hg.out] at h1
  simp only [DataW.lit.injEq, Lit.int.injEq, true_and] at h1
  rw [h1]
  rfl
end
end Go.Proofs.YtlkkclooihjpiaaGreat
