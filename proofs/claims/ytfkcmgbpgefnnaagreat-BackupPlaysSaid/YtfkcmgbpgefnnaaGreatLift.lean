/- The reference's Arms. -/
import Derived.Test.YtfkcmgbpgefnnaaGreatRgC
import Derived.Test.YtfkcmgbpgefnnaaGreatHeld
import Derived.Test.YtfkcmgbpgefnnaaGreatRows
import Derived.ProofKit
import Derived.SizedLaws
import Derived.OpenShut
import Derived.Deep.Fields
import Derived.Deep.Slices
set_option linter.unusedVariables false
set_option linter.unusedSimpArgs false
namespace Go.Proofs.YtfkcmgbpgefnnaaGreat.Rf
open Go.RowKit Go.Maps
set_option maxRecDepth 20000
theorem rangeAt_move {w w' : World} {g o : Nat} {cs : List Value} (h : w.rangeAt g o cs) (hk : w'.heap[g]? = w.heap[g]?) : w'.rangeAt g o cs := fun j v hv => by
 have := h j v hv
 rw [← this]
 unfold World.cell?
 simp only [hk]
theorem arm_one (a : Int × Int) : ∀ u ∈ armCells a, u.oneCell' = true := by
 intro u hu
 simp only [armCells, List.mem_cons, List.not_mem_nil, or_false] at hu
 rcases hu with rfl | rfl <;> rfl
theorem arm_range {w : World} {g o : Nat} {a : Int × Int} (h0 : w.cell? ⟨g, o, none⟩ = some (.int .i64 a.1)) (h1 : w.cell? ⟨g, o + 1, none⟩ = some (.int .i64 a.2)) : w.rangeAt g o (armCells a) := fun j v hv => by
 match j, hv with
 | 0, hv => cases hv; exact h0
 | 1, hv => cases hv; exact h1
 | j + 2, hv => simp [armCells] at hv
theorem lt_of_cell0 {w : World} {g o : Nat} {v : Value} (h : w.cell? ⟨g, o, none⟩ = some v) : g < w.heap.size := by
 rcases Nat.lt_or_ge g w.heap.size with h1 | h1
 ·exact h1
 ·unfold World.cell? at h
  rw [Array.getElem?_eq_none h1] at h
  simp at h
section
variable {w : World} {b : Nat} {F : Foot} {d : Dsk}
set_option maxHeartbeats 2000000 in
set_option maxRecDepth 20000 in
theorem rarms_any (h : RefAt w b F d) (n e : Int) (hs : d.Small 1099511627776) : Calls Tryz.prog 17 #[.pointer (some ⟨b, 0, none⟩), .int .i64 n, .int .i64 e] w fun r w' => r = .returned (.int .i64 (armM d n e).1) ∧ RDid w b F (armM d n e).2 w' := by
 by_cases hbad : n < 0 ∨ 1099511627776 < n ∨ (e ≠ 30 ∧ e ≠ 31)
 ·have er : armM d n e = (2, d) := by unfold armM; rw [if_neg (by omega)]
  rw [er]
  have H := hid h
  clear h hs er
  by_cases h1 : n < 0
  ·have h1' : decide (n < 0) = true := by simpa using h1
   clear hbad h1
   go_enter Tryz.func17, Tryz.ntmps17
   go_wp2_with fail
   go_ret
   exact ⟨rfl, RDid.same H.out⟩
  ·have h1' : decide (n < 0) = false := by simpa using h1
   by_cases h2 : 1099511627776 < n
   ·have h2' : decide (1099511627776 < n) = true := by simpa using h2
    clear hbad h1 h2
    go_enter Tryz.func17, Tryz.ntmps17
    go_wp2_with fail
    go_ret
    exact ⟨rfl, RDid.same H.out⟩
   ·have h2' : decide (1099511627776 < n) = false := by simpa using h2
    have h3' : (e != 30) = true := by simp; omega
    have h4' : (e != 31) = true := by simp; omega
    clear hbad h1 h2
    go_enter Tryz.func17, Tryz.ntmps17
    go_wp2_with fail
    go_ret
    exact ⟨rfl, RDid.same H.out⟩
 ·have h1' : decide (n < 0) = false := by simp only [decide_eq_false_iff_not]; omega
  have h2' : decide (1099511627776 < n) = false := by simp only [decide_eq_false_iff_not]; omega
  obtain ⟨nv, sv, lv, av, h⟩ := h
  obtain ⟨i0, hi, hz0, hz1, hz2⟩ := info_parts (P := Tryz.prog) (e := 104) (z := .agg #[.int .i64 0, .int .i64 0]) (size := 2) (bytes := 16) (by kernel_rfl)
  have hw : IntKind.i64.wrap (d.ops + n) = d.ops + n := IntWalk.i64_in _ (by have := hs.ops; have := h.ok.op0; omega)
  obtain ⟨ra, hra, hlk, hrl⟩ := h.arm
  obtain ⟨m, hm⟩ : ∃ m, m = ra.length := ⟨_, rfl⟩
  have hm1 : m ≤ 1099511627776 := by have := hs.arm; omega
  have hform := row_form hra
  rw [← hm] at hform
  obtain ⟨ga, cap, rfl⟩ : ∃ ga cap, av = .slice ga m cap := by
   rcases hform with ⟨h1, h2⟩ | ⟨g, cap, h1⟩
   ·exact ⟨none, 0, by rw [h1, h2]⟩
   ·exact ⟨_, cap, h1⟩
  have Hform := hid hform
  have Hra := hid hra
  have Hlk := hid hlk
  have Hrl := hid hrl
  have Hm := hid hm
  have H := hid h
  have he : e = 30 ∨ e = 31 := by omega
  obtain ⟨rr, hrr⟩ : ∃ rr, rr = armM d n e := ⟨_, rfl⟩
  have HrrE := hid hrr
  unfold armM at hrr
  rw [if_pos (by omega)] at hrr
  have Hrr := hid hrr
  clear h hs hra hlk hrl hm hform hbad hrr
  rcases he with rfl | rfl
  ·skip
   go_enter Tryz.func17, Tryz.ntmps17
   go_wp2_with fail
   go_loopw [8, 7] (fun v8 v7 wr => ∃ i : Nat, v8 = .int .i64 (i : Int) ∧ i ≤ m ∧ wr.ownsRow w.heap.size 104 2 v7 (without (d.ops + n) (ra.take i)).length (armsCells (without (d.ops + n) (ra.take i))) ∧ Below w.heap.size w wr) (fun v8 _ _ => m - (intOf v8).toNat)
   case atStart => exact ⟨0, rfl, Nat.zero_le _, World.ownsRow_nil _ _ _ _, Below.refl _ _⟩
   case round =>
    obtain ⟨i, rfl, hin, hrow, hbel⟩ := hrel
    have Hrow := hid hrow
    have Hbel := hid hbel
    have hblk := (hbel.block b (zc H.out.blk)).trans H.out.blk
    have Hblk := hid hblk
    have c17 : wr.cell? ⟨b, 17, none⟩ = some (.slice ga m cap) := (za hblk 17).trans rfl
    have c18 : wr.cell? ⟨b, 18, none⟩ = some (.int .i64 d.ops) := (za hblk 18).trans rfl
    have f17 := zg hblk 17
    clear hrow hbel hblk
    by_cases hlt : i < m
    ·obtain ⟨g, cap', hgv⟩ := Hform.out.resolve_left (fun e => by omega)
     cases hgv
     have hil : i < ra.length := by have := Hm.out; omega
     obtain ⟨a, ha⟩ : ∃ a, a = ra[i] := ⟨_, rfl⟩
     have hget : ra[i]? = some a := by rw [List.getElem?_eq_getElem hil, ha]
     have hrw := row_keep Hra.out (w' := wr) (fun x hx => Hbel.out.block x (row_base Hra.out hx).2)
     have hc0 : wr.cell? ⟨g, i * 2, none⟩ = some (.int .i64 a.1) := by
      rw [← Hm.out] at hrw
      rw [hrw.cellAt (i * 2) (by omega)]
      exact (arms_get hget).1
     have hc1 : wr.cell? ⟨g, i * 2 + 1, none⟩ = some (.int .i64 a.2) := by
      rw [← Hm.out] at hrw
      rw [hrw.cellAt (i * 2 + 1) (by omega)]
      exact (arms_get hget).2
     have hrng : wr.rangeAt g (i * 2) (armCells a) := arm_range hc0 hc1
     have Hrng := hid hrng
     have d1 : decide ((i : Int) < (m : Int)) = true := by simp; omega
     have hin2 : (i : Int) < (m : Int) := by omega
     have htake : ra.take (i + 1) = ra.take i ++ [a] := by rw [List.take_succ_eq_append_getElem hil, ← ha]
     have Htake := hid htake
     have Hwl := hid (without_bound (d.ops + n) ra (i := i) (by omega) : (without (d.ops + n) (ra.take i)).length ≤ 1099511627776)
     have r0 := fun dd os => cell_regrown hc0 dd os
     have r1 := fun dd os => cell_regrown c17 dd os
     have r2 := fun dd os => cell_regrown c18 dd os
     clear ha hget hrw htake hrng
     by_cases he : a.1 = d.ops + n
     ·have he' : (a.1 != d.ops + n) = false := by simpa using he
      have He := hid he
      clear he
      go_upto_region 7 with fail
      clear c17 c18 hc0 hc1
      refine region_below (by kernel_rfl) (by kernel_rfl) ?_
      repeat (go_big_quiet_step (fail))
      refine wpQuiet_nil ?_
      intro w2 hb2
      have Hb2 := hid hb2
      clear hb2 r0 r1 r2
      go_wp2_with fail
      go_roundw
      case rel =>
       refine ⟨i + 1, by simp, by omega, ?_, Hbel.out.trans (Hb2.out.mono Hbel.out.size)⟩
       rw [Htake.out, without_snoc, if_pos He.out]
       exact row_keep Hrow.out (fun x hx => Hb2.out.block x (row_base Hrow.out hx).2)
      case measure => simp [intOf]; omega
     ·have he' : (a.1 != d.ops + n) = true := by simpa using he
      have He := hid he
      clear he
      go_upto_region 7 with fail
      clear c17 c18 hc0 hc1
      refine region_below (by kernel_rfl) (by kernel_rfl) ?_
      repeat (go_big_quiet_step (fail))
      refine wpQuiet_nil ?_
      intro w2 hb2
      have Hb2 := hid hb2
      have Hrow2 := hid (row_keep Hrow.out (w' := w2) (fun x hx => hb2.block x (row_base Hrow.out hx).2))
      have Hbel2 := hid (Hbel.out.trans (hb2.mono Hbel.out.size))
      have q17 : w2.cell? ⟨b, 17, none⟩ = some (.slice (some ⟨g, 0, none⟩) m cap) := (za ((hb2.block b (zc Hblk.out)).trans Hblk.out) 17).trans rfl
      have qr : w2.rangeAt g (i * 2) (armCells a) := rangeAt_move Hrng.out (hb2.block g (lt_of_cell0 (Hrng.out 0 _ rfl)))
      have q0 : w2.cell? ⟨g, i * 2, none⟩ = some (.int .i64 a.1) := qr 0 _ rfl
      have q1 : w2.cell? ⟨g, i * 2 + 1, none⟩ = some (.int .i64 a.2) := qr 1 _ rfl
      have hbs := build_arm w2 a.1 a.2
      clear hb2 r0 r1 r2 qr
      go_wp2_with (first
       | (at_builtin; refine wpList_append_own_at _ rfl _ _ 60 rfl w.heap.size 104 i0 _ 2 16 Tryz.underlying60 hi hz0 hz1 hz2 rfl (by omega) _ (without (d.ops + n) (ra.take i)).length (armsCells (without (d.ops + n) (ra.take i))) rfl (row_keep Hrow2.out (fun x hx => Below.heap_alloc w2 _ x (row_base Hrow2.out hx).2)) ⟨w2.heap.size, 0, none⟩ 1 1 (armCells a) rfl (by simp [armCells]) (World.news_of_block (cs := #[.int .i64 a.1, .int .i64 a.2]) (t := 104) (fr := (0, 0)) (ze w2 _)) (arm_one a) (by have := Hwl.out; unfold maxLen; omega) (by have := Hwl.out; omega) (by simp; have := Hbel2.out.size; omega) ?_; intro v' w7 hown7 hgrow7 _ _; have Hown7 := hid hown7; have Hbel7 := hid ((Hbel2.out.alloc Hbel2.out.size (.cells #[.int .i64 a.1, .int .i64 a.2] 104)).grown hgrow7 (by simp; have := Hbel2.out.size; omega) (fun j hj => (row_base Hrow2.out hj).1)); clear hown7 hgrow7)
       | go_in)
      go_roundw
      case rel =>
       refine ⟨i + 1, by simp, by omega, ?_, Hbel7.out⟩
       rw [Htake.out, without_snoc, if_neg He.out, armsCells_snoc, List.length_append]
       exact Hown7.out
      case measure => simp [intOf]; omega
    ·obtain rfl : i = m := by omega
     have d1 : decide ((i : Int) < (i : Int)) = false := by simp
     have hall : ra.take i = ra := List.take_of_length_le (by have := Hm.out; omega)
     rw [hall] at Hrow
     have Hwl := hid (show (without (d.ops + n) ra).length ≤ 1099511627776 by have h1 := without_len (d.ops + n) ra; have := Hm.out; omega)
     clear hall
     go_upto_region 9 with fail
     have hb9 := build_arm wr (d.ops + n) 30
     go_wp2_with (first
      | (at_builtin; refine wpList_append_lies _ rfl _ _ 60 rfl w.heap.size 104 i0 _ 2 16 Tryz.underlying60 hi hz0 hz1 hz2 rfl (by omega) _ (without (d.ops + n) ra).length (armsCells (without (d.ops + n) ra)) rfl (row_keep Hrow.out (fun x hx => Below.heap_alloc wr _ x (row_base Hrow.out hx).2)) ⟨wr.heap.size, 0, none⟩ 1 1 (armCells (d.ops + n, 30)) rfl (by simp [armCells]) (World.news_of_block (cs := #[.int .i64 (d.ops + n), .int .i64 30]) (t := 104) (fr := (0, 0)) (ze wr _)) (arm_one _) (by omega) (by have := Hwl.out; unfold maxLen; omega) (by have := Hwl.out; omega) (by simp; have := Hbel.out.size; omega) _ rfl ?_; intro g9 cap9 w9 hown9 hgrow9 _ _; have Hown9 := hid hown9; have hbel9 := (Hbel.out.alloc Hbel.out.size (.cells #[.int .i64 (d.ops + n), .int .i64 30] 104)).grown hgrow9 (by simp; have := Hbel.out.size; omega) (fun j hj => (row_base Hrow.out hj).1); have Hbel9 := hid hbel9; have Hblk9 := hid ((hbel9.block b (zc H.out.blk)).trans H.out.blk); have z17 : w9.cell? ⟨b, 17, none⟩ = some (.slice ga i cap) := (za Hblk9.out 17).trans rfl; have zf := zg Hblk9.out 17; clear hown9 hgrow9 hbel9)
      | go_in)
     go_ret
     rw [← HrrE.out]
     have harm : ArmR w9 w.heap.size (.slice (some ⟨g9, 0, none⟩) ((without (d.ops + n) ra).length + 1) cap9) (fun k => if k = d.ops + n then 30 else d.armed k) (d.narm + 1) := by
      refine ⟨without (d.ops + n) ra ++ [(d.ops + n, 30)], ?_, fun k => ?_, ?_⟩
      ·rw [armsCells_snoc, List.length_append]; exact Hown9.out
      ·rw [look_snoc, look_without, Hlk.out]
       by_cases hk : k = d.ops + n
       ·subst hk; simp
       ·rw [if_neg (fun e => hk e.symm), if_neg hk]; simp only [if_neg hk]
      ·have h1 := without_len (d.ops + n) ra
       have h2 := Hrl.out
       rw [List.length_append]
       simp only [List.length_cons, List.length_nil]
       omega
     obtain ⟨F', hm, hst⟩ := H.out.update (d' := rr.2) (nv' := nv) (sv' := sv) (lv' := lv) (av' := .slice (some ⟨g9, 0, none⟩) ((without (d.ops + n) ra).length + 1) cap9) Hbel9.out (cell_frm (w := w9) (b := b) (o := 17) _) (by rw [Hrr.out]; exact zd Hblk9.out 17 _) (fun f hf => .inl ⟨rfl, by rw [Hrr.out]⟩) (fun f hf => .inl ⟨rfl, by rw [Hrr.out]⟩) (.inl ⟨rfl, by rw [Hrr.out]⟩) (.inr (by rw [Hrr.out]; exact harm)) (by rw [Hrr.out]; exact ⟨H.out.ok.nl, H.out.ok.sl, H.out.ok.ns, H.out.ok.ss, H.out.ok.lo, H.out.ok.op0⟩)
     exact ⟨by rw [Hrr.out]; rfl, F', ⟨_, _, _, _, hm⟩, hst⟩
  ·skip
   go_enter Tryz.func17, Tryz.ntmps17
   go_wp2_with fail
   go_loopw [8, 7] (fun v8 v7 wr => ∃ i : Nat, v8 = .int .i64 (i : Int) ∧ i ≤ m ∧ wr.ownsRow w.heap.size 104 2 v7 (without (d.ops + n) (ra.take i)).length (armsCells (without (d.ops + n) (ra.take i))) ∧ Below w.heap.size w wr) (fun v8 _ _ => m - (intOf v8).toNat)
   case atStart => exact ⟨0, rfl, Nat.zero_le _, World.ownsRow_nil _ _ _ _, Below.refl _ _⟩
   case round =>
    obtain ⟨i, rfl, hin, hrow, hbel⟩ := hrel
    have Hrow := hid hrow
    have Hbel := hid hbel
    have hblk := (hbel.block b (zc H.out.blk)).trans H.out.blk
    have Hblk := hid hblk
    have c17 : wr.cell? ⟨b, 17, none⟩ = some (.slice ga m cap) := (za hblk 17).trans rfl
    have c18 : wr.cell? ⟨b, 18, none⟩ = some (.int .i64 d.ops) := (za hblk 18).trans rfl
    have f17 := zg hblk 17
    clear hrow hbel hblk
    by_cases hlt : i < m
    ·obtain ⟨g, cap', hgv⟩ := Hform.out.resolve_left (fun e => by omega)
     cases hgv
     have hil : i < ra.length := by have := Hm.out; omega
     obtain ⟨a, ha⟩ : ∃ a, a = ra[i] := ⟨_, rfl⟩
     have hget : ra[i]? = some a := by rw [List.getElem?_eq_getElem hil, ha]
     have hrw := row_keep Hra.out (w' := wr) (fun x hx => Hbel.out.block x (row_base Hra.out hx).2)
     have hc0 : wr.cell? ⟨g, i * 2, none⟩ = some (.int .i64 a.1) := by
      rw [← Hm.out] at hrw
      rw [hrw.cellAt (i * 2) (by omega)]
      exact (arms_get hget).1
     have hc1 : wr.cell? ⟨g, i * 2 + 1, none⟩ = some (.int .i64 a.2) := by
      rw [← Hm.out] at hrw
      rw [hrw.cellAt (i * 2 + 1) (by omega)]
      exact (arms_get hget).2
     have hrng : wr.rangeAt g (i * 2) (armCells a) := arm_range hc0 hc1
     have Hrng := hid hrng
     have d1 : decide ((i : Int) < (m : Int)) = true := by simp; omega
     have hin2 : (i : Int) < (m : Int) := by omega
     have htake : ra.take (i + 1) = ra.take i ++ [a] := by rw [List.take_succ_eq_append_getElem hil, ← ha]
     have Htake := hid htake
     have Hwl := hid (without_bound (d.ops + n) ra (i := i) (by omega) : (without (d.ops + n) (ra.take i)).length ≤ 1099511627776)
     have r0 := fun dd os => cell_regrown hc0 dd os
     have r1 := fun dd os => cell_regrown c17 dd os
     have r2 := fun dd os => cell_regrown c18 dd os
     clear ha hget hrw htake hrng
     by_cases he : a.1 = d.ops + n
     ·have he' : (a.1 != d.ops + n) = false := by simpa using he
      have He := hid he
      clear he
      go_upto_region 7 with fail
      clear c17 c18 hc0 hc1
      refine region_below (by kernel_rfl) (by kernel_rfl) ?_
      repeat (go_big_quiet_step (fail))
      refine wpQuiet_nil ?_
      intro w2 hb2
      have Hb2 := hid hb2
      clear hb2 r0 r1 r2
      go_wp2_with fail
      go_roundw
      case rel =>
       refine ⟨i + 1, by simp, by omega, ?_, Hbel.out.trans (Hb2.out.mono Hbel.out.size)⟩
       rw [Htake.out, without_snoc, if_pos He.out]
       exact row_keep Hrow.out (fun x hx => Hb2.out.block x (row_base Hrow.out hx).2)
      case measure => simp [intOf]; omega
     ·have he' : (a.1 != d.ops + n) = true := by simpa using he
      have He := hid he
      clear he
      go_upto_region 7 with fail
      clear c17 c18 hc0 hc1
      refine region_below (by kernel_rfl) (by kernel_rfl) ?_
      repeat (go_big_quiet_step (fail))
      refine wpQuiet_nil ?_
      intro w2 hb2
      have Hb2 := hid hb2
      have Hrow2 := hid (row_keep Hrow.out (w' := w2) (fun x hx => hb2.block x (row_base Hrow.out hx).2))
      have Hbel2 := hid (Hbel.out.trans (hb2.mono Hbel.out.size))
      have q17 : w2.cell? ⟨b, 17, none⟩ = some (.slice (some ⟨g, 0, none⟩) m cap) := (za ((hb2.block b (zc Hblk.out)).trans Hblk.out) 17).trans rfl
      have qr : w2.rangeAt g (i * 2) (armCells a) := rangeAt_move Hrng.out (hb2.block g (lt_of_cell0 (Hrng.out 0 _ rfl)))
      have q0 : w2.cell? ⟨g, i * 2, none⟩ = some (.int .i64 a.1) := qr 0 _ rfl
      have q1 : w2.cell? ⟨g, i * 2 + 1, none⟩ = some (.int .i64 a.2) := qr 1 _ rfl
      have hbs := build_arm w2 a.1 a.2
      clear hb2 r0 r1 r2 qr
      go_wp2_with (first
       | (at_builtin; refine wpList_append_own_at _ rfl _ _ 60 rfl w.heap.size 104 i0 _ 2 16 Tryz.underlying60 hi hz0 hz1 hz2 rfl (by omega) _ (without (d.ops + n) (ra.take i)).length (armsCells (without (d.ops + n) (ra.take i))) rfl (row_keep Hrow2.out (fun x hx => Below.heap_alloc w2 _ x (row_base Hrow2.out hx).2)) ⟨w2.heap.size, 0, none⟩ 1 1 (armCells a) rfl (by simp [armCells]) (World.news_of_block (cs := #[.int .i64 a.1, .int .i64 a.2]) (t := 104) (fr := (0, 0)) (ze w2 _)) (arm_one a) (by have := Hwl.out; unfold maxLen; omega) (by have := Hwl.out; omega) (by simp; have := Hbel2.out.size; omega) ?_; intro v' w7 hown7 hgrow7 _ _; have Hown7 := hid hown7; have Hbel7 := hid ((Hbel2.out.alloc Hbel2.out.size (.cells #[.int .i64 a.1, .int .i64 a.2] 104)).grown hgrow7 (by simp; have := Hbel2.out.size; omega) (fun j hj => (row_base Hrow2.out hj).1)); clear hown7 hgrow7)
       | go_in)
      go_roundw
      case rel =>
       refine ⟨i + 1, by simp, by omega, ?_, Hbel7.out⟩
       rw [Htake.out, without_snoc, if_neg He.out, armsCells_snoc, List.length_append]
       exact Hown7.out
      case measure => simp [intOf]; omega
    ·obtain rfl : i = m := by omega
     have d1 : decide ((i : Int) < (i : Int)) = false := by simp
     have hall : ra.take i = ra := List.take_of_length_le (by have := Hm.out; omega)
     rw [hall] at Hrow
     have Hwl := hid (show (without (d.ops + n) ra).length ≤ 1099511627776 by have h1 := without_len (d.ops + n) ra; have := Hm.out; omega)
     clear hall
     go_upto_region 9 with fail
     have hb9 := build_arm wr (d.ops + n) 31
     go_wp2_with (first
      | (at_builtin; refine wpList_append_lies _ rfl _ _ 60 rfl w.heap.size 104 i0 _ 2 16 Tryz.underlying60 hi hz0 hz1 hz2 rfl (by omega) _ (without (d.ops + n) ra).length (armsCells (without (d.ops + n) ra)) rfl (row_keep Hrow.out (fun x hx => Below.heap_alloc wr _ x (row_base Hrow.out hx).2)) ⟨wr.heap.size, 0, none⟩ 1 1 (armCells (d.ops + n, 31)) rfl (by simp [armCells]) (World.news_of_block (cs := #[.int .i64 (d.ops + n), .int .i64 31]) (t := 104) (fr := (0, 0)) (ze wr _)) (arm_one _) (by omega) (by have := Hwl.out; unfold maxLen; omega) (by have := Hwl.out; omega) (by simp; have := Hbel.out.size; omega) _ rfl ?_; intro g9 cap9 w9 hown9 hgrow9 _ _; have Hown9 := hid hown9; have hbel9 := (Hbel.out.alloc Hbel.out.size (.cells #[.int .i64 (d.ops + n), .int .i64 31] 104)).grown hgrow9 (by simp; have := Hbel.out.size; omega) (fun j hj => (row_base Hrow.out hj).1); have Hbel9 := hid hbel9; have Hblk9 := hid ((hbel9.block b (zc H.out.blk)).trans H.out.blk); have z17 : w9.cell? ⟨b, 17, none⟩ = some (.slice ga i cap) := (za Hblk9.out 17).trans rfl; have zf := zg Hblk9.out 17; clear hown9 hgrow9 hbel9)
      | go_in)
     go_ret
     rw [← HrrE.out]
     have harm : ArmR w9 w.heap.size (.slice (some ⟨g9, 0, none⟩) ((without (d.ops + n) ra).length + 1) cap9) (fun k => if k = d.ops + n then 31 else d.armed k) (d.narm + 1) := by
      refine ⟨without (d.ops + n) ra ++ [(d.ops + n, 31)], ?_, fun k => ?_, ?_⟩
      ·rw [armsCells_snoc, List.length_append]; exact Hown9.out
      ·rw [look_snoc, look_without, Hlk.out]
       by_cases hk : k = d.ops + n
       ·subst hk; simp
       ·rw [if_neg (fun e => hk e.symm), if_neg hk]; simp only [if_neg hk]
      ·have h1 := without_len (d.ops + n) ra
       have h2 := Hrl.out
       rw [List.length_append]
       simp only [List.length_cons, List.length_nil]
       omega
     obtain ⟨F', hm, hst⟩ := H.out.update (d' := rr.2) (nv' := nv) (sv' := sv) (lv' := lv) (av' := .slice (some ⟨g9, 0, none⟩) ((without (d.ops + n) ra).length + 1) cap9) Hbel9.out (cell_frm (w := w9) (b := b) (o := 17) _) (by rw [Hrr.out]; exact zd Hblk9.out 17 _) (fun f hf => .inl ⟨rfl, by rw [Hrr.out]⟩) (fun f hf => .inl ⟨rfl, by rw [Hrr.out]⟩) (.inl ⟨rfl, by rw [Hrr.out]⟩) (.inr (by rw [Hrr.out]; exact harm)) (by rw [Hrr.out]; exact ⟨H.out.ok.nl, H.out.ok.sl, H.out.ok.ns, H.out.ok.ss, H.out.ok.lo, H.out.ok.op0⟩)
     exact ⟨by rw [Hrr.out]; rfl, F', ⟨_, _, _, _, hm⟩, hst⟩
end
end Go.Proofs.YtfkcmgbpgefnnaaGreat.Rf
/- For the lifts: arguments one by one, and that they all read as they did. -/
namespace Go.Proofs.YtfkcmgbpgefnnaaGreat
open Go.ChangeShapes Go.WideShapes Go.ChangeAt Go.RowKit Go.Deep
set_option maxRecDepth 20000
theorem own : ownKnob Tryz.prog.godebug = none := by kernel_rfl
theorem laidOut : laidOutB Tryz.prog = true := by kernel_rfl
section
variable {H : Type} {enc : TypeId × Value → H} {w : World} {base : Nat} {sp : Nat → Bool} {held : Bool}
theorem open_cells_struct {ts : TypeId} {fs : Array Field} {fuel : Nat} {cs : List Value} {x : DataW H × List MemPlace} (hs : Tryz.prog.underlying ts = some (.struct fs))
  (hone : oneCellFields Tryz.prog fs = true) (hC : Tryz.prog.cellsOf ts = fs.size) (h : DataW.trod enc Tryz.prog w base sp held fuel ts cs = some x) :
  cs.length = fs.size ∧ ∃ n, ∀ (i : Nat) (f : Field), fs[i]? = some f → ∃ y, DataW.trod enc Tryz.prog w base sp held n f.type [cs.getD i undef] = some y := by
 obtain ⟨xs, n, _, _, hl, hx, hf⟩ := DataW.trod_struct hs h
 rw [hC] at hl
 refine ⟨hl, n, fun i f hi => ?_⟩
 have hlt : i < fs.size := (Array.getElem?_eq_some_iff.1 hi).1
 obtain ⟨ho, hc⟩ := hone_of hone i f hi
 have := hf i f hi
 rw [ho, hc, take1_drop cs i undef (by omega), List.getElem?_eq_getElem (by omega)] at this
 exact ⟨_, this⟩
theorem trod_each : ∀ {ts : List TypeId} {vs : List Value} {ds : List (DataW H)} {ps : List MemPlace}, DataW.TrodAll enc Tryz.prog w base sp held ts vs ds ps →
  vs.length = ts.length ∧ ∀ (i : Nat) (t : TypeId) (v : Value), ts[i]? = some t → vs[i]? = some v → ∃ d p, DataW.Trod enc Tryz.prog w base sp held t v d p
 | [], vs, ds, ps, h => by
  obtain ⟨rfl, rfl, rfl⟩ := trodAll_nil h
  exact ⟨rfl, fun i t v ht _ => by simp at ht⟩
 | t :: ts, vs, ds, ps, h => by
  obtain ⟨v, vs', d, ds', p, q, rfl, rfl, rfl, h1, h2⟩ := trodAll_cons h
  obtain ⟨e1, e2⟩ := trod_each h2
  refine ⟨by simp [e1], fun i t' v' ht hv => ?_⟩
  cases i with
  | zero =>
   simp only [List.getElem?_cons_zero, Option.some.injEq] at ht hv
   subst ht hv
   exact ⟨d, p, h1⟩
  | succ i =>
   simp only [List.getElem?_cons_succ] at ht hv
   exact e2 i t' v' ht hv
theorem trod_ds : ∀ {ts : List TypeId} {vs : List Value} {ds : List (DataW H)} {ps : List MemPlace}, DataW.TrodAll enc Tryz.prog w base sp held ts vs ds ps → ds.length = ts.length
 | [], vs, ds, ps, h => by
  obtain ⟨rfl, rfl, rfl⟩ := trodAll_nil h
  rfl
 | t :: ts, vs, ds, ps, h => by
  obtain ⟨v, vs', d, ds', p, q, rfl, rfl, rfl, h1, h2⟩ := trodAll_cons h
  simp [trod_ds h2]
end
def readB (P : Program) (ts : List TypeId) : Bool := ts.all fun t => P.readableRec t && decide (t < P.types.size)
theorem below_all {H : Type} {enc : TypeId × Value → H} {P : Program} {W W' : World} (hl : laidOutB P = true) (hb : Below W.heap.size W W') : ∀ {ts : List TypeId} {vs : List Value} {ds : List (DataW H)} {ps : List MemPlace}, readB P ts = true →
  DataW.TrodAll enc P W 0 (fun _ => true) true ts vs ds ps → (∀ x ∈ ps, x.block < W.heap.size) → DataW.TrodAll enc P W' 0 (fun b => decide (b < W.heap.size)) true ts vs ds ps
 | [], vs, ds, ps, _, h, _ => by
  obtain ⟨rfl, rfl, rfl⟩ := trodAll_nil h
  exact trodAll_mk0
 | t :: ts, vs, ds, ps, hr, h, hlt => by
  obtain ⟨v, vs', d, ds', p, q, rfl, rfl, rfl, h1, h2⟩ := trodAll_cons h
  simp only [readB, List.all_cons, Bool.and_eq_true, decide_eq_true_eq] at hr
  exact trodAll_cons_mk (Below.trod hl hr.1.1 hr.1.2 h1 hb (fun x hx => hlt x (by simp [hx]))) (below_all hl hb (by simpa [readB] using hr.2) h2 (fun x hx => hlt x (by simp [hx])))
theorem args_one {a : Array Value} (h : a.toList.length = 1) : ∃ v0, a = #[v0] := by
 obtain ⟨l⟩ := a
 match l, h with
 | [v0], _ => exact ⟨v0, rfl⟩
theorem list_one {α : Type} {l : List α} (h : l.length = 1) : ∃ d0, l = [d0] := by
 match l, h with
 | [d0], _ => exact ⟨d0, rfl⟩
theorem u8_wf {n : Int} (h : (Lit.int .u8 n).wf = true) : 0 ≤ n ∧ n < 256 := by
 have h' : (decide ((0 : Int) ≤ n) && decide (n ≤ 255)) = true := h
 simp at h'
 omega
theorem u8_of {n : Int} (h : (Lit.int .u8 n).wf = true) : ∃ b : UInt8, n = (b.toNat : Int) := by
 have h' := u8_wf h
 exact ⟨UInt8.ofNat n.toNat, by simp; omega⟩
theorem i64_wf {n : Int} (h : (Lit.int .i64 n).wf = true) : -9223372036854775808 ≤ n ∧ n ≤ 9223372036854775807 := by
 have h' : (decide ((-9223372036854775808 : Int) ≤ n) && decide (n ≤ 9223372036854775807)) = true := h
 simpa using h'
end Go.Proofs.YtfkcmgbpgefnnaaGreat
