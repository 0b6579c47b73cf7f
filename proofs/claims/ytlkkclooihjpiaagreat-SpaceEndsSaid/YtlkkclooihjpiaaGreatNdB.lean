/- Pages of trees (node): may, on any node. -/
import Derived.Test.YtlkkclooihjpiaaGreatNdA
set_option linter.unusedVariables false
set_option linter.unusedSimpArgs false
namespace Go.Proofs.YtlkkclooihjpiaaGreat
open Go.RowKit Go.Maps
set_option maxRecDepth 20000
def prevK (L : List NCell) (j : Nat) : Option (List UInt8) := if j = 0 then none else (L[j - 1]?).map (·.key)
theorem ncellsB_bad {kind : Int} {p : Option (List UInt8)} {c : NCell} {r : List NCell} (h : ncellB kind c = false) : ncellsB kind p (c :: r) = false := by
 cases p <;> rw [ncellsB, h, Bool.false_and, Bool.false_and]
theorem ncellsB_first {kind : Int} {c : NCell} {r : List NCell} (h : ncellB kind c = true) : ncellsB kind none (c :: r) = ncellsB kind (some c.key) r := by
 rw [ncellsB, h, Bool.true_and, Bool.true_and]
theorem ncellsB_next {kind : Int} {k : List UInt8} {c : NCell} {r : List NCell} (h : ncellB kind c = true) (hle : keyLe c.key k = false) : ncellsB kind (some k) (c :: r) = ncellsB kind (some c.key) r := by
 rw [ncellsB, h, hle, Bool.true_and, Bool.not_false, Bool.true_and]
theorem ncellsB_low {kind : Int} {k : List UInt8} {c : NCell} {r : List NCell} (hle : keyLe c.key k = true) : ncellsB kind (some k) (c :: r) = false := by
 rw [ncellsB, hle, Bool.not_true, Bool.and_false, Bool.false_and]
section
variable {w : World} {n : Nd} {v : Value}
set_option maxHeartbeats 16000000 in
set_option maxRecDepth 20000 in
theorem nmay1_any (h : NdIn w n v) (hk : n.kind = 1) : Calls Tryz.prog 66 #[ndV n v] w fun e w' => e = .returned (.bool (nmayB n)) ∧ Below w.heap.size w w' := by
 obtain ⟨kind, F0, L, D⟩ := n
 obtain ⟨ao, cap, rfl, hc⟩ := h.at'
 have hmany := h.many
 have hwf := h.wf
 have hdat := h.data
 dsimp only at hc hmany hwf hdat
 obtain ⟨z, hz⟩ : ∃ z, z = L.length := ⟨_, rfl⟩
 unfold ndV
 dsimp only
 rw [← hz] at hmany ⊢
 have HB := hid (fun o : Obj => (Below.refl w.heap.size w).alloc (Nat.le_refl _) o)
 have PG := hid (fun W m => npg_any F0 m W)
 have HC := hid hc
 have HW := hid hwf
 have HZ := hid hz
 clear h hc hwf
 have hk : kind = 1 := hk
 subst hk
 obtain ⟨R0, hR0⟩ : ∃ R0, R0 = nmayB ⟨1, F0, L, D⟩ := ⟨_, rfl⟩
 rw [← hR0]
 by_cases hbad : F0 = 0 ∧ D = []
 ·obtain ⟨rfl, rfl⟩ := hbad
  obtain ⟨R, hR⟩ : ∃ R, R = ncellsB 1 none L := ⟨_, rfl⟩
  have HR := hid hR
  have hR1 : R0 = R := by rw [hR0, hR]; unfold nmayB; rfl
  rw [hR1]
  clear hR hR0 hR1 hz
  go_enter Tryz.func66, Tryz.ntmps66
  go_wp2_with fail
  go_loopw [76] (fun v76 wr => ∃ j : Nat, j ≤ z ∧ v76 = .int .i64 (j : Int) ∧ Below w.heap.size w wr ∧ wr.heap[w.heap.size]? = some (.cells #[.int .u8 1, .int .i64 0, .slice ao z cap, .string (bs [])] 93 (0, 0)) ∧ ncellsB 1 none L = ncellsB 1 (prevK L j) (L.drop j)) (fun v76 _ => z - (intOf v76).toNat)
  case atStart => exact ⟨0, Nat.zero_le _, rfl, HB.out _, heap_alloc_new _ _, rfl⟩
  case round =>
   obtain ⟨j, hj, rfl, hbw, hbox, heq⟩ := hrel
   have HBw := hid hbw
   have HBox := hid hbox
   have HEq := hid heq
   by_cases hjz : j < z
   ·have hjl : j < L.length := by have := HZ.out; omega
    obtain ⟨q, o, hao, hq, d0, d1, d2, d3⟩ := HC.out j hjl
    subst hao
    have c0 := (hbw.cell (p := ⟨q, o + j * 4, none⟩) hq).trans d0
    have c1 := (hbw.cell (p := ⟨q, o + j * 4 + 1, none⟩) hq).trans d1
    have c2 := (hbw.cell (p := ⟨q, o + j * 4 + 2, none⟩) hq).trans d2
    have c3 := (hbw.cell (p := ⟨q, o + j * 4 + 3, none⟩) hq).trans d3
    have n2 := (cell_of_block hbox 2).trans rfl
    obtain ⟨c, hc⟩ : ∃ c, c = L[j] := ⟨_, rfl⟩
    rw [← hc] at c0 c1 c2 c3
    have hdrop : L.drop j = c :: L.drop (j + 1) := by rw [hc]; exact List.drop_eq_getElem_cons hjl
    have hnext : prevK L (j + 1) = some c.key := by unfold prevK; rw [if_neg (by omega), Nat.add_sub_cancel, List.getElem?_eq_getElem hjl, ← hc]; rfl
    have hcw : c.Wf := HW.out c (by rw [hc]; exact List.getElem_mem hjl)
    have hprev : ∀ i, j = i + 1 → ∃ k, prevK L j = some k ∧ wr.cell? ⟨q, o + i * 4, none⟩ = some (.string (bs k)) := fun i hi => by
     obtain ⟨q', o', hao', hq', e0, -⟩ := HC.out i (by omega)
     have e1 : q' = q ∧ o' = o := by
      have := Option.some.inj hao'
      injection this with e1 e2
      exact ⟨e1.symm, e2.symm⟩
     obtain ⟨rfl, rfl⟩ := e1
     refine ⟨L[i].key, ?_, (hbw.cell (p := ⟨q', o' + i * 4, none⟩) hq').trans e0⟩
     unfold prevK
     have hjm : j - 1 = i := by omega
     rw [if_neg (by omega), hjm, List.getElem?_eq_getElem (by omega)]
     rfl
    have HDr := hid hdrop
    have HNx := hid hnext
    have HPr := hid hprev
    have CC := fun W => ncell_any 1 c hcw W
    obtain ⟨b, hb⟩ : ∃ b, b = ncellB 1 c := ⟨_, rfl⟩
    simp only [← hb] at CC
    have HBb := hid hb
    obtain ⟨Kc, Sc, Lc, Pc⟩ := c
    dsimp only at c0 c1 c2 c3 CC
    have hj9 : (j : Int) < 9223372036854775807 := by omega
    have hjN : (j : Int) < (z : Int) := by omega
    have hwj : IntKind.i64.wrap ((j : Int) + 1) = (j : Int) + 1 := IntWalk.i64_in _ (by omega)
    have Hjz := hid hjz
    clear hbw hbox heq d0 d1 d2 d3 hc hdrop hnext hcw hprev hb hjl
    go_upto_region 16 with fail
    have hbx := heap_alloc_new wr (.cells #[.string (bs Kc), .int .i64 Sc, .string (bs Lc), .int .i64 Pc] 133)
    have hbl := (Below.refl wr.heap.size wr).alloc (Nat.le_refl _) (.cells #[.string (bs Kc), .int .i64 Sc, .string (bs Lc), .int .i64 Pc] 133)
    obtain ⟨wx, hwx⟩ : ∃ wx, wx = wr.alloc (.cells #[.string (bs Kc), .int .i64 Sc, .string (bs Lc), .int .i64 Pc] 133) := ⟨_, rfl⟩
    obtain ⟨bx, hbxe⟩ : ∃ bx, bx = wr.heap.size := ⟨_, rfl⟩
    rw [← hwx, ← hbxe] at hbx
    rw [← hwx] at hbl
    rw [← hwx, ← hbxe]
    have HBx := hid hbl
    have hnx := (hbl.block w.heap.size (lt_of_block HBox.out)).trans HBox.out
    have a0 := (cell_of_block hnx 0).trans rfl
    have a2 := (cell_of_block hnx 2).trans rfl
    obtain ⟨x0, x1, x2, x3⟩ := cells4' hbx
    have y0 := fun d os => cell_regrown a0 d os
    have y2 := fun d os => cell_regrown a2 d os
    have z0 := fun d os => cell_regrown x0 d os
    have z1 := fun d os => cell_regrown x1 d os
    have z2 := fun d os => cell_regrown x2 d os
    have z3 := fun d os => cell_regrown x3 d os
    have HNX := hid hnx
    have hqx : q < wr.heap.size := Nat.lt_of_lt_of_le hq HBw.out.size
    have HQ := hid hqx
    clear hwx hbxe hbx hbl c0 c1 c2 c3 n2 a0 a2 x0 x1 x2 x3 hnx hqx hq hj hjz
    cases b
    ·have HRl := hid (show R = false by rw [HR.out, HEq.out, HDr.out]; exact ncellsB_bad HBb.out.symm)
     refine region_below (by kernel_rfl) (by kernel_rfl) ?_
     repeat (go_big_quiet_step (first | (go_at_call 92; with_reducible exact Calls.regrown_of (CC _))))
     refine wpQuiet_nil ?_
     intro w3 hb3
     clear y0 y2 z0 z1 z2 z3
     go_wp2_with fail
     go_ret
     rw [HRl.out]
     exact ⟨rfl, HBw.out.trans ((HBx.out).mono HBw.out.size |>.trans (hb3.mono (Nat.le_trans HBw.out.size HBx.out.size)))⟩
    ·rcases Nat.eq_zero_or_pos j with hj0 | hj0
     ·subst hj0
      have hgo2 : ncellsB 1 (prevK L 0) (L.drop 0) = ncellsB 1 (some Kc) (L.drop 1) := by rw [HDr.out]; exact ncellsB_first HBb.out.symm
      have HG2 := hid hgo2
      clear hgo2
      refine region_below (by kernel_rfl) (by kernel_rfl) ?_
      repeat (go_big_quiet_step (first | (go_at_call 92; with_reducible exact Calls.regrown_of (CC _))))
      refine wpQuiet_nil ?_
      intro w3 hb3
      clear y0 y2 z0 z1 z2 z3
      go_wp2_with fail
      go_roundw
      case rel => exact ⟨1, Hjz.out, by simp, HBw.out.trans ((HBx.out).mono HBw.out.size |>.trans (hb3.mono (Nat.le_trans HBw.out.size HBx.out.size))), (hb3.block _ (lt_of_block HNX.out)).trans HNX.out, by rw [HEq.out, HG2.out, HNx.out]⟩
      case measure => (have := Hjz.out; (simp [intOf]) <;> omega)
     ·obtain ⟨i, hi⟩ : ∃ i, j = i + 1 := ⟨j - 1, by omega⟩
      obtain ⟨kp, hkp, p0⟩ := HPr.out i hi
      have p0 := (HBx.out.cell (p := ⟨q, o + i * 4, none⟩) HQ.out).trans p0
      have pz := fun d os => cell_regrown p0 d os
      have hw0 : IntKind.i64.wrap ((j : Int) - 1) = (i : Int) := by rw [IntWalk.i64_in _ (by omega)]; omega
      have g1 : decide ((0 : Int) < (j : Int)) = true := by simp; omega
      have g1' : (0 : Int) < (j : Int) := by omega
      have g1'' : 0 < j := hj0
      have g2 : i < z := by have := Hjz.out; omega
      have HKp := hid hkp
      have Hi := hid hi
      clear p0 hkp hi hj0
      cases hle : keyLe Kc kp
      ·have hle2 : (Op.bytesLess Kc kp || Kc == kp) = false := hle
       have HGo := hid (show ncellsB 1 (prevK L j) (L.drop j) = ncellsB 1 (some Kc) (L.drop (j + 1)) by rw [HDr.out, HKp.out]; exact ncellsB_next HBb.out.symm hle)
       clear hle
       refine region_below (by kernel_rfl) (by kernel_rfl) ?_
       repeat (go_big_quiet_step (first | (go_at_call 92; with_reducible exact Calls.regrown_of (CC _))))
       refine wpQuiet_nil ?_
       intro w3 hb3
       clear y0 y2 z0 z1 z2 z3 pz
       go_wp2_with fail
       go_roundw
       case rel => exact ⟨j + 1, Hjz.out, by simp, HBw.out.trans ((HBx.out).mono HBw.out.size |>.trans (hb3.mono (Nat.le_trans HBw.out.size HBx.out.size))), (hb3.block _ (lt_of_block HNX.out)).trans HNX.out, by rw [HEq.out, HGo.out, HNx.out]⟩
       case measure => (have := Hjz.out; (simp [intOf]) <;> omega)
      ·have hle2 : (Op.bytesLess Kc kp || Kc == kp) = true := hle
       have HRl := hid (show R = false by rw [HR.out, HEq.out, HDr.out, HKp.out]; exact ncellsB_low hle)
       clear hle
       refine region_below (by kernel_rfl) (by kernel_rfl) ?_
       repeat (go_big_quiet_step (first | (go_at_call 92; with_reducible exact Calls.regrown_of (CC _))))
       refine wpQuiet_nil ?_
       intro w3 hb3
       clear y0 y2 z0 z1 z2 z3 pz
       go_wp2_with fail
       go_ret
       rw [HRl.out]
       exact ⟨rfl, HBw.out.trans ((HBx.out).mono HBw.out.size |>.trans (hb3.mono (Nat.le_trans HBw.out.size HBx.out.size)))⟩
   ·obtain rfl : z = j := by omega
    have hgo : ¬ z < z := Nat.lt_irrefl z
    clear hbw hbox heq hjz hj
    go_wp2_with fail
    go_ret
    rw [HR.out, HEq.out, List.drop_of_length_le (by rw [HZ.out]; exact Nat.le_refl _)]
    exact ⟨rfl, HBw.out⟩
 ·have HR0 := hid (show R0 = false by rw [hR0]; unfold nmayB; dsimp only; rw [if_pos rfl]; have : (F0 == 0 && D == []) = false := (by simpa using hbad); rw [this]; rfl)
  clear hR0
  by_cases h0 : F0 = 0
  ·have hD : D ≠ [] := fun e => hbad ⟨h0, e⟩
   have b1 : (D != []) = true := by simpa using hD
   have b2 : (D == []) = false := by simpa using hD
   subst h0
   clear hbad hD
   go_enter Tryz.func66, Tryz.ntmps66
   go_wp2_with fail
   go_ret
   exact ⟨by rw [HR0.out]; rfl, HB.out _⟩
  ·have b1 : (F0 != 0) = true := by simpa using h0
   clear hbad h0
   go_enter Tryz.func66, Tryz.ntmps66
   go_wp2_with fail
   go_ret
   exact ⟨by rw [HR0.out]; rfl, HB.out _⟩
set_option maxHeartbeats 16000000 in
set_option maxRecDepth 20000 in
theorem nmay2_any (h : NdIn w n v) (hk : n.kind = 2) : Calls Tryz.prog 66 #[ndV n v] w fun e w' => e = .returned (.bool (nmayB n)) ∧ Below w.heap.size w w' := by
 obtain ⟨kind, F0, L, D⟩ := n
 obtain ⟨ao, cap, rfl, hc⟩ := h.at'
 have hmany := h.many
 have hwf := h.wf
 have hdat := h.data
 dsimp only at hc hmany hwf hdat
 obtain ⟨z, hz⟩ : ∃ z, z = L.length := ⟨_, rfl⟩
 unfold ndV
 dsimp only
 rw [← hz] at hmany ⊢
 have HB := hid (fun o : Obj => (Below.refl w.heap.size w).alloc (Nat.le_refl _) o)
 have PG := hid (fun W m => npg_any F0 m W)
 have HC := hid hc
 have HW := hid hwf
 have HZ := hid hz
 clear h hc hwf
 have hk : kind = 2 := hk
 subst hk
 obtain ⟨R0, hR0⟩ : ∃ R0, R0 = nmayB ⟨2, F0, L, D⟩ := ⟨_, rfl⟩
 rw [← hR0]
 obtain ⟨pb, hpb⟩ : ∃ pb, pb = pgB F0 1 := ⟨_, rfl⟩
 have PG := fun W => PG.out W 1
 rw [← hpb] at PG
 replace PG := hid PG
 by_cases hgood : pb = true ∧ D = [] ∧ z ≠ 0
 ·obtain ⟨rfl, rfl, hz0⟩ := hgood
  obtain ⟨R, hR⟩ : ∃ R, R = ncellsB 2 none L := ⟨_, rfl⟩
  have HR := hid hR
  have hR1 : R0 = R := by
   rw [hR0, hR]
   have hl : (L.length == 0) = false := by rw [← hz]; simpa using hz0
   unfold nmayB
   dsimp only
   rw [if_neg (by decide), if_pos rfl, ← hpb, hl]
   rfl
  rw [hR1]
  have b1 : ((z : Int) == 0) = false := by simp; omega
  have b2 : (z == 0) = false := by simpa using hz0
  clear hR hR0 hR1 hz hpb hz0
  go_enter Tryz.func66, Tryz.ntmps66
  go_wp2_with (first
   | (go_at_call 91; refine (PG.out _).mono ?_; rintro e w1 ⟨rfl, hw⟩; obtain rfl := hw.symm)
   | go_in)
  go_loopw [76] (fun v76 wr => ∃ j : Nat, j ≤ z ∧ v76 = .int .i64 (j : Int) ∧ Below w.heap.size w wr ∧ wr.heap[w.heap.size]? = some (.cells #[.int .u8 2, .int .i64 F0, .slice ao z cap, .string (bs [])] 93 (0, 0)) ∧ ncellsB 2 none L = ncellsB 2 (prevK L j) (L.drop j)) (fun v76 _ => z - (intOf v76).toNat)
  case atStart => exact ⟨0, Nat.zero_le _, rfl, HB.out _, heap_alloc_new _ _, rfl⟩
  case round =>
   obtain ⟨j, hj, rfl, hbw, hbox, heq⟩ := hrel
   have HBw := hid hbw
   have HBox := hid hbox
   have HEq := hid heq
   by_cases hjz : j < z
   ·have hjl : j < L.length := by have := HZ.out; omega
    obtain ⟨q, o, hao, hq, d0, d1, d2, d3⟩ := HC.out j hjl
    subst hao
    have c0 := (hbw.cell (p := ⟨q, o + j * 4, none⟩) hq).trans d0
    have c1 := (hbw.cell (p := ⟨q, o + j * 4 + 1, none⟩) hq).trans d1
    have c2 := (hbw.cell (p := ⟨q, o + j * 4 + 2, none⟩) hq).trans d2
    have c3 := (hbw.cell (p := ⟨q, o + j * 4 + 3, none⟩) hq).trans d3
    have n2 := (cell_of_block hbox 2).trans rfl
    obtain ⟨c, hc⟩ : ∃ c, c = L[j] := ⟨_, rfl⟩
    rw [← hc] at c0 c1 c2 c3
    have hdrop : L.drop j = c :: L.drop (j + 1) := by rw [hc]; exact List.drop_eq_getElem_cons hjl
    have hnext : prevK L (j + 1) = some c.key := by unfold prevK; rw [if_neg (by omega), Nat.add_sub_cancel, List.getElem?_eq_getElem hjl, ← hc]; rfl
    have hcw : c.Wf := HW.out c (by rw [hc]; exact List.getElem_mem hjl)
    have hprev : ∀ i, j = i + 1 → ∃ k, prevK L j = some k ∧ wr.cell? ⟨q, o + i * 4, none⟩ = some (.string (bs k)) := fun i hi => by
     obtain ⟨q', o', hao', hq', e0, -⟩ := HC.out i (by omega)
     have e1 : q' = q ∧ o' = o := by
      have := Option.some.inj hao'
      injection this with e1 e2
      exact ⟨e1.symm, e2.symm⟩
     obtain ⟨rfl, rfl⟩ := e1
     refine ⟨L[i].key, ?_, (hbw.cell (p := ⟨q', o' + i * 4, none⟩) hq').trans e0⟩
     unfold prevK
     have hjm : j - 1 = i := by omega
     rw [if_neg (by omega), hjm, List.getElem?_eq_getElem (by omega)]
     rfl
    have HDr := hid hdrop
    have HNx := hid hnext
    have HPr := hid hprev
    have CC := fun W => ncell_any 2 c hcw W
    obtain ⟨b, hb⟩ : ∃ b, b = ncellB 2 c := ⟨_, rfl⟩
    simp only [← hb] at CC
    have HBb := hid hb
    obtain ⟨Kc, Sc, Lc, Pc⟩ := c
    dsimp only at c0 c1 c2 c3 CC
    have hj9 : (j : Int) < 9223372036854775807 := by omega
    have hjN : (j : Int) < (z : Int) := by omega
    have hwj : IntKind.i64.wrap ((j : Int) + 1) = (j : Int) + 1 := IntWalk.i64_in _ (by omega)
    have Hjz := hid hjz
    clear hbw hbox heq d0 d1 d2 d3 hc hdrop hnext hcw hprev hb hjl
    go_upto_region 16 with fail
    have hbx := heap_alloc_new wr (.cells #[.string (bs Kc), .int .i64 Sc, .string (bs Lc), .int .i64 Pc] 133)
    have hbl := (Below.refl wr.heap.size wr).alloc (Nat.le_refl _) (.cells #[.string (bs Kc), .int .i64 Sc, .string (bs Lc), .int .i64 Pc] 133)
    obtain ⟨wx, hwx⟩ : ∃ wx, wx = wr.alloc (.cells #[.string (bs Kc), .int .i64 Sc, .string (bs Lc), .int .i64 Pc] 133) := ⟨_, rfl⟩
    obtain ⟨bx, hbxe⟩ : ∃ bx, bx = wr.heap.size := ⟨_, rfl⟩
    rw [← hwx, ← hbxe] at hbx
    rw [← hwx] at hbl
    rw [← hwx, ← hbxe]
    have HBx := hid hbl
    have hnx := (hbl.block w.heap.size (lt_of_block HBox.out)).trans HBox.out
    have a0 := (cell_of_block hnx 0).trans rfl
    have a2 := (cell_of_block hnx 2).trans rfl
    obtain ⟨x0, x1, x2, x3⟩ := cells4' hbx
    have y0 := fun d os => cell_regrown a0 d os
    have y2 := fun d os => cell_regrown a2 d os
    have z0 := fun d os => cell_regrown x0 d os
    have z1 := fun d os => cell_regrown x1 d os
    have z2 := fun d os => cell_regrown x2 d os
    have z3 := fun d os => cell_regrown x3 d os
    have HNX := hid hnx
    have hqx : q < wr.heap.size := Nat.lt_of_lt_of_le hq HBw.out.size
    have HQ := hid hqx
    clear hwx hbxe hbx hbl c0 c1 c2 c3 n2 a0 a2 x0 x1 x2 x3 hnx hqx hq hj hjz
    cases b
    ·have HRl := hid (show R = false by rw [HR.out, HEq.out, HDr.out]; exact ncellsB_bad HBb.out.symm)
     refine region_below (by kernel_rfl) (by kernel_rfl) ?_
     repeat (go_big_quiet_step (first | (go_at_call 92; with_reducible exact Calls.regrown_of (CC _))))
     refine wpQuiet_nil ?_
     intro w3 hb3
     clear y0 y2 z0 z1 z2 z3
     go_wp2_with fail
     go_ret
     rw [HRl.out]
     exact ⟨rfl, HBw.out.trans ((HBx.out).mono HBw.out.size |>.trans (hb3.mono (Nat.le_trans HBw.out.size HBx.out.size)))⟩
    ·rcases Nat.eq_zero_or_pos j with hj0 | hj0
     ·subst hj0
      have hgo2 : ncellsB 2 (prevK L 0) (L.drop 0) = ncellsB 2 (some Kc) (L.drop 1) := by rw [HDr.out]; exact ncellsB_first HBb.out.symm
      have HG2 := hid hgo2
      clear hgo2
      refine region_below (by kernel_rfl) (by kernel_rfl) ?_
      repeat (go_big_quiet_step (first | (go_at_call 92; with_reducible exact Calls.regrown_of (CC _))))
      refine wpQuiet_nil ?_
      intro w3 hb3
      clear y0 y2 z0 z1 z2 z3
      go_wp2_with fail
      go_roundw
      case rel => exact ⟨1, Hjz.out, by simp, HBw.out.trans ((HBx.out).mono HBw.out.size |>.trans (hb3.mono (Nat.le_trans HBw.out.size HBx.out.size))), (hb3.block _ (lt_of_block HNX.out)).trans HNX.out, by rw [HEq.out, HG2.out, HNx.out]⟩
      case measure => (have := Hjz.out; (simp [intOf]) <;> omega)
     ·obtain ⟨i, hi⟩ : ∃ i, j = i + 1 := ⟨j - 1, by omega⟩
      obtain ⟨kp, hkp, p0⟩ := HPr.out i hi
      have p0 := (HBx.out.cell (p := ⟨q, o + i * 4, none⟩) HQ.out).trans p0
      have pz := fun d os => cell_regrown p0 d os
      have hw0 : IntKind.i64.wrap ((j : Int) - 1) = (i : Int) := by rw [IntWalk.i64_in _ (by omega)]; omega
      have g1 : decide ((0 : Int) < (j : Int)) = true := by simp; omega
      have g1' : (0 : Int) < (j : Int) := by omega
      have g1'' : 0 < j := hj0
      have g2 : i < z := by have := Hjz.out; omega
      have HKp := hid hkp
      have Hi := hid hi
      clear p0 hkp hi hj0
      cases hle : keyLe Kc kp
      ·have hle2 : (Op.bytesLess Kc kp || Kc == kp) = false := hle
       have HGo := hid (show ncellsB 2 (prevK L j) (L.drop j) = ncellsB 2 (some Kc) (L.drop (j + 1)) by rw [HDr.out, HKp.out]; exact ncellsB_next HBb.out.symm hle)
       clear hle
       refine region_below (by kernel_rfl) (by kernel_rfl) ?_
       repeat (go_big_quiet_step (first | (go_at_call 92; with_reducible exact Calls.regrown_of (CC _))))
       refine wpQuiet_nil ?_
       intro w3 hb3
       clear y0 y2 z0 z1 z2 z3 pz
       go_wp2_with fail
       go_roundw
       case rel => exact ⟨j + 1, Hjz.out, by simp, HBw.out.trans ((HBx.out).mono HBw.out.size |>.trans (hb3.mono (Nat.le_trans HBw.out.size HBx.out.size))), (hb3.block _ (lt_of_block HNX.out)).trans HNX.out, by rw [HEq.out, HGo.out, HNx.out]⟩
       case measure => (have := Hjz.out; (simp [intOf]) <;> omega)
      ·have hle2 : (Op.bytesLess Kc kp || Kc == kp) = true := hle
       have HRl := hid (show R = false by rw [HR.out, HEq.out, HDr.out, HKp.out]; exact ncellsB_low hle)
       clear hle
       refine region_below (by kernel_rfl) (by kernel_rfl) ?_
       repeat (go_big_quiet_step (first | (go_at_call 92; with_reducible exact Calls.regrown_of (CC _))))
       refine wpQuiet_nil ?_
       intro w3 hb3
       clear y0 y2 z0 z1 z2 z3 pz
       go_wp2_with fail
       go_ret
       rw [HRl.out]
       exact ⟨rfl, HBw.out.trans ((HBx.out).mono HBw.out.size |>.trans (hb3.mono (Nat.le_trans HBw.out.size HBx.out.size)))⟩
   ·obtain rfl : z = j := by omega
    have hgo : ¬ z < z := Nat.lt_irrefl z
    clear hbw hbox heq hjz hj
    go_wp2_with fail
    go_ret
    rw [HR.out, HEq.out, List.drop_of_length_le (by rw [HZ.out]; exact Nat.le_refl _)]
    exact ⟨rfl, HBw.out⟩
 ·have HR0 := hid (show R0 = false by
   rw [hR0]
   unfold nmayB
   dsimp only
   rw [if_neg (by decide), if_pos rfl, ← hpb]
   have : (pb && (D == [] && !(L.length == 0))) = false := by
    cases pb
    ·rfl
    ·by_cases hD : D = []
     ·have : z = 0 := Classical.byContradiction fun e => hgood ⟨rfl, hD, e⟩
      rw [← hz, this]; simp
     ·have : (D == []) = false := by simpa using hD
      rw [this]; rfl
   rw [this]; rfl)
  clear hR0 hpb
  cases pb
  ·clear hgood
   go_enter Tryz.func66, Tryz.ntmps66
   go_wp2_with (first
    | (go_at_call 91; refine (PG.out _).mono ?_; rintro e w1 ⟨rfl, hw⟩; obtain rfl := hw.symm)
    | go_in)
   go_ret
   exact ⟨by rw [HR0.out]; rfl, HB.out _⟩
  ·by_cases hD : D = []
   ·have hz0 : z = 0 := Classical.byContradiction fun e => hgood ⟨rfl, hD, e⟩
    subst hD hz0
    clear hgood hz
    go_enter Tryz.func66, Tryz.ntmps66
    go_wp2_with (first
     | (go_at_call 91; refine (PG.out _).mono ?_; rintro e w1 ⟨rfl, hw⟩; obtain rfl := hw.symm)
     | go_in)
    go_ret
    exact ⟨by rw [HR0.out]; rfl, HB.out _⟩
   ·have b1 : (D != []) = true := by simpa using hD
    have b2 : (D == []) = false := by simpa using hD
    clear hgood
    go_enter Tryz.func66, Tryz.ntmps66
    go_wp2_with (first
     | (go_at_call 91; refine (PG.out _).mono ?_; rintro e w1 ⟨rfl, hw⟩; obtain rfl := hw.symm)
     | go_in)
    go_ret
    exact ⟨by rw [HR0.out]; rfl, HB.out _⟩
set_option maxHeartbeats 16000000 in
set_option maxRecDepth 20000 in
theorem nmay9_any (h : NdIn w n v) (hk : n.kind ≠ 1) (hk2 : n.kind ≠ 2) : Calls Tryz.prog 66 #[ndV n v] w fun e w' => e = .returned (.bool (nmayB n)) ∧ Below w.heap.size w w' := by
 obtain ⟨kind, F0, L, D⟩ := n
 obtain ⟨ao, cap, rfl, hc⟩ := h.at'
 have hmany := h.many
 have hwf := h.wf
 have hdat := h.data
 dsimp only at hc hmany hwf hdat
 obtain ⟨z, hz⟩ : ∃ z, z = L.length := ⟨_, rfl⟩
 unfold ndV
 dsimp only
 rw [← hz] at hmany ⊢
 have HB := hid (fun o : Obj => (Below.refl w.heap.size w).alloc (Nat.le_refl _) o)
 have PG := hid (fun W m => npg_any F0 m W)
 have HC := hid hc
 have HW := hid hwf
 have HZ := hid hz
 clear h hc hwf
 have hk : kind ≠ 1 := hk
 have hk2 : kind ≠ 2 := hk2
 have b1 : (kind == 1) = false := by simpa using hk
 have b2 : (kind == 2) = false := by simpa using hk2
 obtain ⟨pb, hpb⟩ : ∃ pb, pb = pgB F0 0 := ⟨_, rfl⟩
 have PG := fun W => PG.out W 0
 rw [← hpb] at PG
 replace PG := hid PG
 obtain ⟨R0, hR0⟩ : ∃ R0, R0 = nmayB ⟨kind, F0, L, D⟩ := ⟨_, rfl⟩
 rw [← hR0]
 unfold nmayB at hR0
 dsimp only at hR0
 rw [if_neg hk, if_neg hk2, ← hpb, ← hz] at hR0
 clear hk hk2 hz hpb
 by_cases h3 : kind = 3
 ·subst h3
  rw [if_pos rfl] at hR0
  have HR0 := hid hR0
  clear hR0
  go_enter Tryz.func66, Tryz.ntmps66
  go_wp2_with (first
   | (go_at_call 91; refine (PG.out _).mono ?_; rintro e w1 ⟨rfl, hw⟩; obtain rfl := hw.symm)
   | go_in)
  all_goals go_ret
  all_goals refine ⟨?_, HB.out _⟩
  all_goals rw [HR0.out]
  all_goals simp_all
  all_goals (intros; omega)
 ·rw [if_neg h3] at hR0
  have b3 : (kind == 3) = false := by simpa using h3
  by_cases h4 : kind = 4
  ·subst h4
   rw [if_pos rfl] at hR0
   have HR0 := hid hR0
   clear hR0 h3
   go_enter Tryz.func66, Tryz.ntmps66
   go_wp2_with (first
    | (go_at_call 91; refine (PG.out _).mono ?_; rintro e w1 ⟨rfl, hw⟩; obtain rfl := hw.symm)
    | go_in)
   all_goals go_ret
   all_goals refine ⟨?_, HB.out _⟩
   all_goals rw [HR0.out]
   all_goals simp_all
  ·rw [if_neg h4] at hR0
   have b4 : (kind == 4) = false := by simpa using h4
   have HR0 := hid hR0
   clear hR0 h3 h4
   go_enter Tryz.func66, Tryz.ntmps66
   go_wp2_with fail
   go_ret
   exact ⟨by rw [HR0.out]; rfl, HB.out _⟩
theorem nmay_any (h : NdIn w n v) : Calls Tryz.prog 66 #[ndV n v] w fun e w' => e = .returned (.bool (nmayB n)) ∧ Below w.heap.size w w' := by
 by_cases h1 : n.kind = 1
 ·exact nmay1_any h h1
 ·by_cases h2 : n.kind = 2
  ·exact nmay2_any h h2
  ·exact nmay9_any h h1 h2
end
end Go.Proofs.YtlkkclooihjpiaaGreat
