/- The law SpaceEnds: its walk. -/
import Derived.Test.YtlkkclooihjpiaaGreatNdH
import Derived.Deep.CutBlock
set_option linter.unusedVariables false
set_option linter.unusedSimpArgs false
namespace Go.Proofs.YtlkkclooihjpiaaGreat
open Go.RowKit Go.Maps
set_option maxRecDepth 20000
set_option maxHeartbeats 16000000 in
set_option maxRecDepth 20000 in
theorem spaceEnds_any (w : World) (v u : Value) (l1 : List (List UInt8)) (l2 : List Op3) (h1 : StrsIn w v l1) (h2 : Ops3In w u l2) : Calls Tryz.prog 3 #[v, u] w fun e w' => e = .returned (.bool true) ∧ Below w.heap.size w w' := by
 obtain ⟨ao, cap, rfl, hc⟩ := h1.at'
 obtain ⟨bo, bap, rfl, hcb⟩ := h2.at'
 have hlen := h1.len
 have hlen2 := h2.len
 have heach := h2.each
 obtain ⟨n, hn⟩ : ∃ n, n = l1.length := ⟨_, rfl⟩
 obtain ⟨m, hm⟩ : ∃ m, m = l2.length := ⟨_, rfl⟩
 rw [← hn] at hlen ⊢
 rw [← hm] at hlen2 ⊢
 have WK := hid (sworks_any w)
 have HC := hid hc
 have HCB := hid hcb
 have Hn := hid hn
 have Hm := hid hm
 have HE := hid heach
 clear h1 h2 hc hcb hn hm heach
 by_cases h12 : 12 < n
 ·have b1 : decide (12 < n) = true := by simpa using h12
  go_enter Tryz.func3, Tryz.ntmps3
  go_wp2_with (first
   | (go_at_call 5; refine (WK.out).mono ?_; rintro e w1 ⟨rfl, hb1⟩; have HB1 := hid hb1; clear hb1)
   | go_in)
  go_ret
  exact ⟨rfl, HB1.out⟩
 have b1 : decide (12 < n) = false := by simpa using h12
 by_cases h60 : 60 < m
 ·have b2 : decide (60 < m) = true := by simpa using h60
  go_enter Tryz.func3, Tryz.ntmps3
  go_wp2_with (first
   | (go_at_call 5; refine (WK.out).mono ?_; rintro e w1 ⟨rfl, hb1⟩; have HB1 := hid hb1; clear hb1)
   | go_in)
  go_ret
  exact ⟨rfl, HB1.out⟩
 have b2 : decide (60 < m) = false := by simpa using h60
 have hn12 : n ≤ 12 := by omega
 have hm60 : m ≤ 60 := by omega
 clear h12 h60
 go_enter Tryz.func3, Tryz.ntmps3
 go_wp2_with (first
  | (go_at_call 5; refine (WK.out).mono ?_; rintro e w1 ⟨rfl, hb1⟩; have HB1 := hid hb1; clear hb1)
  | (go_at_call 6; refine (mk_new _).mono ?_; rintro e w2 ⟨db, rfl, hd2⟩; have HD2 := hid hd2; clear hd2)
  | go_in)
 clear WK
 go_loopw [32] (fun v32 wr => ∃ (i : Nat) (d : Dsk), i ≤ n ∧ v32 = .int .i64 (i : Int) ∧ MkD w1 wr db d ∧ LaidD d i ∧ d.Small (100 + 8193 * i)) (fun v32 _ => n - (intOf v32).toNat)
 case atStart => exact ⟨0, newM, Nat.zero_le _, rfl, HD2.out, laid_new, new_small⟩
 case round =>
  obtain ⟨i, d, hi, rfl, hd, hl, hs⟩ := hrel
  have hbw : Below w.heap.size w wr := HB1.out.trans (hd.bel.mono HB1.out.size)
  have HD := hid hd
  have HL := hid hl
  have HS := hid hs
  have HBw := hid hbw
  by_cases hlt : i < n
  ·have hil : i < l1.length := by have := Hn.out; omega
   obtain ⟨q, o, hao, hq, hc0⟩ := HC.out i hil
   subst hao
   have c0 := (hbw.cell (p := ⟨q, o + i, none⟩) hq).trans hc0
   obtain ⟨s, hsx⟩ : ∃ s, s = l1[i] := ⟨_, rfl⟩
   rw [← hsx] at c0
   have hi9 : (i : Int) < 9223372036854775807 := by omega
   have hiN : (i : Int) < (n : Int) := by omega
   have hw : IntKind.i64.wrap ((i : Int) + 1) = (i : Int) + 1 := IntWalk.i64_in _ (by omega)
   have hw8 : IntKind.i64.wrap (8 * (i : Int)) = 8 * (i : Int) := IntWalk.i64_in _ (by omega)
   have HI := hid (show i < n ∧ i ≤ 12 by omega)
   have hcp := copy_pad s wr 27
   have hbk : (wr.alloc (.cells (cellsOf (padP s)).toArray 27)).heap[wr.heap.size]? = some (.cells (cellsOf (padP s)).toArray 27 (0, 0)) := heap_alloc_new _ _
   have hbl := (Below.refl wr.heap.size wr).alloc (Nat.le_refl _) (.cells (cellsOf (padP s)).toArray 27)
   have hcv := fill_conv _ _ _ (padP_length s) hbk
   obtain ⟨wq, hwq⟩ : ∃ wq, wq = wr.alloc (.cells (cellsOf (padP s)).toArray 27) := ⟨_, rfl⟩
   rw [← hwq] at hcp hcv hbl
   have hlw := laid_write hl (padP_length s) (by omega)
   have WR := hid (mk_write_at (hd.below hbl) (8 * (i : Int)) (padP s) (hs.mono (by omega)) hlw.1 (padP_length s))
   have HLW := hid hlw.2
   have hss := write_small (f := 0) (a := 8 * (i : Int)) (s := padP s) hs
   have HSS := hid hss
   obtain ⟨t, ht⟩ : ∃ t, t = padP s := ⟨_, rfl⟩
   rw [← ht] at hcv WR HLW HSS
   clear hd hl hs hbw hc0 hsx hbk hbl hwq hlw ht hi hlt hss HD HL HS
   go_wp2_with (first
    | (go_at_call 7; refine (WR.out).mono ?_; rintro e w5 ⟨rfl, h5⟩; have H5 := hid h5; clear h5)
    | go_in)
   go_roundw
   case rel => exact ⟨i + 1, _, HI.out.1, by simp, H5.out, HLW.out, HSS.out.mono (by omega)⟩
   case measure => (have hlt := HI.out; (simp [intOf]) <;> omega)
  ·obtain rfl : i = n := by omega
   have hgo : ¬ i < i := Nat.lt_irrefl i
   have hop := laid_open hl hn12
   obtain ⟨g, hg⟩ : ∃ g, g = (⟨⟨0, 0, (i : Int)⟩, false, [], startP 0, false, false⟩ : Lg) := ⟨_, rfl⟩
   rw [← hg] at hop
   have hgp : g.head.pages = (i : Int) := by rw [hg]
   have OP := hid (px_open hd hop)
   have Hgp := hid hgp
   have HGO := hid hgo
   clear hd hl hs hbw HD HL HS hop hg hgp hi hlt
   go_upto_region 17 with (first
    | (go_at_call 8; refine (OP.out).mono ?_; rintro e w3 ⟨pb, l, rfl, hp3⟩; have HP3 := hid hp3; clear hp3)
    | (go_at_call 9; refine (px_pages_eq HP3.out Hgp.out).mono ?_; rintro e w4 ⟨rfl, hw4⟩; subst hw4)
    | go_in)
   obtain ⟨fl, ln, K, r0, r1, r2, r3, r4, r5, r6, r7, E, hR⟩ := read_form p0 g d
   have RD := hid (sread_eq HP3.out hR)
   have HR := hid hR
   clear hR OP
   go_upto_region 18 with (first
    | (go_at_call 10; refine (RD.out).mono ?_; rintro e w5 ⟨rfl, h5⟩; have H5 := hid h5; clear h5)
    | go_in)
   have hbx := heap_alloc_new w5 (.cells #[.int .i64 fl, .int .i64 ln, .int .u64 K, .int .i64 r0, .int .i64 r1, .int .i64 r2, .int .i64 r3, .int .i64 r4, .int .i64 r5, .int .i64 r6, .int .i64 r7] 38)
   have hbl := (Below.refl w5.heap.size w5).alloc (Nat.le_refl _) (.cells #[.int .i64 fl, .int .i64 ln, .int .u64 K, .int .i64 r0, .int .i64 r1, .int .i64 r2, .int .i64 r3, .int .i64 r4, .int .i64 r5, .int .i64 r6, .int .i64 r7] 38)
   obtain ⟨hb, hhb⟩ : ∃ hb, hb = w5.heap.size := ⟨_, rfl⟩
   obtain ⟨w6, hw6⟩ : ∃ w6, w6 = w5.alloc (.cells #[.int .i64 fl, .int .i64 ln, .int .u64 K, .int .i64 r0, .int .i64 r1, .int .i64 r2, .int .i64 r3, .int .i64 r4, .int .i64 r5, .int .i64 r6, .int .i64 r7] 38) := ⟨_, rfl⟩
   rw [← hw6, ← hhb] at hbx
   rw [← hw6] at hbl
   rw [← hw6, ← hhb]
   have hx6 : PgX w1 w6 pb l db p0 g d (fun k => k = hb) := px_add HP3.out (H5.out.trans (hbl.mono H5.out.size)) (fun k hk => .inr (by have := H5.out.size; rw [hk, hhb]; exact this)) (fun k hk => by rw [hk]; exact lt_of_block hbx)
   obtain ⟨q1, q2, q3⟩ := begin_like (d := d) (g := g) (by rw [Hgp.out]; omega)
   have BG := sbegin_any hx6
   obtain ⟨B, hB⟩ : ∃ B, B = spBeginM p0 g d := ⟨_, rfl⟩
   rw [← hB] at BG q1 q2 q3
   rw [HR.out] at q1 q3
   obtain ⟨B1, pB⟩ := B
   dsimp only at BG q1 q2 q3
   obtain ⟨c, hc⟩ : ∃ c, c = (E == 0) := ⟨_, rfl⟩
   have z1 : (E == 0) = c := hc.symm
   have z2 : (B1 == 0) = c := by rw [hc, Bool.eq_iff_iff]; simpa using q1
   have q4 : pB.now.isSome = c := by rw [hc, Bool.eq_iff_iff]; simpa using q3
   have Q4 := hid q4
   have BG := hid BG
   have HBx6 := hid hbx
   clear hw6 hhb hbl hbx hx6 hB q1 q2 q3 q4 hc RD HP3 H5
   go_wp2_with (first
    | (go_at_call 11; refine (BG.out).mono ?_; rintro e w7 ⟨rfl, hx, hk⟩; have HX7 := hid hx; have HB7 := hid ((hk hb rfl).trans HBx6.out); clear hx hk)
    | go_in)
   clear BG HBx6
   go_loopw [76] (fun v76 wr => ∃ (j : Nat) (p : Pg), j ≤ m ∧ v76 = .int .i64 (j : Int) ∧ PgX w1 wr pb l db p g d (fun k => k = hb) ∧ Like pB p ∧ wr.heap[hb]? = some (.cells #[.int .i64 fl, .int .i64 ln, .int .u64 K, .int .i64 r0, .int .i64 r1, .int .i64 r2, .int .i64 r3, .int .i64 r4, .int .i64 r5, .int .i64 r6, .int .i64 r7] 38 (0, 0))) (fun v76 _ => m - (intOf v76).toNat)
   case atStart => exact ⟨0, pB, Nat.zero_le _, rfl, HX7.out, Like.refl _, HB7.out⟩
   case round =>
    obtain ⟨j, p, hj, rfl, hx, hlk, hbx⟩ := hrel
    have hbw : Below w.heap.size w wr := HB1.out.trans (hx.bel.mono HB1.out.size)
    have HXr := hid hx
    have HLk := hid hlk
    have HBx := hid hbx
    by_cases hlt : j < m
    ·have hjl : j < l2.length := by have := Hm.out; omega
     obtain ⟨q, o, hbo, hq, hc0, hc1, hc2⟩ := HCB.out j hjl
     subst hbo
     have c0 := (hbw.cell (p := ⟨q, o + j * 3, none⟩) hq).trans hc0
     have c1 := (hbw.cell (p := ⟨q, o + j * 3 + 1, none⟩) hq).trans hc1
     have c2 := (hbw.cell (p := ⟨q, o + j * 3 + 2, none⟩) hq).trans hc2
     have hin := HE.out _ (List.getElem_mem hjl)
     obtain ⟨x, hxx⟩ : ∃ x, x = l2[j] := ⟨_, rfl⟩
     rw [← hxx] at c0 c1 c2 hin
     obtain ⟨k0, n0, i0⟩ := x
     dsimp only at c0 c1 c2 hin
     have HIn := hid hin
     have hj9 : (j : Int) < 9223372036854775807 := by omega
     have hjN : (j : Int) < (m : Int) := by omega
     have hw : IntKind.i64.wrap ((j : Int) + 1) = (j : Int) + 1 := IntWalk.i64_in _ (by omega)
     have HJ := hid (show j < m ∧ j ≤ 60 by omega)
     clear hx hlk hbx hbw hc0 hc1 hc2 hin hxx
     go_upto_region 24 with fail
     have hbx0 := heap_alloc_new wr (.cells #[.int .i64 k0, .int .i64 n0, .int .i64 i0] 43)
     have hbl0 := (Below.refl wr.heap.size wr).alloc (Nat.le_refl _) (.cells #[.int .i64 k0, .int .i64 n0, .int .i64 i0] 43)
     obtain ⟨wy, hwy⟩ : ∃ wy, wy = wr.alloc (.cells #[.int .i64 k0, .int .i64 n0, .int .i64 i0] 43) := ⟨_, rfl⟩
     obtain ⟨bx, hbxe⟩ : ∃ bx, bx = wr.heap.size := ⟨_, rfl⟩
     rw [← hwy, ← hbxe] at hbx0
     rw [← hwy] at hbl0
     rw [← hwy, ← hbxe]
     have HXy := hid (HXr.out.below hbl0)
     have HBy := hid ((hbl0.block hb (HXr.out.xlt hb rfl)).trans HBx.out)
     have x0 : wy.cell? ⟨bx, 0, none⟩ = some (.int .i64 k0) := (cell_of_block hbx0 0).trans rfl
     have x1 : wy.cell? ⟨bx, 1, none⟩ = some (.int .i64 n0) := (cell_of_block hbx0 1).trans rfl
     have x2 : wy.cell? ⟨bx, 2, none⟩ = some (.int .i64 i0) := (cell_of_block hbx0 2).trans rfl
     clear hwy hbxe hbx0 hbl0 c0 c1 c2 hj9 hjN hj hlt HBx HXr
     by_cases hk1 : k0 = 1
     ·subst hk1
      have AL := hid (alloc_gen HXy.out)
      go_wp2_with (first
       | (go_at_call 12; refine (AL.out).mono ?_; rintro e w11 ⟨N1, E1, p2, rfl, hiff, hl2, hx2, hk2⟩; have HX2 := hid hx2; have HL2 := hid hl2; have HK2 := hid ((hk2 hb rfl).trans HBy.out); obtain ⟨cA, hcA⟩ : ∃ cA, cA = decide (0 < N1) := ⟨_, rfl⟩; have bA : (E1 == 0) = cA := (by rw [hcA, Bool.eq_iff_iff]; simpa using hiff); have bA2 : decide (0 < N1) = cA := hcA.symm; clear hx2 hk2 hl2 hiff hcA)
       | go_in)
      go_roundw
      case rel => exact ⟨j + 1, _, HJ.out.1, by simp, HX2.out, HLk.out.trans HL2.out, HK2.out⟩
      case measure => (have hlt := HJ.out; (simp [intOf]) <;> omega)
     have d1 : (k0 == 1) = false := by simpa using hk1
     by_cases hk2 : k0 = 2
     ·subst hk2
      have FR := hid (sfree_any HXy.out n0 HIn.out.2.1)
      clear hk1
      go_wp2_with (first
       | (go_at_call 13; refine (FR.out).mono ?_; rintro e w11 ⟨rfl, hx2, hk2⟩; have HX2 := hid hx2; have HK2 := hid ((hk2 hb rfl).trans HBy.out); clear hx2 hk2)
       | go_in)
      go_roundw
      case rel => exact ⟨j + 1, _, HJ.out.1, by simp, HX2.out, HLk.out.trans (free_like _), HK2.out⟩
      case measure => (have hlt := HJ.out; (simp [intOf]) <;> omega)
     have d2 : (k0 == 2) = false := by simpa using hk2
     by_cases hk3 : k0 = 3
     ·subst hk3
      have SR := hid (sroot_any HXy.out i0 n0 HIn.out.2.2 HIn.out.2.1)
      clear hk1 hk2
      go_wp2_with (first
       | (go_at_call 14; refine (SR.out).mono ?_; rintro e w11 ⟨rfl, hx2, hk2⟩; have HX2 := hid hx2; have HK2 := hid ((hk2 hb rfl).trans HBy.out); clear hx2 hk2)
       | go_in)
      go_roundw
      case rel => exact ⟨j + 1, _, HJ.out.1, by simp, HX2.out, HLk.out.trans (root_like _ _), HK2.out⟩
      case measure => (have hlt := HJ.out; (simp [intOf]) <;> omega)
     have d3 : (k0 == 3) = false := by simpa using hk3
     clear hk1 hk2 hk3
     go_wp2_with fail
     go_roundw
     case rel => exact ⟨j + 1, _, HJ.out.1, by simp, HXy.out, HLk.out, HBy.out⟩
     case measure => (have hlt := HJ.out; (simp [intOf]) <;> omega)
    ·obtain rfl : j = m := by omega
     have hjo : ¬ j < j := Nat.lt_irrefl j
     have his : p.now.isSome = c := hlk.2.trans Q4.out
     clear hx hlk hbx hbw hlt hj
     cases c
     ·have hn0 : p.now = none := by cases e : p.now with | none => rfl | some t => rw [e] at his; cases his
      have HX8 := hid HXr.out
      have HN8 := hid hn0
      have HB8 := hid HBx.out
      have RD8 := hid (sread_eq HXr.out ((read_still hn0).trans HR.out))
      clear his hn0 HXr
      have as0 := fun (W1 : World) => arr_same W1 r0 r1 r2 r3 r4 r5 r6 r7
      go_upto_region 37 with (first
       | (go_at_call 15; refine (RB.out).mono ?_; rintro e w8 ⟨p8, rfl, hn8, hx, hk⟩; have HX8 := hid hx; have HN8 := hid hn8; have HB8 := hid ((hk hb rfl).trans HBx.out); have RD8 := hid (sread_eq hx ((read_still hn8).trans HR.out)); clear hx hk hn8)
       | (go_at_call 10; refine (RD8.out).mono ?_; rintro e w9 ⟨rfl, h9⟩; have H9 := hid h9; clear h9)
       | go_in)
      have hbx := heap_alloc_new w9 (.cells #[.int .i64 fl, .int .i64 ln, .int .u64 K, .int .i64 r0, .int .i64 r1, .int .i64 r2, .int .i64 r3, .int .i64 r4, .int .i64 r5, .int .i64 r6, .int .i64 r7] 38)
      have hbl := (Below.refl w9.heap.size w9).alloc (Nat.le_refl _) (.cells #[.int .i64 fl, .int .i64 ln, .int .u64 K, .int .i64 r0, .int .i64 r1, .int .i64 r2, .int .i64 r3, .int .i64 r4, .int .i64 r5, .int .i64 r6, .int .i64 r7] 38)
      obtain ⟨ez, hez⟩ : ∃ ez, ez = w9.heap.size := ⟨_, rfl⟩
      obtain ⟨wz, hwz⟩ : ∃ wz, wz = w9.alloc (.cells #[.int .i64 fl, .int .i64 ln, .int .u64 K, .int .i64 r0, .int .i64 r1, .int .i64 r2, .int .i64 r3, .int .i64 r4, .int .i64 r5, .int .i64 r6, .int .i64 r7] 38) := ⟨_, rfl⟩
      rw [← hwz, ← hez] at hbx
      rw [← hwz] at hbl
      rw [← hwz, ← hez]
      have hbz := H9.out.trans (hbl.mono H9.out.size)
      have hxz := HX8.out.below hbz
      have PGz := hid (px_pages_eq hxz ((pages_still HN8.out).trans Hgp.out))
      have hbt := (hbz.block hb (HX8.out.xlt hb rfl)).trans HB8.out
      have HBf := hid (HB1.out.trans (hxz.bel.mono HB1.out.size))
      have y0 : wz.cell? ⟨ez, 0, none⟩ = some (.int .i64 fl) := (cell_of_block hbx 0).trans rfl
      have y1 : wz.cell? ⟨ez, 1, none⟩ = some (.int .i64 ln) := (cell_of_block hbx 1).trans rfl
      have y2 : wz.cell? ⟨ez, 2, none⟩ = some (.int .u64 K) := (cell_of_block hbx 2).trans rfl
      have y3 : wz.cell? ⟨ez, 3, none⟩ = some (.int .i64 r0) := (cell_of_block hbx 3).trans rfl
      have y4 : wz.cell? ⟨ez, 4, none⟩ = some (.int .i64 r1) := (cell_of_block hbx 4).trans rfl
      have y5 : wz.cell? ⟨ez, 5, none⟩ = some (.int .i64 r2) := (cell_of_block hbx 5).trans rfl
      have y6 : wz.cell? ⟨ez, 6, none⟩ = some (.int .i64 r3) := (cell_of_block hbx 6).trans rfl
      have y7 : wz.cell? ⟨ez, 7, none⟩ = some (.int .i64 r4) := (cell_of_block hbx 7).trans rfl
      have y8 : wz.cell? ⟨ez, 8, none⟩ = some (.int .i64 r5) := (cell_of_block hbx 8).trans rfl
      have y9 : wz.cell? ⟨ez, 9, none⟩ = some (.int .i64 r6) := (cell_of_block hbx 9).trans rfl
      have y10 : wz.cell? ⟨ez, 10, none⟩ = some (.int .i64 r7) := (cell_of_block hbx 10).trans rfl
      have u0 : wz.cell? ⟨hb, 0, none⟩ = some (.int .i64 fl) := (cell_of_block hbt 0).trans rfl
      have u1 : wz.cell? ⟨hb, 1, none⟩ = some (.int .i64 ln) := (cell_of_block hbt 1).trans rfl
      have u2 : wz.cell? ⟨hb, 2, none⟩ = some (.int .u64 K) := (cell_of_block hbt 2).trans rfl
      have u3 : wz.cell? ⟨hb, 3, none⟩ = some (.int .i64 r0) := (cell_of_block hbt 3).trans rfl
      have u4 : wz.cell? ⟨hb, 4, none⟩ = some (.int .i64 r1) := (cell_of_block hbt 4).trans rfl
      have u5 : wz.cell? ⟨hb, 5, none⟩ = some (.int .i64 r2) := (cell_of_block hbt 5).trans rfl
      have u6 : wz.cell? ⟨hb, 6, none⟩ = some (.int .i64 r3) := (cell_of_block hbt 6).trans rfl
      have u7 : wz.cell? ⟨hb, 7, none⟩ = some (.int .i64 r4) := (cell_of_block hbt 7).trans rfl
      have u8 : wz.cell? ⟨hb, 8, none⟩ = some (.int .i64 r5) := (cell_of_block hbt 8).trans rfl
      have u9 : wz.cell? ⟨hb, 9, none⟩ = some (.int .i64 r6) := (cell_of_block hbt 9).trans rfl
      have u10 : wz.cell? ⟨hb, 10, none⟩ = some (.int .i64 r7) := (cell_of_block hbt 10).trans rfl
      clear hwz hez hbl hbz hxz hbt hbx
      go_wp2_with (first
       | (go_at_call 9; refine (PGz.out).mono ?_; rintro e w10 ⟨rfl, hw10⟩; subst hw10)
       | go_in)
      go_ret
      exact ⟨rfl, HBf.out⟩
     ·have RB := hid (px_roll_eq HXr.out his)
      clear his HXr
      have as0 := fun (W1 : World) => arr_same W1 r0 r1 r2 r3 r4 r5 r6 r7
      go_upto_region 37 with (first
       | (go_at_call 15; refine (RB.out).mono ?_; rintro e w8 ⟨p8, rfl, hn8, hx, hk⟩; have HX8 := hid hx; have HN8 := hid hn8; have HB8 := hid ((hk hb rfl).trans HBx.out); have RD8 := hid (sread_eq hx ((read_still hn8).trans HR.out)); clear hx hk hn8)
       | (go_at_call 10; refine (RD8.out).mono ?_; rintro e w9 ⟨rfl, h9⟩; have H9 := hid h9; clear h9)
       | go_in)
      have hbx := heap_alloc_new w9 (.cells #[.int .i64 fl, .int .i64 ln, .int .u64 K, .int .i64 r0, .int .i64 r1, .int .i64 r2, .int .i64 r3, .int .i64 r4, .int .i64 r5, .int .i64 r6, .int .i64 r7] 38)
      have hbl := (Below.refl w9.heap.size w9).alloc (Nat.le_refl _) (.cells #[.int .i64 fl, .int .i64 ln, .int .u64 K, .int .i64 r0, .int .i64 r1, .int .i64 r2, .int .i64 r3, .int .i64 r4, .int .i64 r5, .int .i64 r6, .int .i64 r7] 38)
      obtain ⟨ez, hez⟩ : ∃ ez, ez = w9.heap.size := ⟨_, rfl⟩
      obtain ⟨wz, hwz⟩ : ∃ wz, wz = w9.alloc (.cells #[.int .i64 fl, .int .i64 ln, .int .u64 K, .int .i64 r0, .int .i64 r1, .int .i64 r2, .int .i64 r3, .int .i64 r4, .int .i64 r5, .int .i64 r6, .int .i64 r7] 38) := ⟨_, rfl⟩
      rw [← hwz, ← hez] at hbx
      rw [← hwz] at hbl
      rw [← hwz, ← hez]
      have hbz := H9.out.trans (hbl.mono H9.out.size)
      have hxz := HX8.out.below hbz
      have PGz := hid (px_pages_eq hxz ((pages_still HN8.out).trans Hgp.out))
      have hbt := (hbz.block hb (HX8.out.xlt hb rfl)).trans HB8.out
      have HBf := hid (HB1.out.trans (hxz.bel.mono HB1.out.size))
      have y0 : wz.cell? ⟨ez, 0, none⟩ = some (.int .i64 fl) := (cell_of_block hbx 0).trans rfl
      have y1 : wz.cell? ⟨ez, 1, none⟩ = some (.int .i64 ln) := (cell_of_block hbx 1).trans rfl
      have y2 : wz.cell? ⟨ez, 2, none⟩ = some (.int .u64 K) := (cell_of_block hbx 2).trans rfl
      have y3 : wz.cell? ⟨ez, 3, none⟩ = some (.int .i64 r0) := (cell_of_block hbx 3).trans rfl
      have y4 : wz.cell? ⟨ez, 4, none⟩ = some (.int .i64 r1) := (cell_of_block hbx 4).trans rfl
      have y5 : wz.cell? ⟨ez, 5, none⟩ = some (.int .i64 r2) := (cell_of_block hbx 5).trans rfl
      have y6 : wz.cell? ⟨ez, 6, none⟩ = some (.int .i64 r3) := (cell_of_block hbx 6).trans rfl
      have y7 : wz.cell? ⟨ez, 7, none⟩ = some (.int .i64 r4) := (cell_of_block hbx 7).trans rfl
      have y8 : wz.cell? ⟨ez, 8, none⟩ = some (.int .i64 r5) := (cell_of_block hbx 8).trans rfl
      have y9 : wz.cell? ⟨ez, 9, none⟩ = some (.int .i64 r6) := (cell_of_block hbx 9).trans rfl
      have y10 : wz.cell? ⟨ez, 10, none⟩ = some (.int .i64 r7) := (cell_of_block hbx 10).trans rfl
      have u0 : wz.cell? ⟨hb, 0, none⟩ = some (.int .i64 fl) := (cell_of_block hbt 0).trans rfl
      have u1 : wz.cell? ⟨hb, 1, none⟩ = some (.int .i64 ln) := (cell_of_block hbt 1).trans rfl
      have u2 : wz.cell? ⟨hb, 2, none⟩ = some (.int .u64 K) := (cell_of_block hbt 2).trans rfl
      have u3 : wz.cell? ⟨hb, 3, none⟩ = some (.int .i64 r0) := (cell_of_block hbt 3).trans rfl
      have u4 : wz.cell? ⟨hb, 4, none⟩ = some (.int .i64 r1) := (cell_of_block hbt 4).trans rfl
      have u5 : wz.cell? ⟨hb, 5, none⟩ = some (.int .i64 r2) := (cell_of_block hbt 5).trans rfl
      have u6 : wz.cell? ⟨hb, 6, none⟩ = some (.int .i64 r3) := (cell_of_block hbt 6).trans rfl
      have u7 : wz.cell? ⟨hb, 7, none⟩ = some (.int .i64 r4) := (cell_of_block hbt 7).trans rfl
      have u8 : wz.cell? ⟨hb, 8, none⟩ = some (.int .i64 r5) := (cell_of_block hbt 8).trans rfl
      have u9 : wz.cell? ⟨hb, 9, none⟩ = some (.int .i64 r6) := (cell_of_block hbt 9).trans rfl
      have u10 : wz.cell? ⟨hb, 10, none⟩ = some (.int .i64 r7) := (cell_of_block hbt 10).trans rfl
      clear hwz hez hbl hbz hxz hbt hbx
      go_wp2_with (first
       | (go_at_call 9; refine (PGz.out).mono ?_; rintro e w10 ⟨rfl, hw10⟩; subst hw10)
       | go_in)
      go_ret
      exact ⟨rfl, HBf.out⟩
end Go.Proofs.YtlkkclooihjpiaaGreat
