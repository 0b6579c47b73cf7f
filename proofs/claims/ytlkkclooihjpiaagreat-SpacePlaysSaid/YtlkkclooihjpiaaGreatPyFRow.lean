/- The law SpacePlays: its walk. -/
import Derived.Test.YtlkkclooihjpiaaGreatPyE
import Derived.Deep.CutBlock
set_option linter.unusedVariables false
set_option linter.unusedSimpArgs false
namespace Go.Proofs.YtlkkclooihjpiaaGreat
open Go.RowKit Go.Maps
set_option maxRecDepth 20000
theorem py_new {w W : World} {pb l b : Nat} (hx : PgX w W pb l b p0 exG0 newM (fun _ => False)) : PySt w (W.alloc (.cells #[.int .i64 0, .slice none 0 0, .int .u64 0, .int .i64 0, .int .i64 0, .int .i64 0, .int .i64 0, .int .i64 0, .int .i64 0, .int .i64 0, .int .i64 0, .bool false, .int .i64 0, .slice none 0 0, .int .u64 0, .int .i64 0, .int .i64 0, .int .i64 0, .int .i64 0, .int .i64 0, .int .i64 0, .int .i64 0, .int .i64 0, .slice none 0 0] 56)) pb l b W.heap.size p0 exG0 newM rwd0 rwd0 100 (fun k => k = W.heap.size) (fun k => k = W.heap.size) := by
 have hge := hx.bel.size
 have hb := (Below.refl W.heap.size W).alloc (Nat.le_refl _) (.cells #[.int .i64 0, .slice none 0 0, .int .u64 0, .int .i64 0, .int .i64 0, .int .i64 0, .int .i64 0, .int .i64 0, .int .i64 0, .int .i64 0, .int .i64 0, .bool false, .int .i64 0, .slice none 0 0, .int .u64 0, .int .i64 0, .int .i64 0, .int .i64 0, .int .i64 0, .int .i64 0, .int .i64 0, .int .i64 0, .int .i64 0, .slice none 0 0] 56)
 refine ⟨px_add hx hb (fun k hk => .inr (Nat.le_of_eq hk.symm)) (fun k hk => by rw [hk]; simp), pw_new, ⟨.slice none 0 0, .slice none 0 0, .slice none 0 0, [], ⟨heap_alloc_new W _, hge, rfl, rfl, (fun x hx => by cases hx), World.ownsRow_nil _ _ _ _, World.ownsRow_nil _ _ _ _, World.ownsRow_nil _ _ _ _, rfl, (fun x hx => by cases hx), (fun e => by cases e)⟩, fun k hk => ?_⟩, fun k hk => hk, fun k hk => by rw [hk]; exact hge, new_small⟩
 rcases hk with e | e | e | e | ⟨x, hx, e⟩
 ·exact e
 ·cases e
 ·cases e
 ·cases e
 ·cases hx
theorem PySt.len {w W : World} {pb l b wb N : Nat} {p : Pg} {g : Lg} {d : Dsk} {m m2 : RWd} {B X : Nat → Prop} (h : PySt w W pb l b wb p g d m m2 N B X) : ∃ ao cap, W.cell? ⟨wb, 23, none⟩ = some (.slice ao m.saves.length cap) := by
 obtain ⟨fs, fn, sv, l, h1, -⟩ := h.wd
 obtain ⟨ao1, cap1, ao2, cap2, ao3, cap3, rfl, rfl, rfl⟩ := h1.shapes
 obtain ⟨⟨P1, F1, K1, R1⟩, inn, ⟨P2, F2, K2, R2⟩, S⟩ := m
 obtain ⟨a0, a1, a2, a3, a4, a5, a6, a7, rfl⟩ := roots8 h1.l1
 obtain ⟨b0, b1, b2, b3, b4, b5, b6, b7, rfl⟩ := roots8 h1.l2
 refine ⟨ao3, cap3, ?_⟩
 have hls : l.map (·.1) = S := h1.ls
 rw [cell_of_block h1.blk 23, ← hls, List.length_map]
 rfl
set_option maxHeartbeats 16000000 in
set_option maxRecDepth 20000 in
theorem spacePlays_any (w : World) (v : Value) (lst : List Op3) (h : Ops3In w v lst) : Calls Tryz.prog 4 #[v] w fun e w' => e = .returned (.bool true) ∧ Below w.heap.size w w' := by
 obtain ⟨ao, cap, rfl, hc⟩ := h.at'
 have hlen := h.len
 have heach := h.each
 obtain ⟨n, hn⟩ : ∃ n, n = lst.length := ⟨_, rfl⟩
 rw [← hn] at hlen ⊢
 have WK := hid (sworks_any w)
 have HC := hid hc
 have Hn := hid hn
 have HE := hid heach
 clear h hc hn heach
 by_cases h150 : 150 < n
 ·have b1 : decide (150 < n) = true := by simpa using h150
  go_enter Tryz.func4, Tryz.ntmps4
  go_wp2_with (first
   | (go_at_call 5; refine (WK.out).mono ?_; rintro e w1 ⟨rfl, hb1⟩; have HB1 := hid hb1; clear hb1)
   | go_in)
  go_ret
  exact ⟨rfl, HB1.out⟩
 have b1 : decide (150 < n) = false := by simpa using h150
 have hn150 : n ≤ 150 := by omega
 clear h150
 go_enter Tryz.func4, Tryz.ntmps4
 go_wp2_with (first
  | (go_at_call 5; refine (WK.out).mono ?_; rintro e w1 ⟨rfl, hb1⟩; have HB1 := hid hb1; clear hb1)
  | (go_at_call 6; refine (mk_new _).mono ?_; rintro e w2 ⟨db, rfl, hd2⟩; have HD2 := hid hd2; clear hd2)
  | (go_at_call 8; refine (px_fresh HD2.out).mono ?_; rintro e w3 ⟨pb, l, rfl, hp3⟩; have HP3 := hid hp3; clear hp3)
  | go_in)
 have H0 := hid (py_new (HP3.out.to (X' := fun _ => False) (fun k hk => hk.elim)))
 clear HP3 HD2 WK
 go_loopw [4, 28] (fun v4 v28 wr => ∃ (i pb l : Nat) (p : Pg) (g : Lg) (d : Dsk) (m : RWd) (B X : Nat → Prop), i ≤ n ∧ v28 = .int .i64 (i : Int) ∧ v4 = .pointer (some ⟨pb, 0, none⟩) ∧ PySt w1 wr pb l db w3.heap.size p g d m m (100 + 8519680 * i) B X) (fun _ v28 _ => n - (intOf v28).toNat)
 case atStart => exact ⟨0, pb, l, p0, _, _, rwd0, _, _, Nat.zero_le _, rfl, rfl, H0.out⟩
 case round =>
  obtain ⟨i, pb, l, p, g, d, m, B, X, hi, rfl, rfl, hst⟩ := hrel
  have hbw : Below w.heap.size w wr := HB1.out.trans (hst.px.bel.mono HB1.out.size)
  have HSt := hid hst
  have HBw := hid hbw
  by_cases hlt : i < n
  ·have hil : i < lst.length := by have := Hn.out; omega
   obtain ⟨q, o, hao, hq, hc0, hc1, hc2⟩ := HC.out i hil
   subst hao
   have c0 := (hbw.cell (p := ⟨q, o + i * 3, none⟩) hq).trans hc0
   have c1 := (hbw.cell (p := ⟨q, o + i * 3 + 1, none⟩) hq).trans hc1
   have c2 := (hbw.cell (p := ⟨q, o + i * 3 + 2, none⟩) hq).trans hc2
   have hin := HE.out _ (List.getElem_mem hil)
   obtain ⟨x, hx⟩ : ∃ x, x = lst[i] := ⟨_, rfl⟩
   rw [← hx] at c0 c1 c2 hin
   obtain ⟨k0, n0, i0⟩ := x
   dsimp only at c0 c1 c2 hin
   have HIn := hid hin
   have hi9 : (i : Int) < 9223372036854775807 := by omega
   have hiN : (i : Int) < (n : Int) := by omega
   have hw : IntKind.i64.wrap ((i : Int) + 1) = (i : Int) + 1 := IntWalk.i64_in _ (by omega)
   have hNN : 100 + 8519680 * i + 33554432 ≤ 1099511527776 := by omega
   have HNN := hid hNN
   have HI := hid (show i < n ∧ i ≤ 150 by omega)
   have HW := hid hw
   clear hst hbw hc0 hc1 hc2 hin hx hNN
   go_upto_region 13 with fail
   have hbx0 := heap_alloc_new wr (.cells #[.int .i64 k0, .int .i64 n0, .int .i64 i0] 43)
   have hbl0 := (Below.refl wr.heap.size wr).alloc (Nat.le_refl _) (.cells #[.int .i64 k0, .int .i64 n0, .int .i64 i0] 43)
   obtain ⟨wy, hwy⟩ : ∃ wy, wy = wr.alloc (.cells #[.int .i64 k0, .int .i64 n0, .int .i64 i0] 43) := ⟨_, rfl⟩
   obtain ⟨bx, hbxe⟩ : ∃ bx, bx = wr.heap.size := ⟨_, rfl⟩
   rw [← hwy, ← hbxe] at hbx0
   rw [← hwy] at hbl0
   rw [← hwy, ← hbxe]
   have HSy := hid (HSt.out.below hbl0)
   have Hbx := hid hbx0
   have x0 : wy.cell? ⟨bx, 0, none⟩ = some (.int .i64 k0) := (cell_of_block hbx0 0).trans rfl
   have x1 : wy.cell? ⟨bx, 1, none⟩ = some (.int .i64 n0) := (cell_of_block hbx0 1).trans rfl
   clear hwy hbxe hbx0 hbl0 c0 c1 c2 hi9 hiN hw hi hlt
   go_cut [40] (fun v40 wx => ∃ cb : Bool, v40 = .bool cb ∧ (cb = true ↔ k0 = 2 ∧ twiceB m n0 = true) ∧ Below wy.heap.size wy wx)
   case first =>
    by_cases hk2 : k0 = 2
    ·have TW := hid (twice_any HSy.out n0)
     subst hk2
     go_wp2_with (first
      | (go_at_call 16; refine (TW.out).mono ?_; rintro e w5 ⟨rfl, h5⟩; have H5 := hid h5; clear h5)
      | go_in)
     all_goals
      go_meet
      exact ⟨_, rfl, by simp, H5.out⟩
    ·have b2 : (k0 == 2) = false := by simpa using hk2
     have Hk2 := hid hk2
     clear hk2
     go_wp2_with fail
     go_meet
     exact ⟨false, rfl, by have := Hk2.out; simp [this], Below.refl _ _⟩
   case rest =>
    obtain ⟨cb, rfl, hcb, hbe⟩ := hcut
    have HSc := hid (HSy.out.below hbe)
    have hbxc := (hbe.block bx (lt_of_block Hbx.out)).trans Hbx.out
    have x0 : wc.cell? ⟨bx, 0, none⟩ = some (.int .i64 k0) := (cell_of_block hbxc 0).trans rfl
    have x1 : wc.cell? ⟨bx, 1, none⟩ = some (.int .i64 n0) := (cell_of_block hbxc 1).trans rfl
    have x2 : wc.cell? ⟨bx, 2, none⟩ = some (.int .i64 i0) := (cell_of_block hbxc 2).trans rfl
    have HCB := hid hcb
    clear hcb hbe hbxc HSy Hbx HSt HBw
    cases cb
    rotate_left
    ·have hw := HW.out
     go_wp2_with fail
     go_roundw
     case rel => exact ⟨i + 1, pb, l, p, g, d, m, B, X, HI.out.1, by simp, rfl, HSc.out.more (by omega)⟩
     case measure => (have hlt := HI.out; (simp [intOf]) <;> omega)
    obtain ⟨ao3, cap3, hlen23⟩ := HSc.out.len
    obtain ⟨z, hz⟩ : ∃ z, z = m.saves.length := ⟨_, rfl⟩
    rw [← hz] at hlen23
    have HZ := hid hz
    clear hz
    go_upto_region 14 with fail
    go_cut [51] (fun v51 wx => ∃ cb : Bool, v51 = .bool cb ∧ (cb = true ↔ k0 = 6 ∧ 60 ≤ z) ∧ wx = wc)
    case first =>
     by_cases hk6 : k0 = 6
     ·subst hk6
      by_cases h60 : 60 ≤ z
      ·have b3 : decide ((60 : Int) ≤ (z : Int)) = true := by simp; omega
       have H60 := hid h60
       have h60i : (60 : Int) ≤ (z : Int) := by omega
       go_wp2_with fail
       all_goals
        go_meet
        exact ⟨true, rfl, by have := H60.out; simp [this], rfl⟩
      ·have b3 : decide ((60 : Int) ≤ (z : Int)) = false := by simp; omega
       have H60 := hid h60
       have h60i : ¬ (60 : Int) ≤ (z : Int) := by omega
       clear h60
       go_wp2_with fail
       all_goals
        go_meet
        exact ⟨false, rfl, by have := H60.out; simp [this], rfl⟩
     ·have b2 : (k0 == 6) = false := by simpa using hk6
      have Hk6 := hid hk6
      clear hk6
      go_wp2_with fail
      go_meet
      exact ⟨false, rfl, by have := Hk6.out; simp [this], rfl⟩
    case rest =>
     obtain ⟨cb2, rfl, hcb2, hw2⟩ := hcut
     subst hw2
     have HCB2 := hid hcb2
     clear hcb2 hlen23
     cases cb2
     rotate_left
     ·have hw := HW.out
      go_wp2_with fail
      go_roundw
      case rel => exact ⟨i + 1, pb, l, p, g, d, m, B, X, HI.out.1, by simp, rfl, HSc.out.more (by omega)⟩
      case measure => (have hlt := HI.out; (simp [intOf]) <;> omega)
     go_upto_if 54 with fail
     go_cut [4] (fun v4 wx => ∃ (pb l : Nat) (p : Pg) (g : Lg) (d : Dsk) (m : RWd) (B X : Nat → Prop), v4 = .pointer (some ⟨pb, 0, none⟩) ∧ PySt w1 wx pb l db w3.heap.size p g d m m (100 + 8519680 * i + 8519680) B X)
     case first =>
      by_cases hk8 : k0 = 8
      ·subst hk8
       have CR := hid (HSc.out.crash (by have := HNN.out; omega))
       go_wp2_with (first
        | (go_at_call 17; refine (CR.out).mono ?_; rintro e w6 ⟨rfl, h6⟩; have H6 := hid h6; clear h6)
        | (go_at_call 8; refine (H6.out).mono ?_; rintro e w7 ⟨pb2, l2, g2, d2, rfl, h7, -⟩; have H7 := hid h7; clear h7)
        | (go_at_call 18; refine (H7.out.rroll).mono ?_; rintro e w8 ⟨rfl, h8⟩; have H8 := hid (h8.st.more (M := 100 + 8519680 * i + 8519680) (by omega)); clear h8)
        | go_in)
       all_goals
        go_meet
        exact ⟨_, _, _, _, _, _, _, _, rfl, H8.out⟩
      ·have b8 : (k0 == 8) = false := by simpa using hk8
       have DO := hid (pdoes_any HSc.out k0 n0 i0 HIn.out.2.1 HIn.out.2.2 (fun e => by have h1 := HCB.out; simp [e] at h1; exact h1) (fun e => by have h1 := HCB2.out; rw [HZ.out] at h1; simp [e] at h1; exact h1) HNN.out)
       clear hk8
       go_wp2_with (first
        | (go_at_call 19; refine (DO.out).mono ?_; rintro e w8 ⟨p8, g8, d8, m8, B8, X8, rfl, h8⟩; have H8 := hid h8; clear h8)
        | go_in)
       all_goals
        go_meet
        exact ⟨_, _, _, _, _, _, _, _, rfl, H8.out⟩
     case rest =>
      obtain ⟨pb3, l3, p3, g3, d3, m3, B3, X3, rfl, h3⟩ := hcut
      obtain ⟨P, KC, fl, ln, r0, r1, r2, r3, r4, r5, r6, r7, RD, ST, PG⟩ := h3.tail
      have RD := hid RD
      have ST := hid ST
      have PG := hid PG
      have H3 := hid h3
      clear h3
      go_upto_region 25 with (first
       | (go_at_call 10; refine (RD.out).mono ?_; rintro e wr2 ⟨rfl, h10⟩; have H10 := hid h10; clear h10)
       | go_in)
      have hbl := (Below.refl wr2.heap.size wr2).alloc (Nat.le_refl _) (.cells #[.int .i64 fl, .int .i64 ln, .int .u64 KC, .int .i64 r0, .int .i64 r1, .int .i64 r2, .int .i64 r3, .int .i64 r4, .int .i64 r5, .int .i64 r6, .int .i64 r7] 38)
      have hbx := heap_alloc_new wr2 (.cells #[.int .i64 fl, .int .i64 ln, .int .u64 KC, .int .i64 r0, .int .i64 r1, .int .i64 r2, .int .i64 r3, .int .i64 r4, .int .i64 r5, .int .i64 r6, .int .i64 r7] 38)
      obtain ⟨wh, hwh⟩ : ∃ wh, wh = wr2.alloc (.cells #[.int .i64 fl, .int .i64 ln, .int .u64 KC, .int .i64 r0, .int .i64 r1, .int .i64 r2, .int .i64 r3, .int .i64 r4, .int .i64 r5, .int .i64 r6, .int .i64 r7] 38) := ⟨_, rfl⟩
      obtain ⟨hb, hhb⟩ : ∃ hb, hb = wr2.heap.size := ⟨_, rfl⟩
      rw [← hwh] at hbl
      rw [← hwh, ← hhb] at hbx
      rw [← hwh, ← hhb]
      have HBl := hid (show Below wc.heap.size wc wh from H10.out.trans (hbl.mono H10.out.size))
      have Hbx := hid hbx
      have as0 := fun (W1 : World) => arr_same W1 r0 r1 r2 r3 r4 r5 r6 r7
      have hsz : hb < wh.heap.size := lt_of_block hbx
      have HSz := hid hsz
      clear hwh hhb hbl hsz H10
      refine wp_region_held_drew (S := fun W2 => W2.cell? ⟨hb, 0, none⟩ = some (.int .i64 fl) ∧ W2.cell? ⟨hb, 1, none⟩ = some (.int .i64 ln) ∧ W2.cell? ⟨hb, 2, none⟩ = some (.int .u64 KC) ∧ W2.cell? ⟨hb, 3, none⟩ = some (.int .i64 r0) ∧ W2.cell? ⟨hb, 4, none⟩ = some (.int .i64 r1) ∧ W2.cell? ⟨hb, 5, none⟩ = some (.int .i64 r2) ∧ W2.cell? ⟨hb, 6, none⟩ = some (.int .i64 r3) ∧ W2.cell? ⟨hb, 7, none⟩ = some (.int .i64 r4) ∧ W2.cell? ⟨hb, 8, none⟩ = some (.int .i64 r5) ∧ W2.cell? ⟨hb, 9, none⟩ = some (.int .i64 r6) ∧ W2.cell? ⟨hb, 10, none⟩ = some (.int .i64 r7)) (by kernel_rfl) ⟨(cell_of_block hbx 0).trans rfl, (cell_of_block hbx 1).trans rfl, (cell_of_block hbx 2).trans rfl, (cell_of_block hbx 3).trans rfl, (cell_of_block hbx 4).trans rfl, (cell_of_block hbx 5).trans rfl, (cell_of_block hbx 6).trans rfl, (cell_of_block hbx 7).trans rfl, (cell_of_block hbx 8).trans rfl, (cell_of_block hbx 9).trans rfl, (cell_of_block hbx 10).trans rfl⟩ (fun hHeld => ?_)
      clear hbx
      refine held_take (v := ?av0) 0 rfl (by kernel_rfl) (by kernel_rfl) (by kernel_rfl) (fun _ _ _ h => h) (by rfl) hHeld ?ay0 ?ar0
      case ay0 => (intro W hSw; obtain ⟨y0, y1, y2, y3, y4, y5, y6, y7, y8, y9, y10⟩ := hSw; go_simp; with_reducible rfl)
      simp only [Act.put, List.setIfInBounds_toArray, List.set_cons_zero, List.set_cons_succ]
      refine held_take (v := ?av1) 1 rfl (by kernel_rfl) (by kernel_rfl) (by kernel_rfl) (fun _ _ _ h => h) (by rfl) hHeld ?ay1 ?ar1
      case ay1 => (intro W hSw; obtain ⟨y0, y1, y2, y3, y4, y5, y6, y7, y8, y9, y10⟩ := hSw; go_simp; with_reducible rfl)
      simp only [Act.put, List.setIfInBounds_toArray, List.set_cons_zero, List.set_cons_succ]
      refine held_take (v := ?av2) 2 rfl (by kernel_rfl) (by kernel_rfl) (by kernel_rfl) (fun _ _ _ h => h) (by rfl) hHeld ?ay2 ?ar2
      case ay2 => (intro W hSw; obtain ⟨y0, y1, y2, y3, y4, y5, y6, y7, y8, y9, y10⟩ := hSw; go_simp; with_reducible rfl)
      simp only [Act.put, List.setIfInBounds_toArray, List.set_cons_zero, List.set_cons_succ]
      refine held_take (v := ?av3) 3 rfl (by kernel_rfl) (by kernel_rfl) (by kernel_rfl) (fun _ _ _ h => h) (by rfl) hHeld ?ay3 ?ar3
      case ay3 => (intro W hSw; obtain ⟨y0, y1, y2, y3, y4, y5, y6, y7, y8, y9, y10⟩ := hSw; go_simp; with_reducible rfl)
      simp only [Act.put, List.setIfInBounds_toArray, List.set_cons_zero, List.set_cons_succ]
      refine held_take (v := ?av4) 4 rfl (by kernel_rfl) (by kernel_rfl) (by kernel_rfl) (fun _ _ _ h => h) (by rfl) hHeld ?ay4 ?ar4
      case ay4 => (intro W hSw; obtain ⟨y0, y1, y2, y3, y4, y5, y6, y7, y8, y9, y10⟩ := hSw; go_simp; with_reducible rfl)
      simp only [Act.put, List.setIfInBounds_toArray, List.set_cons_zero, List.set_cons_succ]
      refine held_one 5 (by kernel_rfl) rfl (fun K hK => ?_)
      go_simp
      refine (ST.out _ (below_drew HBl.out)).mono ?_
      rintro e w11 ⟨ao4, z4, cap4, rfl, h11, hh⟩
      have H11 := hid (show Below wh.heap.size wh w11 from (Below.refl wh.heap.size wh).drew.trans h11)
      have HH := hid hh
      have hfp := field_pages P KC r0 r1 r2 r3 r4 r5 r6 r7 ao4 z4 cap4
      clear h11 hh
      try dsimp only
      refine hK.out _ _ (⟨(cell_of_block ((H11.out.block _ HSz.out).trans Hbx.out) 0).trans rfl, (cell_of_block ((H11.out.block _ HSz.out).trans Hbx.out) 1).trans rfl, (cell_of_block ((H11.out.block _ HSz.out).trans Hbx.out) 2).trans rfl, (cell_of_block ((H11.out.block _ HSz.out).trans Hbx.out) 3).trans rfl, (cell_of_block ((H11.out.block _ HSz.out).trans Hbx.out) 4).trans rfl, (cell_of_block ((H11.out.block _ HSz.out).trans Hbx.out) 5).trans rfl, (cell_of_block ((H11.out.block _ HSz.out).trans Hbx.out) 6).trans rfl, (cell_of_block ((H11.out.block _ HSz.out).trans Hbx.out) 7).trans rfl, (cell_of_block ((H11.out.block _ HSz.out).trans Hbx.out) 8).trans rfl, (cell_of_block ((H11.out.block _ HSz.out).trans Hbx.out) 9).trans rfl, (cell_of_block ((H11.out.block _ HSz.out).trans Hbx.out) 10).trans rfl⟩) (fun hHeld => ?_)
      clear hK K
      try simp only [Act.put, List.setIfInBounds_toArray, List.set_cons_zero, List.set_cons_succ]
      refine held_one 6 (by kernel_rfl) rfl (fun K hK => ?_)
      go_simp
      refine (HH.out).mono ?_
      rintro e w12 ⟨rfl, h12⟩
      have H12 := hid (H11.out.trans (h12.mono H11.out.size))
      clear h12
      try dsimp only
      refine hK.out _ _ (⟨(cell_of_block ((H12.out.block _ HSz.out).trans Hbx.out) 0).trans rfl, (cell_of_block ((H12.out.block _ HSz.out).trans Hbx.out) 1).trans rfl, (cell_of_block ((H12.out.block _ HSz.out).trans Hbx.out) 2).trans rfl, (cell_of_block ((H12.out.block _ HSz.out).trans Hbx.out) 3).trans rfl, (cell_of_block ((H12.out.block _ HSz.out).trans Hbx.out) 4).trans rfl, (cell_of_block ((H12.out.block _ HSz.out).trans Hbx.out) 5).trans rfl, (cell_of_block ((H12.out.block _ HSz.out).trans Hbx.out) 6).trans rfl, (cell_of_block ((H12.out.block _ HSz.out).trans Hbx.out) 7).trans rfl, (cell_of_block ((H12.out.block _ HSz.out).trans Hbx.out) 8).trans rfl, (cell_of_block ((H12.out.block _ HSz.out).trans Hbx.out) 9).trans rfl, (cell_of_block ((H12.out.block _ HSz.out).trans Hbx.out) 10).trans rfl⟩) (fun hHeld => ?_)
      clear hK K
      try simp only [Act.put, List.setIfInBounds_toArray, List.set_cons_zero, List.set_cons_succ]
      refine held_take (v := ?bv7) 7 rfl (by kernel_rfl) (by kernel_rfl) (by kernel_rfl) (fun _ _ _ h => h) (by rfl) hHeld ?by7 ?br7
      case by7 => (intro W hSw; obtain ⟨y0, y1, y2, y3, y4, y5, y6, y7, y8, y9, y10⟩ := hSw; go_simp; with_reducible rfl)
      simp only [Act.put, List.setIfInBounds_toArray, List.set_cons_zero, List.set_cons_succ]
      refine held_take (v := ?bv8) 8 rfl (by kernel_rfl) (by kernel_rfl) (by kernel_rfl) (fun _ _ _ h => h) (by rfl) hHeld ?by8 ?br8
      case by8 => (intro W hSw; obtain ⟨y0, y1, y2, y3, y4, y5, y6, y7, y8, y9, y10⟩ := hSw; go_simp; with_reducible rfl)
      simp only [Act.put, List.setIfInBounds_toArray, List.set_cons_zero, List.set_cons_succ]
      refine held_take (v := ?bv9) 9 rfl (by kernel_rfl) (by kernel_rfl) (by kernel_rfl) (fun _ _ _ h => h) (by rfl) hHeld ?by9 ?br9
      case by9 => (intro W hSw; obtain ⟨y0, y1, y2, y3, y4, y5, y6, y7, y8, y9, y10⟩ := hSw; go_simp; with_reducible rfl)
      simp only [Act.put, List.setIfInBounds_toArray, List.set_cons_zero, List.set_cons_succ]
      refine held_take (v := ?bv10) 10 rfl (by kernel_rfl) (by kernel_rfl) (by kernel_rfl) (fun _ _ _ h => h) (by rfl) hHeld ?by10 ?br10
      case by10 => (intro W hSw; obtain ⟨y0, y1, y2, y3, y4, y5, y6, y7, y8, y9, y10⟩ := hSw; go_simp; with_reducible rfl)
      simp only [Act.put, List.setIfInBounds_toArray, List.set_cons_zero, List.set_cons_succ]
      refine held_take (v := ?bv12) 12 rfl (by kernel_rfl) (by kernel_rfl) (by kernel_rfl) (fun _ _ _ h => h) (by rfl) hHeld ?by12 ?br12
      case by12 => (intro W hSw; obtain ⟨y0, y1, y2, y3, y4, y5, y6, y7, y8, y9, y10⟩ := hSw; go_simp; with_reducible rfl)
      simp only [Act.put, List.setIfInBounds_toArray, List.set_cons_zero, List.set_cons_succ]
      refine held_one 11 (by kernel_rfl) rfl (fun K hK => ?_)
      go_simp
      refine (PG.out _ (HBl.out.trans (H12.out.mono HBl.out.size))).mono ?_
      rintro e w13 ⟨rfl, hw13⟩
      subst hw13
      try dsimp only
      refine hK.out _ _ (⟨(cell_of_block ((H12.out.block _ HSz.out).trans Hbx.out) 0).trans rfl, (cell_of_block ((H12.out.block _ HSz.out).trans Hbx.out) 1).trans rfl, (cell_of_block ((H12.out.block _ HSz.out).trans Hbx.out) 2).trans rfl, (cell_of_block ((H12.out.block _ HSz.out).trans Hbx.out) 3).trans rfl, (cell_of_block ((H12.out.block _ HSz.out).trans Hbx.out) 4).trans rfl, (cell_of_block ((H12.out.block _ HSz.out).trans Hbx.out) 5).trans rfl, (cell_of_block ((H12.out.block _ HSz.out).trans Hbx.out) 6).trans rfl, (cell_of_block ((H12.out.block _ HSz.out).trans Hbx.out) 7).trans rfl, (cell_of_block ((H12.out.block _ HSz.out).trans Hbx.out) 8).trans rfl, (cell_of_block ((H12.out.block _ HSz.out).trans Hbx.out) 9).trans rfl, (cell_of_block ((H12.out.block _ HSz.out).trans Hbx.out) 10).trans rfl⟩) (fun hHeld => ?_)
      clear hK K
      try simp only [Act.put, List.setIfInBounds_toArray, List.set_cons_zero, List.set_cons_succ]
      refine held_one 13 (by kernel_rfl) rfl (fun K hK => ?_)
      go_simp
      refine (ST.out _ (HBl.out.trans (H12.out.mono HBl.out.size))).mono ?_
      rintro e w14 ⟨ao5, z5, cap5, rfl, h14, -⟩
      have H14 := hid (H12.out.trans (h14.mono H12.out.size))
      have hfq := field_pages P KC r0 r1 r2 r3 r4 r5 r6 r7 ao5 z5 cap5
      clear h14
      try dsimp only
      refine hK.out _ _ (⟨(cell_of_block ((H14.out.block _ HSz.out).trans Hbx.out) 0).trans rfl, (cell_of_block ((H14.out.block _ HSz.out).trans Hbx.out) 1).trans rfl, (cell_of_block ((H14.out.block _ HSz.out).trans Hbx.out) 2).trans rfl, (cell_of_block ((H14.out.block _ HSz.out).trans Hbx.out) 3).trans rfl, (cell_of_block ((H14.out.block _ HSz.out).trans Hbx.out) 4).trans rfl, (cell_of_block ((H14.out.block _ HSz.out).trans Hbx.out) 5).trans rfl, (cell_of_block ((H14.out.block _ HSz.out).trans Hbx.out) 6).trans rfl, (cell_of_block ((H14.out.block _ HSz.out).trans Hbx.out) 7).trans rfl, (cell_of_block ((H14.out.block _ HSz.out).trans Hbx.out) 8).trans rfl, (cell_of_block ((H14.out.block _ HSz.out).trans Hbx.out) 9).trans rfl, (cell_of_block ((H14.out.block _ HSz.out).trans Hbx.out) 10).trans rfl⟩) (fun hHeld => ?_)
      clear hK K
      try simp only [Act.put, List.setIfInBounds_toArray, List.set_cons_zero, List.set_cons_succ]
      refine held_take (v := ?cv14) 14 rfl (by kernel_rfl) (by kernel_rfl) (by kernel_rfl) (fun _ _ _ h => h) (by rfl) hHeld ?cy14 ?cr14
      case cy14 => (intro W hSw; obtain ⟨y0, y1, y2, y3, y4, y5, y6, y7, y8, y9, y10⟩ := hSw; go_simp; with_reducible rfl)
      simp only [Act.put, List.setIfInBounds_toArray, List.set_cons_zero, List.set_cons_succ]
      refine held_take (v := ?cv15) 15 rfl (by kernel_rfl) (by kernel_rfl) (by kernel_rfl) (fun _ _ _ h => h) (by rfl) hHeld ?cy15 ?cr15
      case cy15 => (intro W hSw; obtain ⟨y0, y1, y2, y3, y4, y5, y6, y7, y8, y9, y10⟩ := hSw; go_simp; with_reducible rfl)
      simp only [Act.put, List.setIfInBounds_toArray, List.set_cons_zero, List.set_cons_succ]
      refine held_take (v := ?cv16) 16 rfl (by kernel_rfl) (by kernel_rfl) (by kernel_rfl) (fun _ _ _ h => h) (by rfl) hHeld ?cy16 ?cr16
      case cy16 => (intro W hSw; obtain ⟨y0, y1, y2, y3, y4, y5, y6, y7, y8, y9, y10⟩ := hSw; go_simp; with_reducible rfl)
      simp only [Act.put, List.setIfInBounds_toArray, List.set_cons_zero, List.set_cons_succ]
      clear hHeld
      refine wpAnyH_done (by kernel_rfl) ?_ _
      have hw := HW.out
      go_wp2_with fail
      go_roundw
      case rel => exact ⟨i + 1, _, _, _, _, _, _, _, _, HI.out.1, by simp, rfl, (H3.out.below (HBl.out.trans (H14.out.mono HBl.out.size))).more (by omega)⟩
      case measure => (have hlt := HI.out; (simp [intOf]) <;> omega)
  ·obtain rfl : n = i := by omega
   have hgo : ¬ n < n := Nat.lt_irrefl n
   clear hst
   go_wp2_with fail
   go_ret
   exact ⟨rfl, HBw.out⟩
end Go.Proofs.YtlkkclooihjpiaaGreat
/- The row of SpacePlays, lifted: whatever calls come in that free no page twice: each answer, and the header behind it, is the document's, SpacePlays answers true, and what came in reads as it did. No condition. -/
namespace Go.Proofs.YtlkkclooihjpiaaGreat
open Go.ChangeShapes Go.WideShapes Go.ChangeAt Go.RowKit Go.Deep
set_option maxRecDepth 20000
set_option maxHeartbeats 800000 in
set_option maxRecDepth 100000 in
theorem spacePlays_lifted (os : Os) (started : os.Started) (H : Type) (enc : TypeId × Value → H) :
  ReturnsInHanded {} Tryz.checked os 4 .any (Rows.spacePlaysSpec.pre6 enc Tryz.prog Tryz.f4 Rows.spacePlaysRow.domain false) (Rows.spacePlaysSpec.post enc Tryz.prog Tryz.f4 false true false false) := by
 refine returnsInHanded_of_change (C := Tryz.checked) own started (by kernel_rfl) Tryz.func4
  (ChangeSpec.witness6 (enc := enc) (C := Tryz.checked) false ⟨#[], #[.slice none 0 0], []⟩ 8 (by kernel_rfl) (by kernel_rfl) (by kernel_rfl) (by kernel_rfl)) ?_
 intro W base args ds gs before hval0 hW hcnd _
 have hval : ∀ (j : Nat) t v, Tryz.f4.params[j]? = some t → args[j]? = some v → Value.okWide Tryz.prog W .any base t v := hval0
 have hW' := hW
 obtain ⟨plcs, plcs2, hA0, hV, rfl, hfz, hnd⟩ := hW
 have hA : DataW.TrodAll enc Tryz.prog W 0 (fun _ => true) true Tryz.f4.params.toList args.toList ds plcs := hA0
 rw [Tryz.params4] at hA hval
 obtain ⟨rfl, rfl⟩ := trodVars_none hV
 have each := trod_each hA
 obtain ⟨v0, rfl⟩ := args_one each.1
 obtain ⟨d0, rfl⟩ := list_one (trod_ds hA)
 obtain ⟨a1, rfl, g1⟩ := open_op3s (hval 0 23 v0 rfl rfl) (each.2 0 23 v0 rfl rfl)
 clear hA0 hval0 each
 simp only [List.append_nil] at hW'
 have hlt : ∀ y ∈ plcs, y.block < W.heap.size := fun y hy => by simpa using hW'.lt y (by simpa using hy)
 refine (show Calls _ _ _ _ _ from spacePlays_any W _ _ g1).mono fun e W' ⟨he, hb⟩ => ?_
 subst he
 exact ⟨_, rfl, _, _, _, [], _, [], hW', trodAll_mk1 (shut_bool Tryz.underlying4 _), below_all laidOut hb (by kernel_rfl) hA hlt, rfl, hb.frame _, fun h => by cases h⟩
theorem spacePlays_holds : Rows.SpacePlaysSaid :=
 OpenClaim.holds_of_wide 4 Tryz.f4 rfl rfl rfl rfl rfl rfl rfl ⟨rfl, rfl, rfl, rfl, rfl⟩ rfl rfl rfl rfl rfl (by kernel_rfl) Tryz.func4 (by kernel_rfl)
  (of_decide_eq_true (by kernel_rfl)) (by unfold Func.isWrapper; first | (rw [if_pos (by decide +kernel)]; kernel_rfl) | (rw [if_neg (by decide +kernel)]; exact ⟨rfl, rfl⟩))
  (fun os started H enc _ => spacePlays_lifted os started H enc)
#print axioms spacePlays_holds
end Go.Proofs.YtlkkclooihjpiaaGreat
