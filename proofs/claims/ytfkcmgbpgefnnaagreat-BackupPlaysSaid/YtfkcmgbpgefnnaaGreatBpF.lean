/- BackupPlays: the reference's page, walked. -/
import Derived.Test.YtfkcmgbpgefnnaaGreatBpC
set_option linter.unusedVariables false
set_option linter.unusedSimpArgs false
namespace Go.Proofs.YtfkcmgbpgefnnaaGreat
open Go.RowKit Go.Maps
set_option maxRecDepth 20000
section
variable {w W W' : World} {rd rb : Nat} {d d' : Dsk} {B B' : Bk} {L : List (List UInt8)} {X : Nat → Prop}
structure RpAt (w W0 W : World) (rd rb base q cap : Nat) (L : List (List UInt8)) (d : Dsk) (B : Bk) (X : Nat → Prop) : Prop where
 rx : RkX w W rd d X
 hX : X rb
 ge : w.heap.size ≤ rb
 bk : W.heap[rb]? = some (rbkObj rd B)
 row : StrRow W base (.slice (some ⟨q, 0, none⟩) L.length cap) L
 xq : X q
 ne : q ≠ rb
 kp : ∀ j, X j → j ≠ rb → W.heap[j]? = W0.heap[j]?
section
variable {W0 W1 : World} {base q cap : Nat}
theorem RpAt.call (h : RpAt w W0 W rd rb base q cap L d B X) (hx : RkX w W1 rd d' X) (hk : ∀ k, X k → W1.heap[k]? = W.heap[k]?) : RpAt w W0 W1 rd rb base q cap L d' B X :=
 ⟨hx, h.hX, h.ge, (hk rb h.hX).trans h.bk, row_keep h.row (fun k e => hk k (by injection e with e; rw [← e]; exact h.xq)), h.xq, h.ne, fun j hj hn => (hk j hj).trans (h.kp j hj hn)⟩
theorem RpAt.put (h : RpAt w W0 W rd rb base q cap L d B X) {o : Nat} {u : Value} (hb : (W.setCell ⟨rb, o, none⟩ u).heap[rb]? = some (rbkObj rd B')) : RpAt w W0 (W.setCell ⟨rb, o, none⟩ u) rd rb base q cap L d B' X := by
 have hf := (Frm.refl (fun j => j = rb) W).setCell (p := ⟨rb, o, none⟩) (.inl rfl) u
 refine ⟨h.rx.law hf (fun j hj => ⟨by rw [hj]; exact h.hX, by rw [hj]; exact h.ge⟩), h.hX, h.ge, hb, row_keep h.row (fun k e => ?_), h.xq, h.ne, fun j hj hn => (hf.block j (h.rx.xlt j hj) hn).trans (h.kp j hj hn)⟩
 injection e with e
 rw [← e]
 exact hf.block q (h.rx.xlt q h.xq) h.ne
theorem RpAt.drewN (h : RpAt w W0 W rd rb base q cap L d B X) (n : Nat) : RpAt w W0 (W.drewN n) rd rb base q cap L d B X := h.call (h.rx.below (below_drewN (Below.refl _ W) n)) (fun _ _ => rfl)
theorem RpAt.cell (h : RpAt w W0 W rd rb base q cap L d B X) {i : Nat} (hi : i < L.length) : W.cell? ⟨q, i, none⟩ = some (.string (bs L[i])) := by
 obtain ⟨ao, cap2, e, hc⟩ := h.row.shape
 obtain ⟨q2, e2, c⟩ := hc i hi
 injection e with e1 _ _
 rw [e2] at e1
 injection e1 with e1
 injection e1 with e1
 rw [e1]
 exact c
end
set_option maxHeartbeats 4000000 in
theorem rpage_any {base q cap N : Nat} {W0 : World} (h : RpAt w W0 W rd rb base q cap L d B X) (hn : 1 ≤ B.next ∧ B.next ≤ (L.length : Int)) (hpg : B.pages = (L.length : Int)) (hL : L.length ≤ 256) (hl : ∀ s ∈ L, s.length ≤ 1000) (hsm : d.Small N) (hN : N + 262144 ≤ 1099511527776) :
  Calls Tryz.prog 57 #[.pointer (some ⟨rb, 0, none⟩), .slice (some ⟨q, 0, none⟩) L.length cap] W fun e w' => e = .returned (.int .i64 (rpageM L B d).1) ∧ RpAt w W0 w' rd rb base q cap L (rpageM L B d).2.2 (rpageM L B d).2.1 X := by
 obtain ⟨i, hi⟩ : ∃ i : Nat, B.next = ((i + 1 : Nat) : Int) := ⟨(B.next - 1).toNat, by omega⟩
 have hiL : i < L.length := by omega
 obtain ⟨n, hnl⟩ : ∃ n, n = L.length := ⟨_, rfl⟩
 obtain ⟨R, hR⟩ : ∃ R, R = rpageM L B d := ⟨_, rfl⟩
 rw [← hR]
 unfold rpageM at hR
 have e1 : (B.next - 1).toNat = i := by omega
 have e2 : 8 * (B.next - 1) = 8 * (i : Int) := by omega
 have e3 : L.getD i [] = L[i] := by rw [List.getD_eq_getElem?_getD, List.getElem?_eq_getElem hiL]; rfl
 rw [e1, e2, e3] at hR
 have hlen := hl L[i] (List.getElem_mem hiL)
 have hci := h.cell hiL
 have cs := rbk_cells h.bk
 obtain ⟨c0, c1, c2, c3, c4, c5⟩ := cs
 have hi256 : i ≤ 255 := by omega
 by_cases hnx : 1 < B.next
 ·rw [if_pos hnx] at hR
  have b1 : decide (1 < B.next) = true := by simpa using hnx
  obtain ⟨s, hs⟩ : ∃ s, s = L[i] := ⟨_, rfl⟩
  rw [← hs] at hR hlen hci
  have WR := fun (W1 : World) (hx : RkX w W1 rd d X) => rx_write hx 0 (8 * (i : Int)) s (hsm.mono (by omega)) (by omega)
  obtain ⟨Z, hZ⟩ : ∃ Z, Z = writeM d 0 (8 * (i : Int)) s := ⟨_, rfl⟩
  rw [← hZ] at hR
  simp only [← hZ] at WR
  obtain ⟨nx, hnxe⟩ : ∃ nx, nx = B.next := ⟨_, rfl⟩
  rw [← hnxe] at c3 b1
  have hw1 : IntKind.i64.wrap (nx - 1) = (i : Int) := by rw [hnxe, hi, IntWalk.i64_in _ (by omega)]; omega
  have hw2 : IntKind.i64.wrap (8 * (i : Int)) = 8 * (i : Int) := IntWalk.i64_in _ (by omega)
  rw [← hnl] at hiL ⊢
  have H := hid h
  have HWR := hid WR
  have HR := hid hR
  have Hnx := hid hnxe
  have Hi := hid hi
  have Hpg := hid hpg
  have Hnl := hid hnl
  clear h WR hR hnxe hi hpg hnx hs hn e1 e2 e3 hl hZ hsm hnl c1 c2 c4 c5
  go_enter Tryz.func57, Tryz.ntmps57
  go_upto_region 2 with fail
  refine wp_region_held_drew (S := fun W2 => W2.cell? ⟨rb, 0, none⟩ = some (.pointer (some ⟨rd, 0, none⟩)) ∧ W2.cell? ⟨rb, 3, none⟩ = some (.int .i64 nx) ∧ W2.cell? ⟨q, i, none⟩ = some (.string (bs s))) (by kernel_rfl) ⟨c0, c3, hci⟩ (fun hHeld => ?_)
  clear c0 c3 hci
  refine ht 0 hHeld ?_
  refine ht 1 hHeld ?_
  refine ht 2 hHeld ?_
  refine ht 3 hHeld ?_
  refine ht 4 hHeld ?_
  refine ht 5 hHeld ?_
  refine ht 6 hHeld ?_
  refine ht 7 hHeld ?_
  refine ht 8 hHeld ?_
  refine ht 9 hHeld ?_
  refine ht 10 hHeld ?_
  refine ht 11 hHeld ?_
  refine ht 12 hHeld ?_
  refine ht 13 hHeld ?_
  refine ht 14 hHeld ?_
  refine ht 15 hHeld ?_
  refine ht 16 hHeld ?_
  refine ht 17 hHeld ?_
  have hx0 := H.out.call (H.out.rx.below ((Below.refl _ W).drew)) (fun _ _ => rfl)
  have HX0 := hid hx0
  clear hx0
  refine held_one 18 (by kernel_rfl) rfl (fun K hK => ?_)
  go_simp
  refine (HWR.out _ HX0.out.rx).mono ?_
  rintro e w1 ⟨rfl, hx, hk⟩
  have h1 := HX0.out.call hx hk
  have H1 := hid h1
  have hks : w1.cell? ⟨rb, 0, none⟩ = some (.pointer (some ⟨rd, 0, none⟩)) ∧ w1.cell? ⟨rb, 3, none⟩ = some (.int .i64 nx) ∧ w1.cell? ⟨q, i, none⟩ = some (.string (bs s)) := by
   refine ⟨(rbk_cells h1.bk).c0, by rw [Hnx.out]; exact (rbk_cells h1.bk).c3, ?_⟩
   have hq := hk q H.out.xq
   have c := hHeld.2.2
   unfold World.cell? at c ⊢
   rw [hq]
   exact c
  clear hx hk h1
  try dsimp only
  refine hK.out _ _ (hks) (fun hHeld => ?_)
  clear hK K
  try simp only [Act.put, zl0, zl1, zl2]
  clear hks
  refine ht 19 hHeld ?_
  clear hHeld
  refine wpAnyH_done (by kernel_rfl) ?_ _
  obtain ⟨z, hz⟩ : ∃ z, z = Z.1 := ⟨_, rfl⟩
  have hR := HR.out
  rw [← hz] at hR ⊢
  by_cases hz0 : z = 0
  rotate_left
  ·have b3 : (z != 0) = true := by simp [hz0]
   rw [if_pos hz0] at hR
   have HR := hid hR
   clear hR hz0 hz
   go_wp2_with fail
   go_ret
   rw [HR.out]
   exact ⟨rfl, H1.out⟩
  have b3 : (z != 0) = false := by simp [hz0]
  rw [if_neg (fun e => e hz0)] at hR
  have HR := hid hR
  have d3 := (rbk_cells H1.out.bk).c3
  rw [← Hnx.out] at d3
  have f3 := rbk_free H1.out.bk 3
  have hw3 : IntKind.i64.wrap (nx + 1) = nx + 1 := IntWalk.i64_in _ (by have := Hnx.out; have := Hi.out; omega)
  clear hR hz0 hz
  go_upto_region 6 with fail
  have hbk := H1.out.bk
  unfold rbkObj at hbk
  have h2 := H1.out.put (B' := { B with next := nx + 1 }) (o := 3) (u := .int .i64 (nx + 1)) ((zd hbk 3 (.int .i64 (nx + 1))).trans rfl)
  obtain ⟨w2, hw2e⟩ : ∃ w2, w2 = w1.setCell ⟨rb, 3, none⟩ (.int .i64 (nx + 1)) := ⟨_, rfl⟩
  rw [← hw2e] at h2 ⊢
  have H2 := hid h2
  have g2 := (rbk_cells h2.bk).c2
  have g3 := (rbk_cells h2.bk).c3
  have ff := rbk_free h2.bk 3
  dsimp only at g2 g3
  obtain ⟨pg, hpge⟩ : ∃ pg, pg = B.pages := ⟨_, rfl⟩
  rw [← hpge] at g2
  have Hpge := hid hpge
  clear h2 hbk hw2e d3 f3 hpge
  by_cases hle : pg < nx + 1
  ·have b4 : decide (pg < nx + 1) = true := by simpa using hle
   clear hle
   go_wp2_with fail
   go_quiet (fail)
   go_wp2_with fail
   go_ret
   have hbk := H2.out.bk
   unfold rbkObj at hbk
   have h3 := fun (m : Nat) => (H2.out.drewN m).put (B' := { B with next := 1 }) (o := 3) (u := .int .i64 1) ((zd (w := w2.drewN m) hbk 3 (.int .i64 1)).trans rfl)
   have e : R = (0, { B with next := 1 }, Z.2) := by rw [HR.out, ← Hpge.out, ← Hnx.out, if_pos (by simpa using b4)]
   rw [e]
   exact ⟨rfl, h3 _⟩
  ·have b4 : decide (pg < nx + 1) = false := by simpa using hle
   clear hle
   go_wp2_with fail
   go_quiet (fail)
   go_wp2_with fail
   go_ret
   have e : R = (0, { B with next := nx + 1 }, Z.2) := by rw [HR.out, ← Hpge.out, ← Hnx.out, if_neg (by simpa using b4)]
   rw [e]
   exact ⟨rfl, H2.out.drewN _⟩
 ·have hb1 : B.next = 1 := by omega
  have hi0 : i = 0 := by omega
  subst hi0
  rw [if_neg hnx, show L.getD 0 [] = L[0] from by rw [List.getD_eq_getElem?_getD, List.getElem?_eq_getElem hiL]; rfl, blast_eq] at hR
  rw [hb1] at c3
  have hw8 : IntKind.i64.wrap (8 * B.pages) = 8 * B.pages := IntWalk.i64_in _ (by omega)
  obtain ⟨s, hs⟩ : ∃ s, s = L[0] := ⟨_, rfl⟩
  have HCI := hid (fun (d1 : Dsk) (B1 : Bk) (W1 : World) (hx : RpAt w W0 W1 rd rb base q cap L d1 B1 X) => (show W1.cell? ⟨q, 0, none⟩ = some (.string (bs s)) from by rw [hs]; exact hx.cell hiL))
  rw [← hs] at hR hlen hci
  have hcsm : (lastC B d).2.Small (N + 8193) := bcut_sm8 hsm
  have hysm : (lastY B d).2.Small (N + 8194) := sync_small hcsm
  have husm : (lastU s B d).2.Small (N + 16387) := (write_small hysm).mono (by omega)
  have eC : lastC B d = bcutM 0 (8 * B.pages) d := rfl
  have eY : lastY B d = syncM (lastC B d).2 0 := rfl
  have eU : lastU s B d = writeM (lastY B d).2 0 0 s := by unfold lastU; rw [hb1]; rfl
  have eV : lastV s B d = syncM (lastU s B d).2 0 := rfl
  obtain ⟨C, hC⟩ : ∃ C, C = lastC B d := ⟨_, rfl⟩
  obtain ⟨Y, hY⟩ : ∃ Y, Y = lastY B d := ⟨_, rfl⟩
  obtain ⟨U, hU⟩ : ∃ U, U = lastU s B d := ⟨_, rfl⟩
  obtain ⟨V, hV⟩ : ∃ V, V = lastV s B d := ⟨_, rfl⟩
  rw [← hC, ← hY, ← hU, ← hV] at hR
  rw [← hC] at hcsm eC eY
  rw [← hY] at hysm eY eU
  rw [← hU] at husm eU eV
  rw [← hV] at eV
  have CU := fun (W1 : World) (hx : RkX w W1 rd d X) => rcut29_any hx 0 (.inl rfl) (8 * B.pages) (hsm.mono (by omega))
  have SY := fun (W1 : World) (hx : RkX w W1 rd C.2 X) => rx_sync hx 0 (hcsm.mono (by omega))
  have WU := fun (W1 : World) (hx : RkX w W1 rd Y.2 X) => rx_write hx 0 0 s (hysm.mono (by omega)) (by omega)
  have SV := fun (W1 : World) (hx : RkX w W1 rd U.2 X) => rx_sync hx 0 (husm.mono (by omega))
  have eC0 : bcutM ((0 : Nat) : Int) (8 * B.pages) d = C := eC.symm
  simp only [eC0] at CU
  simp only [← eY] at SY
  simp only [← eU] at WU
  simp only [← eV] at SV
  obtain ⟨pg, hpge⟩ : ∃ pg, pg = B.pages := ⟨_, rfl⟩
  rw [← hpge] at c2 hw8
  simp only [← hpge] at CU
  rw [← hnl] at hiL ⊢
  have H := hid h
  have HCU := hid CU
  have HSY := hid SY
  have HWU := hid WU
  have HSV := hid SV
  have HR := hid hR
  have Hb1 := hid hb1
  have Hpge := hid hpge
  clear h CU SY WU SV hR hb1 hpge hi hpg hnx hs hn e1 e2 e3 hl hC hY hU hV eC eY eU eV eC0 hsm hcsm hysm husm hnl c1 c4 c5
  go_enter Tryz.func57, Tryz.ntmps57
  go_upto_region 9 with fail
  refine wp_region_held_drew (S := fun W2 => W2.cell? ⟨rb, 0, none⟩ = some (.pointer (some ⟨rd, 0, none⟩)) ∧ W2.cell? ⟨rb, 2, none⟩ = some (.int .i64 pg)) (by kernel_rfl) ⟨c0, c2⟩ (fun hHeld => ?_)
  clear c0 c2 c3 hci
  refine ht 0 hHeld ?_
  refine ht 1 hHeld ?_
  refine ht 2 hHeld ?_
  refine ht 3 hHeld ?_
  refine ht 4 hHeld ?_
  refine ht 5 hHeld ?_
  refine ht 6 hHeld ?_
  refine ht 7 hHeld ?_
  refine ht 8 hHeld ?_
  have hx0 := H.out.call (H.out.rx.below ((Below.refl _ W).drew)) (fun _ _ => rfl)
  have HX0 := hid hx0
  clear hx0
  refine held_one 9 (by kernel_rfl) rfl (fun K hK => ?_)
  go_simp
  refine (HCU.out _ HX0.out.rx).mono ?_
  rintro e w1 ⟨rfl, hx, hk⟩
  have h1 := HX0.out.call hx hk
  have H1 := hid h1
  have hks : w1.cell? ⟨rb, 0, none⟩ = some (.pointer (some ⟨rd, 0, none⟩)) ∧ w1.cell? ⟨rb, 2, none⟩ = some (.int .i64 pg) := ⟨(rbk_cells h1.bk).c0, by rw [Hpge.out]; exact (rbk_cells h1.bk).c2⟩
  clear hx hk h1
  try dsimp only
  refine hK.out _ _ (hks) (fun hHeld => ?_)
  clear hK K
  try simp only [Act.put, zl0, zl1, zl2]
  clear hks
  refine ht 10 hHeld ?_
  clear hHeld
  refine wpAnyH_done (by kernel_rfl) ?_ _
  have hR := HR.out
  by_cases hC0 : C.1 = 0
  rotate_left
  ·obtain ⟨z, hz⟩ : ∃ z, z = C.1 := ⟨_, rfl⟩
   rw [if_pos hC0] at hR
   rw [← hz] at hC0 hR ⊢
   have b3 : (z != 0) = true := by simp [hC0]
   have HR := hid hR
   clear hR hC0 hz
   go_wp2_with fail
   go_ret
   rw [HR.out]
   exact ⟨rfl, H1.out⟩
  rw [if_neg (fun e => e hC0)] at hR
  rw [hC0]
  have d0 := (rbk_cells H1.out.bk).c0
  have HRy := hid hR
  clear hR hC0
  go_upto_region 13 with (first
   | (go_at_call 52; refine (HSY.out _ H1.out.rx).mono ?_; rintro e w2 ⟨rfl, hx, hk⟩; have H2 := hid (H1.out.call hx hk); clear hx hk)
   | go_in)
  clear d0
  have hR := HRy.out
  by_cases hY0 : Y.1 = 0
  rotate_left
  ·obtain ⟨z, hz⟩ : ∃ z, z = Y.1 := ⟨_, rfl⟩
   rw [if_pos hY0] at hR
   rw [← hz] at hY0 hR ⊢
   have b3 : (z != 0) = true := by simp [hY0]
   have HR := hid hR
   clear hR hY0 hz
   go_wp2_with fail
   go_ret
   rw [HR.out]
   exact ⟨rfl, H2.out⟩
  rw [if_neg (fun e => e hY0)] at hR
  rw [hY0]
  have HRu := hid hR
  clear hR hY0
  go_upto_region 15 with fail
  have d0 := (rbk_cells H2.out.bk).c0
  have dq : w2.cell? ⟨q, 0, none⟩ = some (.string (bs s)) := HCI.out _ _ _ H2.out
  refine wp_region_held_drew (S := fun W2 => W2.cell? ⟨rb, 0, none⟩ = some (.pointer (some ⟨rd, 0, none⟩)) ∧ W2.cell? ⟨q, 0, none⟩ = some (.string (bs s))) (by kernel_rfl) ⟨d0, dq⟩ (fun hHeld => ?_)
  clear d0 dq
  refine ht 0 hHeld ?_
  refine ht 1 hHeld ?_
  refine ht 2 hHeld ?_
  refine ht 3 hHeld ?_
  refine ht 4 hHeld ?_
  refine ht 5 hHeld ?_
  refine ht 6 hHeld ?_
  have hx2 := H2.out.call (H2.out.rx.below ((Below.refl _ w2).drew)) (fun _ _ => rfl)
  have HX2 := hid hx2
  clear hx2
  refine held_one 7 (by kernel_rfl) rfl (fun K hK => ?_)
  go_simp
  refine (HWU.out _ HX2.out.rx).mono ?_
  rintro e w3 ⟨rfl, hx, hk⟩
  have h3 := HX2.out.call hx hk
  have H3 := hid h3
  have hks : w3.cell? ⟨rb, 0, none⟩ = some (.pointer (some ⟨rd, 0, none⟩)) ∧ w3.cell? ⟨q, 0, none⟩ = some (.string (bs s)) := by
   refine ⟨(rbk_cells h3.bk).c0, ?_⟩
   have hq := hk q H.out.xq
   have c := hHeld.2
   unfold World.cell? at c ⊢
   rw [hq]
   exact c
  clear hx hk h3
  try dsimp only
  refine hK.out _ _ (hks) (fun hHeld => ?_)
  clear hK K
  try simp only [Act.put, zl0, zl1, zl2]
  clear hks
  refine ht 8 hHeld ?_
  clear hHeld
  refine wpAnyH_done (by kernel_rfl) ?_ _
  have hR := HRu.out
  by_cases hU0 : U.1 = 0
  rotate_left
  ·obtain ⟨z, hz⟩ : ∃ z, z = U.1 := ⟨_, rfl⟩
   rw [if_pos hU0] at hR
   rw [← hz] at hU0 hR ⊢
   have b3 : (z != 0) = true := by simp [hU0]
   have HR := hid hR
   clear hR hU0 hz
   go_wp2_with fail
   go_ret
   rw [HR.out]
   exact ⟨rfl, H3.out⟩
  rw [if_neg (fun e => e hU0)] at hR
  rw [hU0]
  have HRv := hid hR
  have f4 := rbk_free H3.out.bk 4
  have d4 := (rbk_cells H3.out.bk).c4
  clear hR hU0
  go_upto_region 19 with fail
  have hbk := H3.out.bk
  unfold rbkObj at hbk
  have h4 := H3.out.put (B' := { B with opn := true }) (o := 4) (u := .bool true) ((zd hbk 4 (.bool true)).trans rfl)
  obtain ⟨w4, hw4⟩ : ∃ w4, w4 = w3.setCell ⟨rb, 4, none⟩ (.bool true) := ⟨_, rfl⟩
  rw [← hw4] at h4 ⊢
  have H4 := hid h4
  have d0 := (rbk_cells h4.bk).c0
  clear h4 hw4 hbk f4 d4
  go_upto_region 20 with (first
   | (go_at_call 52; refine (HSV.out _ H4.out.rx).mono ?_; rintro e w5 ⟨rfl, hx, hk⟩; have H5 := hid (H4.out.call hx hk); clear hx hk)
   | go_in)
  clear d0
  have hR := HRv.out
  obtain ⟨z, hz⟩ : ∃ z, z = V.1 := ⟨_, rfl⟩
  rw [← hz] at hR ⊢
  clear hz
  by_cases hV0 : z = 0
  ·rw [if_neg (fun e => e hV0)] at hR
   subst hV0
   have HR := hid hR
   have f3 := rbk_free H5.out.bk 3
   have d3 := (rbk_cells H5.out.bk).c3
   clear hR
   go_wp2_with fail
   go_ret
   have hbk := H5.out.bk
   unfold rbkObj at hbk
   have h6 := H5.out.put (B' := { B with opn := true, next := 0 }) (o := 3) (u := .int .i64 0) ((zd hbk 3 (.int .i64 0)).trans rfl)
   rw [HR.out]
   exact ⟨rfl, h6⟩
  ·rw [if_pos hV0] at hR
   have b5 : (z == 0) = false := by simp [hV0]
   have HR := hid hR
   clear hR hV0
   go_wp2_with fail
   go_ret
   rw [HR.out]
   exact ⟨rfl, H5.out⟩
end
end Go.Proofs.YtfkcmgbpgefnnaaGreat
