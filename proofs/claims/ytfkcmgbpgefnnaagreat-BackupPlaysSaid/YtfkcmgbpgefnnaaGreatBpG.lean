/- BackupPlays: the reference's Step, Start, Left, walked. -/
import Derived.Test.YtfkcmgbpgefnnaaGreatBpF
set_option linter.unusedVariables false
set_option linter.unusedSimpArgs false
namespace Go.Proofs.YtfkcmgbpgefnnaaGreat
open Go.RowKit Go.Maps
set_option maxRecDepth 20000
theorem seq_two' (m1 m2 : Dsk → Int × Dsk) (d : Dsk) : bseqM [m1, m2] d = if (m1 d).1 ≠ 0 then m1 d else if (m2 (m1 d).2).1 ≠ 0 then m2 (m1 d).2 else (0, (m2 (m1 d).2).2) := rfl
section
variable {w W W' W0 W1 : World} {rd rb base q cap : Nat} {d d' : Dsk} {B B' : Bk} {L : List (List UInt8)} {X : Nat → Prop} {g : Lg} {ds : Dsk} {h0 : Hdr} {M : List (List UInt8)}
theorem RpAt.move (h : RpAt w W0 W rd rb base q cap L d B X) (hx : RkX w W1 rd d' X) (hb : W1.heap[rb]? = some (rbkObj rd B')) (hk : ∀ k, X k → k ≠ rb → W1.heap[k]? = W.heap[k]?) : RpAt w W0 W1 rd rb base q cap L d' B' X :=
 ⟨hx, h.hX, h.ge, hb, row_keep h.row (fun k e => hk k (by injection e with e; rw [← e]; exact h.xq) (by injection e with e; rw [← e]; exact h.ne)), h.xq, h.ne, fun j hj hn => (hk j hj hn).trans (h.kp j hj hn)⟩
set_option maxHeartbeats 8000000 in
theorem rstep29_any {N : Nat} (h : RpAt w W0 W rd rb base q cap (hdrPg h0 :: M) d B X) (hD : Db g ds (hdrPg h0 :: M)) (hh : HdOk h0) (hB : BkIn B) (hpB : B.k = h0.commits → B.pages = ((hdrPg h0 :: M).length : Int)) (hrs : 0 ≤ B.restarts ∧ B.restarts ≤ 1000000) (n : Int) (hn : in64 n) (hsm : d.Small N) (hN : N + 67108864 ≤ 1099511527776) :
  Calls Tryz.prog 15 #[.pointer (some ⟨rb, 0, none⟩), .slice (some ⟨q, 0, none⟩) (hdrPg h0 :: M).length cap, .int .i64 n] W fun e w' => e = .returned (.int .i64 (bstepM p0 g ds n B d).1) ∧ RpAt w W0 w' rd rb base q cap (hdrPg h0 :: M) (bstepM p0 g ds n B d).2.2 (bstepM p0 g ds n B d).2.1 X := by
 have hmany := hD.many
 have hM : M.length ≤ 255 := by simp at hmany; omega
 have cs := rbk_cells h.bk
 obtain ⟨x0, x1, x2, x3, x4, x5⟩ := cs
 obtain ⟨R, hR⟩ : ∃ R, R = bstepM p0 g ds n B d := ⟨_, rfl⟩
 rw [← hR]
 unfold bstepM at hR
 have htk : takeH (hdrPg h0) = (h0, 0) := takeH_put hh.may hh.wf
 have RC := fun (W1 : World) (hx : StrRow W1 base (.slice (some ⟨q, 0, none⟩) (hdrPg h0 :: M).length cap) (hdrPg h0 :: M)) => rcommits_cons hx (by rw [hdrPg_length h0 hh.wf.len]; omega) (by omega)
 rw [htk] at RC
 have AN := fun (W1 : World) (d1 : Dsk) (B1 : Bk) (hx : RpAt w W0 W1 rd rb base q cap (hdrPg h0 :: M) d1 B1 X) => ranew_any hx.rx hx.hX hx.ge hx.bk hx.row hh hM
 have hanew : ∀ B1 : Bk, ranewM (hdrPg h0 :: M) B1 h0.commits = bkAnew p0 g B1 h0.commits := fun B1 => by
  unfold bkAnew ranewM
  rw [db_pages (p := p0) hD rfl]
 simp only [hanew] at AN
 have PG := fun (W1 : World) (d1 : Dsk) (B1 : Bk) (N1 : Nat) (hx : RpAt w W0 W1 rd rb base q cap (hdrPg h0 :: M) d1 B1 X) (hk1 : BkIn B1) (hn1 : B1.next ≠ 0) (hp1 : B1.pages = ((hdrPg h0 :: M).length : Int)) (hs1 : d1.Small N1) (hN1 : N1 + 262144 ≤ 1099511527776) => (show Calls Tryz.prog 57 #[.pointer (some ⟨rb, 0, none⟩), .slice (some ⟨q, 0, none⟩) (hdrPg h0 :: M).length cap] W1 fun e w' => e = .returned (.int .i64 (bcopyM p0 g ds B1 d1).1) ∧ RpAt w W0 w' rd rb base q cap (hdrPg h0 :: M) (bcopyM p0 g ds B1 d1).2.2 (bcopyM p0 g ds B1 d1).2.1 X from by
  have h1 := hk1.next.resolve_left hn1
  have := rpage_any hx (by omega) hp1 hmany (fun s hs => by rw [hD.len s hs]; decide) hs1 hN1
  rw [← rpage_eq hD h1.1 (by omega)] at this
  exact this)
 have hP1 : ppagesM p0 g = ((hdrPg h0 :: M).length : Int) := db_pages (p := p0) hD rfl
 rw [have_db hD hh] at hR
 obtain ⟨L, hL⟩ : ∃ L, L = hdrPg h0 :: M := ⟨_, rfl⟩
 rw [← hL] at h hpB RC AN PG hP1 hmany ⊢
 have hlen1 : 1 ≤ L.length := by rw [hL]; simp
 obtain ⟨nl, hnl⟩ : ∃ nl, nl = L.length := ⟨_, rfl⟩
 have H := hid h
 have HRC := hid RC
 have HAN := hid AN
 have HPG := hid PG
 have HBO := hid hB
 have HpB := hid hpB
 have HS := hid hsm
 have HP1 := hid hP1
 have HMy := hid hmany
 have HL1 := hid hlen1
 rw [← hnl] at HRC HAN HPG ⊢
 have Hnl := hid hnl
 clear h RC AN PG hpB hsm hL hnl hmany hM htk hanew hP1 hD hh hlen1
 by_cases h0' : B.next = 0
 ·have b0 : (B.next == 0) = true := by simp [h0']
  rw [if_pos h0'] at hR
  have HR := hid hR
  clear hR h0'
  go_enter Tryz.func15, Tryz.ntmps15
  go_wp2_with fail
  go_ret
  rw [HR.out]
  exact ⟨rfl, H.out⟩
 have b0 : (B.next == 0) = false := by simp [h0']
 rw [if_neg h0', if_neg (by simp)] at hR
 obtain ⟨hb1, hb2⟩ := hB.next.resolve_left h0'
 dsimp only at hR
 obtain ⟨k, hk0⟩ : ∃ k, k = h0.commits := ⟨_, rfl⟩
 rw [← hk0] at hR HRC HAN HpB
 have HR := hid hR
 clear hR hB hk0 x0 x1 x2 x4 x5
 go_enter Tryz.func15, Tryz.ntmps15
 go_upto_region 4 with (first
  | (go_at_call 56; refine (HRC.out _ (by first | exact H.out.row | (rw [Hnl.out]; exact H.out.row))).mono ?_; rintro e w2 ⟨rfl, hb⟩; have H2 := hid (H.out.call (H.out.rx.below hb) (fun j hj => hb.block j (H.out.rx.xlt j hj))); clear hb)
  | go_in)
 clear x3
 have h3 : k = B.k ∨ (k ≠ B.k ∧ B.opn = false) ∨ (k ≠ B.k ∧ B.opn = true) := by
  by_cases hk : k = B.k
  ·exact .inl hk
  ·cases B.opn
   ·exact .inr (.inl ⟨hk, rfl⟩)
   ·exact .inr (.inr ⟨hk, rfl⟩)
 rcases h3 with hk | ⟨hk, hop⟩ | ⟨hk, hop⟩
 case' inl =>
  have b2 : (k != B.k) = false := by simp [hk]
  have hR := HR.out
  rw [if_pos hk] at hR
  have z1 := (rbk_cells H2.out.bk).c1
  have HO3 := hid (And.intro HBO.out (HpB.out hk.symm))
  clear hk
  go_upto_region 15 with fail
  obtain ⟨B3, hB3⟩ : ∃ B3, B3 = B := ⟨_, rfl⟩
  obtain ⟨d3, hd3⟩ : ∃ d3, d3 = d := ⟨_, rfl⟩
  obtain ⟨w3, hw3⟩ : ∃ w3, w3 = w2 := ⟨_, rfl⟩
  obtain ⟨N3, hN3e⟩ : ∃ N3, N3 = N := ⟨_, rfl⟩
  have h3 := H2.out
  have hs3 := HS.out
  have ho3 := HO3.out
  rw [← hB3, ← hd3] at hR h3
  rw [← hd3, ← hN3e] at hs3
  rw [← hB3] at ho3
  rw [← hw3] at h3 ⊢
  have HR3 := hid hR
  have H3 := hid h3
  have HS3 := hid hs3
  replace HO3 := hid ho3
  have hN3 : N3 + 33554432 ≤ 1099511527776 := by omega
  clear hR h3 hs3 ho3 hw3 hB3 hd3 hN3e z1
 case' inr.inl =>
  have b2 : (k != B.k) = true := by simp [hk]
  have hR := HR.out
  have hlid : blidM B d = (0, B, d) := by unfold blidM; rw [hop]; rfl
  rw [if_neg hk, hlid, if_neg (by simp)] at hR
  dsimp only at hR
  have z1 := (rbk_cells H2.out.bk).c1
  have z4 := (rbk_cells H2.out.bk).c4
  rw [hop] at z4
  obtain ⟨Ba, hBa⟩ : ∃ Ba, Ba = bkAnew p0 g B k := ⟨_, rfl⟩
  have AN := HAN.out _ _ _ H2.out
  rw [← hBa] at AN hR
  have AN := hid AN
  have hrsa : Ba.restarts = B.restarts := by rw [hBa]; rfl
  have hw6 : IntKind.i64.wrap (B.restarts + 1) = B.restarts + 1 := IntWalk.i64_in _ (by omega)
  rw [hw6] at hR
  have hoa : BkIn { Ba with restarts := B.restarts + 1 } ∧ ({ Ba with restarts := B.restarts + 1 } : Bk).pages = (L.length : Int) := by
   have h1 := HP1.out
   have h2 := HMy.out
   have h3 := HL1.out
   rw [hBa]
   unfold bkAnew
   refine ⟨⟨by dsimp only; omega, .inr ?_⟩, h1⟩
   dsimp only
   split <;> omega
  have HRa := hid hR
  have HOA := hid hoa
  have Hrsa := hid hrsa
  clear hR hk hlid hrsa hoa hBa hop
  go_upto_region 14 with (first
   | (go_at_call 54; refine (AN.out).mono ?_; rintro e w5 ⟨rfl, hx, hb, hkk⟩; have H5 := hid (H2.out.move hx hb hkk); clear hx hb hkk)
   | go_in)
  have z5 := (rbk_cells H5.out.bk).c5
  have f5 := rbk_free H5.out.bk 5
  rw [Hrsa.out] at z5
  clear z1 z4
  go_upto_region 15 with fail
  have hk8 := H5.out.bk
  unfold rbkObj at hk8
  have h3 := H5.out.put (B' := { Ba with restarts := B.restarts + 1 }) (o := 5) (u := .int .i64 (B.restarts + 1)) ((zd hk8 5 (.int .i64 (B.restarts + 1))).trans rfl)
  obtain ⟨w3, hw3⟩ : ∃ w3, w3 = w5.setCell ⟨rb, 5, none⟩ (.int .i64 (B.restarts + 1)) := ⟨_, rfl⟩
  obtain ⟨B3, hB3⟩ : ∃ B3 : Bk, B3 = { Ba with restarts := B.restarts + 1 } := ⟨_, rfl⟩
  obtain ⟨d3, hd3⟩ : ∃ d3, d3 = d := ⟨_, rfl⟩
  obtain ⟨N3, hN3e⟩ : ∃ N3, N3 = N := ⟨_, rfl⟩
  have hR := HRa.out
  have hs3 := HS.out
  have ho3 : BkIn B3 ∧ B3.pages = (L.length : Int) := by rw [hB3]; exact HOA.out
  rw [← hB3, ← hd3] at hR h3
  rw [← hd3, ← hN3e] at hs3
  rw [← hw3] at h3 ⊢
  have HR3 := hid hR
  have H3 := hid h3
  have HS3 := hid hs3
  have HO3 := hid ho3
  have hN3 : N3 + 33554432 ≤ 1099511527776 := by omega
  clear hR h3 hs3 ho3 hw3 hB3 hd3 hN3e z5 f5 hk8 hw6 HRa HOA Hrsa AN H5
 case' inr.inr =>
  have b2 : (k != B.k) = true := by simp [hk]
  have hR := HR.out
  rw [if_neg hk] at hR
  have z1 := (rbk_cells H2.out.bk).c1
  have z4 := (rbk_cells H2.out.bk).c4
  have z0 : w2.drew.cell? ⟨rb, 0, none⟩ = some (.pointer (some ⟨rd, 0, none⟩)) := (rbk_cells (show w2.drew.heap[rb]? = _ from H2.out.bk)).c0
  rw [hop] at z4
  obtain ⟨Z1, hZ1⟩ : ∃ Z1, Z1 = writeM d 0 0 lidL := ⟨_, rfl⟩
  obtain ⟨Z2, hZ2⟩ : ∃ Z2, Z2 = syncM Z1.2 0 := ⟨_, rfl⟩
  have hz1s : Z1.2.Small (N + 32768) := by rw [hZ1]; exact (write_small HS.out).mono (by omega)
  have hz2s : Z2.2.Small (N + 65536) := by rw [hZ2]; exact (sync_small hz1s).mono (by omega)
  have hlid : blidM B d = if Z1.1 ≠ 0 then (Z1.1, B, Z1.2) else if Z2.1 ≠ 0 then (Z2.1, B, Z2.2) else (0, { B with opn := false }, Z2.2) := by
   unfold blidM
   rw [if_pos hop, seq_two']
   show (if (if (writeM d 0 0 lidL).1 ≠ 0 then writeM d 0 0 lidL else if (syncM (writeM d 0 0 lidL).2 0).1 ≠ 0 then syncM (writeM d 0 0 lidL).2 0 else (0, (syncM (writeM d 0 0 lidL).2 0).2)).1 ≠ 0 then _ else _) = _
   rw [← hZ1, ← hZ2]
   by_cases e1 : Z1.1 ≠ 0
   ·simp only [if_pos e1]
   ·simp only [if_neg e1]
    by_cases e2 : Z2.1 ≠ 0
    ·simp only [if_pos e2]
    ·simp only [if_neg e2, ne_eq, not_true_eq_false, if_false]
  have LW := fun (W1 : World) (hx : RkX w W1 rd d X) => rx_write hx 0 0 lidL (HS.out.mono (by omega)) (by decide)
  have LS := fun (W1 : World) (hx : RkX w W1 rd Z1.2 X) => rx_sync hx 0 (hz1s.mono (by omega))
  simp only [← hZ1] at LW
  simp only [← hZ2] at LS
  rw [hlid] at hR
  have HRl := hid hR
  have HLW := hid LW
  have HLS := hid LS
  have HZS := hid hz2s
  have LID := hid (fun W => rlid_any W)
  obtain ⟨ll, hll⟩ : ∃ ll, ll = lidL := ⟨_, rfl⟩
  rw [← hll] at HLW LID
  clear hR hk hop hlid hZ1 hZ2 hz1s hz2s LW LS hll
  go_upto_region 6 with fail
  clear z1 z4
  refine wp_region_held_drew (S := fun W2 => W2.cell? ⟨rb, 0, none⟩ = some (.pointer (some ⟨rd, 0, none⟩))) (by kernel_rfl) z0 (fun hHeld => ?_)
  clear z0
  refine ht 0 hHeld ?_
  refine ht 1 hHeld ?_
  refine ht 2 hHeld ?_
  refine ht 3 hHeld ?_
  refine held_one 4 (by kernel_rfl) rfl (fun K hK => ?_)
  go_simp
  refine (LID.out _).mono ?_
  rintro e w4 ⟨rfl, hb⟩
  have h4 := (H2.out.call (H2.out.rx.below ((Below.refl _ w2).drew)) (fun _ _ => rfl))
  have h4 := h4.call (h4.rx.below hb) (fun j hj => hb.block j (h4.rx.xlt j hj))
  have H4 := hid h4
  have z0 := (rbk_cells h4.bk).c0
  clear hb h4
  try dsimp only
  refine hK.out _ _ (z0) (fun hHeld => ?_)
  clear hK K
  try simp only [Act.put, zl0, zl1, zl2]
  clear z0
  refine held_one 5 (by kernel_rfl) rfl (fun K hK => ?_)
  go_simp
  refine (HLW.out _ H4.out.rx).mono ?_
  rintro e w5 ⟨rfl, hx, hkk⟩
  have h5 := H4.out.call hx hkk
  have H5 := hid h5
  have z0 := (rbk_cells h5.bk).c0
  clear hx hkk h5
  try dsimp only
  refine hK.out _ _ (z0) (fun hHeld => ?_)
  clear hK K
  try simp only [Act.put, zl0, zl1, zl2]
  clear z0
  refine ht 6 hHeld ?_
  clear hHeld
  refine wpAnyH_done (by kernel_rfl) ?_ _
  have hR := HRl.out
  obtain ⟨z1, hz1⟩ : ∃ z1, z1 = Z1.1 := ⟨_, rfl⟩
  rw [← hz1] at hR ⊢
  clear hz1
  by_cases hz0 : z1 = 0
  rotate_left
  ·have b3 : (z1 != 0) = true := by simp [hz0]
   rw [if_pos hz0, if_pos (show (z1, B, Z1.2).1 ≠ 0 from hz0)] at hR
   have HR := hid hR
   clear hR hz0
   go_wp2_with fail
   go_ret
   rw [HR.out]
   exact ⟨rfl, H5.out⟩
  rw [if_neg (show ¬ z1 ≠ 0 from fun e => e hz0)] at hR
  subst hz0
  have HRm := hid hR
  have z0 := (rbk_cells H5.out.bk).c0
  clear hR
  go_upto_region 10 with (first
   | (go_at_call 52; refine (HLS.out _ H5.out.rx).mono ?_; rintro e w6 ⟨rfl, hx, hkk⟩; have H6 := hid (H5.out.call hx hkk); clear hx hkk)
   | go_in)
  clear z0
  have hR := HRm.out
  obtain ⟨z2, hz2⟩ : ∃ z2, z2 = Z2.1 := ⟨_, rfl⟩
  rw [← hz2] at hR ⊢
  clear hz2
  by_cases hz0 : z2 = 0
  rotate_left
  ·have b3 : (z2 != 0) = true := by simp [hz0]
   rw [if_pos hz0, if_pos (show (z2, B, Z2.2).1 ≠ 0 from hz0)] at hR
   have HR := hid hR
   clear hR hz0
   go_wp2_with fail
   go_ret
   rw [HR.out]
   exact ⟨rfl, H6.out⟩
  rw [if_neg (show ¬ z2 ≠ 0 from fun e => e hz0), if_neg (show ¬ ((0 : Int), ({ B with opn := false } : Bk), Z2.2).1 ≠ 0 from fun e => e rfl)] at hR
  subst hz0
  dsimp only at hR
  obtain ⟨Bo, hBo⟩ : ∃ Bo : Bk, Bo = { B with opn := false } := ⟨_, rfl⟩
  rw [← hBo] at hR
  have HBo := hid hBo
  have HRn := hid hR
  have f4 := rbk_free H6.out.bk 4
  have z4 := (rbk_cells H6.out.bk).c4
  clear hR hBo
  go_upto_region 13 with fail
  have hk7 := H6.out.bk
  unfold rbkObj at hk7
  have h8 := H6.out.put (B' := Bo) (o := 4) (u := .bool false) ((zd hk7 4 (.bool false)).trans (by rw [HBo.out]; rfl))
  obtain ⟨w8, hw8⟩ : ∃ w8, w8 = w6.setCell ⟨rb, 4, none⟩ (.bool false) := ⟨_, rfl⟩
  rw [← hw8] at h8 ⊢
  have H8 := hid h8
  have hR := HRn.out
  clear hw8 h8 hk7 f4 z4
  obtain ⟨Ba, hBa⟩ : ∃ Ba, Ba = bkAnew p0 g Bo k := ⟨_, rfl⟩
  have AN := HAN.out _ _ _ H8.out
  rw [← hBa] at AN hR
  have AN := hid AN
  have hrsa : Ba.restarts = B.restarts := by rw [hBa, HBo.out]; rfl
  have hw6 : IntKind.i64.wrap (B.restarts + 1) = B.restarts + 1 := IntWalk.i64_in _ (by omega)
  rw [hw6] at hR
  have hoa : BkIn { Ba with restarts := B.restarts + 1 } ∧ ({ Ba with restarts := B.restarts + 1 } : Bk).pages = (L.length : Int) := by
   have h1 := HP1.out
   have h2 := HMy.out
   have h3 := HL1.out
   rw [hBa]
   unfold bkAnew
   refine ⟨⟨by dsimp only; omega, .inr ?_⟩, h1⟩
   dsimp only
   split <;> omega
  have HRa := hid hR
  have HOA := hid hoa
  have Hrsa := hid hrsa
  clear hR hrsa hoa hBa
  go_upto_region 14 with (first
   | (go_at_call 54; refine (AN.out).mono ?_; rintro e w9 ⟨rfl, hx, hb, hkk⟩; have H9 := hid (H8.out.move hx hb hkk); clear hx hb hkk)
   | go_in)
  have z5 := (rbk_cells H9.out.bk).c5
  have f5 := rbk_free H9.out.bk 5
  rw [Hrsa.out] at z5
  go_upto_region 15 with fail
  have hk8 := H9.out.bk
  unfold rbkObj at hk8
  have h3 := H9.out.put (B' := { Ba with restarts := B.restarts + 1 }) (o := 5) (u := .int .i64 (B.restarts + 1)) ((zd hk8 5 (.int .i64 (B.restarts + 1))).trans rfl)
  obtain ⟨w3, hw3⟩ : ∃ w3, w3 = w9.setCell ⟨rb, 5, none⟩ (.int .i64 (B.restarts + 1)) := ⟨_, rfl⟩
  obtain ⟨B3, hB3⟩ : ∃ B3 : Bk, B3 = { Ba with restarts := B.restarts + 1 } := ⟨_, rfl⟩
  obtain ⟨d3, hd3⟩ : ∃ d3, d3 = Z2.2 := ⟨_, rfl⟩
  obtain ⟨N3, hN3e⟩ : ∃ N3, N3 = N + 65536 := ⟨_, rfl⟩
  have hR := HRa.out
  have hs3 := HZS.out
  have ho3 : BkIn B3 ∧ B3.pages = (L.length : Int) := by rw [hB3]; exact HOA.out
  rw [← hB3, ← hd3] at hR h3
  rw [← hd3, ← hN3e] at hs3
  rw [← hw3] at h3 ⊢
  have HR3 := hid hR
  have H3 := hid h3
  have HS3 := hid hs3
  have HO3 := hid ho3
  have hN3 : N3 + 33554432 ≤ 1099511527776 := by omega
  clear hR h3 hs3 ho3 hw3 hB3 hd3 hN3e z5 f5 hk8 hw6 HRa HOA Hrsa AN H9
 all_goals
  clear hb1 hb2 b0 b2 h0' hrs
  go_wp2_with fail
  go_loopw [10] (fun v10 wr => ∃ (i : Nat) (Bi : Bk) (di : Dsk), v10 = .int .i64 (i : Int) ∧ (BkIn Bi ∧ Bi.pages = (L.length : Int)) ∧ (i : Int) + bleftM Bi ≤ 256 ∧ bcopiesM p0 g ds n.toNat B3 d3 = bcopiesM p0 g ds (n.toNat - i) Bi di ∧ di.Small (N3 + 65536 * i) ∧ RpAt w W0 wr rd rb base q cap L di Bi X) (fun v10 _ => 300 - (intOf v10).toNat)
  case atStart => exact ⟨0, B3, d3, rfl, HO3.out, by have := (bleft_in HO3.out.1).2; omega, rfl, HS3.out, H3.out⟩
  case round =>
   obtain ⟨i, Bi, di, rfl, ⟨hok, hpi⟩, hl, heq, hsi, hri⟩ := hrel
   have hlr := bleft_in hok
   have x3 := (rbk_cells hri.bk).c3
   have hin : -9223372036854775808 ≤ n ∧ n ≤ 9223372036854775807 := hn
   by_cases hlt : (i : Int) < n
   ·have d1 : decide ((i : Int) < n) = true := by simpa using hlt
    by_cases hpos : 0 < Bi.next
    ·have d2 : decide (0 < Bi.next) = true := by simpa using hpos
     have PGi := HPG.out _ _ _ (N3 + 65536 * i) hri hok (by omega) (by rw [Hnl.out]; exact hpi) hsi (by omega)
     have hcs := bcopy_small (B := Bi) (p := p0) (g := g) (ds := ds) hsi
     have hco := bcopy_in (p := p0) (g := g) (ds := ds) (d := di) hok (by omega)
     have hex : n.toNat - i = (n.toNat - (i + 1)) + 1 := by omega
     have heq2 : bcopiesM p0 g ds n.toNat B3 d3 = if (bcopyM p0 g ds Bi di).1 ≠ 0 then bcopyM p0 g ds Bi di else bcopiesM p0 g ds (n.toNat - (i + 1)) (bcopyM p0 g ds Bi di).2.1 (bcopyM p0 g ds Bi di).2.2 := by
      rw [heq, hex]
      show (if Bi.next ≤ 0 then _ else _) = _
      rw [if_neg (by omega)]
     obtain ⟨Z, hZ⟩ : ∃ Z, Z = bcopyM p0 g ds Bi di := ⟨_, rfl⟩
     rw [← hZ] at PGi hcs hco heq2
     have PGi := hid PGi
     have HCS := hid hcs
     have HCO := hid hco
     have HEQ := hid heq2
     have Hok := hid hok
     have Hpi := hid hpi
     have e3 : ((i + 1 : Nat) : Int) = (i : Int) + 1 := by omega
     have hwi : IntKind.i64.wrap ((i : Int) + 1) = (i : Int) + 1 := IntWalk.i64_in _ (by omega)
     clear hcs hco heq2 heq hZ hri hok hsi hex hin hpi
     go_upto_region 19 with (first
      | (go_at_call 57; refine (PGi.out).mono ?_; rintro e w6 ⟨rfl, hx⟩; have H6 := hid hx; clear hx)
      | go_in)
     by_cases hz : Z.1 = 0
     ·have b3 : (Z.1 != 0) = false := by simp [hz]
      obtain ⟨o1, o2, o3, -⟩ := HCO.out hz
      have hEQ := HEQ.out
      rw [if_neg (by simpa using hz)] at hEQ
      replace HEQ := hid hEQ
      have O1 := hid o1
      have O2 := hid o2
      have O3 := hid (o3.trans Hpi.out)
      clear o1 o2 o3 hEQ hz x3
      go_wp2_with fail
      go_roundw
      case rel => exact ⟨i + 1, Z.2.1, Z.2.2, by simp, ⟨O1.out, O3.out⟩, by have := O2.out; omega, HEQ.out, by have := HCS.out; rwa [show N3 + 65536 * (i + 1) = N3 + 65536 * i + 65536 by omega], H6.out⟩
      case measure => (simp [intOf]) <;> omega
     ·have b3 : (Z.1 != 0) = true := by simp [hz]
      have hEQ := HEQ.out
      rw [if_pos hz] at hEQ
      replace HEQ := hid hEQ
      clear hEQ hz x3
      go_wp2_with fail
      go_ret
      rw [HR3.out, HEQ.out]
      exact ⟨rfl, H6.out⟩
    ·have d2 : decide (0 < Bi.next) = false := by simpa using hpos
     have hfin : bcopiesM p0 g ds n.toNat B3 d3 = (0, Bi, di) := by
      rw [heq]
      cases n.toNat - i with
      | zero => rfl
      | succ m =>
       show (if Bi.next ≤ 0 then _ else _) = _
       rw [if_pos (by omega)]
     have HRI := hid hri
     have HFI := hid hfin
     have hle : Bi.next ≤ 0 := by omega
     clear hfin heq hri hsi hok hin hpi
     go_wp2_with fail
     go_ret
     rw [HR3.out, HFI.out]
     exact ⟨rfl, HRI.out⟩
   ·have d1 : decide ((i : Int) < n) = false := by simpa using hlt
    have hfin : bcopiesM p0 g ds n.toNat B3 d3 = (0, Bi, di) := by
     rw [heq, show n.toNat - i = 0 by omega]
     rfl
    have HRI := hid hri
    have HFI := hid hfin
    have hle : n ≤ (i : Int) := by omega
    clear hfin heq hri hsi hok hin hpi
    go_wp2_with fail
    go_ret
    rw [HR3.out, HFI.out]
    exact ⟨rfl, HRI.out⟩
end
end Go.Proofs.YtfkcmgbpgefnnaaGreat
