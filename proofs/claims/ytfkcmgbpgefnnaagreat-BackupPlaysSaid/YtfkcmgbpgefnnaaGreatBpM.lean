/- The law BackupPlays, walked. -/
import Derived.Test.YtfkcmgbpgefnnaaGreatBpN
import Derived.Deep.CutBlock
import Derived.BigQuiet
set_option linter.unusedVariables false
set_option linter.unusedSimpArgs false
namespace Go.Proofs.YtfkcmgbpgefnnaaGreat
open Go.RowKit Go.Maps
set_option maxRecDepth 20000
theorem keepAt_upP {w W : World} {v : Value} {ks : List Bool} (h : KeepAt w v ks) (hk : ∀ g, keepBlk v ks = some g → g < w.heap.size) (hb : Below w.heap.size w W) : KeepAt W v ks := h.keep fun g hg => hb.block g (hk g hg)
def Agree (ob ow : Option (Nat × Bk)) : Prop := (ob = none ∧ ow = none) ∨ ∃ bb rb B, ob = some (bb, B) ∧ ow = some (rb, B)
set_option maxHeartbeats 16000000 in
theorem backupPlays_any (w : World) (v1 : Value) (acts : List AOp) (h1 : PActsIn w v1 acts) : Calls Tryz.prog 3 #[v1] w fun e w' => e = .returned (.bool true) ∧ Below w.heap.size w w' := by
 obtain ⟨ao1, cap1, rfl, -⟩ := id h1.at'
 have WK := hid (fun W => bkworks_any W)
 have FR := hid (fun W => fresh_px W)
 have NW := hid (fun W => mk_new W)
 obtain ⟨n, hn⟩ : ∃ n, n = acts.length := ⟨_, rfl⟩
 have hl1 := h1.len
 have HA := hid h1
 have HN := hid hn
 have HV := hid (fun (W : World) (hb : Below w.heap.size w W) => pheavy_any W _ acts (h1.at'.keep hb) hl1)
 rw [← hn] at HV hl1 ⊢
 clear h1 hn
 go_enter Tryz.func3, Tryz.ntmps3
 go_upto_region 3 with (first
  | (go_at_call 4; refine (WK.out _).mono ?_; rintro e w1 ⟨rfl, hb1⟩; have HB1 := hid hb1; clear hb1)
  | go_in)
 have HV1 := hid (HV.out w1 HB1.out)
 go_upto_region 5 with (first
  | (go_at_call 5; refine (HV1.out).mono ?_; rintro e w2 ⟨rv, rfl, hr, hb2⟩; have HB2 := hid (then_below HB1.out hb2); have HR := hid hr; clear hb2 hr)
  | go_in)
 ·go_ret
  exact ⟨rfl, HB2.out⟩
 have HL := hid (HR.out (by first | assumption | exact Bool.eq_false_iff.2 (by assumption)))
 have HKB := hid (fun (x : AOp) (hx : x ∈ acts) => (show PActOk w2 x from ⟨(HA.out.each x hx).n, (HA.out.each x hx).pages, keepAt_upP (HA.out.each x hx).keep (HA.out.each x hx).blk HB2.out, fun q e => Nat.lt_of_lt_of_le ((HA.out.each x hx).blk q e) HB2.out.size, (HA.out.each x hx).len⟩))
 clear HR HV HV1 WK
 go_upto_region 9 with (first
  | (go_at_call 6; refine (FR.out _).mono ?_; rintro e w3 ⟨pb, l, b, rfl, hp⟩; have HP3 := hid hp; clear hp FR)
  | (go_at_call 7; refine (first_turn HP3.out).mono ?_; rintro e w4 ⟨rfl, g0, ds0, h0, M0, hp, hD, hh, hc, hss⟩; have HP4 := hid hp; have HD4 := hid hD; have HH4 := hid hh; have HC4 := hid hc; have HS4 := hid hss; clear hp hD hh hc hss HP3)
  | (go_at_call 8; refine (NW.out _).mono ?_; rintro e w5 ⟨db, rfl, hd⟩; have HD5 := hid hd; clear hd NW)
  | (go_at_call 9; refine (pl_new HP4.out HD5.out _ rfl).mono ?_; rintro e w6 ⟨rd, rfl, hb⟩; have HI := hid (pl_init hb HD4.out HH4.out HC4.out HS4.out); clear hb HP4 HD5 HD4 HH4 HC4 HS4)
  | go_in)
 have hst0 := HI.out.start (by decide)
 have hse := start_eq HI.out rfl
 rw [pl_new_closed, if_neg (by decide), if_neg (by rw [pl_new_steps]; decide)] at hse
 rw [hse] at hst0
 have HST0 := hid hst0
 clear hst0 hse
 go_upto_region 10 with (first
  | (go_at_call 10; refine (HST0.out).mono ?_; rintro e w7 hg7; rcases hg7 with ⟨hg7, -⟩ | ⟨bb0, B0, hg7, rfl, hs7⟩; (cases hg7); injection hg7 with hg7; subst hg7; have HS7 := hid hs7; have SA := hid hs7.state; clear hs7 HST0)
  | go_in)
 go_upto_region 11 with (first
  | (go_at_call 11; refine (SA.out).mono ?_; rintro e w8 ⟨vm, rfl, hs8⟩; have HS8 := hid hs8; have RS := hid (hs8.rstart (by decide)); clear hs8 SA)
  | go_in)
 go_upto_region 12 with (first
  | (go_at_call 12; refine (RS.out).mono ?_; rintro e w9 hg9; rcases hg9 with ⟨hg9, -⟩ | ⟨-, rb0, rfl, hs9⟩; (exact absurd pl_new_steps hg9); have HS9 := hid hs9; clear hs9 RS)
  | go_in)
 go_wp2_with fail
 have hz : 0 ≤ n := Nat.zero_le _
 go_loopw [7, 8, 9, 10, 11, 62] (fun v7 v8 v9 v10 v11 v62 wr => ∃ (i : Nat) (g : Lg) (ds : Dsk) (h : Hdr) (M : List (List UInt8)) (d : Dsk) (ob ow : Option (Nat × Bk)) (e8 e11 : Int) (X : Nat → Prop), i ≤ n ∧ v62 = .int .i64 (i : Int) ∧ v7 = pV ob ∧ v10 = pV ow ∧ v8 = .int .i64 e8 ∧ v11 = .int .i64 e11 ∧ Agree ob ow ∧ PlSt w2 wr pb l b db rd v9 (hdrPg h :: M) ob ow (4 * i + 2) g ds h M d d X) (fun _ _ _ _ _ v62 _ => n - (intOf v62).toNat)
 case atStart => exact ⟨0, _, _, _, _, _, some (bb0, _), some (rb0, _), 0, 0, _, Nat.zero_le _, rfl, rfl, rfl, rfl, rfl, .inr ⟨bb0, rb0, _, rfl, rfl⟩, HS9.out⟩
 case round =>
  obtain ⟨i, g, ds, h, M, d, ob, ow, e8, e11, X, hi, rfl, rfl, rfl, rfl, rfl, hag, hst⟩ := hrel
  have HW := hid hst
  have HAG := hid hag
  by_cases hlt : i < n
  ·have hil : i < acts.length := by have := HN.out; omega
   obtain ⟨ao, cap, e1, hc⟩ := (HA.out.at'.keep HB2.out).keep (hst.bel.mono HB2.out.size)
   obtain ⟨q, o, e2, hq, hs, hcell⟩ := hc i hil
   injection e1 with e1a e1b e1c
   subst e1a
   subst e1c
   clear e1b
   subst e2
   have hok := HKB.out acts[i] (List.getElem_mem hil)
   have hk4 := HL.out.2 acts[i] (List.getElem_mem hil)
   obtain ⟨y, hy⟩ : ∃ y, y = acts[i] := ⟨_, rfl⟩
   rw [← hy] at hcell hok hk4
   have c0 := hcell 0 _ rfl
   have c1 := hcell 1 _ rfl
   have c2 := hcell 2 _ rfl
   have c3 := hcell 3 _ rfl
   have c4 := hcell 4 _ rfl
   rw [Nat.add_zero] at c0
   have hw : IntKind.i64.wrap ((i : Int) + 1) = (i : Int) + 1 := IntWalk.i64_in _ (by omega)
   have hn100 : n ≤ 100 := by have := HN.out; have := HL.out.1; omega
   have HOK := hid hok
   have HK4 := hid hk4
   have HBR := hid hst.bel
   clear hy hcell hc hst hok hk4 hag HS7 HS8 HS9 HI
   go_upto_region 17 with fail
   have hxb := ze wr (.cells #[.int .i64 y.kind, .int .i64 y.n, .int .i64 y.pages, .int .u8 (y.x.toNat : Int), .slice y.ka y.keep.length y.kcap] 46)
   have hba := (Below.refl wr.heap.size wr).alloc (Nat.le_refl _) (.cells #[.int .i64 y.kind, .int .i64 y.n, .int .i64 y.pages, .int .u8 (y.x.toNat : Int), .slice y.ka y.keep.length y.kcap] 46)
   have hbe := HW.out.beside hba
   obtain ⟨xb, hX⟩ : ∃ xb, xb = wr.heap.size := ⟨_, rfl⟩
   obtain ⟨wa, hwa⟩ : ∃ wa, wa = wr.alloc (.cells #[.int .i64 y.kind, .int .i64 y.n, .int .i64 y.pages, .int .u8 (y.x.toNat : Int), .slice y.ka y.keep.length y.kcap] 46) := ⟨_, rfl⟩
   have HXN := hid (fun bb B (e : ob = some (bb, B)) => (show xb ≠ bb from fun e2 => by have := HW.out.bp.xlt bb (HW.out.bk bb B e).1; omega))
   have HXM := hid (fun bb B (e : ow = some (bb, B)) => (show xb ≠ bb from fun e2 => by have := HW.out.bp.xlt bb (HW.out.wk bb B e).1; omega))
   rw [← hwa, ← hX] at hxb hbe
   rw [← hwa] at hba
   rw [← hwa, ← hX]
   have HXX := hid (show XWp X xb wa.heap.size xb from .inr ⟨Nat.le_refl _, zc hxb⟩)
   obtain ⟨X2, hX2⟩ : ∃ X2, X2 = XWp X xb wa.heap.size := ⟨_, rfl⟩
   rw [← hX2] at hbe HXX
   have HBA := hid hbe
   have hcl : ∀ W2 : World, W2.heap[xb]? = wa.heap[xb]? → W2.cell? ⟨xb, 0, none⟩ = some (.int .i64 y.kind) ∧ W2.cell? ⟨xb, 1, none⟩ = some (.int .i64 y.n) ∧ W2.cell? ⟨xb, 2, none⟩ = some (.int .i64 y.pages) ∧ W2.cell? ⟨xb, 3, none⟩ = some (.int .u8 (y.x.toNat : Int)) ∧ W2.cell? ⟨xb, 4, none⟩ = some (.slice y.ka y.keep.length y.kcap) := fun W2 e =>
    ⟨(za (e.trans hxb) 0).trans rfl, (za (e.trans hxb) 1).trans rfl, (za (e.trans hxb) 2).trans rfl, (za (e.trans hxb) 3).trans rfl, (za (e.trans hxb) 4).trans rfl⟩
   have HCL := hid hcl
   have HXL := hid (zc hxb)
   obtain ⟨x0, x1, x2, x3, x4⟩ := hcl wa rfl
   clear hxb hba hwa hX hcl c0 c1 c2 c3 c4 hbe hX2 HW
   go_upto_block 2 with fail
   go_cut [7, 8, 9, 10, 11] (fun v7 v8 v9 v10 v11 wx => ∃ (g : Lg) (ds : Dsk) (h : Hdr) (M : List (List UInt8)) (d : Dsk) (ob ow : Option (Nat × Bk)) (e8 e11 : Int) (X : Nat → Prop), v7 = pV ob ∧ v10 = pV ow ∧ v8 = .int .i64 e8 ∧ v11 = .int .i64 e11 ∧ Agree ob ow ∧ PlSt w2 wx pb l b db rd v9 (hdrPg h :: M) ob ow (4 * i + 6) g ds h M d d X)
   case first =>
    have hi100 : i ≤ 100 := by omega
    by_cases k0 : y.kind = 0
    ·as_aux_lemma =>
      have e0 : (y.kind == 0) = true := by simp [k0]
      clear k0
      go_upto_region 19 with fail
      refine wp_region_held_drew (S := fun W2 => W2.cell? ⟨xb, 1, none⟩ = some (.int .i64 y.n) ∧ W2.cell? ⟨xb, 2, none⟩ = some (.int .i64 y.pages) ∧ W2.cell? ⟨xb, 3, none⟩ = some (.int .u8 (y.x.toNat : Int))) (by kernel_rfl) ⟨x1, x2, x3⟩ (fun hHeld => ?_)
      refine ht 0 hHeld ?_
      refine ht 1 hHeld ?_
      refine ht 2 hHeld ?_
      refine ht 5 hHeld ?_
      refine ht 6 hHeld ?_
      refine ht 7 hHeld ?_
      refine ht 8 hHeld ?_
      refine held_one 3 (by kernel_rfl) rfl (fun K hK => ?_)
      go_simp
      refine (around_any y.pages HOK.out.pages _).mono ?_
      rintro e w9 ⟨r9, rfl, hr9, hw9⟩
      obtain rfl := hw9.symm
      have hwr : IntKind.i64.wrap (1 + (r9 : Int)) = 1 + (r9 : Int) := IntWalk.i64_in _ (by omega)
      try dsimp only
      refine hK.out _ _ (⟨x1, x2, x3⟩) (fun hHeld => ?_)
      clear hK K
      try simp only [Act.put, zl0, zl1, zl2]
      refine ht 4 hHeld ?_
      have TN := hid ((HBA.out.below ((Below.refl _ wa).drew)).turn (by omega) r9 hr9 y.n HOK.out.n y.x)
      refine held_one 9 (by kernel_rfl) rfl (fun K hK => ?_)
      go_simp
      refine (TN.out).mono ?_
      rintro e w10 ⟨rfl, ⟨g', ds', h', M', hb10⟩, hk10⟩
      have hs10 := HCL.out w10 (hk10 xb HXX.out)
      have SA := hid hb10.state
      clear hb10 hk10
      try dsimp only
      refine hK.out _ _ (⟨hs10.2.1, hs10.2.2.1, hs10.2.2.2.1⟩) (fun hHeld => ?_)
      clear hK K
      try simp only [Act.put, zl0, zl1, zl2]
      clear hs10
      refine ht 10 hHeld ?_
      clear hHeld
      refine wpAnyH_done (by kernel_rfl) ?_ _
      clear x0 x1 x2 x3 x4 hwr
      go_wp2_with (first
       | (go_at_call 11; refine (SA.out).mono ?_; rintro e w11 ⟨vm2, rfl, hs11⟩; have HS11 := hid hs11; clear hs11 SA)
       | go_in)
      go_meet
      exact ⟨_, _, _, _, _, ob, ow, _, _, _, rfl, rfl, rfl, rfl, HAG.out, HS11.out.more (by omega)⟩
    have e0 : (y.kind == 0) = false := by simp [k0]
    by_cases k1 : y.kind = 1
    ·as_aux_lemma =>
      have e1 : (y.kind == 1) = true := by simp [k1]
      clear k0 k1
      rcases HAG.out with ⟨rfl, rfl⟩ | ⟨bb, rb, B, rfl, rfl⟩
      ·rw [show pV (none : Option (Nat × Bk)) = Value.pointer none from rfl]
       clear x1 x2 x3 x4
       go_wp2_with fail
       go_roundw
       case rel => exact ⟨i + 1, _, _, _, _, _, none, none, _, _, _, hlt, by simp, rfl, rfl, rfl, rfl, .inl ⟨rfl, rfl⟩, HBA.out.more (by omega)⟩
       case measure => (simp [intOf]) <;> omega
      ·rw [show pV (some (bb, B)) = Value.pointer (some ⟨bb, 0, none⟩) from rfl, show pV (some (rb, B)) = Value.pointer (some ⟨rb, 0, none⟩) from rfl]
       have HN1 := hid (HXN.out bb B rfl)
       have HN2 := hid (HXM.out rb B rfl)
       go_upto_region 26 with fail
       refine wp_region_held_drew (S := fun W2 => W2.cell? ⟨xb, 1, none⟩ = some (.int .i64 y.n)) (by kernel_rfl) x1 (fun hHeld => ?_)
       clear x0 x1 x2 x3 x4
       refine ht 0 hHeld ?_
       refine ht 1 hHeld ?_
       refine ht 2 hHeld ?_
       refine ht 4 hHeld ?_
       refine ht 5 hHeld ?_
       refine ht 6 hHeld ?_
       refine ht 7 hHeld ?_
       have ST := hid ((HBA.out.below ((Below.refl _ wa).drew)).step (by omega) y.n HOK.out.n)
       refine held_one 3 (by kernel_rfl) rfl (fun K hK => ?_)
       go_simp
       refine (ST.out).mono ?_
       rintro e w9 ⟨rfl, h9, hk9⟩
       have hs9 := (HCL.out w9 (hk9 xb HXX.out HN1.out)).2.1
       have RS := hid (h9.rstep (by omega) y.n HOK.out.n)
       have HK9 := hid (hk9 xb HXX.out HN1.out)
       clear h9 hk9 ST
       try dsimp only
       refine hK.out _ _ (hs9) (fun hHeld => ?_)
       clear hK K
       try simp only [Act.put, zl0, zl1, zl2]
       clear hs9
       refine held_one 8 (by kernel_rfl) rfl (fun K hK => ?_)
       go_simp
       refine (RS.out).mono ?_
       rintro e w10 ⟨rfl, h10, hk10⟩
       have hs10 := (HCL.out w10 ((hk10 xb HXX.out HN2.out).trans HK9.out)).2.1
       have H10 := hid h10
       clear h10 hk10 RS
       try dsimp only
       refine hK.out _ _ (hs10) (fun hHeld => ?_)
       clear hK K
       try simp only [Act.put, zl0, zl1, zl2]
       clear hs10
       refine ht 9 hHeld ?_
       clear hHeld
       refine wpAnyH_done (by kernel_rfl) ?_ _
       go_wp2_with fail
       go_meet
       exact ⟨_, _, _, _, _, some (bb, _), some (rb, _), _, _, _, rfl, rfl, rfl, rfl, .inr ⟨bb, rb, _, rfl, rfl⟩, H10.out.more (by omega)⟩
    have e1 : (y.kind == 1) = false := by simp [k1]
    by_cases k2 : y.kind = 2
    ·as_aux_lemma =>
      have e2 : (y.kind == 2) = true := by simp [k2]
      clear k0 k1 k2
      go_upto_region 29 with fail
      refine wp_region_held_drew (S := fun W2 => W2.cell? ⟨xb, 1, none⟩ = some (.int .i64 y.n)) (by kernel_rfl) x1 (fun hHeld => ?_)
      clear x0 x1 x2 x3 x4
      refine ht 0 hHeld ?_
      refine ht 1 hHeld ?_
      refine ht 2 hHeld ?_
      refine ht 4 hHeld ?_
      refine ht 5 hHeld ?_
      refine ht 6 hHeld ?_
      have ST := hid ((HBA.out.below ((Below.refl _ wa).drew)).arm (by omega) y.n 30)
      refine held_one 3 (by kernel_rfl) rfl (fun K hK => ?_)
      go_simp
      refine (ST.out).mono ?_
      rintro e w9 ⟨rfl, h9, hk9⟩
      have hs9 := (HCL.out w9 (hk9 xb HXX.out)).2.1
      have RS := hid (h9.rarm (by omega) y.n 30)
      have HK9 := hid (hk9 xb HXX.out)
      clear h9 hk9 ST
      try dsimp only
      refine hK.out _ _ (hs9) (fun hHeld => ?_)
      clear hK K
      try simp only [Act.put, zl0, zl1, zl2]
      clear hs9
      refine held_one 7 (by kernel_rfl) rfl (fun K hK => ?_)
      go_simp
      refine (RS.out).mono ?_
      rintro e w10 ⟨rfl, h10, hk10⟩
      have hs10 := (HCL.out w10 ((hk10 xb HXX.out).trans HK9.out)).2.1
      have H10 := hid h10
      clear h10 hk10 RS
      try dsimp only
      refine hK.out _ _ (hs10) (fun hHeld => ?_)
      clear hK K
      try simp only [Act.put, zl0, zl1, zl2]
      clear hs10
      refine ht 8 hHeld ?_
      clear hHeld
      refine wpAnyH_done (by kernel_rfl) ?_ _
      go_wp2_with fail
      go_meet
      exact ⟨_, _, _, _, _, ob, ow, _, _, _, rfl, rfl, rfl, rfl, HAG.out, H10.out.more (by omega)⟩
    have e2 : (y.kind == 2) = false := by simp [k2]
    by_cases k3 : y.kind = 3
    ·as_aux_lemma =>
      have e3 : (y.kind == 3) = true := by simp [k3]
      clear k0 k1 k2 k3
      go_upto_region 32 with fail
      refine wp_region_held_drew (S := fun W2 => W2.cell? ⟨xb, 1, none⟩ = some (.int .i64 y.n)) (by kernel_rfl) x1 (fun hHeld => ?_)
      clear x0 x1 x2 x3 x4
      refine ht 0 hHeld ?_
      refine ht 1 hHeld ?_
      refine ht 2 hHeld ?_
      refine ht 4 hHeld ?_
      refine ht 5 hHeld ?_
      refine ht 6 hHeld ?_
      have ST := hid ((HBA.out.below ((Below.refl _ wa).drew)).power (by omega) y.n)
      refine held_one 3 (by kernel_rfl) rfl (fun K hK => ?_)
      go_simp
      refine (ST.out).mono ?_
      rintro e w9 ⟨rfl, h9, hk9⟩
      have hs9 := (HCL.out w9 (hk9 xb HXX.out)).2.1
      have RS := hid (h9.rpower (by omega) y.n)
      have HK9 := hid (hk9 xb HXX.out)
      clear h9 hk9 ST
      try dsimp only
      refine hK.out _ _ (hs9) (fun hHeld => ?_)
      clear hK K
      try simp only [Act.put, zl0, zl1, zl2]
      clear hs9
      refine held_one 7 (by kernel_rfl) rfl (fun K hK => ?_)
      go_simp
      refine (RS.out).mono ?_
      rintro e w10 ⟨rfl, h10, hk10⟩
      have hs10 := (HCL.out w10 ((hk10 xb HXX.out).trans HK9.out)).2.1
      have H10 := hid h10
      clear h10 hk10 RS
      try dsimp only
      refine hK.out _ _ (hs10) (fun hHeld => ?_)
      clear hK K
      try simp only [Act.put, zl0, zl1, zl2]
      clear hs10
      refine ht 8 hHeld ?_
      clear hHeld
      refine wpAnyH_done (by kernel_rfl) ?_ _
      go_wp2_with fail
      go_meet
      exact ⟨_, _, _, _, _, ob, ow, _, _, _, rfl, rfl, rfl, rfl, HAG.out, H10.out.more (by omega)⟩
    have e3 : (y.kind == 3) = false := by simp [k3]
    by_cases k4 : y.kind = 4
    ·as_aux_lemma =>
      have e4 : (y.kind == 4) = true := by simp [k4]
      clear k0 k1 k2 k3 k4
      have hs0 := HBA.out.noB
      have hkl : y.keep.length ≤ 1099511627776 := by have := HK4.out; omega
      have RC := hid (hs0.rcrash (by omega) (.slice y.ka y.keep.length y.kcap) y.keep (keepAt_upP HOK.out.keep HOK.out.blk HBA.out.bel) HOK.out.blk hkl)
      have HKL := hid hkl
      clear hs0 hkl
      go_upto_region 36 with (first
       | (go_at_call 20; refine (RC.out).mono ?_; rintro e w9 ⟨rfl, h9, hk9⟩; have H9 := hid h9; have HK9 := hid (hk9 xb HXX.out); clear h9 hk9 RC)
       | go_in)
      have y4 := (HCL.out w9 HK9.out).2.2.2.2
      have DC := hid (H9.out.crash (by omega) (.slice y.ka y.keep.length y.kcap) y.keep (keepAt_upP HOK.out.keep HOK.out.blk H9.out.bel) HOK.out.blk HKL.out)
      obtain ⟨d1, hd1⟩ : ∃ d1, d1 = crashM d y.keep := ⟨_, rfl⟩
      have Hd1 := hid hd1
      have hoff : d1.off = false := by rw [hd1]; rfl
      clear hd1 x1 x2 x3 x4
      go_upto_region 38 with (first
       | (go_at_call 21; refine (DC.out).mono ?_; rintro e w10 ⟨rfl, h10, -⟩; rw [← Hd1.out] at h10; have H10 := hid h10; clear h10 DC)
       | go_in)
      have OP := hid (H10.out.opened hoff)
      have hse := start_eq H10.out hoff
      obtain ⟨isv, hisv⟩ : ∃ isv, isv = (openedM d1).isSome := ⟨_, rfl⟩
      obtain ⟨Q, hQ⟩ : ∃ Q, Q = bseqM bstepsM d1 := ⟨_, rfl⟩
      have OP2 := OP.out
      rw [← hisv] at OP2 hse
      rw [← hQ] at hse
      replace OP := hid OP2
      have HSE := hid hse
      have HQ := hid hQ
      clear OP2 hisv hse hQ y4 hoff
      cases isv with
      | true =>
       go_upto_region 39 with (first
        | (go_at_call 22; refine (OP.out).mono ?_; rintro e w11 ⟨v14, rfl, h11⟩; have hst11 := h11.start (by omega); rw [HSE.out, if_pos rfl] at hst11; have ST := hid hst11; clear h11 hst11 OP)
        | go_in)
       go_wp2_with (first
        | (go_at_call 10; refine (ST.out).mono ?_; rintro e w12 hg12; rcases hg12 with ⟨-, rfl, h12⟩ | ⟨bb, B, hg12, -⟩; rotate_left; (cases hg12); have H12 := hid h12; clear h12 ST)
        | go_in)
       go_roundw
       case rel => exact ⟨i + 1, _, _, _, _, _, none, none, _, _, _, hlt, by simp, rfl, rfl, rfl, rfl, .inl ⟨rfl, rfl⟩, H12.out.more (by omega)⟩
       case measure => (simp [intOf]) <;> omega
      | false =>
       obtain ⟨z, hz⟩ : ∃ z, z = Q.1 := ⟨_, rfl⟩
       have Hz := hid hz
       clear hz
       by_cases hz0 : z = 0
       ·subst hz0
        go_upto_region 39 with (first
         | (go_at_call 22; refine (OP.out).mono ?_; rintro e w11 ⟨v14, rfl, h11⟩; have hst11 := h11.start (by omega); rw [HSE.out, if_neg (by decide), if_neg (fun e => e Hz.out.symm)] at hst11; have ST := hid hst11; clear h11 hst11 OP)
         | go_in)
        go_upto_region 44 with (first
         | (go_at_call 10; refine (ST.out).mono ?_; rintro e w12 hg12; rcases hg12 with ⟨hg12, -⟩ | ⟨bb, B, hg12, rfl, h12⟩; (cases hg12); injection hg12 with hg12; subst hg12; have RS := hid (h12.rstart (by omega)); clear h12 ST)
         | go_in)
        go_wp2_with (first
         | (go_at_call 12; refine (RS.out).mono ?_; rintro e w13 hg13; rw [← HQ.out] at hg13; rcases hg13 with ⟨hg13, -⟩ | ⟨-, rb, rfl, h13⟩; (exact absurd Hz.out.symm hg13); have H13 := hid h13; clear h13 RS)
         | go_in)
        go_meet
        exact ⟨_, _, _, _, _, some (bb, _), some (rb, _), _, _, _, rfl, rfl, rfl, rfl, .inr ⟨bb, rb, _, rfl, rfl⟩, H13.out.more (by omega)⟩
       ·have hzq : Q.1 ≠ 0 := by rw [← Hz.out]; exact hz0
        have Hzq := hid hzq
        have b9 : (z != z) = false := by simp
        clear hz0 hzq
        go_upto_region 39 with (first
         | (go_at_call 22; refine (OP.out).mono ?_; rintro e w11 ⟨v14, rfl, h11⟩; have hst11 := h11.start (by omega); rw [HSE.out, if_neg (by decide), if_pos Hzq.out] at hst11; have ST := hid hst11; clear h11 hst11 OP)
         | go_in)
        go_upto_region 44 with (first
         | (go_at_call 10; refine (ST.out).mono ?_; rintro e w12 hg12; rcases hg12 with ⟨-, rfl, h12⟩ | ⟨bb, B, hg12, -⟩; rotate_left; (cases hg12); have RS := hid (h12.rstart (by omega)); clear h12 ST)
         | go_in)
        go_wp2_with (first
         | (go_at_call 12; refine (RS.out).mono ?_; rintro e w13 hg13; rw [← HQ.out] at hg13; rcases hg13 with ⟨-, rfl, h13⟩ | ⟨hg13, -⟩; rotate_left; (exact absurd hg13 Hzq.out); have H13 := hid h13; clear h13 RS)
         | go_in)
        go_meet
        exact ⟨_, _, _, _, _, none, none, _, _, _, rfl, rfl, rfl, rfl, .inl ⟨rfl, rfl⟩, H13.out.more (by omega)⟩
    have e4 : (y.kind == 4) = false := by simp [k4]
    by_cases k5 : y.kind = 5
    ·as_aux_lemma =>
      have e5 : (y.kind == 5) = true := by simp [k5]
      have CK := hid (HBA.out.check (by omega))
      clear k0 k1 k2 k3 k4 k5
      go_wp2_with (first
       | (go_at_call 23; refine (CK.out).mono ?_; rintro e w9 ⟨rfl, g9, ds9, h9⟩; have H9 := hid h9; clear h9)
       | go_in)
      go_meet
      exact ⟨_, _, _, _, _, ob, ow, _, _, _, rfl, rfl, rfl, rfl, HAG.out, H9.out.more (by omega)⟩
    have e5 : (y.kind == 5) = false := by simp [k5]
    clear k0 k1 k2 k3 k4 k5
    go_wp2_with fail
    go_meet
    exact ⟨_, _, _, _, _, ob, ow, _, _, _, rfl, rfl, rfl, rfl, HAG.out, HBA.out.more (by omega)⟩
   case rest =>
    as_aux_lemma =>
     obtain ⟨g', ds', h', M', d', ob', ow', e8', e11', X', rfl, rfl, rfl, rfl, hag', hst'⟩ := hcut
     have HS := hid hst'
     have HAG' := hid hag'
     obtain ⟨⟨ga, gcap, q16⟩, q18, q20⟩ := hst'.five
     have OPS := fun n => (hst'.drewN n).ops
     have LOO := fun n => (hst'.drewN n).loose
     have ONN := fun n => (hst'.drewN n).on
     obtain ⟨op, hop⟩ : ∃ op, op = d'.ops := ⟨_, rfl⟩
     obtain ⟨lo, hlo⟩ : ∃ lo, lo = d'.loose.length := ⟨_, rfl⟩
     obtain ⟨of, hof⟩ : ∃ of, of = d'.off := ⟨_, rfl⟩
     rw [← hlo] at q16
     rw [← hop] at q18
     rw [← hof] at q20
     simp only [← hop] at OPS
     simp only [← hlo] at LOO
     simp only [← hof] at ONN
     have OPS := hid OPS
     have LOO := hid LOO
     have ONN := hid ONN
     clear hst' hag' hop hlo hof HBA HXX HCL HXL x0 x1 x2 x3 x4 HOK HK4 HAG HXN HXM
     have hwm : 4 * i + 6 ≤ 4 * (i + 1) + 2 := by omega
     have HWM := hid hwm
     clear hwm
     cases of
     all_goals
      go_upto_region 50 with fail
      go_quiet (first
       | (go_at_call 24; refine Calls.quiet_of_same (OPS.out _))
       | (go_at_call 25; refine Calls.quiet_of_same (LOO.out _))
       | (go_at_call 26; refine Calls.quiet_of_same (ONN.out _)))
      clear q16 q18 q20 OPS LOO ONN
      go_upto_region 52 with fail
      obtain ⟨wd, hwd⟩ : ∃ wd, wd = wc.drewN nq := ⟨_, rfl⟩
      rw [← hwd]
      have hst2 := HS.out.drewN nq
      rw [← hwd] at hst2
      have HS2 := hid hst2
      clear hst2 hwd HS
      rcases HAG'.out with ⟨rfl, rfl⟩ | ⟨bb, rb, B, rfl, rfl⟩
      ·rw [show pV (none : Option (Nat × Bk)) = Value.pointer none from rfl]
       go_quiet (fail)
       go_wp2_with fail
       go_roundw
       case rel => exact ⟨i + 1, g', ds', h', M', d', none, none, e8', e11', X', hlt, by simp, rfl, rfl, rfl, rfl, .inl ⟨rfl, rfl⟩, (HS2.out.drewN _).more HWM.out⟩
       case measure => (simp [intOf]) <;> omega
      ·rw [show pV (some (bb, B)) = Value.pointer (some ⟨bb, 0, none⟩) from rfl, show pV (some (rb, B)) = Value.pointer (some ⟨rb, 0, none⟩) from rfl]
       obtain ⟨-, -, hbk, hbs⟩ := HS2.out.bk bb B rfl
       obtain ⟨-, -, hrk, -⟩ := HS2.out.wk rb B rfl
       have x1 := (rbk_cells hrk).c1
       have x3 := (rbk_cells hrk).c3
       have x5 := (rbk_cells hrk).c5
       have hnr : 0 ≤ B.next ∧ B.next ≤ 300 := by have h1 := hbs.ok.pages; rcases hbs.ok.next with e | e <;> omega
       have hpr : 0 ≤ B.pages ∧ B.pages ≤ 300 := by have h1 := hbs.ok.pages; omega
       have DN := fun n => bdone_any (W := wd.drewN n) (B := B) hbk
       have CM := fun n => bcommits_any (W := wd.drewN n) (B := B) hbk
       have RS := fun n => brestarts_any (W := wd.drewN n) (B := B) hbk
       have LF := fun n => bleft_q (W := wd.drewN n) (B := B) hbk hnr hpr
       have RL := fun n => rleft_q (W := wd.drewN n) (B := B) hrk hnr hpr
       obtain ⟨nx, hnx⟩ : ∃ nx, nx = B.next := ⟨_, rfl⟩
       obtain ⟨kk, hkk⟩ : ∃ kk, kk = B.k := ⟨_, rfl⟩
       obtain ⟨rs, hrs⟩ : ∃ rs, rs = B.restarts := ⟨_, rfl⟩
       obtain ⟨lf, hlf⟩ : ∃ lf, lf = bleftM B := ⟨_, rfl⟩
       simp only [← hnx] at DN
       simp only [← hkk] at CM
       simp only [← hrs] at RS
       simp only [← hlf] at LF RL
       rw [← hkk] at x1
       rw [← hnx] at x3
       rw [← hrs] at x5
       have DN := hid DN
       have CM := hid CM
       have RS := hid RS
       have LF := hid LF
       have RL := hid RL
       clear hbk hbs hrk hnr hpr hnx hkk hrs hlf
       go_quiet (first
        | (go_at_call 27; refine Calls.quiet_of_same (DN.out _))
        | (go_at_call 28; refine Calls.quiet_of_same (CM.out _))
        | (go_at_call 31; refine Calls.quiet_of_same (RS.out _))
        | (go_at_call 29; refine Calls.quiet_of (LF.out _))
        | (go_at_call 30; refine Calls.quiet_of (RL.out _)))
       go_wp2_with fail
       go_roundw
       case rel => exact ⟨i + 1, g', ds', h', M', d', some (bb, B), some (rb, B), e8', e11', X', hlt, by simp, rfl, rfl, rfl, rfl, .inr ⟨bb, rb, B, rfl, rfl⟩, (HS2.out.drewN _).more HWM.out⟩
       case measure => (simp [intOf]) <;> omega
  ·obtain rfl : n = i := by omega
   have hgo : ¬ n < n := Nat.lt_irrefl n
   have HBL := hid hst.bel
   clear hst HW HS9 HS8 HS7 HI
   go_wp2_with fail
   go_ret
   exact ⟨rfl, HB2.out.trans (HBL.out.mono HB2.out.size)⟩
end Go.Proofs.YtfkcmgbpgefnnaaGreat
