/- The law BackupEnds, walked. -/
import Derived.Test.YtenboibbbmeddaaGreatBcD
namespace Go.Proofs.YtenboibbbmeddaaGreat
open Go.RowKit Go.Maps
set_option linter.unusedVariables false
set_option linter.unusedSimpArgs false
set_option maxRecDepth 20000

set_option maxHeartbeats 8000000 in
set_option maxRecDepth 20000 in
theorem backupEnds_any (w : World) (v1 v2 : Value) (acts : List AOp) (sizes : List Int) (h1 : ActsIn w v1 acts) (h2 : IntsIn w v2 sizes) : Calls Tryz.prog 4 #[v1, v2] w fun e w' => e = .returned (.bool true) ∧ Below w.heap.size w w' := by
  obtain ⟨ao1, cap1, rfl, -⟩ := id h1.at'
  obtain ⟨ao2, cap2, rfl, -⟩ := id h2.at'
  have WK := hid (fun W => bkworks_any W)
  have FR := hid (fun W => fresh_px W)
  have NW := hid (fun W => mk_new W)
  obtain ⟨n, hn⟩ : ∃ n, n = acts.length := ⟨_, rfl⟩
  obtain ⟨ns, hns⟩ : ∃ ns, ns = sizes.length := ⟨_, rfl⟩
  have hl1 := h1.len
  have hl2 := h2.len
  have HA := hid h1
  have HI := hid h2
  have HN := hid hn
  have HNS := hid hns
  have HV := hid (fun (W : World) (hb : Below w.heap.size w W) => aheavy_any W _ acts (h1.at'.keep hb) hl1)
  rw [← hn] at HV hl1 ⊢
  rw [← hns] at hl2 ⊢
  clear h1 h2 hn hns
  go_enter Tryz.func4, Tryz.ntmps4
  go_upto_region 3 with (first
    | (go_at_call 9; refine (WK.out _).mono ?_; rintro e w1 ⟨rfl, hb1⟩; have HB1 := hid hb1; clear hb1)
    | go_in)
  have HV1 := hid (HV.out w1 HB1.out)
  by_cases hbig : 60 < ns
  · have d0 : decide (60 < ns) = true := by simpa using hbig
    go_upto_region 4 with (first
      | (go_at_call 19; refine (HV1.out).mono ?_; rintro e w2 ⟨r, rfl, hr, hb2⟩; have HB2 := hid (then_below HB1.out hb2); clear hb2)
      | go_in)
    all_goals
      go_wp2_with fail
      go_ret
      exact ⟨rfl, HB2.out⟩
  have d0 : decide (60 < ns) = false := by simpa using hbig
  go_upto_region 5 with (first
    | (go_at_call 19; refine (HV1.out).mono ?_; rintro e w2 ⟨r, rfl, hr, hb2⟩; have HB2 := hid (then_below HB1.out hb2); have HR := hid hr; clear hb2 hr)
    | go_in)
  · go_ret
    exact ⟨rfl, HB2.out⟩
  have HL := hid (HR.out (by first | assumption | exact Bool.eq_false_iff.2 (by assumption)))
  clear HR HV HV1 hbig d0 WK
  go_upto_region 12 with (first
    | (go_at_call 7; refine (FR.out _).mono ?_; rintro e w3 ⟨pb, l, b, rfl, hp⟩; have HP3 := hid hp; clear hp FR)
    | (go_at_call 11; refine (first_turn HP3.out).mono ?_; rintro e w4 ⟨rfl, g0, ds0, h0, M0, hp, hD, hh, hc, hss⟩; have HP4 := hid hp; have HD4 := hid hD; have HH4 := hid hh; have HC4 := hid hc; have HS4 := hid hss; clear hp hD hh hc hss HP3)
    | (go_at_call 8; refine (NW.out _).mono ?_; rintro e w5 ⟨db, rfl, hd⟩; have HP5 := hid (PgX.pd HP4.out hd); clear hd HP4)
    | (go_at_call 10; refine (bs_start (m := 0) HP5.out HD4.out HH4.out (by have := HC4.out; omega) HS4.out).mono ?_; rintro e w6 ⟨bb, B0, d0, rfl, hbs, hk⟩; have HBS := hid hbs; clear hbs hk HP5 HD4 HH4 HC4 HS4)
    | go_in)
  go_wp2_with fail
  have h1 : 0 ≤ n := Nat.zero_le _
  go_loopw [49] (fun v49 wr => ∃ (i : Nat), i ≤ n ∧ v49 = .int .i64 (i : Int) ∧ ∃ g ds h M B d, BS w2 wr pb l b db bb bb i g ds h M B d) (fun v49 _ => n - (intOf v49).toNat)
  case atStart => exact ⟨0, Nat.zero_le _, rfl, _, _, _, _, _, _, HBS.out⟩
  case round =>
    obtain ⟨i, hi, rfl, g, ds, h, M, B, d, hbs⟩ := hrel
    have HBS := hid hbs
    by_cases hlt : i < n
    · have hil : i < acts.length := by have := HN.out; omega
      obtain ⟨ao, cap, e1, hc⟩ := (HA.out.at'.keep HB2.out).keep (hbs.pd.bel.mono HB2.out.size)
      obtain ⟨q, o, e2, hq, hs, hcell⟩ := hc i hil
      injection e1 with e1a e1b e1c
      subst e1a
      subst e1c
      clear e1b
      subst e2
      obtain ⟨y, hy⟩ : ∃ y, y = acts[i] := ⟨_, rfl⟩
      have hyn : in64 y.n := HA.out.n64 y (by rw [hy]; exact List.getElem_mem hil)
      have hyp : in64 y.pages := HA.out.p64 y (by rw [hy]; exact List.getElem_mem hil)
      rw [← hy] at hcell
      have c0 := hcell 0 _ rfl
      have c1 := hcell 1 _ rfl
      have c2 := hcell 2 _ rfl
      have c3 := hcell 3 _ rfl
      have c4 := hcell 4 _ rfl
      rw [Nat.add_zero] at c0
      have hw : IntKind.i64.wrap ((i : Int) + 1) = (i : Int) + 1 := IntWalk.i64_in _ (by omega)
      have hn100 : n ≤ 100 := by have := HN.out; have := HL.out; omega
      have HYN := hid hyn
      have HYP := hid hyp
      clear hy hcell hc hbs hyn hyp
      go_upto_region 15 with fail
      have hxb := heap_alloc_new wr (.cells #[.int .i64 y.kind, .int .i64 y.n, .int .i64 y.pages, .int .u8 (y.x.toNat : Int), .slice y.ka y.keep.length y.kcap] 49)
      have hba := (Below.refl wr.heap.size wr).alloc (Nat.le_refl _) (.cells #[.int .i64 y.kind, .int .i64 y.n, .int .i64 y.pages, .int .u8 (y.x.toNat : Int), .slice y.ka y.keep.length y.kcap] 49)
      obtain ⟨X, hX⟩ : ∃ X, X = wr.heap.size := ⟨_, rfl⟩
      obtain ⟨wa, hwa⟩ : ∃ wa, wa = wr.alloc (.cells #[.int .i64 y.kind, .int .i64 y.n, .int .i64 y.pages, .int .u8 (y.x.toNat : Int), .slice y.ka y.keep.length y.kcap] 49) := ⟨_, rfl⟩
      rw [← hwa, ← hX] at hxb
      rw [← hwa] at hba
      rw [← hwa, ← hX]
      have HBA := hid (HBS.out.beside hba (y := X) (by omega) (lt_of_block hxb))
      have hcl : ∀ W2 : World, W2.heap[X]? = wa.heap[X]? → W2.cell? ⟨X, 0, none⟩ = some (.int .i64 y.kind) ∧ W2.cell? ⟨X, 1, none⟩ = some (.int .i64 y.n) ∧ W2.cell? ⟨X, 2, none⟩ = some (.int .i64 y.pages) ∧ W2.cell? ⟨X, 3, none⟩ = some (.int .u8 (y.x.toNat : Int)) := fun W2 e =>
        ⟨(cell_of_block (e.trans hxb) 0).trans rfl, (cell_of_block (e.trans hxb) 1).trans rfl, (cell_of_block (e.trans hxb) 2).trans rfl, (cell_of_block (e.trans hxb) 3).trans rfl⟩
      have HCL := hid hcl
      have HXL := hid (lt_of_block hxb)
      obtain ⟨x0, x1, x2, x3⟩ := hcl wa rfl
      clear hxb hba hwa hX hcl c0 c1 c2 c3 c4
      by_cases k0 : y.kind = 0
      · have e0 : (y.kind == 0) = true := by simp [k0]
        clear k0
        go_upto_region 17 with fail
        refine wp_region_held_drew (S := fun W2 => W2.cell? ⟨X, 1, none⟩ = some (.int .i64 y.n) ∧ W2.cell? ⟨X, 2, none⟩ = some (.int .i64 y.pages) ∧ W2.cell? ⟨X, 3, none⟩ = some (.int .u8 (y.x.toNat : Int))) (by kernel_rfl) ⟨x1, x2, x3⟩ (fun hHeld => ?_)
        refine held_take (v := ?gv0) 0 rfl (by kernel_rfl) (by kernel_rfl) (by kernel_rfl) (fun _ _ _ h => h) (by rfl) hHeld ?gy0 ?gr0
        case gy0 => (intro W hSw; obtain ⟨y0, y1, y2⟩ := hSw; go_simp; with_reducible rfl)
        simp only [Act.put, List.setIfInBounds_toArray, List.set_cons_zero, List.set_cons_succ]
        refine held_take (v := ?gv1) 1 rfl (by kernel_rfl) (by kernel_rfl) (by kernel_rfl) (fun _ _ _ h => h) (by rfl) hHeld ?gy1 ?gr1
        case gy1 => (intro W hSw; obtain ⟨y0, y1, y2⟩ := hSw; go_simp; with_reducible rfl)
        simp only [Act.put, List.setIfInBounds_toArray, List.set_cons_zero, List.set_cons_succ]
        refine held_take (v := ?gv2) 2 rfl (by kernel_rfl) (by kernel_rfl) (by kernel_rfl) (fun _ _ _ h => h) (by rfl) hHeld ?gy2 ?gr2
        case gy2 => (intro W hSw; obtain ⟨y0, y1, y2⟩ := hSw; go_simp; with_reducible rfl)
        simp only [Act.put, List.setIfInBounds_toArray, List.set_cons_zero, List.set_cons_succ]
        refine held_take (v := ?gv5) 5 rfl (by kernel_rfl) (by kernel_rfl) (by kernel_rfl) (fun _ _ _ h => h) (by rfl) hHeld ?gy5 ?gr5
        case gy5 => (intro W hSw; obtain ⟨y0, y1, y2⟩ := hSw; go_simp; with_reducible rfl)
        simp only [Act.put, List.setIfInBounds_toArray, List.set_cons_zero, List.set_cons_succ]
        refine held_take (v := ?gv6) 6 rfl (by kernel_rfl) (by kernel_rfl) (by kernel_rfl) (fun _ _ _ h => h) (by rfl) hHeld ?gy6 ?gr6
        case gy6 => (intro W hSw; obtain ⟨y0, y1, y2⟩ := hSw; go_simp; with_reducible rfl)
        simp only [Act.put, List.setIfInBounds_toArray, List.set_cons_zero, List.set_cons_succ]
        refine held_take (v := ?gv7) 7 rfl (by kernel_rfl) (by kernel_rfl) (by kernel_rfl) (fun _ _ _ h => h) (by rfl) hHeld ?gy7 ?gr7
        case gy7 => (intro W hSw; obtain ⟨y0, y1, y2⟩ := hSw; go_simp; with_reducible rfl)
        simp only [Act.put, List.setIfInBounds_toArray, List.set_cons_zero, List.set_cons_succ]
        refine held_take (v := ?gv8) 8 rfl (by kernel_rfl) (by kernel_rfl) (by kernel_rfl) (fun _ _ _ h => h) (by rfl) hHeld ?gy8 ?gr8
        case gy8 => (intro W hSw; obtain ⟨y0, y1, y2⟩ := hSw; go_simp; with_reducible rfl)
        simp only [Act.put, List.setIfInBounds_toArray, List.set_cons_zero, List.set_cons_succ]
        refine held_one 3 (by kernel_rfl) rfl (fun K hK => ?_)
        go_simp
        refine (around_any y.pages HYP.out _).mono ?_
        rintro e w7 ⟨r9, rfl, hr9, hw7⟩
        obtain rfl := hw7.symm
        have hwr : IntKind.i64.wrap (1 + (r9 : Int)) = 1 + (r9 : Int) := IntWalk.i64_in _ (by omega)
        try dsimp only
        refine hK.out _ _ (⟨x1, x2, x3⟩) (fun hHeld => ?_)
        clear hK K
        try simp only [Act.put, List.setIfInBounds_toArray, List.set_cons_zero, List.set_cons_succ]
        refine held_take (v := ?hv4) 4 rfl (by kernel_rfl) (by kernel_rfl) (by kernel_rfl) (fun _ _ _ h => h) (by rfl) hHeld ?hy4 ?hr4
        case hy4 => (intro W hSw; obtain ⟨y0, y1, y2⟩ := hSw; go_simp; with_reducible rfl)
        simp only [Act.put, List.setIfInBounds_toArray, List.set_cons_zero, List.set_cons_succ]
        have TN := hid (bs_turn (HBA.out.below ((Below.refl _ wa).drew)) (by omega) r9 hr9 y.n HYN.out y.x)
        refine held_one 9 (by kernel_rfl) rfl (fun K hK => ?_)
        go_simp
        refine (TN.out).mono ?_
        rintro e w8 ⟨rfl, ⟨g', ds', h', M', hb8⟩, hk8⟩
        have hs8 := HCL.out w8 (hk8 X (.inr rfl))
        have HB8 := hid hb8
        clear hb8 hk8
        try dsimp only
        refine hK.out _ _ (hs8.2) (fun hHeld => ?_)
        clear hK K
        try simp only [Act.put, List.setIfInBounds_toArray, List.set_cons_zero, List.set_cons_succ]
        clear hs8
        refine held_take (v := ?vv10) 10 rfl (by kernel_rfl) (by kernel_rfl) (by kernel_rfl) (fun _ _ _ h => h) (by rfl) hHeld ?vy10 ?vr10
        case vy10 => (intro W hSw; obtain ⟨y0, y1, y2⟩ := hSw; go_simp; with_reducible rfl)
        simp only [Act.put, List.setIfInBounds_toArray, List.set_cons_zero, List.set_cons_succ]
        clear hHeld
        refine wpAnyH_done (by kernel_rfl) ?_ _
        go_wp2_with fail
        go_roundw
        case rel => exact ⟨i + 1, by omega, by simp, _, _, _, _, _, _, HB8.out.alone⟩
        case measure => (simp [intOf]) <;> omega
      have e0 : (y.kind == 0) = false := by simp [k0]
      by_cases k1 : y.kind = 1
      · have e1 : (y.kind == 1) = true := by simp [k1]
        clear k0 k1
        have ST := hid (bs_step HBA.out (by omega) y.n HYN.out)
        go_wp2_with (first
          | (go_at_call 15; refine (ST.out).mono ?_; rintro e w8 ⟨rfl, B', d', hb8, -, -⟩; have HB8 := hid hb8; clear hb8)
          | go_in)
        go_roundw
        case rel => exact ⟨i + 1, by omega, by simp, _, _, _, _, _, _, HB8.out.alone⟩
        case measure => (simp [intOf]) <;> omega
      have e1 : (y.kind == 1) = false := by simp [k1]
      clear k0 k1
      go_wp2_with fail
      go_roundw
      case rel => exact ⟨i + 1, by omega, by simp, _, _, _, _, _, _, (HBA.out.more (by omega)).alone⟩
      case measure => (simp [intOf]) <;> omega
    · obtain rfl : n = i := by omega
      have hn100 : n ≤ 100 := by have := HN.out; have := HL.out; omega
      clear hbs hlt h1
      by_cases hz : B.next = 0
      · have DN := bs_done HBS.out
        rw [hz] at DN
        have DN := hid DN
        have HPG := hid HBS.out.pd.pg
        have SC := hid (fun (W1 : World) (db2 : Nat) (X : Nat → Prop) (hp : PD w2 W1 ⟨pb, l, b, p0, g, ds⟩ db2 newM X) => bs_start (m := n) hp HBS.out.src HBS.out.hd HBS.out.com HBS.out.ss)
        clear hz
        go_upto_region 27 with (first
          | (go_at_call 14; refine (DN.out).mono ?_; rintro e w7 ⟨rfl, hw⟩; obtain rfl := hw.symm; clear DN)
          | (go_at_call 8; refine (NW.out _).mono ?_; rintro e w8 ⟨db2, rfl, hd⟩; have HPD := hid (PgX.pd HPG.out hd); clear hd)
          | (go_at_call 10; refine (SC.out _ _ _ HPD.out).mono ?_; rintro e w9 ⟨bb2, B2, d2, rfl, hbs, hk⟩; have HBT := hid hbs; have HKT := hid hk; clear hbs hk SC HPD HPG)
          | go_in)
        have ST := hid (bs_step HBT.out (by omega) 0 (by unfold in64; decide))
        go_upto_region 28 with (first
          | (go_at_call 15; refine (ST.out).mono ?_; rintro e wB ⟨rfl, B3, d3, hb, -, hkl⟩; have HSB := hid hb.alone; have HKB := hid (hkl HKT.out).2; clear hb hkl ST)
          | go_in)
        go_wp2_with fail
        have hm1 : n + 1 ≤ 200 := by omega
        have hkk : ∃ B d, BS w2 wB pb l b db2 bb2 bb2 (n + 1) g ds h M B d ∧ B.k = h.commits := ⟨_, _, HSB.out, HKB.out⟩
        obtain ⟨B4, d4, hB4, hK4⟩ := hkk
        have HB4 := hid hB4
        have HK4 := hid hK4
        clear hB4 hK4 HSB HKB
        go_loopw [89] (fun v89 wr => ∃ (i : Nat), i ≤ ns ∧ v89 = .int .i64 (i : Int) ∧ ∃ B d, BS w2 wr pb l b db2 bb2 bb2 (n + 1 + i) g ds h M B d ∧ B.k = h.commits) (fun v89 _ => ns - (intOf v89).toNat)
        case atStart => exact ⟨0, Nat.zero_le _, rfl, _, _, HB4.out, HK4.out⟩
        case round =>
          obtain ⟨i, hi, rfl, B5, d5, hb5, hk5⟩ := hrel
          have HB5 := hid hb5
          have HK5 := hid hk5
          by_cases hlt : i < ns
          · have hil : i < sizes.length := by have := HNS.out; omega
            obtain ⟨ao, cap, e1, hc⟩ := (HI.out.at'.keep HB2.out).keep (hb5.pd.bel.mono HB2.out.size)
            obtain ⟨q, o, e2, hq, hs, hcell⟩ := hc i hil
            injection e1 with e1a e1b e1c
            subst e1a
            subst e1c
            subst e2
            clear e1b
            obtain ⟨z, hz⟩ : ∃ z, z = sizes[i] := ⟨_, rfl⟩
            have hz64 : in64 z := HI.out.wf z (by rw [hz]; exact List.getElem_mem hil)
            rw [← hz] at hcell
            have hlr := bleft_range hb5.up.ok
            have hw : IntKind.i64.wrap ((i : Int) + 1) = (i : Int) + 1 := IntWalk.i64_in _ (by omega)
            have hwm : IntKind.i64.wrap (bleftM B5 - max z 0) = bleftM B5 - max z 0 := IntWalk.i64_in _ (by unfold in64 at hz64; omega)
            have hn60 : ns ≤ 60 := by omega
            have LF := hid (bs_left hb5)
            obtain ⟨lf, hlf⟩ : ∃ lf, lf = bleftM B5 := ⟨_, rfl⟩
            have LF2 := LF.out
            rw [← hlf] at LF2 hwm
            have LF := hid LF2
            have HLF := hid hlf
            have HZ := hid hz64
            have hmn : n + 1 + i ≤ 1000 := by omega
            clear hz hc hb5 hk5 hz64 hlr LF2 hlf
            go_upto_region 32 with (first
              | (go_at_call 12; refine (LF.out).mono ?_; rintro e w11 ⟨rfl, hb⟩; have HB11 := hid hb; clear hb LF)
              | go_in)
            have ST := hid (bs_step HB11.out hmn z HZ.out)
            go_upto_region 34 with (first
              | (go_at_call 15; refine (ST.out).mono ?_; rintro e w12 ⟨rfl, B6, d6, hb, -, hkl⟩; have HB12 := hid hb; have hq6 := hkl HK5.out; rw [← HLF.out] at hq6; have HQ6 := hid hq6; have LF6 := bs_left hb; rw [hq6.1] at LF6; have LF6 := hid LF6; clear hb hkl hq6 ST)
              | (go_at_call 12; refine (LF6.out).mono ?_; rintro e w13 ⟨rfl, hb⟩; have HB13 := hid hb; clear hb LF6)
              | go_in)
            go_wp2_with fail
            go_roundw
            case rel => exact ⟨i + 1, by omega, by simp, B6, d6, HB13.out, HQ6.out.2⟩
            case measure => (simp [intOf]) <;> omega
          · obtain rfl : ns = i := by omega
            have hn60 : ns ≤ 60 := by omega
            have hlr := bleft_range hb5.up.ok
            have LF := bs_left hb5
            obtain ⟨lf, hlf⟩ : ∃ lf, lf = bleftM B5 := ⟨_, rfl⟩
            rw [← hlf] at LF hlr
            have LF := hid LF
            have HLF := hid hlf
            have hmn : n + 1 + ns ≤ 1000 := by omega
            have hl64 : in64 lf := by unfold in64; omega
            clear hb5 hk5 hlf
            go_upto_region 37 with (first
              | (go_at_call 12; refine (LF.out).mono ?_; rintro e w11 ⟨rfl, hb⟩; have ST := hid (bs_step hb hmn lf hl64); clear hb LF)
              | (go_at_call 15; refine (ST.out).mono ?_; rintro e w12 ⟨rfl, B6, d6, hb, -, hkl⟩; have hq6 := hkl HK5.out; rw [← HLF.out, show max (lf - max lf 0) 0 = 0 by omega] at hq6; have hn6 := left_zero hb.up.ok hq6.1; have DN6 := bs_done hb; rw [hn6] at DN6; have DN6 := hid DN6; have HB12 := hid hb; have HN6 := hid hn6; have HK6 := hid hq6.2; have HL6 := hid hq6.1; clear hb hkl hq6 hn6 ST)
              | (go_at_call 14; refine (DN6.out).mono ?_; rintro e w13 ⟨rfl, hw⟩; obtain rfl := hw.symm; have LF6 := bs_left HB12.out; rw [HL6.out] at LF6; have LF6 := hid LF6; clear DN6)
              | (go_at_call 12; refine (LF6.out).mono ?_; rintro e w14 ⟨rfl, hb⟩; have HB14 := hid hb; clear hb LF6)
              | go_in)
            obtain ⟨so, sl⟩ := st_db HB14.out.src
            have SA := state_any HB14.out.pd.pg so
            dsimp only at SA
            rw [sl] at SA
            have SA := hid SA
            clear so sl
            go_wp2_with (first
              | (go_at_call 21; refine (SA.out).mono ?_; rintro e w15 ⟨v15, rfl, hr, hb⟩; have HB15 := hid (HB14.out.below hb); clear hr hb SA)
              | go_in)
            go_ret
            exact ⟨rfl, HB2.out.trans (HB15.out.pd.bel.mono HB2.out.size)⟩
      · have hzb : (B.next == 0) = false := by simp [hz]
        have DN := bs_done HBS.out
        rw [hzb] at DN
        have DN := hid DN
        have ST := hid (bs_step HBS.out (by omega) 0 (by unfold in64; decide))
        have HZ0 := hid hz
        clear hz hzb
        go_upto_region 28 with (first
          | (go_at_call 14; refine (DN.out).mono ?_; rintro e w7 ⟨rfl, hw⟩; obtain rfl := hw.symm; clear DN)
          | (go_at_call 15; refine (ST.out).mono ?_; rintro e wB ⟨rfl, B3, d3, hb, hkl, -⟩; have HSB := hid hb.alone; have HKB := hid (hkl HZ0.out); clear hb hkl ST)
          | go_in)
        go_wp2_with fail
        have hm1 : n + 1 ≤ 200 := by omega
        have hkk : ∃ B d, BS w2 wB pb l b db bb bb (n + 1) g ds h M B d ∧ B.k = h.commits := ⟨_, _, HSB.out, HKB.out⟩
        obtain ⟨B4, d4, hB4, hK4⟩ := hkk
        have HB4 := hid hB4
        have HK4 := hid hK4
        clear hB4 hK4 HSB HKB
        go_loopw [89] (fun v89 wr => ∃ (i : Nat), i ≤ ns ∧ v89 = .int .i64 (i : Int) ∧ ∃ B d, BS w2 wr pb l b db bb bb (n + 1 + i) g ds h M B d ∧ B.k = h.commits) (fun v89 _ => ns - (intOf v89).toNat)
        case atStart => exact ⟨0, Nat.zero_le _, rfl, _, _, HB4.out, HK4.out⟩
        case round =>
          obtain ⟨i, hi, rfl, B5, d5, hb5, hk5⟩ := hrel
          have HB5 := hid hb5
          have HK5 := hid hk5
          by_cases hlt : i < ns
          · have hil : i < sizes.length := by have := HNS.out; omega
            obtain ⟨ao, cap, e1, hc⟩ := (HI.out.at'.keep HB2.out).keep (hb5.pd.bel.mono HB2.out.size)
            obtain ⟨q, o, e2, hq, hs, hcell⟩ := hc i hil
            injection e1 with e1a e1b e1c
            subst e1a
            subst e1c
            subst e2
            clear e1b
            obtain ⟨z, hz⟩ : ∃ z, z = sizes[i] := ⟨_, rfl⟩
            have hz64 : in64 z := HI.out.wf z (by rw [hz]; exact List.getElem_mem hil)
            rw [← hz] at hcell
            have hlr := bleft_range hb5.up.ok
            have hw : IntKind.i64.wrap ((i : Int) + 1) = (i : Int) + 1 := IntWalk.i64_in _ (by omega)
            have hwm : IntKind.i64.wrap (bleftM B5 - max z 0) = bleftM B5 - max z 0 := IntWalk.i64_in _ (by unfold in64 at hz64; omega)
            have hn60 : ns ≤ 60 := by omega
            have LF := hid (bs_left hb5)
            obtain ⟨lf, hlf⟩ : ∃ lf, lf = bleftM B5 := ⟨_, rfl⟩
            have LF2 := LF.out
            rw [← hlf] at LF2 hwm
            have LF := hid LF2
            have HLF := hid hlf
            have HZ := hid hz64
            have hmn : n + 1 + i ≤ 1000 := by omega
            clear hz hc hb5 hk5 hz64 hlr LF2 hlf
            go_upto_region 32 with (first
              | (go_at_call 12; refine (LF.out).mono ?_; rintro e w11 ⟨rfl, hb⟩; have HB11 := hid hb; clear hb LF)
              | go_in)
            have ST := hid (bs_step HB11.out hmn z HZ.out)
            go_upto_region 34 with (first
              | (go_at_call 15; refine (ST.out).mono ?_; rintro e w12 ⟨rfl, B6, d6, hb, -, hkl⟩; have HB12 := hid hb; have hq6 := hkl HK5.out; rw [← HLF.out] at hq6; have HQ6 := hid hq6; have LF6 := bs_left hb; rw [hq6.1] at LF6; have LF6 := hid LF6; clear hb hkl hq6 ST)
              | (go_at_call 12; refine (LF6.out).mono ?_; rintro e w13 ⟨rfl, hb⟩; have HB13 := hid hb; clear hb LF6)
              | go_in)
            go_wp2_with fail
            go_roundw
            case rel => exact ⟨i + 1, by omega, by simp, B6, d6, HB13.out, HQ6.out.2⟩
            case measure => (simp [intOf]) <;> omega
          · obtain rfl : ns = i := by omega
            have hn60 : ns ≤ 60 := by omega
            have hlr := bleft_range hb5.up.ok
            have LF := bs_left hb5
            obtain ⟨lf, hlf⟩ : ∃ lf, lf = bleftM B5 := ⟨_, rfl⟩
            rw [← hlf] at LF hlr
            have LF := hid LF
            have HLF := hid hlf
            have hmn : n + 1 + ns ≤ 1000 := by omega
            have hl64 : in64 lf := by unfold in64; omega
            clear hb5 hk5 hlf
            go_upto_region 37 with (first
              | (go_at_call 12; refine (LF.out).mono ?_; rintro e w11 ⟨rfl, hb⟩; have ST := hid (bs_step hb hmn lf hl64); clear hb LF)
              | (go_at_call 15; refine (ST.out).mono ?_; rintro e w12 ⟨rfl, B6, d6, hb, -, hkl⟩; have hq6 := hkl HK5.out; rw [← HLF.out, show max (lf - max lf 0) 0 = 0 by omega] at hq6; have hn6 := left_zero hb.up.ok hq6.1; have DN6 := bs_done hb; rw [hn6] at DN6; have DN6 := hid DN6; have HB12 := hid hb; have HN6 := hid hn6; have HK6 := hid hq6.2; have HL6 := hid hq6.1; clear hb hkl hq6 hn6 ST)
              | (go_at_call 14; refine (DN6.out).mono ?_; rintro e w13 ⟨rfl, hw⟩; obtain rfl := hw.symm; have LF6 := bs_left HB12.out; rw [HL6.out] at LF6; have LF6 := hid LF6; clear DN6)
              | (go_at_call 12; refine (LF6.out).mono ?_; rintro e w14 ⟨rfl, hb⟩; have HB14 := hid hb; clear hb LF6)
              | go_in)
            obtain ⟨so, sl⟩ := st_db HB14.out.src
            have SA := state_any HB14.out.pd.pg so
            dsimp only at SA
            rw [sl] at SA
            have SA := hid SA
            clear so sl
            have hM255 : M.length ≤ 255 := by have := HB14.out.src.many; simp at this; omega
            obtain ⟨g9, o9, k9⟩ := cop_done (HB14.out.up.cop HK6.out) HN6.out HB14.out.up.dst HB14.out.hd hM255
            have OP := fun (W1 : World) (hm : MkD w2 W1 db d6) => (opened_any hm (fun g L e => by rw [o9] at e; cases e; exact k9))
            rw [o9] at OP
            dsimp only at OP
            have OP := hid OP
            have hlen : (hdrPg h :: M).length ≤ 1000 := by have := HB14.out.src.many; omega
            have HLN := hid hlen
            clear o9 k9 hlen hM255
            obtain ⟨L, hL⟩ : ∃ L, L = hdrPg h :: M := ⟨_, rfl⟩
            rw [← hL] at SA OP HLN
            clear hL
            go_wp2_with (first
              | (go_at_call 21; refine (SA.out).mono ?_; rintro e w15 ⟨v15, rfl, hr, hb⟩; have HR15 := hid hr; have HB15 := hid (HB14.out.below hb); clear hr hb SA)
              | (go_at_call 22; refine (OP.out _ HB15.out.pd.dsk).mono ?_; rintro e w16 ⟨hb, v16, rfl, hr⟩; have HR16 := hid hr; have HR15' := hid (HR15.out.keep (fun k hk => hb.block k (row_base HR15.out hk).2)); have HB16 := hid (HB15.out.below hb); clear hr hb OP)
              | (go_at_call 23; refine (same_eq HR16.out HR15'.out HLN.out).mono ?_; rintro e w17 ⟨rfl, hb⟩; have HB17 := hid (HB16.out.below hb); clear hb)
              | go_in)
            go_ret
            exact ⟨rfl, HB2.out.trans (HB17.out.pd.bel.mono HB2.out.size)⟩
end Go.Proofs.YtenboibbbmeddaaGreat
