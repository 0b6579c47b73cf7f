/- counterfoilref04.Take: it answers tkFr. (Printed by wip/mkreftake.py.) -/
import Derived.Test.YtnfoahedkkamhaaFrU
namespace Go.Proofs.Ytnfoahedkkamhaa
open Go.RowKit
set_option linter.unusedVariables false
set_option linter.unusedSimpArgs false

theorem ref_salt_law (s : List UInt8) (salt : Int) (h : 576 ≤ s.length) (h0 : 0 ≤ salt) (h1 : salt < 18446744073709551616) : (num ((s.drop 8).take 8) == salt) = ((s.drop 8).take 8 == eight salt) := by
  rw [Bool.eq_iff_iff, beq_iff_eq, beq_iff_eq]
  constructor
  · rintro rfl
    exact (eight_of_num _ (by simp; omega)).symm
  · intro e
    rw [e, num_eight salt h0 h1]
theorem ref_fr_law (p : Int × Int) (salt : Int) (s : List UInt8) (h : 576 ≤ s.length) (h1 : (s.drop 24).take 40 = zeros 40) (h2 : (s.drop 8).take 8 = eight salt) :
    frQ p salt (frOf s) = sumAdd (sumAdd p (s.take 16)) ((s.drop 64).take 512) ∧ (frL p salt (frOf s) == s.take 576) = ((s.drop 16).take 8 == textOf (sumAdd (sumAdd p (s.take 16)) ((s.drop 64).take 512))) := by
  have e1 : four (frOf s).page = s.take 4 := four_of_num _ (by simp; omega)
  have e2 : four (frOf s).commit = (s.drop 4).take 4 := four_of_num _ (by simp; omega)
  have eH : frHead salt (frOf s) = s.take 16 := by
    have : frHead salt (frOf s) = four (frOf s).page ++ (four (frOf s).commit ++ eight salt) := by simp [frHead]
    rw [this, e1, e2, ← h2]
    rw [show (16 : Nat) = 4 + (4 + 8) from rfl, List.take_add, List.take_add (i := 4), List.drop_drop]
  have eQ : frQ p salt (frOf s) = sumAdd (sumAdd p (s.take 16)) ((s.drop 64).take 512) := by unfold frQ; rw [eH]; rfl
  refine ⟨eQ, ?_⟩
  have eL : frL p salt (frOf s) = s.take 16 ++ (textOf (frQ p salt (frOf s)) ++ (zeros 40 ++ (s.drop 64).take 512)) := by
    have : frL p salt (frOf s) = frHead salt (frOf s) ++ (textOf (frQ p salt (frOf s)) ++ (zeros 40 ++ (frOf s).data)) := by simp [frL]
    rw [this, eH]; rfl
  have es : s.take 576 = s.take 16 ++ ((s.drop 16).take 8 ++ (zeros 40 ++ (s.drop 64).take 512)) := by
    rw [← h1, show (576 : Nat) = 16 + (8 + (40 + 512)) from rfl, List.take_add, List.take_add (i := 8), List.take_add (i := 40), List.drop_drop, List.drop_drop]
  rw [eL, es, eQ, Bool.eq_iff_iff, beq_iff_eq, beq_iff_eq]
  constructor
  · intro g
    exact ((List.append_inj (List.append_cancel_left g) (by simp [textOf_length]; omega)).1).symm
  · intro g
    rw [g]

set_option maxHeartbeats 400000 in
set_option maxRecDepth 100000 in
theorem refTakeFr_short (p : Int × Int) (salt : Int) (s : List UInt8) (w : World) (h : s.length < 576) :
    Calls Try.prog 23 #[pairV p, .int .u64 salt, .string (bs s)] w fun e w' => e = .returned (.tuple #[frV zeroFr, pairV (0, 0), .int .i64 10]) ∧ Below w.heap.size w w' := by
  have h1 : decide ((s.length : Int) < 576) = true := by simp; omega
  unfold pairV
  go_enter Try.func23, Try.ntmps23
  go_wp2_with fail
  refine bodyPost_ret (v := .tuple #[frV zeroFr, .agg #[.int .u32 0, .int .u32 0], .int .i64 10]) (by simp [results, Try.results23, go_sem, frV, zeroFr, bs]) rfl ⟨rfl, ?_⟩
  repeat (first | exact below_three w _ _ _ | refine Below.setCell ?_ (by simp) _)

set_option maxHeartbeats 4000000 in
set_option maxRecDepth 100000 in
theorem refTakeFr_long (p : Int × Int) (salt : Int) (s : List UInt8) (w : World) (hp : PairWf p) (h0 : 0 ≤ salt) (h1 : salt < 18446744073709551616) (h : 576 ≤ s.length) (hs : s.length ≤ 1099511627776) :
    Calls Try.prog 23 #[pairV p, .int .u64 salt, .string (bs s)] w fun e w' => e = .returned (.tuple #[frV (tkFr p salt s).f, pairV (tkFr p salt s).q, .int .i64 (tkFr p salt s).e]) ∧ Below w.heap.size w w' := by
  have hres : tkFr p salt s = if !((s.drop 24).take 40 == zeros 40) || !frMay (frOf s) then ⟨zeroFr, (0, 0), 11⟩
      else if (s.drop 8).take 8 == eight salt then
        (if (s.drop 16).take 8 == textOf (sumAdd (sumAdd p (s.take 16)) ((s.drop 64).take 512)) then ⟨frOf s, sumAdd (sumAdd p (s.take 16)) ((s.drop 64).take 512), 0⟩ else ⟨zeroFr, (0, 0), 40⟩)
      else ⟨zeroFr, (0, 0), 41⟩ := by
    unfold tkFr; rw [if_neg (by omega)]
  have l1 : decide ((s.length : Int) < 576) = false := by simp; omega
  have hdl : (frOf s).data.length = 512 := by simp [frOf]; omega
  have hokm : frOk (frOf s) = frMay (frOf s) := by simp [frOk, hdl]
  have V1 := fun W => rvalue_any (s.take 4) W (by simp; omega)
  have V2 := fun W => rvalue_any ((s.drop 4).take 4) W (by simp; omega)
  have V3 := fun W => rvalue8_any ((s.drop 8).take 8) W (by simp; omega)
  have hsalt := ref_salt_law s salt h h0 h1
  have hlaw := ref_fr_law p salt s h
  have M := fun W => refMay_any (frOf s) W (by omega)
  have PT := fun (hok : frMay (frOf s) = true) W => refPut_any p salt (frOf s) W hp h0 h1 (by rw [hokm]; exact hok)
  simp only [hokm] at M
  have hof : frOf s = ⟨num (s.take 4), num ((s.drop 4).take 4), (s.drop 64).take 512⟩ := rfl
  obtain ⟨q, hq⟩ : ∃ x, x = sumAdd (sumAdd p (s.take 16)) ((s.drop 64).take 512) := ⟨_, rfl⟩
  simp only [← hq] at hres hlaw
  obtain ⟨q', hq'⟩ : ∃ x, x = frQ p salt (frOf s) := ⟨_, rfl⟩
  obtain ⟨S, hS⟩ : ∃ x, x = frL p salt (frOf s) := ⟨_, rfl⟩
  simp only [← hq', ← hS] at hlaw PT
  obtain ⟨m, hm⟩ : ∃ m, m = frMay (frOf s) := ⟨_, rfl⟩
  simp only [← hm] at M PT hres
  obtain ⟨n, hn⟩ : ∃ x, x = num (s.take 4) := ⟨_, rfl⟩
  obtain ⟨c, hc⟩ : ∃ x, x = num ((s.drop 4).take 4) := ⟨_, rfl⟩
  obtain ⟨d, hd⟩ : ∃ x, x = (s.drop 64).take 512 := ⟨_, rfl⟩
  obtain ⟨z, hz⟩ : ∃ x, x = num ((s.drop 8).take 8) := ⟨_, rfl⟩
  simp only [← hn] at V1 hof
  simp only [← hc] at V2 hof
  simp only [← hz] at V3 hsalt
  rw [← hd] at hof
  simp only [hof] at hres M PT
  have Hres := hid hres
  have Hlaw := hid hlaw
  have HM := hid M
  have HPT := hid PT
  have HV1 := hid V1
  have HV2 := hid V2
  have HV3 := hid V3
  have Hd := hid hd
  have s576 : (576 : Int) ≤ (s.length : Int) := by omega
  have s64 : (64 : Int) ≤ (s.length : Int) := by omega
  have s16 : (16 : Int) ≤ (s.length : Int) := by omega
  have s8 : (8 : Int) ≤ (s.length : Int) := by omega
  have s4 : (4 : Int) ≤ (s.length : Int) := by omega
  have t576 : (576 : Nat) ≤ s.length := by omega
  have t64 : (64 : Nat) ≤ s.length := by omega
  have t16 : (16 : Nat) ≤ s.length := by omega
  have t8 : (8 : Nat) ≤ s.length := by omega
  have t4 : (4 : Nat) ≤ s.length := by omega
  have hdd : bs ((s.drop 64).take 512) = bs d := by rw [hd]
  clear hres hlaw M PT V1 V2 V3 hq hq' hS hm hn hc hd hz hof hokm hdl hp h0 h1
  unfold pairV frV at *
  simp only at HM HPT
  go_enter Try.func23, Try.ntmps23
  go_wp2_with fail
  have H0 := three_new w (.cells #[.int .u32 p.1, .int .u32 p.2] 33) (.cells #[.int .i64 0, .int .i64 0, .string (bs [])] 37) (.cells #[.int .u32 0, .int .u32 0] 33)
  have hbw0 := below_three w (.cells #[.int .u32 p.1, .int .u32 p.2] 33) (.cells #[.int .i64 0, .int .i64 0, .string (bs [])] 37) (.cells #[.int .u32 0, .int .u32 0] 33)
  refine region_block [0, 1, 2, 3, 4, 5, 6, 7, 8] 9 10 [] _ (.cells #[.int .i64 0, .int .i64 0, .string (bs [])] 37) ?af (by kernel_rfl) (by kernel_rfl) (by kernel_rfl) rfl (fun _ _ => by kernel_rfl) ?_ ?_
  rotate_left
  · intro W hW
    simp only [pick, List.getElem?_cons_succ, List.getElem?_cons_zero]
    repeat (go_big_quiet_step ((go_at_call 42; first | with_reducible exact Calls.regrown_of (HV1.out _) | with_reducible exact Calls.regrown_of (HV2.out _))))
    refine wpQuiet_nil ?_
    exact rfl
  · intro F w2 hb2 hF hFb
    simp only [pick, List.getElem?_cons_succ, List.getElem?_cons_zero]
    obtain ⟨f0, f1, f2, ff⟩ := cells3 hFb
    have hFw : w.heap.size + 1 + 1 < F := by simp at hF; omega
    have hF3 := heap_set3 hFb (.int .i64 n) (.int .i64 c) (.string (bs d))
    have H2 := (H0.kept hb2).set3 hFw (.int .i64 n) (.int .i64 c) (.string (bs d))
    have hbw2 := hbw0.trans (hb2.mono hbw0.size)
    have hbw3 := ((hbw2.setCell (p := ⟨F, 0, none⟩) (by simp only; omega) (.int .i64 n)).setCell (p := ⟨F, 1, none⟩) (by simp only; omega) (.int .i64 c)).setCell (p := ⟨F, 2, none⟩) (by simp only; omega) (.string (bs d))
    have HFb := hid hFb
    clear hFb H0 hbw0 hbw2 hb2 HV1 HV2
    go_wp2_with fail
    obtain ⟨w3, hw3⟩ : ∃ x, x = ((w2.setCell ⟨F, 0, none⟩ (.int .i64 n)).setCell ⟨F, 1, none⟩ (.int .i64 c)).setCell ⟨F, 2, none⟩ (.string (bs d)) := ⟨_, rfl⟩
    rw [← hw3] at hF3 H2 hbw3 ⊢
    clear hw3 f0 f1 f2 ff HFb hF
    have H3 := hid H2
    have F3 := hid hF3
    clear H2 hF3
    cases e1 : ((s.drop 24).take 40 == zeros 40)
    · have hr : tkFr p salt s = ⟨zeroFr, (0, 0), 11⟩ := by rw [Hres.out, e1]; rfl
      have Hr := hid hr
      clear hr
      obtain ⟨f0, f1, f2, ff⟩ := cells3 F3.out
      have p0 := fun d os => cell_regrown f0 d os
      have p1 := fun d os => cell_regrown f1 d os
      have p2 := fun d os => cell_regrown f2 d os
      clear f0 f1 f2 ff
      refine region_below (by kernel_rfl) (by kernel_rfl) ?_
      repeat (go_big_quiet_step ((first | (go_at_call 40; with_reducible exact Calls.regrown_of (rnoughts_40 _)) | (go_at_call 21; with_reducible exact Calls.regrown_of (HM.out _)))))
      refine wpQuiet_nil ?_
      intro w4 hb4
      have H4 := hid (H3.out.kept hb4)
      have F4 := hid ((hb4.block F (lt_of_block F3.out)).trans F3.out)
      have hbw4 := hbw3.trans (hb4.mono hbw3.size)
      clear hb4 F3 H3 p0 p1 p2
      obtain ⟨a0, a1, a2, af⟩ := cells3 H4.out.2.1
      obtain ⟨b0, b1, bf⟩ := cells2 H4.out.2.2
      go_wp2_with fail
      refine bodyPost_ret (v := .tuple #[.agg #[.int .i64 0, .int .i64 0, .string (bs [])], .agg #[.int .u32 0, .int .u32 0], .int .i64 11]) (by simp [results, Try.results23, go_sem, bs, a0, a1, a2, af, b0, b1, bf]) rfl ⟨by rw [Hr.out]; rfl, ?_⟩
      iterate 5 refine Below.setCell ?_ (by first | omega | (simp <;> omega)) _
      exact hbw4
    · cases m
      · have hr : tkFr p salt s = ⟨zeroFr, (0, 0), 11⟩ := by rw [Hres.out, e1]; rfl
        have Hr := hid hr
        clear hr
        obtain ⟨f0, f1, f2, ff⟩ := cells3 F3.out
        have p0 := fun d os => cell_regrown f0 d os
        have p1 := fun d os => cell_regrown f1 d os
        have p2 := fun d os => cell_regrown f2 d os
        clear f0 f1 f2 ff
        refine region_below (by kernel_rfl) (by kernel_rfl) ?_
        repeat (go_big_quiet_step ((first | (go_at_call 40; with_reducible exact Calls.regrown_of (rnoughts_40 _)) | (go_at_call 21; with_reducible exact Calls.regrown_of (HM.out _)))))
        refine wpQuiet_nil ?_
        intro w4 hb4
        have H4 := hid (H3.out.kept hb4)
        have F4 := hid ((hb4.block F (lt_of_block F3.out)).trans F3.out)
        have hbw4 := hbw3.trans (hb4.mono hbw3.size)
        clear hb4 F3 H3 p0 p1 p2
        obtain ⟨a0, a1, a2, af⟩ := cells3 H4.out.2.1
        obtain ⟨b0, b1, bf⟩ := cells2 H4.out.2.2
        go_wp2_with fail
        refine bodyPost_ret (v := .tuple #[.agg #[.int .i64 0, .int .i64 0, .string (bs [])], .agg #[.int .u32 0, .int .u32 0], .int .i64 11]) (by simp [results, Try.results23, go_sem, bs, a0, a1, a2, af, b0, b1, bf]) rfl ⟨by rw [Hr.out]; rfl, ?_⟩
        iterate 5 refine Below.setCell ?_ (by first | omega | (simp <;> omega)) _
        exact hbw4
      · have HP2 := fun W => HPT.out (by first | rfl | trivial) W
        obtain ⟨f0, f1, f2, ff⟩ := cells3 F3.out
        have p0 := fun d os => cell_regrown f0 d os
        have p1 := fun d os => cell_regrown f1 d os
        have p2 := fun d os => cell_regrown f2 d os
        clear f0 f1 f2 ff
        refine region_below (by kernel_rfl) (by kernel_rfl) ?_
        repeat (go_big_quiet_step ((first | (go_at_call 40; with_reducible exact Calls.regrown_of (rnoughts_40 _)) | (go_at_call 21; with_reducible exact Calls.regrown_of (HM.out _)))))
        refine wpQuiet_nil ?_
        intro w4 hb4
        have H4 := hid (H3.out.kept hb4)
        have F4 := hid ((hb4.block F (lt_of_block F3.out)).trans F3.out)
        have hbw4 := hbw3.trans (hb4.mono hbw3.size)
        clear hb4 F3 H3 p0 p1 p2
        go_wp2_with fail
        refine (HV3.out _).mono ?_
        rintro e w5 ⟨rfl, hb5⟩
        have H5 := hid (H4.out.kept hb5)
        have F5 := hid ((hb5.block F (lt_of_block F4.out)).trans F4.out)
        have hbw5 := hbw4.trans (hb5.mono hbw4.size)
        clear hb5 F4 H4
        cases e2 : ((s.drop 8).take 8 == eight salt)
        · rw [e2] at hsalt
          have hr : tkFr p salt s = ⟨zeroFr, (0, 0), 41⟩ := by rw [Hres.out, e1, e2]; rfl
          have Hr := hid hr
          clear hr
          obtain ⟨a0, a1, a2, af⟩ := cells3 H5.out.2.1
          obtain ⟨b0, b1, bf⟩ := cells2 H5.out.2.2
          go_wp2_with fail
          refine bodyPost_ret (v := .tuple #[.agg #[.int .i64 0, .int .i64 0, .string (bs [])], .agg #[.int .u32 0, .int .u32 0], .int .i64 41]) (by simp [results, Try.results23, go_sem, bs, a0, a1, a2, af, b0, b1, bf]) rfl ⟨by rw [Hr.out]; rfl, ?_⟩
          iterate 5 refine Below.setCell ?_ (by first | omega | (simp <;> omega)) _
          exact hbw5
        · rw [e2] at hsalt
          obtain ⟨hq1, hq2⟩ := Hlaw.out (by simpa using e1) (by simpa using e2)
          have Hq1 := hid hq1
          clear hq1
          obtain ⟨g0, g1, gf⟩ := cells2 H5.out.1
          obtain ⟨f0, f1, f2, ff⟩ := cells3 F5.out
          go_wp2_with fail
          refine (HP2 _).mono ?_
          rintro e w6 ⟨rfl, hb6⟩
          have hb67 : Below w6.heap.size w6 (w6.alloc (.cells #[.int .u32 q'.1, .int .u32 q'.2] 33)) := (Below.refl _ _).alloc (Nat.le_refl _) _
          have hb57 := hb6.trans (hb67.mono hb6.size)
          have Q7 := heap_alloc_new w6 (.cells #[.int .u32 q'.1, .int .u32 q'.2] 33)
          have H6 := hid (H5.out.kept hb6)
          have H7 := hid (H5.out.kept hb57)
          have F7 := hid ((hb57.block F (lt_of_block F5.out)).trans F5.out)
          have hbw7 := hbw5.trans (hb57.mono hbw5.size)
          have hQF : w.heap.size + 1 + 1 < w6.heap.size := (H5.out.kept hb6).lt
          have lF6 : F < w6.heap.size := lt_of_block ((hb6.block F (lt_of_block F5.out)).trans F5.out)
          clear g0 g1 gf f0 f1 f2 ff hb6 hb67 hb57 F5 H5
          cases e3 : ((s.drop 16).take 8 == textOf q)
          · rw [e3] at hq2
            have hr : tkFr p salt s = ⟨zeroFr, (0, 0), 40⟩ := by rw [Hres.out, e1, e2, e3]; rfl
            have Hr := hid hr
            clear hr
            go_upto_region 10 with fail
            obtain ⟨w7, hw7⟩ : ∃ x, x = w6.alloc (.cells #[.int .u32 q'.1, .int .u32 q'.2] 33) := ⟨_, rfl⟩
            rw [← hw7] at H7 F7 Q7 hbw7 ⊢
            clear hw7
            obtain ⟨a0, a1, a2, af⟩ := cells3 H7.out.2.1
            obtain ⟨b0, b1, bf⟩ := cells2 H7.out.2.2
            go_wp2_with fail
            refine bodyPost_ret (v := .tuple #[.agg #[.int .i64 0, .int .i64 0, .string (bs [])], .agg #[.int .u32 0, .int .u32 0], .int .i64 40]) (by simp [results, Try.results23, go_sem, bs, a0, a1, a2, af, b0, b1, bf]) rfl ⟨by rw [Hr.out]; rfl, ?_⟩
            iterate 5 refine Below.setCell ?_ (by first | omega | (simp <;> omega)) _
            exact hbw7
          · rw [e3] at hq2
            have hr : tkFr p salt s = ⟨⟨n, c, d⟩, q', 0⟩ := by rw [Hres.out, e1, e2, e3, Hq1.out]; rfl
            have Hr := hid hr
            clear hr
            go_upto_region 11 with fail
            obtain ⟨w7, hw7⟩ : ∃ x, x = w6.alloc (.cells #[.int .u32 q'.1, .int .u32 q'.2] 33) := ⟨_, rfl⟩
            rw [← hw7] at H7 F7 Q7 hbw7 ⊢
            clear hw7
            obtain ⟨Q, hQe⟩ : ∃ Q, Q = w6.heap.size := ⟨_, rfl⟩
            rw [← hQe] at Q7 hQF lF6 ⊢
            clear hQe
            obtain ⟨g0, g1, gf⟩ := cells2 Q7
            obtain ⟨f0, f1, f2, ff⟩ := cells3 F7.out
            have kq : Held5 F Q (.int .i64 n) (.int .i64 c) (.string (bs d)) (.int .u32 q'.1) (.int .u32 q'.2) w7 := ⟨f0, f1, f2, g0, g1⟩
            obtain ⟨a0, a1, a2, af⟩ := cells3 H7.out.2.1
            obtain ⟨b0, b1, bf⟩ := cells2 H7.out.2.2
            have k1 := Held5.set3 (M := w.heap.size + 1) kq (by omega) (by omega) (.int .i64 n) (.int .i64 c) (.string (bs d))
            have k2 := Held5.set2 (M := w.heap.size + 1 + 1) k1 (by omega) (by omega) (.int .u32 q'.1) (.int .u32 q'.2)
            have k3 := Held5.set2 (M := w.heap.size + 1 + 1) kq (by omega) (by omega) (.int .u32 q'.1) (.int .u32 q'.2)
            have kd := Held5.drew kq
            have k1 := Held5.drew k1
            have k2 := Held5.drew k2
            have k3 := Held5.drew k3
            unfold Held5 at k1 k2 kd k3
            go_wp2_with fail
            go_region_held3 (fun W => W.cell? ⟨F, 0, none⟩ = some (.int .i64 n) ∧ W.cell? ⟨F, 1, none⟩ = some (.int .i64 c) ∧ W.cell? ⟨F, 2, none⟩ = some (.string (bs d)) ∧ W.cell? ⟨Q, 0, none⟩ = some (.int .u32 q'.1) ∧ W.cell? ⟨Q, 1, none⟩ = some (.int .u32 q'.2))
              (first | with_reducible exact kd | with_reducible exact k1 | with_reducible exact k2 | with_reducible exact k3)
              (fail)
            all_goals
              go_wp2_with fail
              refine bodyPost_ret (v := .tuple #[.agg #[.int .i64 n, .int .i64 c, .string (bs d)], .agg #[.int .u32 q'.1, .int .u32 q'.2], .int .i64 0]) (by simp [results, Try.results23, go_sem, bs, a0, a1, a2, af, b0, b1, bf]) rfl ⟨by first | (rw [Hr.out]; done) | (rw [Hr.out]; rfl), ?_⟩
              repeat (first | exact hbw7 | refine Below.drew ?_ | refine Below.setCell ?_ (by first | omega | (simp <;> omega)) _)

theorem refTakeFr_any (p : Int × Int) (salt : Int) (s : List UInt8) (w : World) (hp : PairWf p) (h0 : 0 ≤ salt) (h1 : salt < 18446744073709551616) (hs : s.length ≤ 1099511627776) :
    Calls Try.prog 23 #[pairV p, .int .u64 salt, .string (bs s)] w fun e w' => e = .returned (.tuple #[frV (tkFr p salt s).f, pairV (tkFr p salt s).q, .int .i64 (tkFr p salt s).e]) ∧ Below w.heap.size w w' := by
  by_cases h : s.length < 576
  · have e : tkFr p salt s = ⟨zeroFr, (0, 0), 10⟩ := by unfold tkFr; rw [if_pos h]
    rw [e]
    exact refTakeFr_short p salt s w h
  · exact refTakeFr_long p salt s w hp h0 h1 (by omega) hs
end Go.Proofs.Ytnfoahedkkamhaa
