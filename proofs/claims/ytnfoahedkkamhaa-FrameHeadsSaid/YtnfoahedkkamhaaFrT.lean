/- counterfoilref04.TakeHead: it answers tkHd. (Printed by wip/mkreftakehead.py.) -/
import Derived.Test.YtnfoahedkkamhaaFrS
namespace Go.Proofs.Ytnfoahedkkamhaa
open Go.RowKit
set_option linter.unusedVariables false
set_option linter.unusedSimpArgs false

theorem ref_hd_law (s : List UInt8) (h64 : 64 ≤ s.length) (h1 : s.take 8 = wordC) (h2 : (s.drop 32).take 32 = zeros 32) :
    (hdL (hdOf s) == s.take 64) = ((s.drop 24).take 8 == textOf (sumAdd (0, 0) (s.take 24))) := by
  have e1 : eight (hdOf s).number = (s.drop 8).take 8 := eight_of_num _ (by simp; omega)
  have e2 : four (hdOf s).frames = (s.drop 16).take 4 := four_of_num _ (by simp; omega)
  have e3 : four (hdOf s).pages = (s.drop 20).take 4 := four_of_num _ (by simp; omega)
  have eB : hdB (hdOf s) = s.take 24 := by
    rw [hdB_eq, e1, e2, e3, ← h1]
    rw [show (24 : Nat) = 8 + (8 + (4 + 4)) from rfl, List.take_add, List.take_add (i := 8), List.take_add (i := 4), List.drop_drop, List.drop_drop]
  have e64 : s.take 64 = s.take 24 ++ ((s.drop 24).take 8 ++ zeros 32) := by
    rw [← h2, show (64 : Nat) = 24 + (8 + 32) from rfl, List.take_add, List.take_add (i := 8), List.drop_drop]
  rw [hdL_eq, eB, e64, Bool.eq_iff_iff, beq_iff_eq, beq_iff_eq]
  constructor
  · intro h
    exact ((List.append_inj (List.append_cancel_left h) (by simp [textOf_length]; omega)).1).symm
  · intro h
    rw [h]

set_option maxHeartbeats 400000 in
theorem refTakeHead_short (s : List UInt8) (w : World) (h : s.length < 64) :
    Calls Try.prog 18 #[.string (bs s)] w fun e w' => e = .returned (.tuple #[hdV zeroHd, .int .i64 10]) ∧ Below w.heap.size w w' := by
  have h1 : decide ((s.length : Int) < 64) = true := by simp; omega
  go_enter Try.func18, Try.ntmps18
  go_wp2_with fail
  refine bodyPost_ret (v := .tuple #[hdV zeroHd, .int .i64 10]) (by simp [results, Try.results18, go_sem, hdV, zeroHd]) rfl ⟨rfl, ?_⟩
  repeat (first | exact (Below.refl _ _).alloc (Nat.le_refl _) _ | refine Below.setCell ?_ (by simp) _)

set_option maxHeartbeats 4000000 in
set_option maxRecDepth 100000 in
theorem refTakeHead_long (s : List UInt8) (w : World) (h : 64 ≤ s.length) (hs : s.length ≤ 1099511627776) :
    Calls Try.prog 18 #[.string (bs s)] w fun e w' => e = .returned (.tuple #[hdV (tkHd s).1, .int .i64 (tkHd s).2]) ∧ Below w.heap.size w w' := by
  have h1 : decide ((s.length : Int) < 64) = false := by simp; omega
  have hres : tkHd s = if hdBad s then (zeroHd, 11) else if (s.drop 24).take 8 == textOf (sumAdd (0, 0) (s.take 24)) then (hdOf s, 0) else (zeroHd, 40) := by
    unfold tkHd; rw [if_neg (by omega)]
  have hbad : hdBad s = (!(s.take 8 == wordC) || (!((s.drop 32).take 32 == zeros 32) || !hdMay (hdOf s))) := by
    unfold hdBad hdMay
    cases inB (hdOf s).frames 0 256 <;> cases inB (hdOf s).pages 0 256 <;> rfl
  have hlaw := ref_hd_law s h
  have hof : hdOf s = ⟨num ((s.drop 8).take 8), num ((s.drop 16).take 4), num ((s.drop 20).take 4)⟩ := rfl
  have V1 := fun W => rvalue8_any ((s.drop 8).take 8) W (by simp; omega)
  have V2 := fun W => rvalue_any ((s.drop 16).take 4) W (by simp; omega)
  have V3 := fun W => rvalue_any ((s.drop 20).take 4) W (by simp; omega)
  have HM := fun W => headMay_any (hdOf s) W
  have bq := num8_lt (s.drop 8)
  have HD := fun (hm : hdMay (hdOf s) = true) W => refHead_any (hdOf s) W hm bq
  obtain ⟨n, hn⟩ : ∃ x, x = num ((s.drop 8).take 8) := ⟨_, rfl⟩
  obtain ⟨f, hf⟩ : ∃ x, x = num ((s.drop 16).take 4) := ⟨_, rfl⟩
  obtain ⟨p, hp⟩ : ∃ x, x = num ((s.drop 20).take 4) := ⟨_, rfl⟩
  simp only [← hn] at V1 hof
  simp only [← hf] at V2 hof
  simp only [← hp] at V3 hof
  rw [hof] at hres hbad hlaw HM HD
  obtain ⟨m, hm⟩ : ∃ m, m = hdMay ⟨n, f, p⟩ := ⟨_, rfl⟩
  simp only [← hm] at hbad HM HD
  obtain ⟨S, hS⟩ : ∃ S, S = hdL ⟨n, f, p⟩ := ⟨_, rfl⟩
  simp only [← hS] at hlaw HD
  have Hres := hid hres
  have Hbad := hid hbad
  have Hlaw := hid hlaw
  have HHM := hid HM
  have HHD := hid HD
  have HV1 := hid V1
  have HV2 := hid V2
  have HV3 := hid V3
  have ew : ByteArray.mk #[99, 111, 117, 110, 116, 101, 114, 102] = bs wordC := rfl
  have s16 : (16 : Int) ≤ (s.length : Int) := by omega
  have s20 : (20 : Int) ≤ (s.length : Int) := by omega
  have s24 : (24 : Int) ≤ (s.length : Int) := by omega
  have s64 : (64 : Int) ≤ (s.length : Int) := by omega
  have s8 : (8 : Int) ≤ (s.length : Int) := by omega
  have t8 : (8 : Nat) ≤ s.length := by omega
  have t16 : (16 : Nat) ≤ s.length := by omega
  have t20 : (20 : Nat) ≤ s.length := by omega
  have t24 : (24 : Nat) ≤ s.length := by omega
  clear hres hbad hlaw HM HD V1 V2 V3 hn hf hp hof hm hS bq
  unfold hdV at HHM HHD
  simp only at HHM HHD
  go_enter Try.func18, Try.ntmps18
  go_wp2_with fail
  refine region_block [0, 1, 2, 3, 4, 5, 6, 7, 8, 9] 10 11 [] _ (.cells #[.int .u64 0, .int .i64 0, .int .i64 0] 27) ?af (by kernel_rfl) (by kernel_rfl) (by kernel_rfl) rfl (fun _ _ => by kernel_rfl) ?_ ?_
  rotate_left
  · intro W hW
    simp only [pick, List.getElem?_cons_succ, List.getElem?_cons_zero]
    repeat (go_big_quiet_step ((first | (go_at_call 41; with_reducible exact Calls.regrown_of (HV1.out _)) | (go_at_call 42; first | with_reducible exact Calls.regrown_of (HV2.out _) | with_reducible exact Calls.regrown_of (HV3.out _)))))
    refine wpQuiet_nil ?_
    exact rfl
  · intro M w2 hb2 hMs hMb
    simp only [pick, List.getElem?_cons_succ, List.getElem?_cons_zero]
    obtain ⟨f0, f1, f2, ff⟩ := cells3 hMb
    have hRM : w.heap.size < M := by simp at hMs; omega
    have HM2 := heap_set3 hMb (.int .u64 n) (.int .i64 f) (.int .i64 p)
    have HR2 := (heap_set3_ne (M := M) (by omega) (.int .u64 n) (.int .i64 f) (.int .i64 p)).trans ((hb2.block w.heap.size (by simp)).trans (heap_alloc_new w (.cells #[.int .u64 0, .int .i64 0, .int .i64 0] 27)))
    have hbw2 : Below w.heap.size w w2 := ((Below.refl _ _).alloc (Nat.le_refl _) _).trans (hb2.mono (by simp))
    have hbw3 := ((hbw2.setCell (p := ⟨M, 0, none⟩) (by simp only; omega) (.int .u64 n)).setCell (p := ⟨M, 1, none⟩) (by simp only; omega) (.int .i64 f)).setCell (p := ⟨M, 2, none⟩) (by simp only; omega) (.int .i64 p)
    have HMb := hid hMb
    clear hMb hb2 hbw2 HV1 HV2 HV3
    go_wp2_with fail
    obtain ⟨w3, hw3⟩ : ∃ x, x = ((w2.setCell ⟨M, 0, none⟩ (.int .u64 n)).setCell ⟨M, 1, none⟩ (.int .i64 f)).setCell ⟨M, 2, none⟩ (.int .i64 p) := ⟨_, rfl⟩
    rw [← hw3] at HM2 HR2 hbw3 ⊢
    clear hw3 f0 f1 f2 ff HMb hMs
    have K2 := hid HM2
    have R2 := hid HR2
    clear HM2 HR2
    cases e1 : (s.take 8 == wordC)
    · have hr : tkHd s = (zeroHd, 11) := by rw [Hres.out, Hbad.out, e1]; rfl
      have Hr := hid hr
      clear hr
      obtain ⟨f0, f1, f2, ff⟩ := cells3 K2.out
      have r0 := fun d os => cell_regrown f0 d os
      have r1 := fun d os => cell_regrown f1 d os
      have r2 := fun d os => cell_regrown f2 d os
      clear f0 f1 f2 ff
      refine region_below (by kernel_rfl) (by kernel_rfl) ?_
      repeat (go_big_quiet_step ((first | (go_at_call 40; with_reducible exact Calls.regrown_of (rnoughts_32 _)) | (go_at_call 16; with_reducible exact Calls.regrown_of (HHM.out _)))))
      refine wpQuiet_nil ?_
      intro w4 hb4
      have K4 := hid ((hb4.block M (lt_of_block K2.out)).trans K2.out)
      have R4 := hid ((hb4.block w.heap.size (lt_of_block R2.out)).trans R2.out)
      have hbw4 := hbw3.trans (hb4.mono hbw3.size)
      clear r0 r1 r2 K2 R2 hb4
      obtain ⟨a0, a1, a2, af⟩ := cells3 R4.out
      go_wp2_with fail
      refine bodyPost_ret (v := .tuple #[hdV zeroHd, .int .i64 11]) (by simp [results, Try.results18, go_sem, hdV, zeroHd, a0, a1, a2, af]) rfl ⟨by rw [Hr.out], ?_⟩
      iterate 3 refine Below.setCell ?_ (by simp) _
      exact hbw4
    · cases e2 : ((s.drop 32).take 32 == zeros 32)
      · have hr : tkHd s = (zeroHd, 11) := by rw [Hres.out, Hbad.out, e1, e2]; rfl
        have Hr := hid hr
        clear hr
        obtain ⟨f0, f1, f2, ff⟩ := cells3 K2.out
        have r0 := fun d os => cell_regrown f0 d os
        have r1 := fun d os => cell_regrown f1 d os
        have r2 := fun d os => cell_regrown f2 d os
        clear f0 f1 f2 ff
        refine region_below (by kernel_rfl) (by kernel_rfl) ?_
        repeat (go_big_quiet_step ((first | (go_at_call 40; with_reducible exact Calls.regrown_of (rnoughts_32 _)) | (go_at_call 16; with_reducible exact Calls.regrown_of (HHM.out _)))))
        refine wpQuiet_nil ?_
        intro w4 hb4
        have K4 := hid ((hb4.block M (lt_of_block K2.out)).trans K2.out)
        have R4 := hid ((hb4.block w.heap.size (lt_of_block R2.out)).trans R2.out)
        have hbw4 := hbw3.trans (hb4.mono hbw3.size)
        clear r0 r1 r2 K2 R2 hb4
        obtain ⟨a0, a1, a2, af⟩ := cells3 R4.out
        go_wp2_with fail
        refine bodyPost_ret (v := .tuple #[hdV zeroHd, .int .i64 11]) (by simp [results, Try.results18, go_sem, hdV, zeroHd, a0, a1, a2, af]) rfl ⟨by rw [Hr.out], ?_⟩
        iterate 3 refine Below.setCell ?_ (by simp) _
        exact hbw4
      · cases m
        · have hr : tkHd s = (zeroHd, 11) := by rw [Hres.out, Hbad.out, e1, e2]; rfl
          have Hr := hid hr
          clear hr
          obtain ⟨f0, f1, f2, ff⟩ := cells3 K2.out
          have r0 := fun d os => cell_regrown f0 d os
          have r1 := fun d os => cell_regrown f1 d os
          have r2 := fun d os => cell_regrown f2 d os
          clear f0 f1 f2 ff
          refine region_below (by kernel_rfl) (by kernel_rfl) ?_
          repeat (go_big_quiet_step ((first | (go_at_call 40; with_reducible exact Calls.regrown_of (rnoughts_32 _)) | (go_at_call 16; with_reducible exact Calls.regrown_of (HHM.out _)))))
          refine wpQuiet_nil ?_
          intro w4 hb4
          have K4 := hid ((hb4.block M (lt_of_block K2.out)).trans K2.out)
          have R4 := hid ((hb4.block w.heap.size (lt_of_block R2.out)).trans R2.out)
          have hbw4 := hbw3.trans (hb4.mono hbw3.size)
          clear r0 r1 r2 K2 R2 hb4
          obtain ⟨a0, a1, a2, af⟩ := cells3 R4.out
          go_wp2_with fail
          refine bodyPost_ret (v := .tuple #[hdV zeroHd, .int .i64 11]) (by simp [results, Try.results18, go_sem, hdV, zeroHd, a0, a1, a2, af]) rfl ⟨by rw [Hr.out], ?_⟩
          iterate 3 refine Below.setCell ?_ (by simp) _
          exact hbw4
        · have HH2 := fun W => HHD.out (by first | rfl | trivial) W
          have hl2 := Hlaw.out (by simpa using e1) (by simpa using e2)
          obtain ⟨f0, f1, f2, ff⟩ := cells3 K2.out
          have r0 := fun d os => cell_regrown f0 d os
          have r1 := fun d os => cell_regrown f1 d os
          have r2 := fun d os => cell_regrown f2 d os
          clear f0 f1 f2 ff
          refine region_below (by kernel_rfl) (by kernel_rfl) ?_
          repeat (go_big_quiet_step ((first | (go_at_call 40; with_reducible exact Calls.regrown_of (rnoughts_32 _)) | (go_at_call 16; with_reducible exact Calls.regrown_of (HHM.out _)))))
          refine wpQuiet_nil ?_
          intro w4 hb4
          have K4 := hid ((hb4.block M (lt_of_block K2.out)).trans K2.out)
          have R4 := hid ((hb4.block w.heap.size (lt_of_block R2.out)).trans R2.out)
          have hbw4 := hbw3.trans (hb4.mono hbw3.size)
          clear r0 r1 r2 K2 R2 hb4
          go_wp2_with fail
          cases e5 : ((s.drop 24).take 8 == textOf (sumAdd (0, 0) (s.take 24)))
          · rw [e5] at hl2
            have hr : tkHd s = (zeroHd, 40) := by rw [Hres.out, Hbad.out, e1, e2, e5]; rfl
            have Hr := hid hr
            clear hr
            obtain ⟨f0, f1, f2, ff⟩ := cells3 K4.out
            have r0 := fun d os => cell_regrown f0 d os
            have r1 := fun d os => cell_regrown f1 d os
            have r2 := fun d os => cell_regrown f2 d os
            clear f0 f1 f2 ff
            refine region_below (by kernel_rfl) (by kernel_rfl) ?_
            repeat (go_big_quiet_step ((first | (go_at_call 17; with_reducible exact Calls.regrown_of (HH2 _)))))
            refine wpQuiet_nil ?_
            intro w5 hb5
            have K5 := hid ((hb5.block M (lt_of_block K4.out)).trans K4.out)
            have R5 := hid ((hb5.block w.heap.size (lt_of_block R4.out)).trans R4.out)
            have hbw5 := hbw4.trans (hb5.mono hbw4.size)
            clear r0 r1 r2 K4 R4 hb5
            obtain ⟨a0, a1, a2, af⟩ := cells3 R5.out
            go_wp2_with fail
            refine bodyPost_ret (v := .tuple #[hdV zeroHd, .int .i64 40]) (by simp [results, Try.results18, go_sem, hdV, zeroHd, a0, a1, a2, af]) rfl ⟨by rw [Hr.out], ?_⟩
            iterate 3 refine Below.setCell ?_ (by simp) _
            exact hbw5
          · rw [e5] at hl2
            have hr : tkHd s = (⟨n, f, p⟩, 0) := by rw [Hres.out, Hbad.out, e1, e2, e5]; rfl
            have Hr := hid hr
            clear hr
            obtain ⟨f0, f1, f2, ff⟩ := cells3 K4.out
            have r0 := fun d os => cell_regrown f0 d os
            have r1 := fun d os => cell_regrown f1 d os
            have r2 := fun d os => cell_regrown f2 d os
            clear f0 f1 f2 ff
            refine region_below (by kernel_rfl) (by kernel_rfl) ?_
            repeat (go_big_quiet_step ((first | (go_at_call 17; with_reducible exact Calls.regrown_of (HH2 _)))))
            refine wpQuiet_nil ?_
            intro w5 hb5
            have K5 := hid ((hb5.block M (lt_of_block K4.out)).trans K4.out)
            have R5 := hid ((hb5.block w.heap.size (lt_of_block R4.out)).trans R4.out)
            have hbw5 := hbw4.trans (hb5.mono hbw4.size)
            clear r0 r1 r2 K4 R4 hb5
            obtain ⟨a0, a1, a2, af⟩ := cells3 R5.out
            obtain ⟨f0, f1, f2, ff⟩ := cells3 K5.out
            go_wp2_with fail
            refine bodyPost_ret (v := .tuple #[hdV ⟨n, f, p⟩, .int .i64 0]) (by simp [results, Try.results18, go_sem, hdV, zeroHd, a0, a1, a2, af]) rfl ⟨by rw [Hr.out], ?_⟩
            iterate 3 refine Below.setCell ?_ (by simp) _
            exact hbw5

theorem refTakeHead_any (s : List UInt8) (w : World) (hs : s.length ≤ 1099511627776) :
    Calls Try.prog 18 #[.string (bs s)] w fun e w' => e = .returned (.tuple #[hdV (tkHd s).1, .int .i64 (tkHd s).2]) ∧ Below w.heap.size w w' := by
  by_cases h : s.length < 64
  · have e : tkHd s = (zeroHd, 10) := by unfold tkHd; rw [if_pos h]
    rw [e]
    exact refTakeHead_short s w h
  · exact refTakeHead_long s w (by omega) hs
end Go.Proofs.Ytnfoahedkkamhaa
