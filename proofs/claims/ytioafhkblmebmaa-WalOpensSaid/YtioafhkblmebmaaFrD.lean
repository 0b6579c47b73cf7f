/- frame.TakeHead: what it comes to. -/
import Derived.Test.YtioafhkblmebmaaFrC
import Derived.Deep.DeepCutAuto
namespace Go.Proofs.Ytioafhkblmebmaa
open Go.RowKit
set_option linter.unusedVariables false
set_option linter.unusedSimpArgs false

def zeroHd : Hd := ⟨0, 0, 0⟩
def hdOf (s : List UInt8) : Hd := ⟨num ((s.drop 8).take 8), num ((s.drop 16).take 4), num ((s.drop 20).take 4)⟩
def hdBad (s : List UInt8) : Bool := !(s.take 8 == wordC) || (!((s.drop 32).take 32 == zeros 32) || (!inB (hdOf s).frames 0 256 || !inB (hdOf s).pages 0 256))
def tkHd (s : List UInt8) : Hd × Int :=
  if s.length < 64 then (zeroHd, 10)
  else if hdBad s then (zeroHd, 11)
  else if (s.drop 24).take 8 == textOf (sumAdd (0, 0) (s.take 24)) then (hdOf s, 0) else (zeroHd, 40)

theorem sub_take (s : List UInt8) (a b k n : Nat) (h : k + n ≤ b) : (((s.drop a).take b).drop k).take n = (s.drop (a + k)).take n := by
  rw [List.drop_take, List.take_take, List.drop_drop]
  congr 1
  omega
theorem sub_take0 (s : List UInt8) (a b n : Nat) (h : n ≤ b) : ((s.drop a).take b).take n = (s.drop a).take n := by
  rw [List.take_take]
  congr 1
  omega

set_option maxHeartbeats 400000 in
theorem takeHead_short (s : List UInt8) (w : World) (h : s.length < 64) :
    Calls Try.prog 31 #[.string (bs s)] w fun e w' => e = .returned (.tuple #[hdV zeroHd, .int .i64 10]) ∧ Below w.heap.size w w' := by
  have h1 : decide ((s.length : Int) < 64) = true := by simp; omega
  go_enter Try.func31, Try.ntmps31
  go_wp2_with fail
  refine bodyPost_ret (v := .tuple #[hdV zeroHd, .int .i64 10]) (by simp [results, Try.results31, go_sem, hdV, zeroHd]) rfl ⟨rfl, ?_⟩
  repeat (first | exact (Below.refl _ _).alloc (Nat.le_refl _) _ | refine Below.setCell ?_ (by simp) _)

set_option maxHeartbeats 4000000 in
set_option maxRecDepth 100000 in
theorem takeHead_long (s : List UInt8) (w : World) (h : 64 ≤ s.length) (hs : s.length ≤ 1099511627776) :
    Calls Try.prog 31 #[.string (bs s)] w fun e w' => e = .returned (.tuple #[hdV (tkHd s).1, .int .i64 (tkHd s).2]) ∧ Below w.heap.size w w' := by
  have h1 : decide ((s.length : Int) < 64) = false := by simp; omega
  have hres : tkHd s = if hdBad s then (zeroHd, 11) else if (s.drop 24).take 8 == textOf (sumAdd (0, 0) (s.take 24)) then (hdOf s, 0) else (zeroHd, 40) := by
    unfold tkHd; rw [if_neg (by omega)]
  have hbad : hdBad s = (!(s.take 8 == wordC) || (!((s.drop 32).take 32 == zeros 32) || (!inB (hdOf s).frames 0 256 || !inB (hdOf s).pages 0 256))) := rfl
  have G1 := fun W => takeEight_any (s.drop 8) W (by simp; omega) (by simp; omega)
  have G2 := fun W => fours_any ((s.drop 16).take 16) W (by simp; omega) (by simp; omega)
  have hof : hdOf s = ⟨num ((s.drop 8).take 8), num ((s.drop 16).take 4), num ((s.drop 20).take 4)⟩ := rfl
  unfold foursV at G2
  rw [sub_take0 s 16 16 4 (by omega), sub_take s 16 16 4 4 (by omega)] at G2
  have bq := num8_lt (s.drop 8)
  obtain ⟨n, hn⟩ : ∃ x, x = num ((s.drop 8).take 8) := ⟨_, rfl⟩
  obtain ⟨f, hf⟩ : ∃ x, x = num ((s.drop 16).take 4) := ⟨_, rfl⟩
  obtain ⟨p, hp⟩ : ∃ x, x = num ((s.drop 20).take 4) := ⟨_, rfl⟩
  obtain ⟨u, hu⟩ : ∃ x, x = num ((((s.drop 16).take 16).drop 8).take 4) := ⟨_, rfl⟩
  obtain ⟨v, hv⟩ : ∃ x, x = num ((((s.drop 16).take 16).drop 12).take 4) := ⟨_, rfl⟩
  simp only [← hn] at G1 hof bq
  simp only [← hf, ← hu, ← hv] at G2
  simp only [← hf] at hof
  simp only [← hp] at G2 hof
  rw [hof] at hres hbad
  simp only at hbad
  obtain ⟨B, hB⟩ : ∃ b, b = hdBad s := ⟨_, rfl⟩
  rw [← hB] at hres hbad
  have Hres := hid hres
  have Hbad := hid hbad
  have hq := sumAdd_bd (0, 0) (s.take 24) (by decide) (by decide)
  have O := fun W => of_any (s.take 24) W (by simp; omega)
  have T := fun W => text_any (sumAdd (0, 0) (s.take 24)) W hq.1.1 hq.1.2 hq.2.1 hq.2.2
  have Z : ∀ W : World, Calls Try.prog 57 #[.int .i64 32] W fun e w' => e = .returned (.string (bs (zeros 32))) ∧ Below W.heap.size W w' := fun W => noughts_at 32 32 W rfl (by decide)
  have F1 : ∀ W : World, Calls Try.prog 58 #[.int .i64 f, .int .i64 0, .int .i64 256] W fun e w' => e = .returned (.bool (inB f 0 256)) ∧ Below W.heap.size W w' := fun W => (within_any f 0 256 W).mono fun e w' ⟨h1, h2⟩ => ⟨h1, by rw [h2]; exact Below.refl _ _⟩
  have F2 : ∀ W : World, Calls Try.prog 58 #[.int .i64 p, .int .i64 0, .int .i64 256] W fun e w' => e = .returned (.bool (inB p 0 256)) ∧ Below W.heap.size W w' := fun W => (within_any p 0 256 W).mono fun e w' ⟨h1, h2⟩ => ⟨h1, by rw [h2]; exact Below.refl _ _⟩
  have ew : ByteArray.mk #[99, 111, 117, 110, 116, 101, 114, 102] = bs wordC := rfl
  have s8 : (8 : Int) ≤ (s.length : Int) := by omega
  have s32 : (32 : Int) ≤ (s.length : Int) := by omega
  have s64 : (64 : Int) ≤ (s.length : Int) := by omega
  have s24 : (24 : Int) ≤ (s.length : Int) := by omega
  have t8 : (8 : Nat) ≤ s.length := by omega
  have t32 : (32 : Nat) ≤ s.length := by omega
  have t24 : (24 : Nat) ≤ s.length := by omega
  clear hres hbad hn hf hp hu hv hof hq hB
  go_enter Try.func31, Try.ntmps31
  go_wp2_with fail
  refine (G1 _).mono ?_
  rintro e w1 ⟨rfl, hb1⟩
  have HR := hid ((hb1.block w.heap.size (by simp)).trans (heap_alloc_new _ _))
  have hbw1 : Below w.heap.size w w1 := ((Below.refl _ _).alloc (Nat.le_refl _) _).trans (hb1.mono (by simp))
  clear hb1 G1
  go_wp2_with fail
  refine (G2 _).mono ?_
  rintro e w2 ⟨rfl, hb2⟩
  have HR2 := hid ((hb2.block w.heap.size (lt_of_block HR.out)).trans HR.out)
  have hbw2 := hbw1.trans (hb2.mono hbw1.size)
  have hRlt := lt_of_block HR2.out
  clear hb2 G2 HR hbw1
  go_upto_region 6 with fail
  go_cut [47] (fun s47 wx => s47 = .bool B ∧ ∃ wy, wy = wx ∧ Below ((w2.alloc (.cells #[.int .i64 f, .int .i64 p, .int .i64 u, .int .i64 v] 114)).alloc (.cells #[.int .u64 n, .int .i64 f, .int .i64 p] 57)).heap.size ((w2.alloc (.cells #[.int .i64 f, .int .i64 p, .int .i64 u, .int .i64 v] 114)).alloc (.cells #[.int .u64 n, .int .i64 f, .int .i64 p] 57)) wy)
  case first =>
    obtain ⟨c0, c1, c2, cf⟩ := cells3 (heap_two_new w2 (.cells #[.int .i64 f, .int .i64 p, .int .i64 u, .int .i64 v] 114) (.cells #[.int .u64 n, .int .i64 f, .int .i64 p] 57))
    have r1 := fun d os => cell_regrown c1 d os
    have r2 := fun d os => cell_regrown c2 d os
    clear c0 c1 c2 cf O T
    cases e1 : (s.take 8 == wordC)
    · have hz := hid True.intro
      refine region_below (by kernel_rfl) (by kernel_rfl) ?_
      repeat (go_big_quiet_step ((first | (go_at_call 57; with_reducible exact Calls.regrown_of (Z _)) | (go_at_call 58; first | with_reducible exact Calls.regrown_of (F1 _) | with_reducible exact Calls.regrown_of (F2 _)))))
      refine wpQuiet_nil ?_
      intro w3 hb3
      go_wp2_with fail
      go_meet
      exact ⟨by rw [Hbad.out]; simp [e1], _, rfl, hb3⟩
    · cases e2 : ((s.drop 32).take 32 == zeros 32)
      · have hz := hid True.intro
        refine region_below (by kernel_rfl) (by kernel_rfl) ?_
        repeat (go_big_quiet_step ((first | (go_at_call 57; with_reducible exact Calls.regrown_of (Z _)) | (go_at_call 58; first | with_reducible exact Calls.regrown_of (F1 _) | with_reducible exact Calls.regrown_of (F2 _)))))
        refine wpQuiet_nil ?_
        intro w3 hb3
        go_wp2_with fail
        go_meet
        exact ⟨by rw [Hbad.out]; simp [e1, e2], _, rfl, hb3⟩
      · obtain ⟨x, hx⟩ : ∃ x, x = inB f 0 256 := ⟨_, rfl⟩
        obtain ⟨y, hy⟩ : ∃ y, y = inB p 0 256 := ⟨_, rfl⟩
        rw [← hx, ← hy] at Hbad
        simp only [← hx] at F1
        simp only [← hy] at F2
        clear hx hy
        cases x
        · have hz := hid True.intro
          refine region_below (by kernel_rfl) (by kernel_rfl) ?_
          repeat (go_big_quiet_step ((first | (go_at_call 57; with_reducible exact Calls.regrown_of (Z _)) | (go_at_call 58; first | with_reducible exact Calls.regrown_of (F1 _) | with_reducible exact Calls.regrown_of (F2 _)))))
          refine wpQuiet_nil ?_
          intro w3 hb3
          go_wp2_with fail
          go_meet
          exact ⟨by rw [Hbad.out]; simp [e1, e2], _, rfl, hb3⟩
        · cases y
          · have hz := hid True.intro
            refine region_below (by kernel_rfl) (by kernel_rfl) ?_
            repeat (go_big_quiet_step ((first | (go_at_call 57; with_reducible exact Calls.regrown_of (Z _)) | (go_at_call 58; first | with_reducible exact Calls.regrown_of (F1 _) | with_reducible exact Calls.regrown_of (F2 _)))))
            refine wpQuiet_nil ?_
            intro w3 hb3
            go_wp2_with fail
            go_meet
            exact ⟨by rw [Hbad.out]; simp [e1, e2], _, rfl, hb3⟩
          · have hz := hid True.intro
            refine region_below (by kernel_rfl) (by kernel_rfl) ?_
            repeat (go_big_quiet_step ((first | (go_at_call 57; with_reducible exact Calls.regrown_of (Z _)) | (go_at_call 58; first | with_reducible exact Calls.regrown_of (F1 _) | with_reducible exact Calls.regrown_of (F2 _)))))
            refine wpQuiet_nil ?_
            intro w3 hb3
            go_wp2_with fail
            go_meet
            exact ⟨by rw [Hbad.out]; simp [e1, e2], _, rfl, hb3⟩
  case rest =>
    obtain ⟨rfl, wx, rfl, hbx⟩ := hcut
    have hb26 : Below w2.heap.size w2 ((w2.alloc (.cells #[.int .i64 f, .int .i64 p, .int .i64 u, .int .i64 v] 114)).alloc (.cells #[.int .u64 n, .int .i64 f, .int .i64 p] 57)) := ((Below.refl _ _).alloc (Nat.le_refl _) _).alloc (by simp) _
    have hbwx : Below w.heap.size w wx := (hbw2.trans (hb26.mono hbw2.size)).trans (hbx.mono (by have := hbw2.size; simp; omega))
    have HRx := hid ((hbx.block w.heap.size (by simp; omega)).trans (heap_alloc_old (heap_alloc_old HR2.out)))
    have HMx := hid ((hbx.block (w2.heap.size + 1) (by simp)).trans (heap_two_new w2 _ _))
    have hRx := lt_of_block HRx.out
    have hMx := lt_of_block HMx.out
    obtain ⟨r0, r1, r2, rf⟩ := cells3 HRx.out
    obtain ⟨m0, m1, m2, mf⟩ := cells3 HMx.out
    clear hbx hb26 HR2 HRx HMx F1 F2 Z
    cases B
    · cases e5 : ((s.drop 24).take 8 == textOf (sumAdd (0, 0) (s.take 24)))
      · have hr : tkHd s = (zeroHd, 40) := by rw [Hres.out, e5]; rfl
        have Hr := hid hr
        clear hr Hres Hbad
        go_wp2_with fail
        refine region_below (by kernel_rfl) (by kernel_rfl) ?_
        repeat (go_big_quiet_step ((first | (go_at_call 53; with_reducible exact Calls.regrown_of (O _)) | (go_at_call 59; with_reducible exact Calls.regrown_of (T _)))))
        refine wpQuiet_nil ?_
        intro w7 hb7
        have hbw7 := hbwx.trans (hb7.mono hbwx.size)
        have r0' := (hb7.cell (p := ⟨w.heap.size, 0, none⟩) hRx).trans r0
        have r1' := (hb7.cell (p := ⟨w.heap.size, 1, none⟩) hRx).trans r1
        have r2' := (hb7.cell (p := ⟨w.heap.size, 2, none⟩) hRx).trans r2
        have rf' := fun o => (hb7.frozen (p := ⟨w.heap.size, o, none⟩) hRx).trans (rf o)
        have m0' := (hb7.cell (p := ⟨w2.heap.size + 1, 0, none⟩) hMx).trans m0
        have m1' := (hb7.cell (p := ⟨w2.heap.size + 1, 1, none⟩) hMx).trans m1
        have m2' := (hb7.cell (p := ⟨w2.heap.size + 1, 2, none⟩) hMx).trans m2
        clear r0 r1 r2 rf m0 m1 m2 mf hbwx hb7 O T
        obtain ⟨r0, r1, r2, rf, hbwx⟩ := (⟨r0', r1', r2', rf', hbw7⟩ : _ ∧ _ ∧ _ ∧ _ ∧ _)
        clear r0' r1' r2' rf' hbw7
        go_wp2_with fail
        refine bodyPost_ret (v := .tuple #[hdV zeroHd, .int .i64 40]) (by simp [results, Try.results31, go_sem, hdV, zeroHd, r0, r1, r2, rf]) rfl ⟨by rw [Hr.out], ?_⟩
        iterate 3 refine Below.setCell ?_ (by simp) _
        exact hbwx
      · have hr : tkHd s = (⟨n, f, p⟩, 0) := by rw [Hres.out, e5]; rfl
        have Hr := hid hr
        clear hr Hres Hbad
        go_wp2_with fail
        refine region_below (by kernel_rfl) (by kernel_rfl) ?_
        repeat (go_big_quiet_step ((first | (go_at_call 53; with_reducible exact Calls.regrown_of (O _)) | (go_at_call 59; with_reducible exact Calls.regrown_of (T _)))))
        refine wpQuiet_nil ?_
        intro w7 hb7
        have hbw7 := hbwx.trans (hb7.mono hbwx.size)
        have r0' := (hb7.cell (p := ⟨w.heap.size, 0, none⟩) hRx).trans r0
        have r1' := (hb7.cell (p := ⟨w.heap.size, 1, none⟩) hRx).trans r1
        have r2' := (hb7.cell (p := ⟨w.heap.size, 2, none⟩) hRx).trans r2
        have rf' := fun o => (hb7.frozen (p := ⟨w.heap.size, o, none⟩) hRx).trans (rf o)
        have m0' := (hb7.cell (p := ⟨w2.heap.size + 1, 0, none⟩) hMx).trans m0
        have m1' := (hb7.cell (p := ⟨w2.heap.size + 1, 1, none⟩) hMx).trans m1
        have m2' := (hb7.cell (p := ⟨w2.heap.size + 1, 2, none⟩) hMx).trans m2
        clear r0 r1 r2 rf m0 m1 m2 mf hbwx hb7 O T
        obtain ⟨r0, r1, r2, rf, hbwx⟩ := (⟨r0', r1', r2', rf', hbw7⟩ : _ ∧ _ ∧ _ ∧ _ ∧ _)
        clear r0' r1' r2' rf' hbw7
        go_wp2_with fail
        refine bodyPost_ret (v := .tuple #[hdV ⟨n, f, p⟩, .int .i64 0]) (by simp [results, Try.results31, go_sem, hdV, zeroHd, r0, r1, r2, rf]) rfl ⟨by rw [Hr.out], ?_⟩
        iterate 3 refine Below.setCell ?_ (by simp) _
        exact hbwx
    · have hr : tkHd s = (zeroHd, 11) := by rw [Hres.out]; rfl
      have Hr := hid hr
      clear hr Hres Hbad O T
      go_wp2_with fail
      refine bodyPost_ret (v := .tuple #[hdV zeroHd, .int .i64 11]) (by simp [results, Try.results31, go_sem, hdV, zeroHd, r0, r1, r2, rf]) rfl ⟨by rw [Hr.out], ?_⟩
      iterate 3 refine Below.setCell ?_ (by simp) _
      exact hbwx

theorem takeHead_any (s : List UInt8) (w : World) (hs : s.length ≤ 1099511627776) :
    Calls Try.prog 31 #[.string (bs s)] w fun e w' => e = .returned (.tuple #[hdV (tkHd s).1, .int .i64 (tkHd s).2]) ∧ Below w.heap.size w w' := by
  by_cases h : s.length < 64
  · have e : tkHd s = (zeroHd, 10) := by unfold tkHd; rw [if_pos h]
    rw [e]
    exact takeHead_short s w h
  · exact takeHead_long s w (by omega) hs
end Go.Proofs.Ytioafhkblmebmaa
