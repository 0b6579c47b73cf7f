/- counterfoilref04.Head, Start, value. -/
import Derived.Test.YtnfoahedkkamhaaFrR
namespace Go.Proofs.Ytnfoahedkkamhaa
open Go.RowKit
set_option linter.unusedVariables false
set_option linter.unusedSimpArgs false

set_option maxHeartbeats 1000000 in
set_option maxRecDepth 100000 in
theorem refHead_any (h : Hd) (w : World) (hm : hdMay h = true) (hw : HdWf h) :
    Calls Try.prog 17 #[hdV h] w fun e w' => e = .returned (.string (bs (hdL h))) ∧ Below w.heap.size w w' := by
  obtain ⟨⟨f0, f1⟩, p0, p1⟩ := hdMay_bd hm
  have E1 := fun W => fixed8_any h.number W hw.1 hw.2
  have E2 := fun W => number4_any h.frames W f0 (by omega)
  have E3 := fun W => number4_any h.pages W p0 (by omega)
  have hB := hdB_eq h
  have hL := hdL_eq h
  have hBl := hdB_length h
  have hq := sumAdd_bd (0, 0) (hdB h) (by decide) (by decide)
  have A := fun W => refAdd_any (hdB h) (0, 0) W (by omega)
  obtain ⟨q, hqd⟩ : ∃ q, q = sumAdd (0, 0) (hdB h) := ⟨_, rfl⟩
  simp only [← hqd] at hq A hL
  have T := fun W => refText_any q W hq.1.1 hq.1.2 hq.2.1 hq.2.2
  obtain ⟨B, hBd⟩ : ∃ B, B = hdB h := ⟨_, rfl⟩
  simp only [← hBd] at hB hL hBl A
  have HB := hid hB
  have HL := hid hL
  have l8 := eight_length h.number
  have l4 := four_length h.frames
  have l4' := four_length h.pages
  have lc := wordC_length
  have tl := textOf_length q
  have zl := zeros_length 32
  have bl : B.length ≤ 1000 := by omega
  have s1 : B.length + 8 ≤ 9223372036854775807 := by omega
  have s2 : B.length + (8 + 32) ≤ 9223372036854775807 := by omega
  have s3 : ¬ (9223372036854775807 < B.length + 8) := by omega
  have s4 : ¬ (9223372036854775807 < B.length + (8 + 32)) := by omega
  have s5 : ¬ (9223372036854775807 < B.length + 8 + 32) := by omega
  have ew : ByteArray.mk #[99, 111, 117, 110, 116, 101, 114, 102] = bs wordC := rfl
  clear hB hL hBl hBd hqd hm hw f0 f1 p0 p1 hq
  obtain ⟨n, f, p⟩ := h
  unfold hdV
  simp only at *
  go_enter Try.func17, Try.ntmps17
  go_wp2_with fail
  obtain ⟨c0, c1, c2, cf⟩ := cells3 (heap_alloc_new w (.cells #[.int .u64 n, .int .i64 f, .int .i64 p] 27))
  have r0 := fun d os => cell_regrown c0 d os
  have r1 := fun d os => cell_regrown c1 d os
  have r2 := fun d os => cell_regrown c2 d os
  clear c0 c1 c2 cf
  refine region_below (by kernel_rfl) (by kernel_rfl) ?_
  repeat (go_big_quiet_step ((first | (go_at_call 36; with_reducible exact Calls.regrown_of (E1 _)) | (go_at_call 37; first | with_reducible exact Calls.regrown_of (E2 _) | with_reducible exact Calls.regrown_of (E3 _)))))
  refine wpQuiet_nil ?_
  intro w1 hb1
  have hbw1 : Below w.heap.size w w1 := ((Below.refl _ _).alloc (Nat.le_refl _) _).trans (hb1.mono (by simp))
  clear r0 r1 r2 E1 E2 E3 hb1
  have eB : wordC ++ (eight n ++ (four f ++ four p)) = B := HB.out.symm
  go_wp2_with fail
  refine (A _).mono ?_
  rintro e w2 ⟨rfl, hb2⟩
  have hbw2 := hbw1.trans (hb2.mono hbw1.size)
  go_wp2_with fail
  refine (T _).mono ?_
  rintro e w3 ⟨rfl, hb3⟩
  have hbw3 := hbw2.trans (hb3.mono hbw2.size)
  go_wp2_with fail
  refine (rnoughts_32 _).mono ?_
  rintro e w4 ⟨rfl, hb4⟩
  have hbw4 := hbw3.trans (hb4.mono hbw3.size)
  go_wp2_with fail
  go_ret
  exact ⟨ret_str HL.out.symm, hbw4⟩

set_option maxHeartbeats 400000 in
theorem refStart_any (n : Int) (w : World) (h0 : 0 ≤ n) (h1 : n < 18446744073709551616) :
    Calls Try.prog 20 #[.int .u64 n] w fun e w' => e = .returned (pairV (startP n)) ∧ Below w.heap.size w w' := by
  have E := fun W => fixed8_any n W h0 h1
  have O := fun W => refAdd_any (wordC ++ eight n) (0, 0) W (by simp [wordC_length, eight_length])
  have hl : (eight n).length = 8 := eight_length n
  have lc := wordC_length
  have ew : ByteArray.mk #[99, 111, 117, 110, 116, 101, 114, 102] = bs wordC := rfl
  have hs : startP n = sumAdd (0, 0) (wordC ++ eight n) := rfl
  obtain ⟨q, hq⟩ : ∃ q, q = sumAdd (0, 0) (wordC ++ eight n) := ⟨_, rfl⟩
  simp only [← hq] at O hs
  rw [hs]
  clear hq hs
  unfold pairV
  go_enter Try.func20, Try.ntmps20
  go_wp2_with fail
  refine (E _).mono ?_
  rintro e w1 ⟨rfl, hb1⟩
  go_wp2_with fail
  refine (O _).mono ?_
  rintro e w2 ⟨rfl, hb2⟩
  have hB : Below (w.alloc (.cells #[.int .u32 0, .int .u32 0] 33)).heap.size (w.alloc (.cells #[.int .u32 0, .int .u32 0] 33)) w2 := hb1.trans (hb2.mono hb1.size)
  have hbox := (hB.block w.heap.size (by simp)).trans (heap_alloc_new _ _)
  have hbw : Below w.heap.size w w2 := ((Below.refl _ _).alloc (Nat.le_refl _) _).trans (hB.mono (by simp))
  obtain ⟨c0, c1, cf⟩ := cells2 hbox
  clear hB hb1 hb2 E O hbox
  go_wp2_with fail
  refine bodyPost_ret (v := .agg #[.int .u32 q.1, .int .u32 q.2]) (by simp [results, Try.results20, go_sem, c0, c1, cf]) rfl ⟨rfl, ?_⟩
  exact (hbw.setCell (by simp) _).setCell (by simp) _

/-- 'value' of four bytes. -/
theorem rvalue_any (l : List UInt8) (w : World) (hl : l.length = 4) :
    Calls Try.prog 42 #[.string (bs l)] w fun e w' => e = .returned (.int .i64 (num l)) ∧ Below w.heap.size w w' := by
  have V := fun W => value_any l W (by omega)
  have b := num4_bd l
  rw [List.take_of_length_le (by omega)] at b
  have em : num l % 18446744073709551616 = num l := by omega
  simp only [em] at V
  obtain ⟨n, hn⟩ : ∃ n, n = num l := ⟨_, rfl⟩
  simp only [← hn] at V b ⊢
  obtain ⟨b0, b1⟩ := b
  clear hn em hl
  have HV := hid V
  clear V
  go_enter Try.func42, Try.ntmps42
  go_wp2_with fail
  refine (HV.out _).mono ?_
  rintro e w1 ⟨rfl, hb1⟩
  go_wp2_with fail
  go_ret
  exact ⟨rfl, hb1⟩
theorem rvalue8_any (l : List UInt8) (w : World) (hl : l.length = 8) :
    Calls Try.prog 41 #[.string (bs l)] w fun e w' => e = .returned (.int .u64 (num l)) ∧ Below w.heap.size w w' := by
  have V := value_any l w (by omega)
  have b := num8_lt l
  rw [List.take_of_length_le (by omega)] at b
  have em : num l % 18446744073709551616 = num l := by omega
  rwa [em] at V
end Go.Proofs.Ytnfoahedkkamhaa
