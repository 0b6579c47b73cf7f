/- The reference of a header: in, Put. -/
import Derived.Test.YtgjcamcboacijaaGreatSpW
namespace Go.Proofs.YtgjcamcboacijaaGreat
open Go.RowKit Go.Maps
set_option linter.unusedVariables false
set_option linter.unusedSimpArgs false
set_option maxRecDepth 20000

theorem rin_any (n : Int) (w : World) : Calls Tryz.prog 32 #[.int .i64 n] w fun e w' => e = .returned (.bool (pageB n)) ∧ w' = w := by
  unfold pageB
  by_cases h1 : 0 ≤ n
  · have b1 : decide (0 ≤ n) = true := by simpa using h1
    go_enter Tryz.func32, Tryz.ntmps32
    go_wp2_with fail
    go_ret
    exact ⟨by simp [h1], rfl⟩
  · have b1 : decide (0 ≤ n) = false := by simpa using h1
    go_enter Tryz.func32, Tryz.ntmps32
    go_wp2_with fail
    go_ret
    exact ⟨by simp [h1], rfl⟩
/-- Four bytes of what any number is as a uint64. -/
def rfour (n : Int) : List UInt8 := fixedL (IntKind.u64.wrap n) 4
theorem rfour_length (n : Int) : (rfour n).length = 4 := fixedL_length _ _
theorem rfour_four {n : Int} (h0 : 0 ≤ n) (h1 : n ≤ 256) : rfour n = four n := by
  unfold rfour four
  rw [fixedL_succ, fixedL_succ, fixedL_succ, fixedL_succ, fixedL_zero, IntKind.wrap_u64]
  rw [show n % 18446744073709551616 = n by omega, show n / 256 ^ 3 % 256 = n / 16777216 by omega, show n / 256 ^ 2 % 256 = n / 65536 % 256 by omega, show n / 256 ^ 1 % 256 = n / 256 % 256 by omega, show n / 256 ^ 0 % 256 = n % 256 by omega]
theorem fixed_eight {k : Int} (h0 : 0 ≤ k) (h1 : k < 18446744073709551616) : fixedL k 8 = eight k := by
  unfold eight four
  rw [fixedL_succ, fixedL_succ, fixedL_succ, fixedL_succ, fixedL_succ, fixedL_succ, fixedL_succ, fixedL_succ, fixedL_zero]
  rw [show k / 256 ^ 7 % 256 = k / 4294967296 / 16777216 by omega, show k / 256 ^ 6 % 256 = k / 4294967296 / 65536 % 256 by omega, show k / 256 ^ 5 % 256 = k / 4294967296 / 256 % 256 by omega, show k / 256 ^ 4 % 256 = k / 4294967296 % 256 by omega, show k / 256 ^ 3 % 256 = k % 4294967296 / 16777216 by omega, show k / 256 ^ 2 % 256 = k % 4294967296 / 65536 % 256 by omega, show k / 256 ^ 1 % 256 = k % 4294967296 / 256 % 256 by omega, show k / 256 ^ 0 % 256 = k % 4294967296 % 256 by omega]
  rfl
attribute [irreducible] rfour
theorem rfours_length : ∀ l : List Int, (l.flatMap rfour).length = 4 * l.length
  | [] => rfl
  | x :: r => by
    have := rfours_length r
    simp only [List.flatMap_cons, List.length_append, List.length_cons, this, rfour_length]
    omega
theorem step_all {m B q : Bool} {l : List Int} {i : Nat} {r : Int} (hm : m = (B && (l.take i).all pageB)) (hr : l[i]? = some r) (hq : pageB r = q) : (m && q) = (B && (l.take (i + 1)).all pageB) := by
  rw [List.take_add_one, hr, List.all_append, hm, ← hq]
  simp [Bool.and_assoc]
theorem rin_final {M : Bool} {f c k : Int} {l : List Int} {T0 s : List UInt8} {R0 : List UInt8 × Int} (hR : R0 = putH ⟨f, c, k, l⟩) (hl : l.length = 8) (hM : M = ((pageB f && f != 1 && pageB c) && (l.take 8).all pageB)) (hs : s = T0 ++ (l.take 8).flatMap rfour) (hT : T0 = wordP ++ (rfour f ++ (rfour c ++ eight k))) : R0 = if M then (s ++ List.replicate 456 0, 0) else ([], 2) := by
  have ht : l.take 8 = l := List.take_of_length_le (by omega)
  rw [ht] at hM hs
  have e : M = hdrMayB ⟨f, c, k, l⟩ := by rw [hM]; unfold hdrMayB; simp only; rw [Bool.and_comm]
  rw [hR]
  unfold putH
  rw [e]
  split
  · rename_i hm
    obtain ⟨hr, hf, hc⟩ := hdrMay_all hm
    rw [hs, hT, rfour_four hf.1 hf.2.1, rfour_four hc.1 hc.2]
    have hx : l.flatMap rfour = l.flatMap four := by
      unfold List.flatMap
      congr 1
      exact List.map_congr_left fun n hn => rfour_four (hr n hn).1 (hr n hn).2
    rw [hx]
    unfold hdrPg hdrText zeros
    simp only [List.append_assoc]
  · rfl
theorem u64_range (n : Int) : 0 ≤ IntKind.u64.wrap n ∧ IntKind.u64.wrap n < 18446744073709551616 := by
  rw [IntKind.wrap_u64]
  omega
theorem rfour_any (n u : Int) (hu : IntKind.u64.wrap n = u) (w : World) : Calls Tryz.prog 31 #[.int .u64 u, .int .i64 4] w fun e w' => e = .returned (.string (bs (rfour n))) ∧ Below w.heap.size w w' := by
  have h := u64_range n
  have A := fixed_any (IntKind.u64.wrap n) 4 w h.1 h.2 (by decide)
  rw [hu] at A
  unfold rfour
  rw [hu]
  exact A
theorem reight_any (k : Int) (h0 : 0 ≤ k) (h1 : k < 18446744073709551616) (w : World) : Calls Tryz.prog 31 #[.int .u64 k, .int .i64 8] w fun e w' => e = .returned (.string (bs (eight k))) ∧ Below w.heap.size w w' := by
  have A := fixed_any k 8 w h0 h1 (by decide)
  rw [fixed_eight h0 h1] at A
  exact A
set_option maxHeartbeats 8000000 in
set_option maxRecDepth 20000 in
theorem rput_any (h : Hdr) (hw : h.Wf) (w : World) : Calls Tryz.prog 9 #[hdrV h] w fun e w' => e = .returned (.tuple #[.string (bs (putH h).1), .int .i64 (putH h).2]) ∧ Below w.heap.size w w' := by
  have hwk := hw.commits
  obtain ⟨R0, hR0⟩ : ∃ R0, R0 = putH h := ⟨_, rfl⟩
  rw [← hR0]
  have HR0 := hid hR0
  clear hR0
  obtain ⟨f, c, k, r0, r1, r2, r3, r4, r5, r6, r7, rfl⟩ := hdr_form hw.len
  have hbox := heap_alloc_new w (.cells #[.int .i64 f, .int .i64 c, .int .u64 k, .int .i64 r0, .int .i64 r1, .int .i64 r2, .int .i64 r3, .int .i64 r4, .int .i64 r5, .int .i64 r6, .int .i64 r7] 25)
  have hb := (Below.refl w.heap.size w).alloc (Nat.le_refl _) (.cells #[.int .i64 f, .int .i64 c, .int .u64 k, .int .i64 r0, .int .i64 r1, .int .i64 r2, .int .i64 r3, .int .i64 r4, .int .i64 r5, .int .i64 r6, .int .i64 r7] 25)
  have HB := hid hb
  have Hbox := hid hbox
  unfold hdrV hdrCells at *
  simp only [List.map_cons, List.map_nil] at *
  obtain ⟨uf, u0⟩ : ∃ uf, IntKind.u64.wrap f = uf := ⟨_, rfl⟩
  obtain ⟨uc, u1⟩ : ∃ uc, IntKind.u64.wrap c = uc := ⟨_, rfl⟩
  have F1 := hid (fun W => rfour_any f uf u0 W)
  have F2 := hid (fun W => rfour_any c uc u1 W)
  have E1 := hid (fun W => reight_any k hwk.1 hwk.2 W)
  have IF := hid (fun W => rin_any f W)
  have IC := hid (fun W => rin_any c W)
  obtain ⟨⟨c0, c1, c2⟩, -, -⟩ := cells11 hbox
  have q0 := fun d os => cell_regrown c0 d os
  have q1 := fun d os => cell_regrown c1 d os
  have q2 := fun d os => cell_regrown c2 d os
  have l4 : ∀ n, (rfour n).length = 4 := fun n => rfour_length n
  have l8 : (eight k).length = 8 := rfl
  have lw : wordP.length = 8 := rfl
  have ew : ByteArray.mk #[99, 102, 45, 112, 97, 103, 101, 115] = bs wordP := rfl
  clear hbox hb hw hwk
  go_enter Tryz.func9, Tryz.ntmps9
  go_upto_region 1 with fail
  refine region_below (by kernel_rfl) (by kernel_rfl) ?_
  clear c0 c1 c2
  repeat (go_big_quiet_step ((first | (go_at_call 31; first | with_reducible exact Calls.regrown_of (F1.out _) | with_reducible exact Calls.regrown_of (F2.out _) | with_reducible exact Calls.regrown_of (E1.out _)))))
  refine wpQuiet_nil ?_
  intro w3 hb3
  have hbx3 := (hb3.block _ (lt_of_block Hbox.out)).trans Hbox.out
  have HB3 := hid (then_below HB.out hb3)
  have Hbx3 := hid hbx3
  obtain ⟨⟨c0, c1, -⟩, -, -⟩ := cells11 hbx3
  clear hb3 q0 q1 q2 F1 F2 E1 u0 u1 l4 l8 lw ew hbx3
  obtain ⟨T0, hT0⟩ : ∃ T0, T0 = wordP ++ (rfour f ++ (rfour c ++ eight k)) := ⟨_, rfl⟩
  have hTl : T0.length = 24 := by rw [hT0]; simp [rfour_length, eight_length, wordP]
  have HT0 := hid hT0
  have HTl := hid hTl
  rw [← hT0]
  clear hT0 hTl
  obtain ⟨x, hx⟩ : ∃ x, x = pageB f := ⟨_, rfl⟩
  obtain ⟨y, hy⟩ : ∃ y, y = pageB c := ⟨_, rfl⟩
  obtain ⟨z, hz⟩ : ∃ z, z = (f != 1) := ⟨_, rfl⟩
  have hM : (x && z && y) = (pageB f && f != 1 && pageB c) := by rw [hx, hy, hz]
  replace IF := IF.out
  replace IC := IC.out
  simp only [← hx] at IF
  simp only [← hy] at IC
  replace IF := hid IF
  replace IC := hid IC
  have HM := hid hM
  have hz2 := hz.symm
  clear hx hy hz hM
  cases x <;> cases z
  all_goals (go_wp2_with (first
        | (go_at_call 32; with_reducible refine (IF.out _).mono ?_; rintro e w2 ⟨rfl, hw⟩; obtain rfl := hw.symm; clear IF)
        | (go_at_call 32; with_reducible refine (IC.out _).mono ?_; rintro e w2 ⟨rfl, hw⟩; obtain rfl := hw.symm; clear IC)
        | go_in))
  all_goals (
    go_loopw [4, 5, 6] (fun v4 v5 v6 wr => ∃ (i : Nat) (s : List UInt8) (m : Bool), i ≤ 8 ∧ v6 = .int .i64 (i : Int) ∧ v5 = .bool m ∧ v4 = .string (bs s) ∧ m = ((pageB f && f != 1 && pageB c) && (([r0, r1, r2, r3, r4, r5, r6, r7] : List Int).take i).all pageB) ∧ s = T0 ++ (([r0, r1, r2, r3, r4, r5, r6, r7] : List Int).take i).flatMap rfour ∧ Below w.heap.size w wr ∧ wr.heap[w.heap.size]? = some (.cells #[.int .i64 f, .int .i64 c, .int .u64 k, .int .i64 r0, .int .i64 r1, .int .i64 r2, .int .i64 r3, .int .i64 r4, .int .i64 r5, .int .i64 r6, .int .i64 r7] 25 (0, 0))) (fun _ _ v6 _ => 8 - (intOf v6).toNat)
    case atStart => exact ⟨0, T0, _, by omega, rfl, rfl, rfl, by rw [← HM.out]; simp, by simp, HB3.out, Hbx3.out⟩
    case round =>
      obtain ⟨i, s, m, hi, rfl, rfl, rfl, hm, hs, hbw, hbx⟩ := hrel
      have HBw := hid hbw
      have Hbx := hid hbx
      have Hs := hid hs
      have Hm := hid hm
      have hsl : s.length = 24 + 4 * i := by
        rw [hs, List.length_append, HTl.out, rfours_length, List.length_take]
        simp
        omega
      obtain ⟨-, ⟨c3, c4, c5, c6, c7, c8, c9, c10⟩, -⟩ := cells11 hbx
      clear hs hbw hm hbx c0 c1 hz2
      by_cases hlt : i < 8
      · have hi8 : i = 0 ∨ i = 1 ∨ i = 2 ∨ i = 3 ∨ i = 4 ∨ i = 5 ∨ i = 6 ∨ i = 7 := by omega
        have hcat : ¬ (9223372036854775807 < s.length + 4) := by omega
        have Hsl := hid hsl
        clear hi hlt hsl
        rcases hi8 with rfl | rfl | rfl | rfl | rfl | rfl | rfl | rfl

        · have l4 : (rfour r0).length = 4 := rfour_length _
          obtain ⟨u, hu⟩ : ∃ u, IntKind.u64.wrap r0 = u := ⟨_, rfl⟩
          have G := hid (fun W => rfour_any r0 u hu W)
          obtain ⟨q, hq⟩ : ∃ q, pageB r0 = q := ⟨_, rfl⟩
          have I := fun W => rin_any r0 W
          simp only [hq] at I
          replace I := hid I
          have Hq := hid hq
          clear hq
          cases m
          all_goals (go_wp2_with (first | (go_at_call 32; with_reducible refine (I.out _).mono ?_; rintro e w2 ⟨rfl, hw⟩; obtain rfl := hw.symm; clear I) | (go_at_call 31; refine (G.out _).mono ?_; rintro e w4 ⟨rfl, hb4⟩; have HB4 := hid hb4; clear hb4) | go_in))
          all_goals go_roundw
          all_goals first | (case rel => exact ⟨1, s ++ rfour r0, _, by omega, by first | rfl | trivial, rfl, by first | rfl | trivial, by have h := step_all Hm.out rfl Hq.out; simpa only [Bool.true_and, Bool.false_and] using h, by rw [Hs.out]; simp, then_below HBw.out HB4.out, (HB4.out.block _ (lt_of_block Hbx.out)).trans Hbx.out⟩) | skip
          all_goals simp [intOf]
        · have l4 : (rfour r1).length = 4 := rfour_length _
          obtain ⟨u, hu⟩ : ∃ u, IntKind.u64.wrap r1 = u := ⟨_, rfl⟩
          have G := hid (fun W => rfour_any r1 u hu W)
          obtain ⟨q, hq⟩ : ∃ q, pageB r1 = q := ⟨_, rfl⟩
          have I := fun W => rin_any r1 W
          simp only [hq] at I
          replace I := hid I
          have Hq := hid hq
          clear hq
          cases m
          all_goals (go_wp2_with (first | (go_at_call 32; with_reducible refine (I.out _).mono ?_; rintro e w2 ⟨rfl, hw⟩; obtain rfl := hw.symm; clear I) | (go_at_call 31; refine (G.out _).mono ?_; rintro e w4 ⟨rfl, hb4⟩; have HB4 := hid hb4; clear hb4) | go_in))
          all_goals go_roundw
          all_goals first | (case rel => exact ⟨2, s ++ rfour r1, _, by omega, by first | rfl | trivial, rfl, by first | rfl | trivial, by have h := step_all Hm.out rfl Hq.out; simpa only [Bool.true_and, Bool.false_and] using h, by rw [Hs.out]; simp, then_below HBw.out HB4.out, (HB4.out.block _ (lt_of_block Hbx.out)).trans Hbx.out⟩) | skip
          all_goals simp [intOf]
        · have l4 : (rfour r2).length = 4 := rfour_length _
          obtain ⟨u, hu⟩ : ∃ u, IntKind.u64.wrap r2 = u := ⟨_, rfl⟩
          have G := hid (fun W => rfour_any r2 u hu W)
          obtain ⟨q, hq⟩ : ∃ q, pageB r2 = q := ⟨_, rfl⟩
          have I := fun W => rin_any r2 W
          simp only [hq] at I
          replace I := hid I
          have Hq := hid hq
          clear hq
          cases m
          all_goals (go_wp2_with (first | (go_at_call 32; with_reducible refine (I.out _).mono ?_; rintro e w2 ⟨rfl, hw⟩; obtain rfl := hw.symm; clear I) | (go_at_call 31; refine (G.out _).mono ?_; rintro e w4 ⟨rfl, hb4⟩; have HB4 := hid hb4; clear hb4) | go_in))
          all_goals go_roundw
          all_goals first | (case rel => exact ⟨3, s ++ rfour r2, _, by omega, by first | rfl | trivial, rfl, by first | rfl | trivial, by have h := step_all Hm.out rfl Hq.out; simpa only [Bool.true_and, Bool.false_and] using h, by rw [Hs.out]; simp, then_below HBw.out HB4.out, (HB4.out.block _ (lt_of_block Hbx.out)).trans Hbx.out⟩) | skip
          all_goals simp [intOf]
        · have l4 : (rfour r3).length = 4 := rfour_length _
          obtain ⟨u, hu⟩ : ∃ u, IntKind.u64.wrap r3 = u := ⟨_, rfl⟩
          have G := hid (fun W => rfour_any r3 u hu W)
          obtain ⟨q, hq⟩ : ∃ q, pageB r3 = q := ⟨_, rfl⟩
          have I := fun W => rin_any r3 W
          simp only [hq] at I
          replace I := hid I
          have Hq := hid hq
          clear hq
          cases m
          all_goals (go_wp2_with (first | (go_at_call 32; with_reducible refine (I.out _).mono ?_; rintro e w2 ⟨rfl, hw⟩; obtain rfl := hw.symm; clear I) | (go_at_call 31; refine (G.out _).mono ?_; rintro e w4 ⟨rfl, hb4⟩; have HB4 := hid hb4; clear hb4) | go_in))
          all_goals go_roundw
          all_goals first | (case rel => exact ⟨4, s ++ rfour r3, _, by omega, by first | rfl | trivial, rfl, by first | rfl | trivial, by have h := step_all Hm.out rfl Hq.out; simpa only [Bool.true_and, Bool.false_and] using h, by rw [Hs.out]; simp, then_below HBw.out HB4.out, (HB4.out.block _ (lt_of_block Hbx.out)).trans Hbx.out⟩) | skip
          all_goals simp [intOf]
        · have l4 : (rfour r4).length = 4 := rfour_length _
          obtain ⟨u, hu⟩ : ∃ u, IntKind.u64.wrap r4 = u := ⟨_, rfl⟩
          have G := hid (fun W => rfour_any r4 u hu W)
          obtain ⟨q, hq⟩ : ∃ q, pageB r4 = q := ⟨_, rfl⟩
          have I := fun W => rin_any r4 W
          simp only [hq] at I
          replace I := hid I
          have Hq := hid hq
          clear hq
          cases m
          all_goals (go_wp2_with (first | (go_at_call 32; with_reducible refine (I.out _).mono ?_; rintro e w2 ⟨rfl, hw⟩; obtain rfl := hw.symm; clear I) | (go_at_call 31; refine (G.out _).mono ?_; rintro e w4 ⟨rfl, hb4⟩; have HB4 := hid hb4; clear hb4) | go_in))
          all_goals go_roundw
          all_goals first | (case rel => exact ⟨5, s ++ rfour r4, _, by omega, by first | rfl | trivial, rfl, by first | rfl | trivial, by have h := step_all Hm.out rfl Hq.out; simpa only [Bool.true_and, Bool.false_and] using h, by rw [Hs.out]; simp, then_below HBw.out HB4.out, (HB4.out.block _ (lt_of_block Hbx.out)).trans Hbx.out⟩) | skip
          all_goals simp [intOf]
        · have l4 : (rfour r5).length = 4 := rfour_length _
          obtain ⟨u, hu⟩ : ∃ u, IntKind.u64.wrap r5 = u := ⟨_, rfl⟩
          have G := hid (fun W => rfour_any r5 u hu W)
          obtain ⟨q, hq⟩ : ∃ q, pageB r5 = q := ⟨_, rfl⟩
          have I := fun W => rin_any r5 W
          simp only [hq] at I
          replace I := hid I
          have Hq := hid hq
          clear hq
          cases m
          all_goals (go_wp2_with (first | (go_at_call 32; with_reducible refine (I.out _).mono ?_; rintro e w2 ⟨rfl, hw⟩; obtain rfl := hw.symm; clear I) | (go_at_call 31; refine (G.out _).mono ?_; rintro e w4 ⟨rfl, hb4⟩; have HB4 := hid hb4; clear hb4) | go_in))
          all_goals go_roundw
          all_goals first | (case rel => exact ⟨6, s ++ rfour r5, _, by omega, by first | rfl | trivial, rfl, by first | rfl | trivial, by have h := step_all Hm.out rfl Hq.out; simpa only [Bool.true_and, Bool.false_and] using h, by rw [Hs.out]; simp, then_below HBw.out HB4.out, (HB4.out.block _ (lt_of_block Hbx.out)).trans Hbx.out⟩) | skip
          all_goals simp [intOf]
        · have l4 : (rfour r6).length = 4 := rfour_length _
          obtain ⟨u, hu⟩ : ∃ u, IntKind.u64.wrap r6 = u := ⟨_, rfl⟩
          have G := hid (fun W => rfour_any r6 u hu W)
          obtain ⟨q, hq⟩ : ∃ q, pageB r6 = q := ⟨_, rfl⟩
          have I := fun W => rin_any r6 W
          simp only [hq] at I
          replace I := hid I
          have Hq := hid hq
          clear hq
          cases m
          all_goals (go_wp2_with (first | (go_at_call 32; with_reducible refine (I.out _).mono ?_; rintro e w2 ⟨rfl, hw⟩; obtain rfl := hw.symm; clear I) | (go_at_call 31; refine (G.out _).mono ?_; rintro e w4 ⟨rfl, hb4⟩; have HB4 := hid hb4; clear hb4) | go_in))
          all_goals go_roundw
          all_goals first | (case rel => exact ⟨7, s ++ rfour r6, _, by omega, by first | rfl | trivial, rfl, by first | rfl | trivial, by have h := step_all Hm.out rfl Hq.out; simpa only [Bool.true_and, Bool.false_and] using h, by rw [Hs.out]; simp, then_below HBw.out HB4.out, (HB4.out.block _ (lt_of_block Hbx.out)).trans Hbx.out⟩) | skip
          all_goals simp [intOf]
        · have l4 : (rfour r7).length = 4 := rfour_length _
          obtain ⟨u, hu⟩ : ∃ u, IntKind.u64.wrap r7 = u := ⟨_, rfl⟩
          have G := hid (fun W => rfour_any r7 u hu W)
          obtain ⟨q, hq⟩ : ∃ q, pageB r7 = q := ⟨_, rfl⟩
          have I := fun W => rin_any r7 W
          simp only [hq] at I
          replace I := hid I
          have Hq := hid hq
          clear hq
          cases m
          all_goals (go_wp2_with (first | (go_at_call 32; with_reducible refine (I.out _).mono ?_; rintro e w2 ⟨rfl, hw⟩; obtain rfl := hw.symm; clear I) | (go_at_call 31; refine (G.out _).mono ?_; rintro e w4 ⟨rfl, hb4⟩; have HB4 := hid hb4; clear hb4) | go_in))
          all_goals go_roundw
          all_goals first | (case rel => exact ⟨8, s ++ rfour r7, _, by omega, by first | rfl | trivial, rfl, by first | rfl | trivial, by have h := step_all Hm.out rfl Hq.out; simpa only [Bool.true_and, Bool.false_and] using h, by rw [Hs.out]; simp, then_below HBw.out HB4.out, (HB4.out.block _ (lt_of_block Hbx.out)).trans Hbx.out⟩) | skip
          all_goals simp [intOf]
      · obtain rfl : i = 8 := by omega
        have hf := rin_final HR0.out rfl Hm.out Hs.out HT0.out
        have Hf := hid hf
        clear hf hi hlt c3 c4 c5 c6 c7 c8 c9 c10
        cases m
        · go_wp2_with fail
          go_ret2
          rw [Hf.out]
          exact ⟨rfl, HBw.out⟩
        · have hl56 : s.length = 56 := by omega
          obtain ⟨j, hi, hz, hsz, hbt⟩ := info_parts (P := Tryz.prog) (e := 5) (z := .int .u8 0) (size := 1) (bytes := 1) (by kernel_rfl)
          obtain ⟨w1, hmk, hown, hgr⟩ := run_make_full (P := Tryz.prog) wr wr.heap.size 70 5 j _ 1 Tryz.underlying70 hi hz hsz .i64 .i64 456 (by rw [hbt]; omega) (by unfold maxLen; omega) (Nat.le_refl _)
          have e : (madeCells (Value.int .u8 0).cells (456 * 1)).toList = cellsOf (List.replicate 456 0) := by
            show (madeCells #[.int .u8 0] 456).toList = _
            rw [toList_madeCells_one]
            simp [cellsOf]
          rw [e] at hown
          have hconv := run_convert_own (P := Tryz.prog) w1 70 9 5 Tryz.underlying70 Tryz.underlying5 Tryz.underlying9 wr.heap.size _ _ _ hown
          have hmk' : (Instr.makeSlice 70 (.int .i64 456) (.int .i64 456)).run Tryz.prog wr = .ok (.slice (some ⟨wr.heap.size, 0, none⟩) 456 456) w1 := hmk
          have hgb : Below wr.heap.size wr w1 := ⟨hgr.os, hgr.tape, hgr.output, hgr.size, fun k hk => hgr.block k hk (fun e => by cases e)⟩
          have HG := hid (then_below HBw.out hgb)
          have hsl2 : (s.length : Int) = 56 := by omega
          have hcat : ¬ (9223372036854775807 < s.length + 456) := by omega
          obtain ⟨zz, hzz⟩ : ∃ zz : List UInt8, zz = List.replicate 456 0 := ⟨_, rfl⟩
          have lz : zz.length = 456 := by rw [hzz]; simp
          rw [← hzz] at hconv
          have Hzz := hid hzz
          clear hmk hgr hown e hi hz hsz hbt hgb hzz hl56 hsl
          go_wp2_with fail
          go_ret2
          rw [Hf.out, ← Hzz.out]
          exact ⟨rfl, HG.out⟩)
end Go.Proofs.YtgjcamcboacijaaGreat
