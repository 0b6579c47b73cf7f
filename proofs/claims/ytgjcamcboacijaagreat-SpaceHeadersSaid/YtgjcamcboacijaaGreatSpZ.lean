/- The law SpaceHeaders. -/
import Derived.Test.YtgjcamcboacijaaGreatSpY
namespace Go.Proofs.YtgjcamcboacijaaGreat
open Go.RowKit Go.Maps
set_option linter.unusedVariables false
set_option linter.unusedSimpArgs false
set_option maxRecDepth 20000

set_option maxHeartbeats 8000000 in
set_option maxRecDepth 20000 in
theorem spaceHeaders_any (h : Hdr) (hw : h.Wf) (s : List UInt8) (hs : s.length ≤ 9223372036854775807) (w : World) : Calls Tryz.prog 3 #[hdrV h, .string (bs s)] w fun e w' => e = .returned (.bool true) ∧ Below w.heap.size w w' := by
  have PS := fun W => sput_any h hw W
  have PR := fun W => rput_any h hw W
  have TS := fun W => stake_any s hs W
  have TR := fun W => rtake_any s hs W
  have hlt : (takeH s).1.roots.length = 8 := (takeH_wf s).len
  have hU : (putH h).1 = [] ∨ ((putH h).1 ≠ [] ∧ ∀ W, Calls Tryz.prog 10 #[.string (bs (putH h).1)] W fun e w' => e = .returned (.tuple #[hdrV h, .int .i64 0]) ∧ Below W.heap.size W w') := by
    unfold putH
    by_cases hm : hdrMayB h = true
    · rw [if_pos hm]
      have hl := hdrPg_length h hw.len
      refine .inr ⟨fun e => ?_, fun W => ?_⟩
      · have e2 : (hdrPg h).length = 0 := by rw [show hdrPg h = [] from e]; rfl
        omega
      · have A := stake_any (hdrPg h) (by omega) W
        rw [takeH_put hm hw] at A
        exact A
    · rw [if_neg hm]
      exact .inl rfl
  obtain ⟨P, hP⟩ : ∃ P, P = putH h := ⟨_, rfl⟩
  simp only [← hP] at PS PR hU
  obtain ⟨T, hT⟩ : ∃ T, T = takeH s := ⟨_, rfl⟩
  simp only [← hT] at TS TR hlt
  obtain ⟨T, E2⟩ := T
  obtain ⟨t, E⟩ := P
  dsimp only at PS PR hU TS TR hlt
  obtain ⟨f', c', k', q0, q1, q2, q3, q4, q5, q6, q7, rfl⟩ := hdr_form hlt
  obtain ⟨f, c, k, r0, r1, r2, r3, r4, r5, r6, r7, rfl⟩ := hdr_form hw.len
  clear hP hT hlt hw
  unfold hdrV hdrCells at *
  simp only [List.map_cons, List.map_nil] at *
  have as1 := fun (W1 : World) => arr_same W1 r0 r1 r2 r3 r4 r5 r6 r7
  have as2 := fun (W1 : World) => arr_same W1 q0 q1 q2 q3 q4 q5 q6 q7
  replace PS := hid PS
  replace PR := hid PR
  replace TS := hid TS
  replace TR := hid TR
  have HU := hid hU
  clear hU
  have hbox := heap_alloc_new w (.cells #[.int .i64 f, .int .i64 c, .int .u64 k, .int .i64 r0, .int .i64 r1, .int .i64 r2, .int .i64 r3, .int .i64 r4, .int .i64 r5, .int .i64 r6, .int .i64 r7] 25)
  have hb := (Below.refl w.heap.size w).alloc (Nat.le_refl _) (.cells #[.int .i64 f, .int .i64 c, .int .u64 k, .int .i64 r0, .int .i64 r1, .int .i64 r2, .int .i64 r3, .int .i64 r4, .int .i64 r5, .int .i64 r6, .int .i64 r7] 25)
  have HB := hid hb
  have Hbox := hid hbox
  clear hbox hb hs
  by_cases hl : s.length ≤ 4096
  rotate_left
  · have d1 : decide ((4096 : Int) < (s.length : Int)) = true := by simp; omega
    have d2 : ¬ ((s.length : Int) ≤ 4096) := by omega
    clear hl
    go_enter Tryz.func3, Tryz.ntmps3
    go_wp2_with (first
      | (go_at_call 7; refine (sworks_any _).mono ?_; rintro e w1 ⟨rfl, hb1⟩; have HB1 := hid (then_below HB.out hb1); clear hb1)
      | go_in)
    go_ret
    exact ⟨rfl, HB1.out⟩
  have d1 : decide ((4096 : Int) < (s.length : Int)) = false := by simp; omega
  have d2 : ¬ ((4096 : Int) < (s.length : Int)) := by omega
  clear hl
  go_enter Tryz.func3, Tryz.ntmps3
  go_upto_region 9 with (first
    | (go_at_call 7; refine (sworks_any _).mono ?_; rintro e w1 ⟨rfl, hb1⟩; have HB1 := hid (then_below HB.out hb1); have hx1 := (hb1.block _ (lt_of_block Hbox.out)).trans Hbox.out; have Hx1 := hid hx1; obtain ⟨⟨c0, c1, c2⟩, ⟨c3, c4, c5, c6, c7, c8, c9, c10⟩, cf⟩ := cells11 hx1; clear hb1 hx1)
    | (go_at_call 8; refine (PS.out _).mono ?_; rintro e w2 ⟨rfl, hb2⟩; have HB2 := hid (then_below HB1.out hb2); have hx2 := (hb2.block _ (lt_of_block Hx1.out)).trans Hx1.out; have Hx2 := hid hx2; clear c0 c1 c2 c3 c4 c5 c6 c7 c8 c9 c10 cf; obtain ⟨⟨c0, c1, c2⟩, ⟨c3, c4, c5, c6, c7, c8, c9, c10⟩, cf⟩ := cells11 hx2; clear hb2 hx2)
    | (go_at_call 9; refine (PR.out _).mono ?_; rintro e w3 ⟨rfl, hb3⟩; have HB3 := hid (then_below HB2.out hb3); have hx3 := (hb3.block _ (lt_of_block Hx2.out)).trans Hx2.out; have Hx3 := hid hx3; clear c0 c1 c2 c3 c4 c5 c6 c7 c8 c9 c10 cf; clear hb3 hx3)
    | go_in)
  clear d1 d2 HB HB1 HB2 Hx1 Hx2 PS PR Hbox
  go_upto_region 10 with (first
    | (go_at_call 10; refine (TS.out _).mono ?_; rintro e w4 ⟨rfl, hb4⟩; have HB4 := hid (then_below HB3.out hb4); have hx4 := (hb4.block _ (lt_of_block Hx3.out)).trans Hx3.out; have Hx4 := hid hx4; clear hb4 hx4)
    | go_in)
  have hl4 := lt_of_block Hx4.out
  have hx5 := heap_alloc_old (o := .cells #[.int .i64 f', .int .i64 c', .int .u64 k', .int .i64 q0, .int .i64 q1, .int .i64 q2, .int .i64 q3, .int .i64 q4, .int .i64 q5, .int .i64 q6, .int .i64 q7] 25) Hx4.out
  have hy5 := heap_alloc_new w4 (.cells #[.int .i64 f', .int .i64 c', .int .u64 k', .int .i64 q0, .int .i64 q1, .int .i64 q2, .int .i64 q3, .int .i64 q4, .int .i64 q5, .int .i64 q6, .int .i64 q7] 25)
  have hb5 := HB4.out.alloc HB4.out.size (.cells #[.int .i64 f', .int .i64 c', .int .u64 k', .int .i64 q0, .int .i64 q1, .int .i64 q2, .int .i64 q3, .int .i64 q4, .int .i64 q5, .int .i64 q6, .int .i64 q7] 25)
  obtain ⟨w5, hw5⟩ : ∃ w5, w5 = w4.alloc (.cells #[.int .i64 f', .int .i64 c', .int .u64 k', .int .i64 q0, .int .i64 q1, .int .i64 q2, .int .i64 q3, .int .i64 q4, .int .i64 q5, .int .i64 q6, .int .i64 q7] 25) := ⟨_, rfl⟩
  obtain ⟨b9, hb9⟩ : ∃ b9, b9 = w4.heap.size := ⟨_, rfl⟩
  rw [← hw5] at hx5 hy5 hb5 ⊢
  rw [← hb9] at hy5 hl4 ⊢
  have Hx5 := hid hx5
  have Hy5 := hid hy5
  have HB5 := hid hb5
  have Hl4 := hid hl4
  clear hx5 hy5 hb5 hl4 hw5 hb9 Hx4 HB4 HB3 Hx3 TS
  go_upto_region 11 with (first
    | (go_at_call 11; refine (TR.out _).mono ?_; rintro e w6 ⟨rfl, hb6⟩; have HB6 := hid (then_below HB5.out hb6); have Hx6 := hid ((hb6.block _ (lt_of_block Hx5.out)).trans Hx5.out); have Hy6 := hid ((hb6.block _ (lt_of_block Hy5.out)).trans Hy5.out); clear hb6)
    | go_in)
  have hl6 := lt_of_block Hy6.out
  have hx7 := heap_alloc_old (o := .cells #[.int .i64 f', .int .i64 c', .int .u64 k', .int .i64 q0, .int .i64 q1, .int .i64 q2, .int .i64 q3, .int .i64 q4, .int .i64 q5, .int .i64 q6, .int .i64 q7] 25) Hx6.out
  have hy7 := heap_alloc_old (o := .cells #[.int .i64 f', .int .i64 c', .int .u64 k', .int .i64 q0, .int .i64 q1, .int .i64 q2, .int .i64 q3, .int .i64 q4, .int .i64 q5, .int .i64 q6, .int .i64 q7] 25) Hy6.out
  have hz7 := heap_alloc_new w6 (.cells #[.int .i64 f', .int .i64 c', .int .u64 k', .int .i64 q0, .int .i64 q1, .int .i64 q2, .int .i64 q3, .int .i64 q4, .int .i64 q5, .int .i64 q6, .int .i64 q7] 25)
  have hb7 := HB6.out.alloc HB6.out.size (.cells #[.int .i64 f', .int .i64 c', .int .u64 k', .int .i64 q0, .int .i64 q1, .int .i64 q2, .int .i64 q3, .int .i64 q4, .int .i64 q5, .int .i64 q6, .int .i64 q7] 25)
  obtain ⟨w7, hw7⟩ : ∃ w7, w7 = w6.alloc (.cells #[.int .i64 f', .int .i64 c', .int .u64 k', .int .i64 q0, .int .i64 q1, .int .i64 q2, .int .i64 q3, .int .i64 q4, .int .i64 q5, .int .i64 q6, .int .i64 q7] 25) := ⟨_, rfl⟩
  obtain ⟨b10, hb10⟩ : ∃ b10, b10 = w6.heap.size := ⟨_, rfl⟩
  rw [← hw7] at hx7 hy7 hz7 hb7 ⊢
  rw [← hb10] at hz7 ⊢
  have Hx7 := hid hx7
  have Hy7 := hid hy7
  have HB7 := hid hb7
  obtain ⟨⟨y0, y1, y2⟩, ⟨y3, y4, y5, y6, y7, y8, y9, y10⟩, yf⟩ := cells11 hy7
  obtain ⟨⟨z0, z1, z2⟩, ⟨z3, z4, z5, z6, z7, z8, z9, z10⟩, zf⟩ := cells11 hz7
  clear hx7 hy7 hb7 hz7 hl6 hw7 hb10 Hx5 Hy5 HB5 Hx6 Hy6 HB6 TR
  go_upto_region 13 with fail
  clear y0 y1 y2 y3 y4 y5 y6 y7 y8 y9 y10 yf z0 z1 z2 z3 z4 z5 z6 z7 z8 z9 z10 zf as2
  rcases HU.out with ht | ⟨ht, hc⟩
  · subst ht
    clear HU as1
    go_wp2_with fail
    go_ret
    exact ⟨rfl, HB7.out⟩
  · have b1 : (t != []) = true := by simp [ht]
    have b2 : (t == []) = false := by simp [ht]
    have HC := hid hc
    have hl4 := Hl4.out
    clear HU ht hc
    have hne : ¬ w.heap.size = b9 := by omega
    have hne2 : ¬ b9 = w.heap.size := by omega
    clear hl4
    go_wp2_with (first
      | (go_at_call 10; refine (HC.out _).mono ?_; rintro e w8 ⟨rfl, hb8⟩; have HB8 := hid (then_below HB7.out hb8); have hx8 := (hb8.block _ (lt_of_block Hx7.out)).trans Hx7.out; have hy8 := (hb8.block _ (lt_of_block Hy7.out)).trans Hy7.out; obtain ⟨⟨y0, y1, y2⟩, ⟨y3, y4, y5, y6, y7, y8, y9, y10⟩, yf⟩ := cells11 hy8; obtain ⟨⟨x0, x1, x2⟩, ⟨x3, x4, x5, x6, x7, x8, x9, x10⟩, xf⟩ := cells11 hx8; clear hb8 hx8 hy8)
      | go_in)
    go_ret
    refine ⟨rfl, ?_⟩
    have hl4 := Hl4.out
    iterate 11 refine Below.setCell ?_ (by show w.heap.size ≤ b9; omega) _
    exact HB8.out
end Go.Proofs.YtgjcamcboacijaaGreat
