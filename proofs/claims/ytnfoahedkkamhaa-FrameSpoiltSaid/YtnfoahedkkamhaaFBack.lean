/- The law FrameBack, walked. -/
import Derived.Test.YtnfoahedkkamhaaFrX
namespace Go.Proofs.Ytnfoahedkkamhaa
open Go.RowKit
set_option linter.unusedVariables false
set_option linter.unusedSimpArgs false

theorem bool_of_iff {a b : Prop} [Decidable a] [Decidable b] (h : a ↔ b) : ∃ x : Bool, decide a = x ∧ decide b = x := ⟨decide a, rfl, by simp [h]⟩
theorem pair_beq (p q : Int × Int) : (p.1 == q.1 && p.2 == q.2) = decide (p = q) := by
  rw [Bool.eq_iff_iff]
  simp only [Bool.and_eq_true, beq_iff_eq, decide_eq_true_eq]
  exact ⟨fun h => Prod.ext h.1 h.2, fun h => by rw [h]; exact ⟨rfl, rfl⟩⟩
theorem int_beq (a b : Int) : (a == b) = decide (a = b) := by
  rw [Bool.eq_iff_iff]
  simp

set_option maxHeartbeats 4000000 in
set_option maxRecDepth 100000 in
theorem fback_any (p other : Int × Int) (salt wrong : Int) (f : Fr) (more : List UInt8) (w : World) (hp : PairWf p) (ho : PairWf other) (s0 : 0 ≤ salt) (s1 : salt < 18446744073709551616) (w0 : 0 ≤ wrong) (w1' : wrong < 18446744073709551616)
    (hfl : f.data.length ≤ 9223372036854775807) (hl : more.length ≤ 9223372036854775807) :
    Calls Try.prog 7 #[pairV p, pairV other, .int .u64 salt, .int .u64 wrong, frV f, .string (bs more)] w fun e w' => e = .returned (.bool true) ∧ Below w.heap.size w w' := by
  have P := fun W => putFr_any p salt f W hp s0 s1 hfl
  by_cases hbig : f.data.length ≤ 8192 ∧ more.length ≤ 8192
  · obtain ⟨hb1, hb2⟩ := hbig
    have x1 := neq_fr
    have x2 := neq_pair
    have x3 := eql_pair
    have g1 := guard_fr
    have g2 := guard_pair
    cases hok : frOk f
    · have er : putFr p salt f = ⟨[], (0, 0), 2⟩ := by unfold putFr; rw [hok]; rfl
      simp only [er] at P
      have B1 := hid P
      clear P er hok hp ho s0 s1 w0 w1' hfl hl
      obtain ⟨page, commit, data⟩ := f
      have l1 : decide ((8192 : Int) < (data.length : Int)) = false := by simp; simp only at hb1; omega
      have l2 : decide ((8192 : Int) < (more.length : Int)) = false := by simp; omega
      clear hb1 hb2
      unfold pairV frV at *
      simp only at B1
      go_enter Try.func7, Try.ntmps7
      go_wp2_with fail
      refine (works_any _).mono ?_
      rintro e w1 ⟨rfl, hb⟩
      have H1 := (three_new w _ _ _).kept hb
      have hbw := (below_three w _ _ _).trans (hb.mono (by simp; omega))
      obtain ⟨a0, a1, af⟩ := cells2 H1.1
      obtain ⟨c0, c1, c2, cf⟩ := cells3 H1.2.2
      clear hb H1
      go_wp2_with fail
      refine (B1.out _).mono ?_
      rintro e w2 ⟨rfl, hb2⟩
      go_wp2_with fail
      go_ret
      exact ⟨rfl, (hbw.trans (hb2.mono hbw.size)).alloc (hbw.trans (hb2.mono hbw.size)).size _⟩
    · have er : putFr p salt f = ⟨frL p salt f, frQ p salt f, 0⟩ := by unfold putFr; rw [hok]; rfl
      simp only [er] at P
      have hLl := frL_length p salt f (frOk_facts hok).2.1
      have T1 := fun W => takeFr_any p salt (frL p salt f ++ more) W hp s0 s1 (by rw [List.length_append]; omega)
      have et := tkFr_put p salt f more hok
      simp only [et] at T1
      have T2 := fun W => takeFr_any other salt (frL p salt f) W ho s0 s1 (by omega)
      have T3 := fun W => takeFr_any p wrong (frL p salt f) W hp w0 w1' (by omega)
      obtain ⟨b, b1, b2⟩ := bool_of_iff (tkFr_other p other salt f hok hp ho)
      obtain ⟨c, c1', c2'⟩ := bool_of_iff (tkFr_wrong p salt wrong f hok s0 s1 w0 w1')
      rw [← int_beq] at b1 c1' c2'
      rw [← pair_beq] at b2
      obtain ⟨k1, hk1⟩ : ∃ k, k = tkFr other salt (frL p salt f) := ⟨_, rfl⟩
      obtain ⟨k2, hk2⟩ : ∃ k, k = tkFr p wrong (frL p salt f) := ⟨_, rfl⟩
      simp only [← hk1] at T2 b1
      simp only [← hk2] at T3 c1'
      obtain ⟨q, hq⟩ : ∃ q, q = frQ p salt f := ⟨_, rfl⟩
      obtain ⟨L, hL⟩ : ∃ L, L = frL p salt f := ⟨_, rfl⟩
      simp only [← hq, ← hL] at P T1
      simp only [← hL] at T2 T3 hLl
      have B1 := hid P
      have B2 := hid T1
      have B3 := hid T2
      have B4 := hid T3
      clear P T1 T2 T3 er et hok hp ho s0 s1 w0 w1' hfl hk1 hk2 hq hL
      obtain ⟨page, commit, data⟩ := f
      obtain ⟨kf1, kq1, ke1⟩ := k1
      obtain ⟨kf2, kq2, ke2⟩ := k2
      have l1 : decide ((8192 : Int) < (data.length : Int)) = false := by simp; simp only at hb1; omega
      have l2 : decide ((8192 : Int) < (more.length : Int)) = false := by simp; omega
      have l3 : ((L.length : Int) == 576) = true := by simp; omega
      have l4 : L.length + more.length ≤ 9223372036854775807 := by omega
      clear hb1 hb2 hLl
      unfold pairV frV at *
      simp only at B1 B2 B3 B4 b1 c1'
      go_enter Try.func7, Try.ntmps7
      go_wp2_with fail
      refine (works_any _).mono ?_
      rintro e w1 ⟨rfl, hb⟩
      have H1 := hid ((three_new w _ _ _).kept hb)
      have hbw := (below_three w _ _ _).trans (hb.mono (by simp; omega))
      obtain ⟨a0, a1, af⟩ := cells2 H1.out.1
      obtain ⟨c0, c1, c2, cf⟩ := cells3 H1.out.2.2
      clear hb
      go_wp2_with fail
      refine (B1.out _).mono ?_
      rintro e w2 ⟨rfl, hb2⟩
      have H2 := hid ((H1.out.kept hb2).kept ((Below.refl _ _).alloc (Nat.le_refl _) (.cells #[.int .u32 q.1, .int .u32 q.2] 33)))
      have hbw2 := hbw.trans (hb2.mono hbw.size)
      have hQ2 := hid (heap_alloc_new w2 (.cells #[.int .u32 q.1, .int .u32 q.2] 33))
      have lt2 : w.heap.size + 1 + 1 < w2.heap.size := (H1.out.kept hb2).lt
      clear a0 a1 af c0 c1 c2 cf hb2 H1 B1
      obtain ⟨a0, a1, af⟩ := cells2 ((H2.out).1)
      go_wp2_with fail
      refine (B2.out _).mono ?_
      rintro e w3 ⟨rfl, hb3⟩
      have H3 := hid (H2.out.kept hb3)
      have hQ3 := (hb3.block w2.heap.size (by simp)).trans hQ2.out
      have hb23 : Below w2.heap.size w2 w3 := ((Below.refl _ _).alloc (Nat.le_refl _) _).trans (hb3.mono (by simp))
      have hbw3 := hbw2.trans (hb23.mono hbw2.size)
      have lt3 : w.heap.size + 1 + 1 < w3.heap.size := H3.out.lt
      have lt3a : w.heap.size < w3.heap.size := by omega
      have lt3b : w.heap.size + 1 < w3.heap.size := by omega
      have lt3q : w2.heap.size < w3.heap.size := lt_of_block hQ3
      clear a0 a1 af hb3 H2 B2 hQ2 hb23
      obtain ⟨a0, a1, af⟩ := cells2 H3.out.1
      obtain ⟨d0, d1, df⟩ := cells2 H3.out.2.1
      obtain ⟨c0, c1, c2, cf⟩ := cells3 H3.out.2.2
      obtain ⟨q0, q1, qf⟩ := cells2 hQ3
      clear hQ3
      go_wp2_with fail
      refine (B3.out _).mono ?_
      rintro e w4 ⟨rfl, hb4⟩
      have hb34 : Below w3.heap.size w3 w4 := (((Below.refl _ _).alloc (Nat.le_refl _) _).alloc (by simp) _).trans (hb4.mono (by simp; omega))
      have H4 := hid (H3.out.kept hb34)
      have hbw4 := hbw3.trans (hb34.mono hbw3.size)
      clear a0 a1 af d0 d1 df c0 c1 c2 cf q0 q1 qf hb4 hb34 H3 B3
      obtain ⟨a0, a1, af⟩ := cells2 H4.out.1
      go_wp2_with fail
      refine (B4.out _).mono ?_
      rintro e w5 ⟨rfl, hb5⟩
      have H5 := H4.out.kept hb5
      have hbw5 := hbw4.trans (hb5.mono hbw4.size)
      have lt5 : w.heap.size + 1 + 1 < w5.heap.size := H5.lt
      have lt5a : w.heap.size < w5.heap.size := by omega
      have lt5b : w.heap.size + 1 < w5.heap.size := by omega
      clear a0 a1 af hb5 H4 B4
      obtain ⟨a0, a1, af⟩ := cells2 H5.1
      obtain ⟨d0, d1, df⟩ := cells2 H5.2.1
      clear H5
      cases b <;> cases c
      all_goals
        go_wp2_with fail
        go_ret
        exact ⟨rfl, (hbw5.alloc hbw5.size _).alloc (by simp; have := hbw5.size; omega) _⟩
  · clear P
    obtain ⟨page, commit, data⟩ := f
    unfold pairV frV
    simp only at hbig
    by_cases h1 : data.length ≤ 8192
    · have l1 : decide ((8192 : Int) < (data.length : Int)) = false := by simp; omega
      have l2 : decide ((8192 : Int) < (more.length : Int)) = true := by simp; omega
      clear hbig
      go_enter Try.func7, Try.ntmps7
      go_wp2_with fail
      refine (works_any _).mono ?_
      rintro e w1 ⟨rfl, hb⟩
      have H1 := (three_new w _ _ _).kept hb
      have hbw := (below_three w _ _ _).trans (hb.mono (by simp; omega))
      obtain ⟨c0, c1, c2, cf⟩ := cells3 H1.2.2
      clear hb H1
      go_wp2_with fail
      go_ret
      exact ⟨rfl, hbw⟩
    · have l1 : decide ((8192 : Int) < (data.length : Int)) = true := by simp; omega
      clear hbig
      go_enter Try.func7, Try.ntmps7
      go_wp2_with fail
      refine (works_any _).mono ?_
      rintro e w1 ⟨rfl, hb⟩
      have H1 := (three_new w _ _ _).kept hb
      have hbw := (below_three w _ _ _).trans (hb.mono (by simp; omega))
      obtain ⟨c0, c1, c2, cf⟩ := cells3 H1.2.2
      clear hb H1
      go_wp2_with fail
      go_ret
      exact ⟨rfl, hbw⟩
end Go.Proofs.Ytnfoahedkkamhaa
