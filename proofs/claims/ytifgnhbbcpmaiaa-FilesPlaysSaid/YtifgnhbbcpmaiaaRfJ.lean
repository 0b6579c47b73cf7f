/- The reference's Write whole. -/
import Derived.Test.YtifgnhbbcpmaiaaRfH
namespace Go.Proofs.Ytifgnhbbcpmaiaa
open Go.RowKit Go.Maps
set_option linter.unusedVariables false
set_option linter.unusedSimpArgs false

section
variable {w : World} {b : Nat} {F : Foot} {d : Dsk}
set_option maxHeartbeats 1000000 in
set_option maxRecDepth 20000 in
theorem rwrite_any (h : RefAt w b F d) (f a : Int) (s : List UInt8) (hs : d.Small 1099511527776) (hsl : s.length ≤ 1099511627776) :
    Calls Try.prog 38 #[.pointer (some ⟨b, 0, none⟩), .int .i64 f, .int .i64 a, .string (bs s)] w fun e w' => e = .returned (.int .i64 (writeM d f a s).1) ∧ RDid w b F (writeM d f a s).2 w' := by
  obtain ⟨nv, sv, lv, av, h0⟩ := id h
  have c20 := h0.five.2.2.2.2
  cases ho : d.off with
  | true =>
    rw [ho] at c20
    have e : writeM d f a s = (32, d) := by unfold writeM; rw [ready_off ho, if_pos (by decide)]
    rw [e]
    have H := hid h
    clear h h0 hs e ho
    go_enter Try.func38, Try.ntmps38
    go_wp2_with fail
    go_ret
    exact ⟨rfl, RDid.same H.out⟩
  | false =>
    rw [ho] at c20
    by_cases hf : 0 ≤ f ∧ f < 8
    · obtain ⟨k, rfl⟩ : ∃ k : Nat, f = k := ⟨f.toNat, by omega⟩
      have hk : k < 8 := by omega
      have hin := in_any (k : Int)
      rw [in_true hf] at hin
      have IN := hid hin
      have hready := ready_on hk ho
      obtain ⟨n, hn⟩ : ∃ n, n = s.length / 64 := ⟨_, rfl⟩
      obtain ⟨L, hL⟩ : ∃ L : Int, (s.length : Int) = L := ⟨_, rfl⟩
      have t2e : L.tmod 64 = ((s.length % 64 : Nat) : Int) := by rw [Int.tmod_eq_emod_of_nonneg (by omega)]; omega
      have t3 : L.tdiv 64 = (n : Int) := by rw [Int.tdiv_eq_ediv_of_nonneg (by omega)]; omega
      have t4 : wrap64 (n : Int) = (n : Int) := IntWalk.wrap64_in _ (by omega)
      have t3b : L / 64 = (n : Int) := by omega
      by_cases h1 : s.length / 64 = 0 ∨ s.length % 64 ≠ 0
      · have e : writeM d k a s = (2, d) := by unfold writeM; rw [if_neg (by simpa using hready), if_pos h1]
        rw [e]
        have H := hid h
        by_cases g1 : L < 64
        · have t1 : decide (L < 64) = true := by simpa using g1
          clear h h0 hs e ho hin h1 t2e t3 t3b t4 hready g1 hn
          go_enter Try.func38, Try.ntmps38
          go_wp2_with (first | (go_at_call 48; refine (IN.out _).mono ?_; rintro e w1 ⟨rfl, rfl⟩) | go_in)
          go_ret
          exact ⟨rfl, RDid.same H.out⟩
        · have t1 : decide (L < 64) = false := by simpa using g1
          have t2 : (L.tmod 64 != 0) = true := by rw [t2e]; simp; omega
          have t2b : (L % 64 != 0) = true := by simp; omega
          clear h h0 hs e ho hin h1 t2e t3 t3b t4 hready g1 hn
          go_enter Try.func38, Try.ntmps38
          go_wp2_with (first | (go_at_call 48; refine (IN.out _).mono ?_; rintro e w1 ⟨rfl, rfl⟩) | go_in)
          go_ret
          exact ⟨rfl, RDid.same H.out⟩
      · have t1 : decide (L < 64) = false := by simp only [decide_eq_false_iff_not]; omega
        have t2 : (L.tmod 64 != 0) = false := by rw [t2e]; simp; omega
        have t2b : (L % 64 != 0) = false := by simp; omega
        clear t2e
        by_cases h2 : a < 0 ∨ (8192 : Int) < (s.length / 64 : Nat) ∨ (8192 : Int) - (s.length / 64 : Nat) < a
        · have e : writeM d k a s = (5, d) := by unfold writeM; rw [if_neg (by simpa using hready), if_neg h1, if_pos h2]
          rw [e]
          rw [← hn] at h2
          have H := hid h
          have hn40 : n ≤ 1099511627776 := by omega
          obtain ⟨N, hN⟩ : ∃ N : Int, (n : Int) = N := ⟨_, rfl⟩
          rw [hN] at h2 t3 t3b t4
          have t7 : IntKind.i64.wrap (8192 - N) = 8192 - N := IntWalk.i64_in _ (by omega)
          by_cases g1 : a < 0
          · have t5 : decide (a < 0) = true := by simpa using g1
            clear h h0 hs e ho hin h1 hready g1 hn h2
            go_enter Try.func38, Try.ntmps38
            go_wp2_with (first | (go_at_call 48; refine (IN.out _).mono ?_; rintro e w1 ⟨rfl, rfl⟩) | go_in)
            go_ret
            exact ⟨rfl, RDid.same H.out⟩
          · have t5 : decide (a < 0) = false := by simpa using g1
            by_cases g2 : 8192 < N
            · have t6 : decide (8192 < N) = true := by simpa using g2
              clear h h0 hs e ho hin h1 hready g1 g2 hn h2
              go_enter Try.func38, Try.ntmps38
              go_wp2_with (first | (go_at_call 48; refine (IN.out _).mono ?_; rintro e w1 ⟨rfl, rfl⟩) | go_in)
              go_ret
              exact ⟨rfl, RDid.same H.out⟩
            · have t6 : decide (8192 < N) = false := by simpa using g2
              have t8 : decide (8192 - N < a) = true := by simp only [decide_eq_true_eq]; omega
              clear h h0 hs e ho hin h1 hready g1 g2 hn h2
              go_enter Try.func38, Try.ntmps38
              go_wp2_with (first | (go_at_call 48; refine (IN.out _).mono ?_; rintro e w1 ⟨rfl, rfl⟩) | go_in)
              go_ret
              exact ⟨rfl, RDid.same H.out⟩
        · obtain ⟨a0, rfl⟩ : ∃ i : Nat, a = i := ⟨a.toNat, by omega⟩
          by_cases hm : (meetsM d).1 = 0
          · have e : writeM d k a0 s = (0, wrN (meetsM d).2 k a0 s (s.length / 64)) := by
              unfold writeM
              rw [if_neg (by simpa using hready), if_neg h1, if_neg h2, if_neg (by simpa using hm), Int.toNat_natCast, Int.toNat_natCast]
            rw [e]
            exact rwrite_main h k a0 s hs hk ho (by omega) (by omega) (by omega) hm
          · have e : writeM d k a0 s = meetsM d := by
              unfold writeM
              rw [if_neg (by simpa using hready), if_neg h1, if_neg h2, if_pos hm]
            rw [e]
            rw [← hn] at h2
            have M := rmeets_any h (hs.mono (by omega))
            obtain ⟨r, hr2⟩ : ∃ r, r = (meetsM d).1 := ⟨_, rfl⟩
            obtain ⟨d1, hd1⟩ : ∃ d1, d1 = (meetsM d).2 := ⟨_, rfl⟩
            rw [← hr2, ← hd1] at M ⊢
            rw [← hr2] at hm
            have hrne : (r != 0) = true := by simpa using hm
            have M := hid M
            obtain ⟨N, hN⟩ : ∃ N : Int, (n : Int) = N := ⟨_, rfl⟩
            rw [hN] at h2 t3 t3b t4
            have t5 : decide ((a0 : Int) < 0) = false := by simp
            have t6 : decide (8192 < N) = false := by simp only [decide_eq_false_iff_not]; omega
            have t7 : IntKind.i64.wrap (8192 - N) = 8192 - N := IntWalk.i64_in _ (by omega)
            have t8 : decide (8192 - N < (a0 : Int)) = false := by simp only [decide_eq_false_iff_not]; omega
            clear h h0 hs e ho hin h1 hready hn h2 hr2 hd1 hm
            go_enter Try.func38, Try.ntmps38
            go_wp2_with (first | (go_at_call 48; refine (IN.out _).mono ?_; rintro e w1 ⟨rfl, rfl⟩) | (go_at_call 49; refine (M.out).mono ?_; rintro e w2 ⟨rfl, hd2⟩) | go_in)
            go_ret
            exact ⟨rfl, hd2⟩
    · have e : writeM d f a s = (2, d) := by unfold writeM; rw [ready_out ho hf, if_pos (by decide)]
      rw [e]
      have hin := in_any f
      rw [in_false hf] at hin
      have IN := hid hin
      have H := hid h
      clear h h0 hs e ho hin hf
      go_enter Try.func38, Try.ntmps38
      go_wp2_with (first | (go_at_call 48; refine (IN.out _).mono ?_; rintro e w1 ⟨rfl, rfl⟩) | go_in)
      go_ret
      exact ⟨rfl, RDid.same H.out⟩
end
end Go.Proofs.Ytifgnhbbcpmaiaa
