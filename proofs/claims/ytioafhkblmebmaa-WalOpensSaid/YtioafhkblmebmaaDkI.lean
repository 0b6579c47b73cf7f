/- A disk's Write, whole. -/
import Derived.Test.YtioafhkblmebmaaDkH
namespace Go.Proofs.Ytioafhkblmebmaa
open Go.RowKit Go.Maps
set_option linter.unusedVariables false
set_option linter.unusedSimpArgs false

section
variable {w : World} {b : Nat} {F : Foot} {d : Dsk}
theorem ready_zero {f : Int} (hr : readyM d f = 0) : d.off = false ∧ 0 ≤ f ∧ f < 8 := by
  unfold readyM at hr
  split at hr
  · omega
  · split at hr
    · rename_i h1 h2; exact ⟨by simpa using h1, h2⟩
    · omega
set_option maxRecDepth 20000 in
theorem write_any (h : DiskAt w b F d) (f a : Int) (s : List UInt8) (hs : d.Small 1099511527776) (hsl : s.length ≤ 1099511627776) :
    Calls Try.prog 21 #[.pointer (some ⟨b, 0, none⟩), .int .i64 f, .int .i64 a, .string (bs s)] w fun e w' => e = .returned (.int .i64 (writeM d f a s).1) ∧ Did w b F (writeM d f a s).2 w' := by
  have R := ready_any h f
  by_cases hr : readyM d f = 0
  · obtain ⟨ho, hf0, hf8⟩ := ready_zero hr
    obtain ⟨k, rfl⟩ : ∃ k : Nat, f = k := ⟨f.toNat, by omega⟩
    have hk : k < 8 := by omega
    obtain ⟨n, hn⟩ : ∃ n, n = s.length / 64 := ⟨_, rfl⟩
    have hq : ((s.length : Int)).tdiv 64 = (n : Int) := by rw [Int.tdiv_eq_ediv_of_nonneg (by omega)]; omega
    have hq2 : ((s.length : Int)).tmod 64 = ((s.length % 64 : Nat) : Int) := by rw [Int.tmod_eq_emod_of_nonneg (by omega)]; omega
    have nb : (n : Int) ≤ 1099511627776 := by omega
    have nw : IntKind.i64.wrap (n : Int) = (n : Int) := IntWalk.i64_in _ (by omega)
    rw [hr] at R
    have R := hid R
    by_cases h1 : n = 0 ∨ s.length % 64 ≠ 0
    · have e : writeM d k a s = (2, d) := by unfold writeM; rw [if_neg (by simpa using hr), if_pos (by rw [← hn]; exact h1)]
      rw [e]
      have H := hid h
      obtain ⟨q, hq3⟩ : ∃ q : Int, q = ((s.length % 64 : Nat) : Int) := ⟨_, rfl⟩
      rw [← hq3] at hq2
      by_cases h2 : n = 0
      · have n0 : ((n : Int) == 0) = true := by simp; omega
        clear e hr h hs hn h1 h2 hq3
        go_enter Try.func21, Try.ntmps21
        go_wp2_with (first | (go_at_call 47; refine (R.out).mono ?_; rintro e w1 ⟨rfl, rfl⟩) | go_in)
        go_ret
        exact ⟨rfl, Did.same H.out⟩
      · have n0 : ((n : Int) == 0) = false := by simp; omega
        have q0 : (q != 0) = true := by simp; omega
        clear e hr h hs hn h1 h2 hq3
        go_enter Try.func21, Try.ntmps21
        go_wp2_with (first | (go_at_call 47; refine (R.out).mono ?_; rintro e w1 ⟨rfl, rfl⟩) | go_in)
        go_ret
        exact ⟨rfl, Did.same H.out⟩
    · have n0 : ((n : Int) == 0) = false := by simp; omega
      have hm0 : s.length % 64 = 0 := by omega
      rw [hm0] at hq2
      by_cases h2 : a < 0 ∨ (8192 : Int) < (n : Nat) ∨ (8192 : Int) - (n : Nat) < a
      · have e : writeM d k a s = (5, d) := by unfold writeM; rw [if_neg (by simpa using hr), ← hn, if_neg h1, if_pos h2]
        rw [e]
        have H := hid h
        by_cases h3 : a < 0
        · have a0 : decide (a < 0) = true := by simpa using h3
          clear e hr h hs hn h1 h2 hm0
          go_enter Try.func21, Try.ntmps21
          go_wp2_with (first | (go_at_call 47; refine (R.out).mono ?_; rintro e w1 ⟨rfl, rfl⟩) | go_in)
          go_ret
          exact ⟨rfl, Did.same H.out⟩
        · have a0 : decide (a < 0) = false := by simpa using h3
          by_cases h4 : (8192 : Int) < (n : Int)
          · have a1 : decide ((8192 : Int) < (n : Int)) = true := by simpa using h4
            clear e hr h hs hn h1 h2 hm0
            go_enter Try.func21, Try.ntmps21
            go_wp2_with (first | (go_at_call 47; refine (R.out).mono ?_; rintro e w1 ⟨rfl, rfl⟩) | go_in)
            go_ret
            exact ⟨rfl, Did.same H.out⟩
          · have a1 : decide ((8192 : Int) < (n : Int)) = false := by simpa using h4
            have a2 : decide ((8192 : Int) - (n : Int) < a) = true := by simp; omega
            have hw : IntKind.i64.wrap ((8192 : Int) - (n : Int)) = (8192 : Int) - (n : Int) := IntWalk.i64_in _ (by omega)
            clear e hr h hs hn h1 h2 hm0
            go_enter Try.func21, Try.ntmps21
            go_wp2_with (first | (go_at_call 47; refine (R.out).mono ?_; rintro e w1 ⟨rfl, rfl⟩) | go_in)
            go_ret
            exact ⟨rfl, Did.same H.out⟩
      · obtain ⟨j, rfl⟩ : ∃ j : Nat, a = j := ⟨a.toNat, by omega⟩
        by_cases hm : (meetsM d).1 = 0
        · have e : writeM d k j s = (0, wrN (meetsM d).2 k j s n) := by
            unfold writeM
            rw [if_neg (by simpa using hr), ← hn, if_neg h1, if_neg h2, if_neg (by simpa using hm), Int.toNat_natCast, Int.toNat_natCast]
          rw [e, hn]
          exact write_main h k j s hs hk ho (by omega) hm0 (by omega) hm
        · have e : writeM d k j s = meetsM d := by
            unfold writeM
            rw [if_neg (by simpa using hr), ← hn, if_neg h1, if_neg h2, if_pos hm]
          rw [e]
          have M := meets_any h (hs.mono (by omega))
          obtain ⟨r, hr2⟩ : ∃ r, r = (meetsM d).1 := ⟨_, rfl⟩
          obtain ⟨d1, hd1⟩ : ∃ d1, d1 = (meetsM d).2 := ⟨_, rfl⟩
          rw [← hr2, ← hd1] at M ⊢
          rw [← hr2] at hm
          have hrne : (r != 0) = true := by simpa using hm
          have a1 : (n : Int) ≤ 8192 := by omega
          have a2 : (j : Int) ≤ (8192 : Int) - (n : Int) := by omega
          have hw : IntKind.i64.wrap ((8192 : Int) - (n : Int)) = (8192 : Int) - (n : Int) := IntWalk.i64_in _ (by omega)
          have M := hid M
          clear e hr h hs hn h1 h2 hm0 hr2 hd1 hm
          go_enter Try.func21, Try.ntmps21
          go_wp2_with (first | (go_at_call 47; refine (R.out).mono ?_; rintro e w1 ⟨rfl, rfl⟩) | (go_at_call 48; refine (M.out).mono ?_; rintro e w2 ⟨rfl, hd2⟩) | go_in)
          go_ret
          exact ⟨rfl, hd2⟩
  · have e : writeM d f a s = (readyM d f, d) := by unfold writeM; rw [if_pos hr]
    rw [e]
    obtain ⟨r, hr2⟩ : ∃ r, r = readyM d f := ⟨_, rfl⟩
    rw [← hr2] at R ⊢
    rw [← hr2] at hr
    have hrne : (r != 0) = true := by simpa using hr
    have R := hid R
    have H := hid h
    clear hr2 e hr h hs
    go_enter Try.func21, Try.ntmps21
    go_wp2_with (first | (go_at_call 47; refine (R.out).mono ?_; rintro e w1 ⟨rfl, rfl⟩) | go_in)
    go_ret
    exact ⟨rfl, Did.same H.out⟩
end
end Go.Proofs.Ytioafhkblmebmaa
