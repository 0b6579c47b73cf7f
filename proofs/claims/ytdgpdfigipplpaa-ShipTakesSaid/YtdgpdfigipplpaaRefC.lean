/- counterfoilref26.eight and small. -/
import Derived.Test.YtdgpdfigipplpaaRefB
import Derived.Test.YtdgpdfigipplpaaRefA
namespace Go.Proofs.Ytdgpdfigipplpaa
open Go.RowKit
set_option linter.unusedVariables false
set_option linter.unusedSimpArgs false

theorem fixed_eight (n : Int) (h0 : 0 ≤ n) (h1 : n < 18446744073709551616) : fixedL n 8 = eight n := by
  have e : ∀ a b : Int, a = b → byt a = byt b := fun _ _ h => by rw [h]
  simp only [fixedL_succ, fixedL_zero, eight, four, List.cons_append, List.nil_append]
  have p7 : (256 : Int) ^ 7 = 72057594037927936 := by decide
  have p6 : (256 : Int) ^ 6 = 281474976710656 := by decide
  have p5 : (256 : Int) ^ 5 = 1099511627776 := by decide
  have p4 : (256 : Int) ^ 4 = 4294967296 := by decide
  have p3 : (256 : Int) ^ 3 = 16777216 := by decide
  have p2 : (256 : Int) ^ 2 = 65536 := by decide
  have p1 : (256 : Int) ^ 1 = 256 := by decide
  have p0 : (256 : Int) ^ 0 = 1 := by decide
  rw [p7, p6, p5, p4, p3, p2, p1, p0]
  rw [e (n / 72057594037927936 % 256) (n / 4294967296 / 16777216) (by omega), e (n / 281474976710656 % 256) (n / 4294967296 / 65536 % 256) (by omega),
    e (n / 1099511627776 % 256) (n / 4294967296 / 256 % 256) (by omega), e (n / 16777216 % 256) (n % 4294967296 / 16777216) (by omega),
    e (n / 65536 % 256) (n % 4294967296 / 65536 % 256) (by omega), e (n / 256 % 256) (n % 4294967296 / 256 % 256) (by omega), e (n / 1 % 256) (n % 4294967296 % 256) (by omega)]

set_option maxHeartbeats 400000 in
theorem refEight_any (n : Int) (w : World) (h0 : 0 ≤ n) (h1 : n < 18446744073709551616) :
    Calls Try.prog 30 #[.int .u64 n] w fun e w' => e = .returned (.string (bs (eight n))) ∧ Below w.heap.size w w' := by
  have hf := fun W => fixed_any n 8 W h0 h1 (by decide)
  rw [fixed_eight n h0 h1] at hf
  have Hf := hid hf
  clear hf
  go_enter Try.func30, Try.ntmps30
  go_wp2_with fail
  refine (Hf.out _).mono ?_
  rintro e w1 ⟨rfl, hb1⟩
  go_wp2_with fail
  go_ret
  exact ⟨rfl, hb1⟩

def smallN (n : Int) : Int := if 1000000 < n then 1000000 else n

set_option maxHeartbeats 800000 in
theorem small_any (s : List UInt8) (k : Nat) (w : World) (hs : s.length ≤ 1099511627776) (hk : k + 8 ≤ s.length) :
    Calls Try.prog 34 #[.string (bs s), .int .i64 k] w fun e w' => e = .returned (.int .i64 (smallN (num ((s.drop k).take 8)))) ∧ Below w.heap.size w w' := by
  have hv := fun W => value_any ((s.drop k).take 8) W (by simp; omega)
  have hlen : ((s.drop k).take 8).length = 8 := by simp; omega
  obtain ⟨n, hn⟩ : ∃ n, n = num ((s.drop k).take 8) := ⟨_, rfl⟩
  have n0 : 0 ≤ n := by rw [hn]; exact num_lo _
  have n1 : n < 18446744073709551616 := by
    have h := num_hi ((s.drop k).take 8)
    rw [hlen, ← hn] at h
    exact h
  have hm : n % 18446744073709551616 = n := by omega
  simp only [← hn, hm] at hv
  rw [← hn]
  have Hv := hid hv
  have f1 : k + 8 ≤ s.length := hk
  have f2 : k ≤ k + 8 := by omega
  have f3 : (k : Int) + 8 ≤ (s.length : Int) := by omega
  have f4 : ((k : Int) + 8).toNat = k + 8 := by omega
  have f5 : (0 : Int) ≤ (k : Int) + 8 := by omega
  have f6 : (k : Int) ≤ (k : Int) + 8 := by omega
  have f7 : k + 8 - k = 8 := by omega
  have hw8 : IntKind.i64.wrap ((k : Int) + 8) = (k : Int) + 8 := IntWalk.i64_in _ (by omega)
  clear hv hm hn hlen
  by_cases hb : 1000000 < n
  · have hb' : decide (1000000 < n) = true := by simpa using hb
    have hfin : smallN n = 1000000 := if_pos hb
    have Hfin := hid hfin
    clear hfin hb
    go_enter Try.func34, Try.ntmps34
    go_wp2_with fail
    refine (Hv.out _).mono ?_
    rintro e w1 ⟨rfl, hb1⟩
    go_wp2_with fail
    go_ret
    rw [Hfin.out]
    exact ⟨rfl, hb1⟩
  · have hb' : decide (1000000 < n) = false := by simpa using hb
    have hfin : smallN n = n := if_neg hb
    have hw : IntKind.i64.wrap n = n := IntWalk.i64_in _ (by omega)
    have Hfin := hid hfin
    clear hfin
    go_enter Try.func34, Try.ntmps34
    go_wp2_with fail
    refine (Hv.out _).mono ?_
    rintro e w1 ⟨rfl, hb1⟩
    go_wp2_with fail
    go_ret
    rw [Hfin.out]
    exact ⟨rfl, hb1⟩
end Go.Proofs.Ytdgpdfigipplpaa
