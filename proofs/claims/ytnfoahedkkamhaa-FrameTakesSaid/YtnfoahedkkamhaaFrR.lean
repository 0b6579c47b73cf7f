/- counterfoilref04's small functions, HeadMay, Head, Start, May. -/
import Derived.Test.YtnfoahedkkamhaaFrX
import Derived.Test.YtnfoahedkkamhaaRefA
namespace Go.Proofs.Ytnfoahedkkamhaa
open Go.RowKit
set_option linter.unusedVariables false
set_option linter.unusedSimpArgs false

theorem fixed_eight (n : Int) (h0 : 0 ≤ n) (h1 : n < 18446744073709551616) : fixedL n 8 = eight n := by
  have e : ∀ a b : Int, a = b → byt a = byt b := fun _ _ h => by rw [h]
  simp only [fixedL_succ, fixedL_zero, eight, four, List.cons_append, List.nil_append]
  have p7 : (256 : Int) ^ 7 = 72057594037927936 := by decide
  have p6 : (256 : Int) ^ 6 = 281474976710656 := by decide
  have p5 : (256 : Int) ^ 5 = 1099511627776 := by decide
  have p4 : (256 : Int) ^ 4 = 4294967296 := by decide
  have p3 : (256 : Int) ^ 3 = 16777216 := by decide
  have p2 : (256 : Int) ^ 2 = 65536 := by decide
  have p1 : (256 : Int) ^ 1 = 256 := by decide
  have p0 : (256 : Int) ^ 0 = 1 := by decide
  rw [p7, p6, p5, p4, p3, p2, p1, p0]
  rw [e (n / 72057594037927936 % 256) (n / 4294967296 / 16777216) (by omega), e (n / 281474976710656 % 256) (n / 4294967296 / 65536 % 256) (by omega),
    e (n / 1099511627776 % 256) (n / 4294967296 / 256 % 256) (by omega), e (n / 16777216 % 256) (n % 4294967296 / 16777216) (by omega),
    e (n / 65536 % 256) (n % 4294967296 / 65536 % 256) (by omega), e (n / 256 % 256) (n % 4294967296 / 256 % 256) (by omega), e (n / 1 % 256) (n % 4294967296 % 256) (by omega)]
theorem fixed8_any (n : Int) (w : World) (h0 : 0 ≤ n) (h1 : n < 18446744073709551616) :
    Calls Try.prog 36 #[.int .u64 n, .int .i64 8] w fun e w' => e = .returned (.string (bs (eight n))) ∧ Below w.heap.size w w' := by
  have hf := fixed_any n 8 w h0 h1 (by decide)
  rw [fixed_eight n h0 h1] at hf
  exact hf

/-- 'number' of four bytes. -/
theorem number4_any (n : Int) (w : World) (h0 : 0 ≤ n) (h1 : n < 4294967296) :
    Calls Try.prog 37 #[.int .i64 n, .int .i64 4] w fun e w' => e = .returned (.string (bs (four n))) ∧ Below w.heap.size w w' := by
  have F := fun W => fixed_text n W h0 h1
  go_enter Try.func37, Try.ntmps37
  go_wp2_with fail
  (with_reducible refine (F _).mono ?_)
  rintro e w1 ⟨rfl, hb1⟩
  go_wp2_with fail
  go_ret
  exact ⟨rfl, hb1⟩

set_option maxRecDepth 100000 in
theorem rnoughts_any (k : Nat) (w : World) (hk : k ≤ 1000) :
    Calls Try.prog 40 #[.int .i64 (k : Int)] w fun e w' => e = .returned (.string (bs (zeros k))) ∧ Below w.heap.size w w' := by
  obtain ⟨i0, hi, hz0, hz1, hz2⟩ := info_parts (P := Try.prog) (e := 5) (z := .int .u8 0) (size := 1) (bytes := 1) (by kernel_rfl)
  obtain ⟨C, hC⟩ : ∃ C, C = madeCells #[Value.int .u8 0] k := ⟨_, rfl⟩
  have hmk : ∀ W : World, (Instr.makeSlice 52 (.int .i64 (k : Int)) (.int .i64 (k : Int))).run Try.prog W = .ok (.slice (some ⟨W.heap.size, 0, none⟩) k k) (W.alloc (.cells C 5)) := fun W => by
    have h := run_make (P := Try.prog) (w := W) 52 5 i0 (.int .u8 0) Try.underlying52 hi hz0 .i64 .i64 k k (by omega) (by omega) (by rw [hz2]; omega) (by omega)
    rw [hz1] at h
    simp only [Int.toNat_natCast, Nat.mul_one] at h
    rw [hC]
    exact h
  have kc := fun (W : World) => run_convert_cells (P := Try.prog) (W.alloc (.cells C 5)) 52 9 5 Try.underlying52 Try.underlying5 Try.underlying9 W.heap.size 0 k k (List.replicate k 0) (by simp)
    (by
      intro i hi
      rw [cell_of_block (heap_alloc_new W _), hC]
      have hl : (madeCells #[Value.int .u8 0] k).toList[i]? = some (.int .u8 0) := by
        rw [toList_madeCells_one]
        simp [hi]
      simp only [Array.getElem?_toList] at hl
      rw [Nat.zero_add, hl]
      simp [List.getD, hi])
  have e1 : ((List.replicate k (0 : Int)).map fun n => UInt8.ofNat n.toNat) = zeros k := by simp [zeros]
  simp only [e1] at kc
  have hk0 : (0 : Int) ≤ (k : Int) := by omega
  clear hC
  go_enter Try.func40, Try.ntmps40
  go_wp2_with fail
  go_ret
  exact ⟨rfl, (Below.refl _ _).alloc (Nat.le_refl _) _⟩
theorem rnoughts_32 (w : World) : Calls Try.prog 40 #[.int .i64 32] w fun e w' => e = .returned (.string (bs (zeros 32))) ∧ Below w.heap.size w w' := rnoughts_any 32 w (by decide)
theorem rnoughts_40 (w : World) : Calls Try.prog 40 #[.int .i64 40] w fun e w' => e = .returned (.string (bs (zeros 40))) ∧ Below w.heap.size w w' := rnoughts_any 40 w (by decide)
set_option maxHeartbeats 1000000 in
theorem headMay_any (h : Hd) (w : World) : Calls Try.prog 16 #[hdV h] w fun e w' => e = .returned (.bool (hdMay h)) ∧ Below w.heap.size w w' := by
  obtain ⟨n, f, p⟩ := h
  unfold hdV
  by_cases t1 : 0 ≤ f
  · have bt1 : (decide (0 ≤ f)) = true := by first | simpa using t1 | (simp; omega)
    by_cases t2 : f ≤ 256
    · have bt2 : (decide (f ≤ 256)) = true := by first | simpa using t2 | (simp; omega)
      by_cases t3 : 0 ≤ p
      · have bt3 : (decide (0 ≤ p)) = true := by first | simpa using t3 | (simp; omega)
        by_cases t4 : p ≤ 256
        · have bt4 : (decide (p ≤ 256)) = true := by first | simpa using t4 | (simp; omega)
          have e : hdMay ⟨n, f, p⟩ = true := by simp only [hdMay, inB]; simp; omega
          have E := hid e
          clear e 
          go_enter Try.func16, Try.ntmps16
          go_wp2_with fail
          go_ret
          exact ⟨ret_bool E.out.symm, (Below.refl _ _).alloc (Nat.le_refl _) _⟩
        · have bt4 : (decide (p ≤ 256)) = false := by first | simpa using t4 | (simp; omega)
          have e : hdMay ⟨n, f, p⟩ = false := by simp only [hdMay, inB]; simp; omega
          have E := hid e
          clear e 
          go_enter Try.func16, Try.ntmps16
          go_wp2_with fail
          go_ret
          exact ⟨ret_bool E.out.symm, (Below.refl _ _).alloc (Nat.le_refl _) _⟩
      · have bt3 : (decide (0 ≤ p)) = false := by first | simpa using t3 | (simp; omega)
        have e : hdMay ⟨n, f, p⟩ = false := by simp only [hdMay, inB]; simp; omega
        have E := hid e
        clear e 
        go_enter Try.func16, Try.ntmps16
        go_wp2_with fail
        go_ret
        exact ⟨ret_bool E.out.symm, (Below.refl _ _).alloc (Nat.le_refl _) _⟩
    · have bt2 : (decide (f ≤ 256)) = false := by first | simpa using t2 | (simp; omega)
      have e : hdMay ⟨n, f, p⟩ = false := by simp only [hdMay, inB]; simp; omega
      have E := hid e
      clear e 
      go_enter Try.func16, Try.ntmps16
      go_wp2_with fail
      go_ret
      exact ⟨ret_bool E.out.symm, (Below.refl _ _).alloc (Nat.le_refl _) _⟩
  · have bt1 : (decide (0 ≤ f)) = false := by first | simpa using t1 | (simp; omega)
    have e : hdMay ⟨n, f, p⟩ = false := by simp only [hdMay, inB]; simp; omega
    have E := hid e
    clear e 
    go_enter Try.func16, Try.ntmps16
    go_wp2_with fail
    go_ret
    exact ⟨ret_bool E.out.symm, (Below.refl _ _).alloc (Nat.le_refl _) _⟩
set_option maxHeartbeats 1000000 in
theorem refMay_any (x : Fr) (w : World) (hl : x.data.length ≤ 9223372036854775807) : Calls Try.prog 21 #[frV x] w fun e w' => e = .returned (.bool (frOk x)) ∧ Below w.heap.size w w' := by
  obtain ⟨f, p, d⟩ := x
  simp only at hl
  unfold frV
  by_cases t1 : 1 ≤ f
  · have bt1 : (decide (1 ≤ f)) = true := by first | simpa using t1 | (simp; omega)
    by_cases t2 : f ≤ 256
    · have bt2 : (decide (f ≤ 256)) = true := by first | simpa using t2 | (simp; omega)
      by_cases t3 : 0 ≤ p
      · have bt3 : (decide (0 ≤ p)) = true := by first | simpa using t3 | (simp; omega)
        by_cases t4 : p ≤ 256
        · have bt4 : (decide (p ≤ 256)) = true := by first | simpa using t4 | (simp; omega)
          by_cases t5 : d.length = 512
          · have bt5 : ((d.length : Int) == 512) = true := by first | simpa using t5 | (simp; omega)
            have e : frOk ⟨f, p, d⟩ = true := by simp only [frOk, frMay, inB]; simp; omega
            have E := hid e
            clear e t5
            go_enter Try.func21, Try.ntmps21
            go_wp2_with fail
            go_ret
            exact ⟨ret_bool E.out.symm, (Below.refl _ _).alloc (Nat.le_refl _) _⟩
          · have bt5 : ((d.length : Int) == 512) = false := by first | simpa using t5 | (simp; omega)
            have e : frOk ⟨f, p, d⟩ = false := by simp only [frOk, frMay, inB]; simp; omega
            have E := hid e
            clear e t5
            go_enter Try.func21, Try.ntmps21
            go_wp2_with fail
            go_ret
            exact ⟨ret_bool E.out.symm, (Below.refl _ _).alloc (Nat.le_refl _) _⟩
        · have bt4 : (decide (p ≤ 256)) = false := by first | simpa using t4 | (simp; omega)
          have e : frOk ⟨f, p, d⟩ = false := by simp only [frOk, frMay, inB]; simp; omega
          have E := hid e
          clear e 
          go_enter Try.func21, Try.ntmps21
          go_wp2_with fail
          go_ret
          exact ⟨ret_bool E.out.symm, (Below.refl _ _).alloc (Nat.le_refl _) _⟩
      · have bt3 : (decide (0 ≤ p)) = false := by first | simpa using t3 | (simp; omega)
        have e : frOk ⟨f, p, d⟩ = false := by simp only [frOk, frMay, inB]; simp; omega
        have E := hid e
        clear e 
        go_enter Try.func21, Try.ntmps21
        go_wp2_with fail
        go_ret
        exact ⟨ret_bool E.out.symm, (Below.refl _ _).alloc (Nat.le_refl _) _⟩
    · have bt2 : (decide (f ≤ 256)) = false := by first | simpa using t2 | (simp; omega)
      have e : frOk ⟨f, p, d⟩ = false := by simp only [frOk, frMay, inB]; simp; omega
      have E := hid e
      clear e 
      go_enter Try.func21, Try.ntmps21
      go_wp2_with fail
      go_ret
      exact ⟨ret_bool E.out.symm, (Below.refl _ _).alloc (Nat.le_refl _) _⟩
  · have bt1 : (decide (1 ≤ f)) = false := by first | simpa using t1 | (simp; omega)
    have e : frOk ⟨f, p, d⟩ = false := by simp only [frOk, frMay, inB]; simp; omega
    have E := hid e
    clear e 
    go_enter Try.func21, Try.ntmps21
    go_wp2_with fail
    go_ret
    exact ⟨ret_bool E.out.symm, (Below.refl _ _).alloc (Nat.le_refl _) _⟩
end Go.Proofs.Ytnfoahedkkamhaa
