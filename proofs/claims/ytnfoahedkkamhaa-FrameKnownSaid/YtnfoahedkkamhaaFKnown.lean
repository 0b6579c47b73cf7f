/- The law FrameKnown, walked. -/
import Derived.Test.YtnfoahedkkamhaaFrX
namespace Go.Proofs.Ytnfoahedkkamhaa
open Go.RowKit
set_option linter.unusedVariables false
set_option linter.unusedSimpArgs false

def page0 : List UInt8 := List.replicate 512 0
theorem page0_len : page0.length = 512 := List.length_replicate ..
theorem page_0 (w : World) : Calls Try.prog 12 #[.int .u8 0] w fun e w' => e = .returned (.string (bs page0)) ∧ Below w.heap.size w w' := page_any 0 w
theorem k_d : tkHd (page0.take 64) = (zeroHd, 11) := by
  have hl : (page0.take 64).length = 64 := by simp [page0_len]
  have e : hdBad (page0.take 64) = true := by decide +kernel
  unfold tkHd
  rw [if_neg (by omega), if_pos e]
theorem k_h : tkFr (0, 0) 0 ((page0 ++ page0).take 576) = ⟨zeroFr, (0, 0), 11⟩ := by
  have hl : ((page0 ++ page0).take 576).length = 576 := by simp [page0_len]
  have e : frMay (frOf ((page0 ++ page0).take 576)) = false := by decide +kernel
  unfold tkFr
  rw [if_neg (by omega), if_pos (by rw [e]; simp)]
attribute [irreducible] page0

set_option maxHeartbeats 4000000 in
set_option maxRecDepth 100000 in
theorem fknown_any (w : World) : Calls Try.prog 3 #[] w fun e w' => e = .returned (.bool true) ∧ Below w.heap.size w w' := by
  have A := fun W => putHead_no ⟨0, 257, 0⟩ W (by decide)
  have B := fun W => putHead_no ⟨0, 0, -1⟩ W (by decide)
  have C := fun W => takeHead_short (page0.take 63) W (by simp [page0_len])
  have D := fun W => takeHead_any (page0.take 64) W (by simp [page0_len])
  simp only [k_d] at D
  have E := fun W => putFr_no (0, 0) 0 ⟨0, 0, page0⟩ W (by simp [page0_len]) (by simp [frOk, frMay, inB])
  have F := fun W => putFr_no (0, 0) 0 ⟨1, 0, page0.tail⟩ W (by simp [page0_len]) (by simp [frOk, page0_len])
  have htl : List.take (page0.length - 1) page0.tail = page0.tail := List.take_of_length_le (by simp)
  have G := fun W => takeFr_short (0, 0) 0 ((page0 ++ page0).take 575) W (by simp [page0_len])
  have K := fun W => takeFr_any (0, 0) 0 ((page0 ++ page0).take 576) W (by unfold PairWf; decide) (by decide) (by decide) (by simp [page0_len])
  simp only [k_h] at K
  have pl := page0_len
  have q1 : 512 ≤ page0.length := by omega
  have q2 : page0.length ≤ 512 := by omega
  have q3 : (512 : Int) ≤ (page0.length : Int) := by omega
  have q4 : (1 : Int) ≤ (page0.length : Int) := by omega
  have q5 : 1 ≤ page0.length := by omega
  have q6 : (64 : Int) ≤ (page0.length : Int) := by omega
  have q7 : 575 ≤ page0.length + page0.length := by omega
  have q8 : 576 ≤ page0.length + page0.length := by omega
  have q9 : ¬ (9223372036854775807 < page0.length + page0.length) := by omega
  have q10 : page0.length + page0.length ≤ 9223372036854775807 := by omega
  have q11 : (575 : Int) ≤ (page0.length : Int) + (page0.length : Int) := by omega
  have q12 : (576 : Int) ≤ (page0.length : Int) + (page0.length : Int) := by omega
  have q13 : 64 ≤ page0.length := by omega
  have q14 : 63 ≤ page0.length := by omega
  unfold hdV zeroHd at *
  unfold pairV frV zeroFr at *
  simp only at A B C D E F G K
  have HA := hid A
  have HB := hid B
  have HC := hid C
  have HD := hid D
  have HE := hid E
  have HF := hid F
  have HG := hid G
  have HK := hid K
  clear A B C D E F G K
  have p63 : (63 : Int) ≤ (page0.length : Int) := by omega
  clear pl
  have P := page_0
  have HP := hid P
  clear P
  go_enter Try.func3, Try.ntmps3
  go_wp2_with fail
  (with_reducible refine (HA.out _).mono ?_)
  rintro e w1 ⟨rfl, hb1⟩
  go_wp2_with fail
  (with_reducible refine (HB.out _).mono ?_)
  rintro e w2 ⟨rfl, hb2⟩
  have hbw2 := hb1.trans (hb2.mono hb1.size)
  clear hb1 hb2 HA HB
  go_wp2_with fail
  (with_reducible refine (HP.out _).mono ?_)
  rintro e w3 ⟨rfl, hb3⟩
  have hbw3 := hbw2.trans (hb3.mono hbw2.size)
  clear hb3
  go_wp2_with fail
  (with_reducible refine (HC.out _).mono ?_)
  rintro e w4 ⟨rfl, hb4⟩
  have hbw4 := (hbw3.trans (hb4.mono hbw3.size)).alloc (hbw3.trans (hb4.mono hbw3.size)).size (.cells #[.int .u64 0, .int .i64 0, .int .i64 0] 27)
  clear hb4 HC
  go_wp2_with fail
  (with_reducible refine (HP.out _).mono ?_)
  rintro e w5 ⟨rfl, hb5⟩
  have hbw5 := hbw4.trans (hb5.mono hbw4.size)
  clear hb5
  go_wp2_with fail
  (with_reducible refine (HD.out _).mono ?_)
  rintro e w6 ⟨rfl, hb6⟩
  have hbw6 := (hbw5.trans (hb6.mono hbw5.size)).alloc (hbw5.trans (hb6.mono hbw5.size)).size (.cells #[.int .u64 0, .int .i64 0, .int .i64 0] 27)
  clear hb6 HD
  go_wp2_with fail
  (with_reducible refine (HP.out _).mono ?_)
  rintro e w7 ⟨rfl, hb7⟩
  have hbw7 := hbw6.trans (hb7.mono hbw6.size)
  clear hb7
  go_wp2_with fail
  (with_reducible refine (HE.out _).mono ?_)
  rintro e w8 ⟨rfl, hb8⟩
  have hbw8 := (hbw7.trans (hb8.mono hbw7.size)).alloc (hbw7.trans (hb8.mono hbw7.size)).size (.cells #[.int .u32 0, .int .u32 0] 33)
  clear hb8 HE
  go_wp2_with fail
  (with_reducible refine (HP.out _).mono ?_)
  rintro e w9 ⟨rfl, hb9⟩
  have hbw9 := hbw8.trans (hb9.mono hbw8.size)
  clear hb9
  go_wp2_with fail
  (with_reducible refine (HF.out _).mono ?_)
  rintro e w10 ⟨rfl, hb10⟩
  have hbw10 := (hbw9.trans (hb10.mono hbw9.size)).alloc (hbw9.trans (hb10.mono hbw9.size)).size (.cells #[.int .u32 0, .int .u32 0] 33)
  clear hb10 HF
  go_wp2_with fail
  (with_reducible refine (HP.out _).mono ?_)
  rintro e w11 ⟨rfl, hb11⟩
  have hbw11 := hbw10.trans (hb11.mono hbw10.size)
  go_wp2_with fail
  (with_reducible refine (HP.out _).mono ?_)
  rintro e w12 ⟨rfl, hb12⟩
  have hbw12 := hbw11.trans (hb12.mono hbw11.size)
  clear hb11 hb12
  go_wp2_with fail
  (with_reducible refine (HG.out _).mono ?_)
  rintro e w13 ⟨rfl, hb13⟩
  have hbw13a := hbw12.trans (hb13.mono hbw12.size)
  have hbw13 := (hbw13a.alloc hbw13a.size (.cells #[.int .i64 0, .int .i64 0, .string (bs [])] 37)).alloc (by have := hbw13a.size; simp; omega) (.cells #[.int .u32 0, .int .u32 0] 33)
  clear hb13 HG
  go_wp2_with fail
  (with_reducible refine (HP.out _).mono ?_)
  rintro e w14 ⟨rfl, hb14⟩
  have hbw14 := hbw13.trans (hb14.mono hbw13.size)
  go_wp2_with fail
  (with_reducible refine (HP.out _).mono ?_)
  rintro e w15 ⟨rfl, hb15⟩
  have hbw15 := hbw14.trans (hb15.mono hbw14.size)
  clear hb14 hb15
  go_wp2_with fail
  (with_reducible refine (HK.out _).mono ?_)
  rintro e w16 ⟨rfl, hb16⟩
  have hbw16 := hbw15.trans (hb16.mono hbw15.size)
  clear hb16 HK
  go_wp2_with fail
  refine (works_any _).mono ?_
  rintro e w17 ⟨rfl, hb17⟩
  have hb18 := (((Below.refl w16.heap.size w16).alloc (Nat.le_refl _) (.cells #[.int .i64 0, .int .i64 0, .string (bs [])] 37)).alloc (by simp) (.cells #[.int .u32 0, .int .u32 0] 33)).trans (hb17.mono (by simp; omega))
  go_wp2_with fail
  go_ret
  exact ⟨rfl, hbw16.trans (hb18.mono hbw16.size)⟩
end Go.Proofs.Ytnfoahedkkamhaa
