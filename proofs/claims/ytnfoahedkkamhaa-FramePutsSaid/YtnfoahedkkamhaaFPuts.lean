/- The law FramePuts, walked. -/
import Derived.Test.YtnfoahedkkamhaaFrU
namespace Go.Proofs.Ytnfoahedkkamhaa
open Go.RowKit
set_option linter.unusedVariables false
set_option linter.unusedSimpArgs false

set_option maxHeartbeats 4000000 in
set_option maxRecDepth 100000 in
theorem fputs_any (p : Int × Int) (salt : Int) (f : Fr) (w : World) (hp : PairWf p) (s0 : 0 ≤ salt) (s1 : salt < 18446744073709551616) (hfl : f.data.length ≤ 9223372036854775807) :
    Calls Try.prog 5 #[pairV p, .int .u64 salt, frV f] w fun e w' => e = .returned (.bool true) ∧ Below w.heap.size w w' := by
  have P := fun W => putFr_any p salt f W hp s0 s1 hfl
  have M := fun W => refMay_any f W hfl
  have R := fun (hok : frOk f = true) W => refPut_any p salt f W hp s0 s1 hok
  have okc : (if frOk f then (frL p salt f, frQ p salt f, (0 : Int)) else ([], (0, 0), 2)) = ((putFr p salt f).s, (putFr p salt f).q, (putFr p salt f).e) := by unfold putFr; split <;> rfl
  obtain ⟨A, hA⟩ : ∃ A, A = putFr p salt f := ⟨_, rfl⟩
  obtain ⟨ok, hok⟩ : ∃ b, b = frOk f := ⟨_, rfl⟩
  obtain ⟨L, hL⟩ : ∃ L, L = frL p salt f := ⟨_, rfl⟩
  obtain ⟨q, hq⟩ : ∃ q, q = frQ p salt f := ⟨_, rfl⟩
  simp only [← hA] at P okc
  simp only [← hok] at M R okc
  simp only [← hL, ← hq] at R okc
  have HP := hid P
  have HM := hid M
  have HR := hid R
  have Hok := hid okc
  clear P M R okc hA hok hL hq hp s0 s1
  obtain ⟨page, commit, data⟩ := f
  obtain ⟨As, Aq, Ae⟩ := A
  unfold pairV frV at *
  simp only at HP HM HR Hok hfl
  have x2 := eql_pair
  have g2 := guard_pair
  by_cases hbig : data.length ≤ 8192
  · have l1 : decide ((8192 : Int) < (data.length : Int)) = false := by simp; omega
    clear hbig
    go_enter Try.func5, Try.ntmps5
    go_wp2_with fail
    refine (works_any _).mono ?_
    rintro e w1 ⟨rfl, hb⟩
    have H1 := hid ((hb.block w.heap.size (by simp; omega)).trans (heap_two_old w _ _))
    have F1 := hid ((hb.block (w.heap.size + 1) (by simp)).trans (heap_two_new w _ _))
    have hbw : Below w.heap.size w w1 := (((Below.refl _ _).alloc (Nat.le_refl _) _).alloc (by simp) _).trans (hb.mono (by simp; omega))
    obtain ⟨a0, a1, af⟩ := cells2 H1.out
    obtain ⟨c0, c1, c2, cf⟩ := cells3 F1.out
    clear hb
    go_wp2_with fail
    refine (HP.out _).mono ?_
    rintro e w2 ⟨rfl, hb2⟩
    have hb23 : Below w2.heap.size w2 (w2.alloc (.cells #[.int .u32 Aq.1, .int .u32 Aq.2] 33)) := (Below.refl _ _).alloc (Nat.le_refl _) _
    have hb13 := hb2.trans (hb23.mono hb2.size)
    have H3 := hid ((hb13.block w.heap.size (lt_of_block H1.out)).trans H1.out)
    have F3 := hid ((hb13.block (w.heap.size + 1) (lt_of_block F1.out)).trans F1.out)
    have Q3 := hid (heap_alloc_new w2 (.cells #[.int .u32 Aq.1, .int .u32 Aq.2] 33))
    have hbw3 := hbw.trans (hb13.mono hbw.size)
    clear a0 a1 af c0 c1 c2 cf hb2 hb23 hb13 HP
    obtain ⟨c0, c1, c2, cf⟩ := cells3 F3.out
    go_wp2_with fail
    refine (HM.out _).mono ?_
    rintro e w4 ⟨rfl, hb4⟩
    have H4 := hid ((hb4.block w.heap.size (lt_of_block H3.out)).trans H3.out)
    have F4 := hid ((hb4.block (w.heap.size + 1) (lt_of_block F3.out)).trans F3.out)
    have Q4 := hid ((hb4.block w2.heap.size (by simp)).trans Q3.out)
    have hbw4 := hbw3.trans (hb4.mono hbw3.size)
    clear c0 c1 c2 cf hb4 H3 F3 Q3 HM
    cases ok
    · have h := Hok.out
      simp only [Bool.false_eq_true, if_false, Prod.mk.injEq] at h
      obtain ⟨rfl, rfl, rfl⟩ := h
      obtain ⟨q0, q1, qf⟩ := cells2 Q4.out
      have ee : ByteArray.mk #[] = bs [] := rfl
      go_wp2_with fail
      go_ret
      exact ⟨rfl, hbw4⟩
    · have h := Hok.out
      simp only [if_true, Prod.mk.injEq] at h
      obtain ⟨rfl, rfl, rfl⟩ := h
      have HR2 := fun W => HR.out (by first | rfl | trivial) W
      obtain ⟨a0, a1, af⟩ := cells2 H4.out
      obtain ⟨c0, c1, c2, cf⟩ := cells3 F4.out
      go_wp2_with fail
      refine (HR2 _).mono ?_
      rintro e w5 ⟨rfl, hb5⟩
      have Q5 := (hb5.block w2.heap.size (lt_of_block Q4.out)).trans Q4.out
      have hbw5 := hbw4.trans (hb5.mono hbw4.size)
      have l5 := lt_of_block Q5
      obtain ⟨q0, q1, qf⟩ := cells2 Q5
      clear a0 a1 af c0 c1 c2 cf hb5 H4 F4 Q4 HR2 Q5
      go_wp2_with fail
      go_ret
      exact ⟨rfl, hbw5.alloc hbw5.size _⟩
  · have l1 : decide ((8192 : Int) < (data.length : Int)) = true := by simp; omega
    clear hbig
    go_enter Try.func5, Try.ntmps5
    go_wp2_with fail
    refine (works_any _).mono ?_
    rintro e w1 ⟨rfl, hb⟩
    have F1 := ((hb.block (w.heap.size + 1) (by simp)).trans (heap_two_new w _ _))
    have hbw : Below w.heap.size w w1 := (((Below.refl _ _).alloc (Nat.le_refl _) _).alloc (by simp) _).trans (hb.mono (by simp; omega))
    obtain ⟨c0, c1, c2, cf⟩ := cells3 F1
    clear hb F1
    go_wp2_with fail
    go_ret
    exact ⟨rfl, hbw⟩
end Go.Proofs.Ytnfoahedkkamhaa
