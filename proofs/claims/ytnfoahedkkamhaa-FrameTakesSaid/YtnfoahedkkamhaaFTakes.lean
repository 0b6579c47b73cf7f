/- The law FrameTakes, walked. -/
import Derived.Test.YtnfoahedkkamhaaFrV
namespace Go.Proofs.Ytnfoahedkkamhaa
open Go.RowKit
set_option linter.unusedVariables false
set_option linter.unusedSimpArgs false

set_option maxHeartbeats 4000000 in
set_option maxRecDepth 100000 in
theorem ftakes_any (p : Int × Int) (salt : Int) (s : List UInt8) (w : World) (hp : PairWf p) (s0 : 0 ≤ salt) (s1 : salt < 18446744073709551616) (hl : s.length ≤ 9223372036854775807) :
    Calls Try.prog 6 #[pairV p, .int .u64 salt, .string (bs s)] w fun e w' => e = .returned (.bool true) ∧ Below w.heap.size w w' := by
  by_cases hlen : s.length ≤ 8192
  · have hl' : decide ((8192 : Int) < (s.length : Int)) = false := by simp; omega
    have T := fun W => takeFr_any p salt s W hp s0 s1 (by omega)
    have R := fun W => refTakeFr_any p salt s W hp s0 s1 (by omega)
    obtain ⟨k, hk⟩ : ∃ k, k = tkFr p salt s := ⟨_, rfl⟩
    simp only [← hk] at T R
    have HT := hid T
    have HR := hid R
    clear T R hk hp s0 s1 hlen hl
    obtain ⟨⟨kp, kc, kd⟩, kq, ke⟩ := k
    unfold pairV frV at *
    simp only at HT HR
    have x1 := eql_fr
    have x2 := eql_pair
    have g1 := guard_fr
    have g2 := guard_pair
    go_enter Try.func6, Try.ntmps6
    go_wp2_with fail
    refine (works_any _).mono ?_
    rintro e w1 ⟨rfl, hb1⟩
    have H1 := hid ((hb1.block w.heap.size (by simp)).trans (heap_alloc_new w _))
    have hbw1 : Below w.heap.size w w1 := ((Below.refl _ _).alloc (Nat.le_refl _) _).trans (hb1.mono (by simp))
    obtain ⟨a0, a1, af⟩ := cells2 H1.out
    clear hb1
    go_wp2_with fail
    refine (HT.out _).mono ?_
    rintro e w2 ⟨rfl, hb2⟩
    have H2 := hid ((hb2.block w.heap.size (lt_of_block H1.out)).trans H1.out)
    have hbw2 := hbw1.trans (hb2.mono hbw1.size)
    have l2 := lt_of_block H2.out
    clear a0 a1 af hb2 H1 HT
    obtain ⟨a0, a1, af⟩ := cells2 H2.out
    go_wp2_with fail
    refine (HR.out _).mono ?_
    rintro e w3 ⟨rfl, hb3⟩
    have F3 := (hb3.block w2.heap.size (by simp; omega)).trans (heap_two_old w2 _ _)
    have Q3 := (hb3.block (w2.heap.size + 1) (by simp)).trans (heap_two_new w2 _ _)
    have hb23 : Below w2.heap.size w2 w3 := (((Below.refl _ _).alloc (Nat.le_refl _) _).alloc (by simp) _).trans (hb3.mono (by simp; omega))
    have hbw3 := hbw2.trans (hb23.mono hbw2.size)
    have l3 := lt_of_block F3
    have l4 := lt_of_block Q3
    obtain ⟨f0, f1, f2, ff⟩ := cells3 F3
    obtain ⟨q0, q1, qf⟩ := cells2 Q3
    clear a0 a1 af hb3 H2 HR F3 Q3 hb23
    go_wp2_with fail
    go_ret
    exact ⟨rfl, (hbw3.alloc hbw3.size _).alloc (by simp; have := hbw3.size; omega) _⟩
  · have hl' : decide ((8192 : Int) < (s.length : Int)) = true := by simp; omega
    unfold pairV
    go_enter Try.func6, Try.ntmps6
    go_wp2_with fail
    refine (works_any _).mono ?_
    rintro e w1 ⟨rfl, hb1⟩
    go_wp2_with fail
    go_ret
    exact ⟨rfl, ((Below.refl _ _).alloc (Nat.le_refl _) _).trans (hb1.mono (by simp))⟩
end Go.Proofs.Ytnfoahedkkamhaa
