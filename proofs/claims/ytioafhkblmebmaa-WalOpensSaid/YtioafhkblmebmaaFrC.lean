/- frame.fours: four numbers of four bytes each. -/
import Derived.Test.YtioafhkblmebmaaFrB
namespace Go.Proofs.Ytioafhkblmebmaa
open Go.RowKit
set_option linter.unusedVariables false
set_option linter.unusedSimpArgs false

theorem four_of (l : List UInt8) (h : 4 ≤ l.length) : ∃ a b c d t, l = a :: b :: c :: d :: t := by
  match l, h with
  | a :: b :: c :: d :: t, _ => exact ⟨a, b, c, d, t, rfl⟩
theorem takeFour_any (l : List UInt8) (w : World) (h : 4 ≤ l.length) (hs : l.length ≤ 9223372036854775807) :
    Calls Try.prog 74 #[.string (bs l)] w fun e' w' => e' = .returned (.tuple #[.int .u32 (num (l.take 4)), .int .i64 0]) ∧ Below w.heap.size w w' := by
  obtain ⟨a, b, c, d, t, rfl⟩ := four_of l h
  refine (takeFour_yes a b c d t w (by simpa using hs)).mono fun e w' h => ?_
  first
    | exact ⟨h.1, h.2⟩
    | exact ⟨h.1, by rw [h.2]; exact Below.refl _ _⟩
theorem num4_bd (l : List UInt8) : 0 ≤ num (l.take 4) ∧ num (l.take 4) < 4294967296 := by
  refine ⟨num_lo _, ?_⟩
  have h := num_hi (l.take 4)
  have h2 : (l.take 4).length ≤ 4 := by simp; omega
  have h3 : (256 : Nat) ^ (l.take 4).length ≤ 256 ^ 4 := Nat.pow_le_pow_right (by decide) h2
  have h4 : ((256 : Int) ^ (l.take 4).length) = ((256 ^ (l.take 4).length : Nat) : Int) := by simp
  omega

def foursC (s : List UInt8) : Nat → Array Value
  | 0 => #[.int .i64 0, .int .i64 0, .int .i64 0, .int .i64 0]
  | k + 1 => (foursC s k).setIfInBounds k (.int .i64 (num ((s.drop (4 * k)).take 4)))
theorem foursC_size (s : List UInt8) : ∀ k, (foursC s k).size = 4
  | 0 => rfl
  | k + 1 => by simp [foursC, foursC_size s k]
theorem foursC_succ (s : List UInt8) (k : Nat) : foursC s (k + 1) = (foursC s k).setIfInBounds k (.int .i64 (num ((s.drop (4 * k)).take 4))) := rfl
theorem foursC_four (s : List UInt8) : foursC s 4 = #[.int .i64 (num (s.take 4)), .int .i64 (num ((s.drop 4).take 4)), .int .i64 (num ((s.drop 8).take 4)), .int .i64 (num ((s.drop 12).take 4))] := rfl
attribute [irreducible] foursC

def FoursRel (s : List UInt8) (w : World) (v7 : Value) (wr : World) : Prop :=
  ∃ k : Nat, k ≤ 4 ∧ v7 = .int .i64 k ∧ wr.heap[w.heap.size + 1]? = some (.cells (foursC s k) 114 (0, 0)) ∧
    wr.heap[w.heap.size]? = some (.cells #[.int .i64 0, .int .i64 0, .int .i64 0, .int .i64 0] 114 (0, 0)) ∧ Below w.heap.size w wr

def foursV (s : List UInt8) : Value := .agg #[.int .i64 (num (s.take 4)), .int .i64 (num ((s.drop 4).take 4)), .int .i64 (num ((s.drop 8).take 4)), .int .i64 (num ((s.drop 12).take 4))]

set_option maxHeartbeats 1000000 in
theorem fours_any (s : List UInt8) (w : World) (hs : 16 ≤ s.length) (hl : s.length ≤ 1099511627776) :
    Calls Try.prog 56 #[.string (bs s)] w fun e w' => e = .returned (foursV s) ∧ Below w.heap.size w w' := by
  unfold foursV
  go_enter Try.func56, Try.ntmps56
  go_wp2_with fail
  go_loopw [7] (fun v7 wr => FoursRel s w v7 wr) (fun v7 _ => 4 - (intOf v7).toNat)
  case atStart => exact ⟨0, by omega, rfl, by unfold foursC; simpa using heap_alloc_new (w.alloc _) _, heap_alloc_old (heap_alloc_new _ _), ((Below.refl _ _).alloc (Nat.le_refl _) _).alloc (by simp) _⟩
  case round =>
    obtain ⟨k, hk, rfl, hC, hR, hb⟩ := hrel
    by_cases hlt : k < 4
    · have F := fun W => takeFour_any (s.drop (4 * k)) W (by simp; omega) (by simp; omega)
      have nb := num4_bd (s.drop (4 * k))
      have hnext := foursC_succ s k
      obtain ⟨n, hn⟩ : ∃ n, n = num ((s.drop (4 * k)).take 4) := ⟨_, rfl⟩
      simp only [← hn] at F nb hnext
      obtain ⟨n0, n1⟩ := nb
      have Hnext := hid hnext
      have HC := hid hC
      have HR := hid hR
      clear hn hnext hC hR
      have f1 : (4 : Int) * (k : Int) ≤ (s.length : Int) := by omega
      have f2 : (0 : Int) ≤ 4 * (k : Int) := by omega
      have f3 : (4 * (k : Int)).toNat = 4 * k := by omega
      have f4 : 4 * k ≤ s.length := by omega
      have f5 : (k : Int) < 4 := by omega
      go_wp2_with fail
      refine (F _).mono ?_
      rintro e w1 ⟨rfl, hb1⟩
      have hC1 := (hb1.block _ (lt_of_block HC.out)).trans HC.out
      have hR1 := (hb1.block _ (lt_of_block HR.out)).trans HR.out
      have hbw := hb.trans (hb1.mono hb.size)
      have hsz := foursC_size s k
      have ck : ∃ x, w1.cell? ⟨w.heap.size + 1, k, none⟩ = some x := ⟨(foursC s k)[k]'(by omega), by rw [cell_of_block hC1]; simp [hsz, hlt]⟩
      obtain ⟨x, cx⟩ := ck
      have cf := free_of_block hC1 k
      have HC1 := hid hC1
      have HR1 := hid hR1
      clear hC1 hR1 hb1 F HC HR hsz
      go_wp2_with fail
      refine ⟨⟨k + 1, by omega, by go_num, ?_, ?_, hbw.setCell (by simp) _⟩, by simp [intOf]; omega⟩
      · rw [heap_setCell_same HC1.out k _, Hnext.out]
      · rw [Below.heap_setCell _ ⟨w.heap.size + 1, k, none⟩ _ _ (by simp), HR1.out]
    · obtain rfl : k = 4 := by omega
      rw [foursC_four] at hC
      have d0 := cell_of_block hC 0
      have d1 := cell_of_block hC 1
      have d2 := cell_of_block hC 2
      have d3 := cell_of_block hC 3
      have c0 := cell_of_block hR 0
      have c1 := cell_of_block hR 1
      have c2 := cell_of_block hR 2
      have c3 := cell_of_block hR 3
      have cf := fun o => free_of_block hR o
      simp at c0 c1 c2 c3 d0 d1 d2 d3
      clear hC hR
      go_wp2_with fail
      refine bodyPost_ret (v := foursV s) (by simp [results, Try.results56, go_sem, foursV, c0, c1, c2, c3, cf]) rfl ⟨rfl, ?_⟩
      iterate 4 refine Below.setCell ?_ (by simp) _
      exact hb
end Go.Proofs.Ytioafhkblmebmaa
