/- The law ShipKnown, walked. -/
import Derived.Test.YtdgpdfigipplpaaShipI
namespace Go.Proofs.Ytdgpdfigipplpaa
open Go.RowKit
set_option linter.unusedVariables false
set_option linter.unusedSimpArgs false

/-- A page of one byte, kept shut. -/
def pg (c : UInt8) : List UInt8 := List.replicate 512 c
theorem pg_eq (c : UInt8) : pg c = List.replicate 512 c := rfl
theorem pg_len (c : UInt8) : (pg c).length = 512 := List.length_replicate ..
theorem pg_take (c : UInt8) (n : Nat) (h : n ≤ 512) : (pg c).take n = List.replicate n c := by rw [pg_eq, List.take_replicate, Nat.min_eq_left h]
attribute [irreducible] pg

theorem known_ack : mayB ⟨2, 0, 3, false, 0, []⟩ = true := by decide
theorem known_ack_wf : Wf ⟨2, 0, 3, false, 0, []⟩ := by unfold Wf; simp
theorem known_no : mayB ⟨1, 0, 1, false, 0, []⟩ = false ∧ mayB ⟨2, 0, 0, false, 1, []⟩ = false ∧ mayB ⟨3, 0, 0, false, 0, []⟩ = false ∧ mayB ⟨0, 0, 0, false, 0, []⟩ = false := by decide

theorem known_c : (takeM (List.replicate 56 0)).2 = 7 := by decide +kernel
theorem known_d : (takeM (List.replicate 56 1)).2 = 40 := by decide +kernel
theorem page_pg (c : UInt8) (w : World) : Calls Try.prog 13 #[.int .u8 (c.toNat : Int)] w fun e w' => e = .returned (.string (bs (pg c))) ∧ Below w.heap.size w w' := by rw [pg_eq]; exact page_any c w

/-- Take of the first n bytes of a page. -/
theorem take_pg (c : UInt8) (n : Nat) (hn : n ≤ 512) (r : Int) (hr : (takeM (List.replicate n c)).2 = r) (h0 : r ≠ 0) (w : World) : Calls Try.prog 12 #[.string (bs ((pg c).take n))] w fun e w' => ∃ ao cap, e = .returned (.tuple #[.agg #[.int .u8 0, .int .u64 0, .int .u64 0, .bool false, .int .i64 0, .slice ao 0 cap], .int .i64 r]) ∧ Below w.heap.size w w' := by
  rw [pg_take c n hn]
  have h := take_any (List.replicate n c) w (by rw [List.length_replicate]; omega)
  have hz : (takeM (List.replicate n c)).1 = zeroSh := take_zero _ (by rw [hr]; exact h0)
  rw [hz, hr] at h
  refine h.mono ?_
  rintro e w' ⟨v, rfl, hi, hb⟩
  obtain ⟨ao, cap, rfl⟩ := imgs_shape hi
  exact ⟨ao, cap, rfl, hb⟩

theorem known_a : (takeM (List.replicate 55 0)).2 = 7 := by decide +kernel
theorem known_b : (takeM (List.replicate 57 0)).2 = 7 := by decide +kernel

def KnownRel (W0 : World) (v37 : Value) (wr : World) : Prop := ∃ k : Nat, k ≤ 4 ∧ v37 = .int .i64 k ∧ Below W0.heap.size W0 wr

set_option maxHeartbeats 4000000 in
theorem known_any (w : World) :
    Calls Try.prog 3 #[] w fun e w' => e = .returned (.bool true) ∧ Below w.heap.size w w' := by
  have hack := fun W => put_yes ⟨2, 0, 3, false, 0, []⟩ (.slice none 0 0) W (.inl ⟨⟨_, _, rfl⟩, rfl⟩) known_ack known_ack_wf
  have hlen : (putL ⟨2, 0, 3, false, 0, []⟩).length = 56 := putL_length _ known_ack
  have hn0 := fun W => put_no ⟨1, 0, 1, false, 0, []⟩ (.slice none 0 0) W (.inl ⟨⟨_, _, rfl⟩, rfl⟩) (by decide) (by simp) known_no.1
  have hn1 := fun W => put_no ⟨2, 0, 0, false, 1, []⟩ (.slice none 0 0) W (.inl ⟨⟨_, _, rfl⟩, rfl⟩) (by decide) (by simp) known_no.2.1
  have hn2 := fun W => put_no ⟨3, 0, 0, false, 0, []⟩ (.slice none 0 0) W (.inl ⟨⟨_, _, rfl⟩, rfl⟩) (by decide) (by simp) known_no.2.2.1
  have hn3 := fun W => put_no ⟨0, 0, 0, false, 0, []⟩ (.slice none 0 0) W (.inl ⟨⟨_, _, rfl⟩, rfl⟩) (by decide) (by simp) known_no.2.2.2
  obtain ⟨s, hs⟩ : ∃ s, s = putL ⟨2, 0, 3, false, 0, []⟩ := ⟨_, rfl⟩
  rw [← hs] at hlen hack
  have hlen' : ((s.length : Int) != 56) = false := by simp; omega
  unfold shipV at hack hn0 hn1 hn2 hn3
  have Hack := hid hack
  have Hn0 := hid hn0
  have Hn1 := hid hn1
  have Hn2 := hid hn2
  have Hn3 := hid hn3
  clear hack hn0 hn1 hn2 hn3 hs hlen
  have p0 := fun W => page_pg 0 W
  have p1 := fun W => page_pg 1 W
  have P0 := hid p0
  have P1 := hid p1
  clear p0 p1
  have l0 := pg_len 0
  have l1 := pg_len 1
  go_enter Try.func3, Try.ntmps3
  go_wp2_with fail
  refine (Hack.out _).mono ?_
  rintro e w1 ⟨rfl, hb1⟩
  go_wp2_with fail
  refine (works_any _).mono ?_
  rintro e w2 ⟨rfl, hb2⟩
  go_wp2_with fail
  go_loopw [37] (fun v37 wr => KnownRel (w2.alloc (.cells #[.int .u8 1, .int .u64 0, .int .u64 1, .bool false, .int .i64 0, .slice none 0 0, .int .u8 2, .int .u64 0, .int .u64 0, .bool false, .int .i64 1, .slice none 0 0, .int .u8 3, .int .u64 0, .int .u64 0, .bool false, .int .i64 0, .slice none 0 0, .int .u8 0, .int .u64 0, .int .u64 0, .bool false, .int .i64 0, .slice none 0 0] 28)) v37 wr) (fun v37 _ => 4 - (intOf v37).toNat)
  case atStart => exact ⟨0, by omega, rfl, Below.refl _ _⟩
  case round =>
    obtain ⟨k, hk, rfl, hbr⟩ := hrel
    have hrow : wr.heap[w2.heap.size]? = some (.cells #[.int .u8 1, .int .u64 0, .int .u64 1, .bool false, .int .i64 0, .slice none 0 0, .int .u8 2, .int .u64 0, .int .u64 0, .bool false, .int .i64 1, .slice none 0 0, .int .u8 3, .int .u64 0, .int .u64 0, .bool false, .int .i64 0, .slice none 0 0, .int .u8 0, .int .u64 0, .int .u64 0, .bool false, .int .i64 0, .slice none 0 0] 28 (0, 0)) := (hbr.block _ (by simp)).trans (heap_alloc_new _ _)
    have hsz : w2.heap.size < wr.heap.size := lt_of_block hrow
    obtain rfl | rfl | rfl | rfl | rfl : k = 0 ∨ k = 1 ∨ k = 2 ∨ k = 3 ∨ k = 4 := by omega
    · have q0 := cell_of_block hrow 0
      have q1 := cell_of_block hrow 1
      have q2 := cell_of_block hrow 2
      have q3 := cell_of_block hrow 3
      have q4 := cell_of_block hrow 4
      have q5 := cell_of_block hrow 5
      simp at q0 q1 q2 q3 q4 q5
      clear hrow
      go_wp2_with fail
      refine (Hn0.out _).mono ?_
      rintro e w3 ⟨rfl, hb3⟩
      go_wp2_with fail
      go_roundw
      case rel => exact ⟨1, by omega, by go_num, hbr.trans (((Below.refl _ _).alloc (Nat.le_refl _) _).trans (hb3.mono (by simp)) |>.mono hbr.size)⟩
      case measure => simp [intOf]
    · have q0 := cell_of_block hrow 6
      have q1 := cell_of_block hrow 7
      have q2 := cell_of_block hrow 8
      have q3 := cell_of_block hrow 9
      have q4 := cell_of_block hrow 10
      have q5 := cell_of_block hrow 11
      simp at q0 q1 q2 q3 q4 q5
      clear hrow
      go_wp2_with fail
      refine (Hn1.out _).mono ?_
      rintro e w3 ⟨rfl, hb3⟩
      go_wp2_with fail
      go_roundw
      case rel => exact ⟨2, by omega, by go_num, hbr.trans (((Below.refl _ _).alloc (Nat.le_refl _) _).trans (hb3.mono (by simp)) |>.mono hbr.size)⟩
      case measure => simp [intOf]
    · have q0 := cell_of_block hrow 12
      have q1 := cell_of_block hrow 13
      have q2 := cell_of_block hrow 14
      have q3 := cell_of_block hrow 15
      have q4 := cell_of_block hrow 16
      have q5 := cell_of_block hrow 17
      simp at q0 q1 q2 q3 q4 q5
      clear hrow
      go_wp2_with fail
      refine (Hn2.out _).mono ?_
      rintro e w3 ⟨rfl, hb3⟩
      go_wp2_with fail
      go_roundw
      case rel => exact ⟨3, by omega, by go_num, hbr.trans (((Below.refl _ _).alloc (Nat.le_refl _) _).trans (hb3.mono (by simp)) |>.mono hbr.size)⟩
      case measure => simp [intOf]
    · have q0 := cell_of_block hrow 18
      have q1 := cell_of_block hrow 19
      have q2 := cell_of_block hrow 20
      have q3 := cell_of_block hrow 21
      have q4 := cell_of_block hrow 22
      have q5 := cell_of_block hrow 23
      simp at q0 q1 q2 q3 q4 q5
      clear hrow
      go_wp2_with fail
      refine (Hn3.out _).mono ?_
      rintro e w3 ⟨rfl, hb3⟩
      go_wp2_with fail
      go_roundw
      case rel => exact ⟨4, by omega, by go_num, hbr.trans (((Below.refl _ _).alloc (Nat.le_refl _) _).trans (hb3.mono (by simp)) |>.mono hbr.size)⟩
      case measure => simp [intOf]
    · clear hrow
      have hB2 := hb1.trans (hb2.mono hb1.size)
      have hB3 : Below w.heap.size w wr := (hB2.alloc hB2.size _).trans (hbr.mono (by simp; have := hB2.size; omega))
      clear hb1 hb2 hbr hB2 hsz Hack Hn0 Hn1 Hn2 Hn3
      go_wp2_with fail
      refine (P0.out _).mono ?_
      rintro e w4 ⟨rfl, hb4⟩
      have hB4 := hB3.trans (hb4.mono hB3.size)
      clear hb4
      go_wp2_with fail
      refine (take_pg 0 55 (by decide) _ known_a (by decide) _).mono ?_
      rintro e w5 ⟨ao5, cap5, rfl, hb5⟩
      have hB5 := hB4.trans (hb5.mono hB4.size)
      clear hb5
      go_wp2_with fail
      refine (P0.out _).mono ?_
      rintro e w6 ⟨rfl, hb6⟩
      have hB6 := (hB5.alloc hB5.size _).trans (hb6.mono (by simp; have := hB5.size; omega))
      clear hb6
      go_wp2_with fail
      refine (take_pg 0 57 (by decide) _ known_b (by decide) _).mono ?_
      rintro e w7 ⟨ao7, cap7, rfl, hb7⟩
      have hB7 := hB6.trans (hb7.mono hB6.size)
      clear hb7
      go_wp2_with fail
      refine (P0.out _).mono ?_
      rintro e w8 ⟨rfl, hb8⟩
      have hB8 := (hB7.alloc hB7.size _).trans (hb8.mono (by simp; have := hB7.size; omega))
      clear hb8
      go_wp2_with fail
      refine (take_pg 0 56 (by decide) _ known_c (by decide) _).mono ?_
      rintro e w9 ⟨ao9, cap9, rfl, hb9⟩
      have hB9 := hB8.trans (hb9.mono hB8.size)
      clear hb9
      go_wp2_with fail
      refine (P1.out _).mono ?_
      rintro e w10 ⟨rfl, hb10⟩
      have hB10 := (hB9.alloc hB9.size _).trans (hb10.mono (by simp; have := hB9.size; omega))
      clear hb10
      go_wp2_with fail
      refine (take_pg 1 56 (by decide) _ known_d (by decide) _).mono ?_
      rintro e w11 ⟨ao11, cap11, rfl, hb11⟩
      have hB11 := hB10.trans (hb11.mono hB10.size)
      clear hb11
      go_wp2_with fail
      go_ret
      exact ⟨rfl, hB11.alloc hB11.size _⟩
end Go.Proofs.Ytdgpdfigipplpaa
