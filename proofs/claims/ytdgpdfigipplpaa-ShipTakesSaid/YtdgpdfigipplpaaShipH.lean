/- works: that a unit is put and taken. -/
import Derived.Test.YtdgpdfigipplpaaShipG
namespace Go.Proofs.Ytdgpdfigipplpaa
open Go.RowKit
set_option linter.unusedVariables false
set_option linter.unusedSimpArgs false

theorem take_any (s : List UInt8) (w : World) (hs : s.length ≤ 1099511627776) :
    Calls Try.prog 12 #[.string (bs s)] w fun e w' => ∃ v, e = .returned (.tuple #[shipV (takeM s).1 v, .int .i64 (takeM s).2]) ∧ ImgsAt w' v (takeM s).1.imgs ∧ Below w.heap.size w w' := by
  by_cases h1 : s.length < 56
  · have e : takeM s = (zeroSh, 7) := by unfold takeM; rw [if_pos (.inl h1)]
    rw [e]
    exact (take_short s w h1).mono fun _ _ ⟨he, hb⟩ => ⟨.slice none 0 0, he, .inl ⟨⟨_, _, rfl⟩, rfl⟩, hb⟩
  · by_cases h2 : s.length % 8 ≠ 0
    · have e : takeM s = (zeroSh, 7) := by unfold takeM; rw [if_pos (.inr h2)]
      rw [e]
      exact (take_odd s w (by omega) h2 hs).mono fun _ _ ⟨he, hb⟩ => ⟨.slice none 0 0, he, .inl ⟨⟨_, _, rfl⟩, rfl⟩, hb⟩
    · have h2' : s.length % 8 = 0 := by omega
      by_cases h3 : s.take 8 = textOf (sumAdd (0, 0) (s.drop 8))
      · exact take_main s w (by omega) h2' hs h3
      · have e : takeM s = (zeroSh, 40) := by unfold takeM; rw [if_neg (by omega), if_pos h3]
        rw [e]
        exact (take_sum s w (by omega) h2' hs h3).mono fun _ _ ⟨he, hb⟩ => ⟨.slice none 0 0, he, .inl ⟨⟨_, _, rfl⟩, rfl⟩, hb⟩

theorem same_zero : sameB twoSh zeroSh = false := by simp [sameB, twoSh, zeroSh]

set_option maxHeartbeats 4000000 in
theorem works_any (w : World) : Calls Try.prog 11 #[] w fun e w' => e = .returned (.bool true) ∧ Below w.heap.size w w' := by
  have hl : (putL twoSh).length = 1096 := putL_length twoSh two_may
  have htk := fun W => take_any (putL twoSh) W (by omega)
  rw [take_put twoSh two_may two_wf] at htk
  have HT := hid htk
  have hpu := fun v W hv => put_yes twoSh v W hv two_may two_wf
  have hss := fun v1 v2 W h1 h2 => same_any twoSh twoSh v1 v2 W h1 h2 (by decide) (by decide)
  have hsz := fun v1 W h1 => same_any twoSh zeroSh v1 (.slice none 0 0) W h1 (.inl ⟨⟨_, _, rfl⟩, rfl⟩) (by decide) (by decide)
  rw [sameB_self] at hss
  rw [same_zero] at hsz
  obtain ⟨s, hs⟩ : ∃ s, s = putL twoSh := ⟨_, rfl⟩
  rw [← hs] at hl HT hpu
  have hl2 : ((s.length : Int) == 1096) = true := by rw [hl]; rfl
  have Hpu := hid hpu
  have Hss := hid hss
  have Hsz := hid hsz
  clear hl hs htk hpu hss hsz
  go_enter Try.func11, Try.ntmps11
  go_wp2_with fail
  refine (two_any _).mono ?_
  rintro e w1 ⟨v1, rfl, hi1, hb1⟩
  go_wp2_with fail
  refine (Hpu.out v1 _ hi1).mono ?_
  rintro e w2 ⟨rfl, hb2⟩
  have hb := hb1.trans (hb2.mono hb1.size)
  clear hi1 hb1 hb2
  go_wp2_with fail
  refine (HT.out _).mono ?_
  rintro e w3 ⟨v3, rfl, hi3, hb3⟩
  have hB := hb.trans (hb3.mono hb.size)
  clear hb hb3
  obtain ⟨ao, cap, rfl⟩ := imgs_shape hi3
  unfold shipV
  have Hi3 := hid hi3
  clear hi3
  have hsz3 := hB.size
  have tok : True := trivial
  unfold shipV at Hss Hsz
  go_wp2_with fail
  go_region_with ((first
    | (go_at_call 25; refine (two_any _).mono ?_; rintro e w4 ⟨v4, rfl, hi4, hb4⟩; obtain ⟨ao4, cap4, rfl⟩ := imgs_shape hi4; have hM4 := (hb4.block w3.heap.size (by simp)).trans (heap_alloc_new _ _); obtain ⟨m0, m1, m2, m3, m4, m5, mf⟩ := cells6 hM4; have hB34 : Below w3.heap.size w3 w4 := ((Below.refl _ _).alloc (Nat.le_refl _) _).drew.trans (hb4.mono (by simp)); have hi34 := imgs_kept Hi3.out hB34; have HM4 := hid hM4; have HI4 := hid hi4; have HI34 := hid hi34; clear hb4 hM4 hi4 hi34; unfold shipV)
    | (go_at_call 16; have _t := tok; refine (Hss.out _ _ _ HI34.out HI4.out).mono ?_; rintro e w5 ⟨rfl, hb5⟩; have hM5 := (hb5.block w3.heap.size (lt_of_block HM4.out)).trans HM4.out; have hi35 := imgs_kept HI34.out hb5; clear m0 m1 m2 m3 m4 m5 mf; obtain ⟨m0, m1, m2, m3, m4, m5, mf⟩ := cells6 hM5; have hB35 : Below w3.heap.size w3 w5 := hB34.trans (hb5.mono hB34.size); have HI35 := hid hi35; clear hb5 hM5 hi35 tok)
    | (go_at_call 16; refine (Hsz.out _ _ HI35.out).mono ?_; rintro e w6 ⟨rfl, hb6⟩; have hB36 : Below w3.heap.size w3 w6 := hB35.trans (hb6.mono hB35.size); clear hb6)))
  all_goals
    go_wp2_with fail
    go_ret
    exact ⟨by simp [Act.put], hB.trans (hB36.mono hB.size)⟩
end Go.Proofs.Ytdgpdfigipplpaa
