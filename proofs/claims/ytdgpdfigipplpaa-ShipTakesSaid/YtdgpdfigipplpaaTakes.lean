/- The law ShipTakes, walked. -/
import Derived.Test.YtdgpdfigipplpaaRefI
import Derived.Test.YtdgpdfigipplpaaPuts
namespace Go.Proofs.Ytdgpdfigipplpaa
open Go.RowKit
set_option linter.unusedVariables false
set_option linter.unusedSimpArgs false

theorem takeM_n (s : List UInt8) : (takeM s).1.imgs.length ≤ 9223372036854775807 := by
  by_cases h : (takeM s).2 = 0
  · obtain ⟨h1, _, _⟩ := take_ok s h
    obtain ⟨_, hn, _⟩ := may_facts _ h1
    omega
  · rw [take_zero s h]; decide

set_option maxHeartbeats 2000000 in
theorem takes_any (s : List UInt8) (w : World) (hs : s.length ≤ 9223372036854775807) :
    Calls Try.prog 5 #[.string (bs s)] w fun e w' => e = .returned (.bool true) ∧ Below w.heap.size w w' := by
  by_cases hl : s.length ≤ 16384
  · have hl' : decide ((16384 : Int) < (s.length : Int)) = false := by simp; omega
    have ht := fun W => take_any s W (by omega)
    have hr := fun W => refTake_any s W (by omega)
    have hn := takeM_n s
    obtain ⟨⟨q, E⟩, hq⟩ : ∃ q, q = takeM s := ⟨_, rfl⟩
    simp only [← hq] at ht hr hn
    have Ht := hid ht
    have Hr := hid hr
    have Hn := hid hn
    clear ht hr hq hl hn
    go_enter Try.func5, Try.ntmps5
    go_wp2_with fail
    refine (works_any _).mono ?_
    rintro e w1 ⟨rfl, hb1⟩
    go_wp2_with fail
    refine (Ht.out _).mono ?_
    rintro e w2 ⟨v2, rfl, hi2, hb2⟩
    obtain ⟨ao2, cap2, rfl⟩ := imgs_shape hi2
    unfold shipV
    have Hi2 := hid hi2
    have hbw2 := hb1.trans (hb2.mono hb1.size)
    clear hi2 hb2 hb1
    go_wp2_with fail
    refine (Hr.out _).mono ?_
    rintro e w3 ⟨v3, rfl, hi3, hb3⟩
    obtain ⟨ao3, cap3, rfl⟩ := imgs_shape hi3
    unfold shipV
    have hbox := (hb3.block w2.heap.size (by simp)).trans (heap_alloc_new _ _)
    obtain ⟨c0, c1, c2, c3, c4, c5, cf⟩ := cells6 hbox
    have hlt := lt_of_block hbox
    have hb23 : Below w2.heap.size w2 w3 := ((Below.refl _ _).alloc (Nat.le_refl _) _).trans (hb3.mono (by simp))
    have hsam : ∀ W, Below w3.heap.size w3 W → Calls Try.prog 17 #[shipV q (.slice ao2 q.imgs.length cap2), shipV q (.slice ao3 q.imgs.length cap3)] W fun e w' => e = .returned (.bool true) ∧ Below W.heap.size W w' := by
      intro W hW
      have h := refSame_any q q _ _ W (imgs_kept Hi2.out (hb23.trans (hW.mono hb23.size))) (imgs_kept hi3 hW) Hn.out Hn.out
      rwa [sameB_self] at h
    unfold shipV at hsam
    have Hsam := hid hsam
    have hbw3 := hbw2.trans (hb23.mono hbw2.size)
    clear hi3 hb3 hbox hsam hb23
    go_wp2_with fail
    refine (Hsam.out _ ((Below.refl _ _).alloc (Nat.le_refl _) _)).mono ?_
    rintro e w4 ⟨rfl, hb4⟩
    go_wp2_with fail
    go_ret
    exact ⟨rfl, hbw3.trans (((Below.refl _ _).alloc (Nat.le_refl _) _).trans (hb4.mono (by simp)) |>.mono hbw3.size)⟩
  · have hl' : decide ((16384 : Int) < (s.length : Int)) = true := by simp; omega
    go_enter Try.func5, Try.ntmps5
    go_wp2_with fail
    refine (works_any _).mono ?_
    rintro e w1 ⟨rfl, hb1⟩
    go_wp2_with fail
    go_ret
    exact ⟨rfl, hb1⟩
end Go.Proofs.Ytdgpdfigipplpaa
