/- The law ShipSizes, walked. -/
import Derived.Test.YtdgpdfigipplpaaShipH
namespace Go.Proofs.Ytdgpdfigipplpaa
open Go.RowKit
set_option linter.unusedVariables false
set_option linter.unusedSimpArgs false

/-- What is asked of a ship that comes in. -/
structure In (w : World) (m : Sh) (v : Value) : Prop where
  at' : ImgsAt w v m.imgs
  n : m.imgs.length ≤ 9223372036854775807
  big : ∀ x ∈ m.imgs, x.2.length ≤ 9223372036854775807
  wf : Wf m

theorem In.kept {w w1 : World} {m : Sh} {v : Value} (h : In w m v) (hb : Below w.heap.size w w1) : In w1 m v := ⟨imgs_kept h.at' hb, h.n, h.big, h.wf⟩

set_option maxHeartbeats 1000000 in
theorem sizes_any (m : Sh) (v : Value) (w : World) (hm : In w m v) :
    Calls Try.prog 9 #[shipV m v] w fun e w' => e = .returned (.bool true) ∧ Below w.heap.size w w' := by
  obtain ⟨ao, cap, rfl⟩ := imgs_shape hm.at'
  have Hm := hid hm
  have hgr := fun W (hW : In W m (.slice ao m.imgs.length cap)) => great_any m _ W hW.at' hW.n hW.big
  have hput : ∀ W, In W m (.slice ao m.imgs.length cap) → mayB m = true → Calls Try.prog 10 #[shipV m (.slice ao m.imgs.length cap)] W fun e w' => e = .returned (.tuple #[.string (bs (putL m)), .int .i64 0]) ∧ Below W.heap.size W w' :=
    fun W hW h => put_yes m _ W hW.at' h hW.wf
  have hno : ∀ W, In W m (.slice ao m.imgs.length cap) → mayB m = false → Calls Try.prog 10 #[shipV m (.slice ao m.imgs.length cap)] W fun e w' => e = .returned (.tuple #[.string (bs []), .int .i64 2]) ∧ Below W.heap.size W w' :=
    fun W hW h => put_no m _ W hW.at' hW.n hW.big h
  unfold shipV at hgr hput hno ⊢
  have Hgr := hid hgr
  have Hput := hid hput
  have Hno := hid hno
  clear hm hgr hput hno
  go_enter Try.func9, Try.ntmps9
  go_wp2_with fail
  refine (works_any _).mono ?_
  rintro e w1 ⟨rfl, hb1⟩
  have hbox := (hb1.block w.heap.size (by simp)).trans (heap_alloc_new _ _)
  have hbw : Below w.heap.size w w1 := ((Below.refl _ _).alloc (Nat.le_refl _) _).trans (hb1.mono (by simp))
  have Hi := hid (Hm.out.kept hbw)
  obtain ⟨c0, c1, c2, c3, c4, c5, cf⟩ := cells6 hbox
  have Hbox := hid hbox
  clear hb1 hbox
  go_wp2_with fail
  refine (Hgr.out _ Hi.out).mono ?_
  rintro e w2 ⟨rfl, hb2⟩
  have hbox2 := (hb2.block w.heap.size (lt_of_block Hbox.out)).trans Hbox.out
  have hbw2 := hbw.trans (hb2.mono hbw.size)
  have Hi2 := hid (Hi.out.kept hb2)
  clear c0 c1 c2 c3 c4 c5 cf Hbox Hi hb2 hbw
  obtain ⟨c0, c1, c2, c3, c4, c5, cf⟩ := cells6 hbox2
  have Hbox := hid hbox2
  clear hbox2
  cases hg : greatB m
  · cases hmay : mayB m
    · clear hg
      have HM := hid hmay
      clear hmay
      go_wp2_with fail
      refine (Hno.out _ Hi2.out HM.out).mono ?_
      rintro e w3 ⟨rfl, hb3⟩
      have hbw3 := hbw2.trans (hb3.mono hbw2.size)
      go_wp2_with fail
      go_ret
      exact ⟨rfl, hbw3⟩
    · have hlen := putL_length m hmay
      obtain ⟨_, hn256, _⟩ := may_facts m hmay
      obtain ⟨s, hs⟩ : ∃ s, s = putL m := ⟨_, rfl⟩
      rw [← hs] at hlen Hput
      have e1 : ((s.length : Int) == 56 + 520 * (m.imgs.length : Int)) = true := by simp; omega
      have e2 : decide ((s.length : Int) ≤ 262144) = true := by simp; omega
      have e3 : decide ((m.imgs.length : Int) ≤ 256) = true := by simp; omega
      clear hg hs hlen
      have HM := hid hmay
      clear hmay
      go_wp2_with fail
      refine (Hput.out _ Hi2.out HM.out).mono ?_
      rintro e w3 ⟨rfl, hb3⟩
      have hbw3 := hbw2.trans (hb3.mono hbw2.size)
      have hbox3 := (hb3.block w.heap.size (lt_of_block Hbox.out)).trans Hbox.out
      clear c0 c1 c2 c3 c4 c5 cf hb3
      obtain ⟨c0, c1, c2, c3, c4, c5, cf⟩ := cells6 hbox3
      clear hbox3
      go_wp2_with fail
      go_ret
      exact ⟨rfl, hbw3⟩
  · clear hg
    go_wp2_with fail
    go_ret
    exact ⟨rfl, hbw2⟩
end Go.Proofs.Ytdgpdfigipplpaa
