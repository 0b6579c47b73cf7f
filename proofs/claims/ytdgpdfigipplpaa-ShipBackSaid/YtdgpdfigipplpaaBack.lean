/- The law ShipBack, walked. -/
import Derived.Test.YtdgpdfigipplpaaShipI
import Derived.Test.YtdgpdfigipplpaaRefB
namespace Go.Proofs.Ytdgpdfigipplpaa
open Go.RowKit
set_option linter.unusedVariables false
set_option linter.unusedSimpArgs false

theorem zero_imgs (w : World) : ImgsAt w (.slice none 0 0) zeroSh.imgs := .inl ⟨⟨_, _, rfl⟩, rfl⟩

/-- The law's second half: what is taken of any bytes is put as these bytes. 'kind' and the rest: 'q' is what Take answers. -/
structure Took (s : List UInt8) (q : Sh × Int) : Prop where
  bad : q.2 ≠ 0 → q.1 = zeroSh
  good : q.2 = 0 → mayB q.1 = true ∧ putL q.1 = s
  wf : Wf q.1
  n : q.1.imgs.length ≤ 9223372036854775807

theorem zeroSh_wf : Wf zeroSh := by unfold Wf zeroSh; simp
theorem took (s : List UInt8) : Took s (takeM s) := by
  by_cases h : (takeM s).2 = 0
  · obtain ⟨h1, h2, h3⟩ := take_ok s h
    obtain ⟨_, hn, _⟩ := may_facts _ h1
    exact ⟨fun h' => absurd h h', fun _ => ⟨h1, h2⟩, by rw [h3]; exact parse_wf s, by omega⟩
  · have hz := take_zero s h
    exact ⟨fun _ => hz, fun h' => absurd h' h, by rw [hz]; exact zeroSh_wf, by rw [hz]; decide⟩

set_option maxHeartbeats 4000000 in
theorem back_any (m : Sh) (v : Value) (s : List UInt8) (w : World) (hm : In w m v) (hs : s.length ≤ 9223372036854775807) :
    Calls Try.prog 6 #[shipV m v, .string (bs s)] w fun e w' => e = .returned (.bool true) ∧ Below w.heap.size w w' := by
  obtain ⟨ao, cap, rfl⟩ := imgs_shape hm.at'
  have Hm := hid hm
  have hgr := fun W (hW : In W m (.slice ao m.imgs.length cap)) => great_any m _ W hW.at' hW.n hW.big
  have hput : ∀ W, In W m (.slice ao m.imgs.length cap) → mayB m = true → Calls Try.prog 10 #[shipV m (.slice ao m.imgs.length cap)] W fun e w' => e = .returned (.tuple #[.string (bs (putL m)), .int .i64 0]) ∧ Below W.heap.size W w' :=
    fun W hW h => put_yes m _ W hW.at' h hW.wf
  have hno : ∀ W, In W m (.slice ao m.imgs.length cap) → mayB m = false → Calls Try.prog 10 #[shipV m (.slice ao m.imgs.length cap)] W fun e w' => e = .returned (.tuple #[.string (bs []), .int .i64 2]) ∧ Below W.heap.size W w' :=
    fun W hW h => put_no m _ W hW.at' hW.n hW.big h
  have hwf := hm.wf
  have hmn := hm.n
  have Hwf := hid hwf
  have hss : ∀ v2 W, In W m (.slice ao m.imgs.length cap) → ImgsAt W v2 m.imgs → Calls Try.prog 17 #[shipV m (.slice ao m.imgs.length cap), shipV m v2] W fun e w' => e = .returned (.bool true) ∧ Below W.heap.size W w' :=
    fun v2 W hW h2 => by rw [← sameB_self m]; exact refSame_any m m _ v2 W hW.at' h2 hW.n hW.n
  unfold shipV at hgr hput hno hss ⊢
  have Hgr := hid hgr
  have Hput := hid hput
  have Hno := hid hno
  have Hss := hid hss
  -- what Take answers of s
  have tq := took s
  have htk := fun (h : s.length ≤ 1099511627776) W => take_any s W h
  have htp : mayB m = true → ∀ W, Calls Try.prog 12 #[.string (bs (putL m))] W fun e w' => ∃ v, e = .returned (.tuple #[shipV m v, .int .i64 0]) ∧ ImgsAt w' v m.imgs ∧ Below W.heap.size W w' := by
    intro h W
    have hl := putL_length m h
    obtain ⟨_, hn, _⟩ := may_facts m h
    have := take_any (putL m) W (by omega)
    rwa [take_put m h Hwf.out] at this
  obtain ⟨q, hq⟩ : ∃ q, q = takeM s := ⟨_, rfl⟩
  rw [← hq] at tq htk
  have Htk := hid htk
  have Htp := hid htp
  have Tq := hid tq
  clear hm hgr hput hno hwf hss htk htp tq hq
  go_enter Try.func6, Try.ntmps6
  go_wp2_with fail
  refine (works_any _).mono ?_
  rintro e w1 ⟨rfl, hb1⟩
  have hbox := (hb1.block w.heap.size (by simp)).trans (heap_alloc_new _ _)
  have hbw : Below w.heap.size w w1 := ((Below.refl _ _).alloc (Nat.le_refl _) _).trans (hb1.mono (by simp))
  have Hi := hid (Hm.out.kept hbw)
  obtain ⟨c0, c1, c2, c3, c4, c5, cf⟩ := cells6 hbox
  have Hbox := hid hbox
  clear hb1 hbox
  go_wp2_with fail
  refine (Hgr.out _ Hi.out).mono ?_
  rintro e w2 ⟨rfl, hb2⟩
  have hbox2 := (hb2.block w.heap.size (lt_of_block Hbox.out)).trans Hbox.out
  have hbw2 := hbw.trans (hb2.mono hbw.size)
  have Hi2 := hid (Hi.out.kept hb2)
  clear c0 c1 c2 c3 c4 c5 cf Hbox Hi hb2 hbw
  obtain ⟨c0, c1, c2, c3, c4, c5, cf⟩ := cells6 hbox2
  have Hbox := hid hbox2
  clear hbox2
  cases hg : greatB m
  · clear hg
    by_cases hlen : s.length ≤ 16384
    · have hlen' : decide ((16384 : Int) < (s.length : Int)) = false := by simp; omega
      have htk2 := Htk.out (by omega)
      have Htk2 := hid htk2
      clear Htk htk2
      cases hmay : mayB m
      · have HM := hid hmay
        clear hmay
        go_wp2_with fail
        refine (Hno.out _ Hi2.out HM.out).mono ?_
        rintro e w3 ⟨rfl, hb3⟩
        have hbw3 := hbw2.trans (hb3.mono hbw2.size)
        clear c0 c1 c2 c3 c4 c5 cf Hbox Hi2 hb3 hbw2
        go_wp2_with fail
        refine (Htk2.out _).mono ?_
        rintro e w4 ⟨v4, rfl, hi4, hb4⟩
        have hbw4 := hbw3.trans (hb4.mono hbw3.size)
        obtain ⟨ao4, cap4, rfl⟩ := imgs_shape hi4
        have Hi4 := hid hi4
        unfold shipV
        clear hi4 hb4 hbw3
        obtain ⟨q1, q2⟩ := q
        simp only at *
        by_cases hq0 : q2 = 0
        · subst hq0
          have hp4 : ∀ W, Below w4.heap.size w4 W → Calls Try.prog 10 #[shipV q1 (.slice ao4 q1.imgs.length cap4)] W fun e w' => e = .returned (.tuple #[.string (bs s), .int .i64 0]) ∧ Below W.heap.size W w' := by
            intro W hW
            have hh := put_yes q1 _ W (imgs_kept Hi4.out hW) (Tq.out.good rfl).1 Tq.out.wf
            rwa [(Tq.out.good rfl).2] at hh
          unfold shipV at hp4
          have Hp4 := hid hp4
          clear hp4 Htk2
          go_wp2_with fail
          refine (Hp4.out _ ((Below.refl _ _).alloc (Nat.le_refl _) _)).mono ?_
          rintro e w5 ⟨rfl, hb5⟩
          go_wp2_with fail
          go_ret
          exact ⟨rfl, hbw4.trans (((Below.refl _ _).alloc (Nat.le_refl _) _).trans (hb5.mono (by simp)) |>.mono hbw4.size)⟩
        · have hq0' : (q2 != 0) = true := by simpa using hq0
          have hz4 : ∀ W, Below w4.heap.size w4 W → Calls Try.prog 17 #[shipV q1 (.slice ao4 q1.imgs.length cap4), shipV zeroSh (.slice none 0 0)] W fun e w' => e = .returned (.bool true) ∧ Below W.heap.size W w' := by
            intro W hW
            have hh := refSame_any q1 zeroSh _ (.slice none 0 0) W (imgs_kept Hi4.out hW) (zero_imgs W) Tq.out.n (by decide)
            have hs : sameB q1 zeroSh = true := by
              have hz : q1 = zeroSh := Tq.out.bad hq0
              rw [hz]; exact sameB_self _
            rwa [hs] at hh
          unfold shipV at hz4
          have Hz4 := hid hz4
          clear hz4 Htk2
          go_wp2_with fail
          refine (Hz4.out _ ((Below.refl _ _).alloc (Nat.le_refl _) _)).mono ?_
          rintro e w5 ⟨rfl, hb5⟩
          go_wp2_with fail
          go_ret
          exact ⟨rfl, hbw4.trans (((Below.refl _ _).alloc (Nat.le_refl _) _).trans (hb5.mono (by simp)) |>.mono hbw4.size)⟩
      · have HM := hid hmay
        clear hmay
        go_wp2_with fail
        refine (Hput.out _ Hi2.out HM.out).mono ?_
        rintro e w2a ⟨rfl, hb2a⟩
        have hbw2a := hbw2.trans (hb2a.mono hbw2.size)
        have hbox2a := (hb2a.block w.heap.size (lt_of_block Hbox.out)).trans Hbox.out
        have Hi2a := hid (Hi2.out.kept hb2a)
        clear c0 c1 c2 c3 c4 c5 cf Hbox Hi2 hb2a hbw2
        go_wp2_with fail
        refine (Htp.out HM.out _).mono ?_
        rintro e w2b ⟨v2, rfl, hi2b, hb2b⟩
        have hbw2b := hbw2a.trans (hb2b.mono hbw2a.size)
        have hbox2b := (hb2b.block w.heap.size (lt_of_block hbox2a)).trans hbox2a
        have Hi2b := hid (Hi2a.out.kept hb2b)
        obtain ⟨ao2, cap2, rfl⟩ := imgs_shape hi2b
        have Hn2b := hid hi2b
        unfold shipV
        obtain ⟨c0, c1, c2, c3, c4, c5, cf⟩ := cells6 hbox2b
        have hszb : w.heap.size < w2b.heap.size := lt_of_block hbox2b
        clear hbox2a hbox2b hi2b hb2b hbw2a Hi2a
        have hsame : ∀ W, Below w2b.heap.size w2b W → _ := fun W hW => Hss.out (.slice ao2 m.imgs.length cap2) W (Hi2b.out.kept hW) (imgs_kept Hn2b.out hW)
        unfold shipV at hsame
        have Hsame := hid hsame
        clear hsame
        go_wp2_with fail
        refine (Hsame.out _ ((Below.refl _ _).alloc (Nat.le_refl _) _)).mono ?_
        rintro e w3 ⟨rfl, hb3⟩
        have hbw3 : Below w.heap.size w w3 := hbw2b.trans (((Below.refl _ _).alloc (Nat.le_refl _) _).trans (hb3.mono (by simp)) |>.mono hbw2b.size)
        clear c0 c1 c2 c3 c4 c5 cf hb3
        go_wp2_with fail
        refine (Htk2.out _).mono ?_
        rintro e w4 ⟨v4, rfl, hi4, hb4⟩
        have hbw4 := hbw3.trans (hb4.mono hbw3.size)
        obtain ⟨ao4, cap4, rfl⟩ := imgs_shape hi4
        have Hi4 := hid hi4
        unfold shipV
        clear hi4 hb4 hbw3
        obtain ⟨q1, q2⟩ := q
        simp only at *
        by_cases hq0 : q2 = 0
        · subst hq0
          have hp4 : ∀ W, Below w4.heap.size w4 W → Calls Try.prog 10 #[shipV q1 (.slice ao4 q1.imgs.length cap4)] W fun e w' => e = .returned (.tuple #[.string (bs s), .int .i64 0]) ∧ Below W.heap.size W w' := by
            intro W hW
            have hh := put_yes q1 _ W (imgs_kept Hi4.out hW) (Tq.out.good rfl).1 Tq.out.wf
            rwa [(Tq.out.good rfl).2] at hh
          unfold shipV at hp4
          have Hp4 := hid hp4
          clear hp4 Htk2
          go_wp2_with fail
          refine (Hp4.out _ ((Below.refl _ _).alloc (Nat.le_refl _) _)).mono ?_
          rintro e w5 ⟨rfl, hb5⟩
          go_wp2_with fail
          go_ret
          exact ⟨rfl, hbw4.trans (((Below.refl _ _).alloc (Nat.le_refl _) _).trans (hb5.mono (by simp)) |>.mono hbw4.size)⟩
        · have hq0' : (q2 != 0) = true := by simpa using hq0
          have hz4 : ∀ W, Below w4.heap.size w4 W → Calls Try.prog 17 #[shipV q1 (.slice ao4 q1.imgs.length cap4), shipV zeroSh (.slice none 0 0)] W fun e w' => e = .returned (.bool true) ∧ Below W.heap.size W w' := by
            intro W hW
            have hh := refSame_any q1 zeroSh _ (.slice none 0 0) W (imgs_kept Hi4.out hW) (zero_imgs W) Tq.out.n (by decide)
            have hs : sameB q1 zeroSh = true := by
              have hz : q1 = zeroSh := Tq.out.bad hq0
              rw [hz]; exact sameB_self _
            rwa [hs] at hh
          unfold shipV at hz4
          have Hz4 := hid hz4
          clear hz4 Htk2
          go_wp2_with fail
          refine (Hz4.out _ ((Below.refl _ _).alloc (Nat.le_refl _) _)).mono ?_
          rintro e w5 ⟨rfl, hb5⟩
          go_wp2_with fail
          go_ret
          exact ⟨rfl, hbw4.trans (((Below.refl _ _).alloc (Nat.le_refl _) _).trans (hb5.mono (by simp)) |>.mono hbw4.size)⟩
    · have hlen' : decide ((16384 : Int) < (s.length : Int)) = true := by simp; omega
      go_wp2_with fail
      go_ret
      exact ⟨rfl, hbw2⟩
  · clear hg
    go_wp2_with fail
    go_ret
    exact ⟨rfl, hbw2⟩
end Go.Proofs.Ytdgpdfigipplpaa
