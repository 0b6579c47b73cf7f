/- The law ShipPuts, walked. -/
import Derived.Test.YtdgpdfigipplpaaRefG
import Derived.Test.YtdgpdfigipplpaaShipI
namespace Go.Proofs.Ytdgpdfigipplpaa
open Go.RowKit
set_option linter.unusedVariables false
set_option linter.unusedSimpArgs false

def putR (m : Sh) : List UInt8 × Int := if mayB m then (putL m, 0) else ([], 2)
theorem put_any (m : Sh) (v : Value) (w : World) (hm : In w m v) :
    Calls Try.prog 10 #[shipV m v] w fun e w' => e = .returned (.tuple #[.string (bs (putR m).1), .int .i64 (putR m).2]) ∧ Below w.heap.size w w' := by
  unfold putR
  cases h : mayB m
  · exact put_no m v w hm.at' hm.n hm.big h
  · exact put_yes m v w hm.at' h hm.wf
theorem refPut_any (m : Sh) (v : Value) (w : World) (hm : In w m v) :
    Calls Try.prog 15 #[shipV m v] w fun e w' => e = .returned (.tuple #[.string (bs (putR m).1), .int .i64 (putR m).2]) ∧ Below w.heap.size w w' := by
  unfold putR
  cases h : mayB m
  · exact refPut_no m v w hm.at' hm.n hm.big hm.wf.2.2.1 h
  · exact refPut_yes m v w hm.at' h hm.wf

set_option maxHeartbeats 2000000 in
theorem puts_any (m n : Sh) (vm vn : Value) (w : World) (hm : In w m vm) (hn : In w n vn) :
    Calls Try.prog 4 #[shipV m vm, shipV n vn] w fun e w' => e = .returned (.bool true) ∧ Below w.heap.size w w' := by
  obtain ⟨ao, cap, rfl⟩ := imgs_shape hm.at'
  obtain ⟨ao2, cap2, rfl⟩ := imgs_shape hn.at'
  have hgr := fun W (hW : Below w.heap.size w W) => great_any m _ W (hm.kept hW).at' hm.n hm.big
  have hgr2 := fun W (hW : Below w.heap.size w W) => great_any n _ W (hn.kept hW).at' hn.n hn.big
  have hput := fun W (hW : Below w.heap.size w W) => put_any m _ W (hm.kept hW)
  have href := fun W (hW : Below w.heap.size w W) => refPut_any m _ W (hm.kept hW)
  have hsam := fun W (hW : Below w.heap.size w W) => same_any m n _ _ W (hm.kept hW).at' (hn.kept hW).at' hm.n hn.n
  have hsam2 := fun W (hW : Below w.heap.size w W) => refSame_any m n _ _ W (hm.kept hW).at' (hn.kept hW).at' hm.n hn.n
  obtain ⟨⟨S, E⟩, hSE⟩ : ∃ q, q = putR m := ⟨_, rfl⟩
  obtain ⟨B, hB⟩ : ∃ q, q = sameB m n := ⟨_, rfl⟩
  obtain ⟨g1, hg1⟩ : ∃ q, q = greatB m := ⟨_, rfl⟩
  obtain ⟨g2, hg2⟩ : ∃ q, q = greatB n := ⟨_, rfl⟩
  simp only [← hSE] at hput href
  simp only [← hB] at hsam hsam2
  simp only [← hg1] at hgr
  simp only [← hg2] at hgr2
  unfold shipV at *
  have Hgr := hid hgr
  have Hgr2 := hid hgr2
  have Hput := hid hput
  have Href := hid href
  have Hsam := hid hsam
  have Hsam2 := hid hsam2
  clear hm hn hgr hgr2 hput href hsam hsam2 hSE hB hg1 hg2
  go_enter Try.func4, Try.ntmps4
  go_wp2_with fail
  refine (works_any _).mono ?_
  rintro e w1 ⟨rfl, hb1⟩
  have hbox := (hb1.block w.heap.size (by simp; omega)).trans (heap_two_old _ _ _)
  have hbox2 := (hb1.block (w.heap.size + 1) (by simp)).trans (heap_two_new _ _ _)
  have hbw : Below w.heap.size w w1 := (((Below.refl _ _).alloc (Nat.le_refl _) _).alloc (by simp) _).trans (hb1.mono (by simp; omega))
  obtain ⟨c0, c1, c2, c3, c4, c5, cf⟩ := cells6 hbox
  obtain ⟨d0, d1, d2, d3, d4, d5, df⟩ := cells6 hbox2
  have Hbox := hid hbox
  have Hbox2 := hid hbox2
  clear hb1 hbox hbox2
  have fin : ∀ W, Below w1.heap.size w1 W → Below w.heap.size w W := fun W h => hbw.trans (h.mono hbw.size)
  cases g1
  · go_wp2_with fail
    refine (Hgr.out _ hbw).mono ?_
    rintro e w2 ⟨rfl, hb2⟩
    have hbw2 := hbw.trans (hb2.mono hbw.size)
    have hbox := (hb2.block w.heap.size (lt_of_block Hbox.out)).trans Hbox.out
    have hbox2 := (hb2.block (w.heap.size + 1) (lt_of_block Hbox2.out)).trans Hbox2.out
    clear c0 c1 c2 c3 c4 c5 cf Hbox Hbox2 d0 d1 d2 d3 d4 d5 df hb2 fin
    obtain ⟨c0, c1, c2, c3, c4, c5, cf⟩ := cells6 hbox
    obtain ⟨d0, d1, d2, d3, d4, d5, df⟩ := cells6 hbox2
    have Hbox := hid hbox
    have Hbox2 := hid hbox2
    clear hbox hbox2
    cases g2
    · go_wp2_with fail
      refine (Hgr2.out _ hbw2).mono ?_
      rintro e w3 ⟨rfl, hb3⟩
      have hbw3 := hbw2.trans (hb3.mono hbw2.size)
      have hbox := (hb3.block w.heap.size (lt_of_block Hbox.out)).trans Hbox.out
      have hbox2 := (hb3.block (w.heap.size + 1) (lt_of_block Hbox2.out)).trans Hbox2.out
      clear c0 c1 c2 c3 c4 c5 cf Hbox Hbox2 d0 d1 d2 d3 d4 d5 df hb3
      obtain ⟨c0, c1, c2, c3, c4, c5, cf⟩ := cells6 hbox
      have Hbox := hid hbox
      have Hbox2 := hid hbox2
      clear hbox hbox2
      go_wp2_with fail
      refine (Hput.out _ hbw3).mono ?_
      rintro e w4 ⟨rfl, hb4⟩
      have hbw4 := hbw3.trans (hb4.mono hbw3.size)
      have hbox := (hb4.block w.heap.size (lt_of_block Hbox.out)).trans Hbox.out
      have hbox2 := (hb4.block (w.heap.size + 1) (lt_of_block Hbox2.out)).trans Hbox2.out
      clear c0 c1 c2 c3 c4 c5 cf Hbox Hbox2 hb4
      obtain ⟨c0, c1, c2, c3, c4, c5, cf⟩ := cells6 hbox
      have Hbox := hid hbox
      have Hbox2 := hid hbox2
      clear hbox hbox2
      go_wp2_with fail
      refine (Href.out _ hbw4).mono ?_
      rintro e w5 ⟨rfl, hb5⟩
      have hbw5 := hbw4.trans (hb5.mono hbw4.size)
      have hbox := (hb5.block w.heap.size (lt_of_block Hbox.out)).trans Hbox.out
      have hbox2 := (hb5.block (w.heap.size + 1) (lt_of_block Hbox2.out)).trans Hbox2.out
      clear c0 c1 c2 c3 c4 c5 cf Hbox Hbox2 hb5
      obtain ⟨c0, c1, c2, c3, c4, c5, cf⟩ := cells6 hbox
      obtain ⟨d0, d1, d2, d3, d4, d5, df⟩ := cells6 hbox2
      clear hbox hbox2
      have p0 := fun d os => cell_regrown (w := w5) c0 d os
      have p1 := fun d os => cell_regrown (w := w5) c1 d os
      have p2 := fun d os => cell_regrown (w := w5) c2 d os
      have p3 := fun d os => cell_regrown (w := w5) c3 d os
      have p4 := fun d os => cell_regrown (w := w5) c4 d os
      have p5 := fun d os => cell_regrown (w := w5) c5 d os
      have q0 := fun d os => cell_regrown (w := w5) d0 d os
      have q1 := fun d os => cell_regrown (w := w5) d1 d os
      have q2 := fun d os => cell_regrown (w := w5) d2 d os
      have q3 := fun d os => cell_regrown (w := w5) d3 d os
      have q4 := fun d os => cell_regrown (w := w5) d4 d os
      have q5 := fun d os => cell_regrown (w := w5) d5 d os
      have k1 := fun d os => Hsam.out (Sort.grow (redrawn w5 d) os) (hbw5.trans ((below_regrown w5 d os).mono hbw5.size))
      have k2 := fun d os => Hsam2.out (Sort.grow (redrawn w5 d) os) (hbw5.trans ((below_regrown w5 d os).mono hbw5.size))
      have K1 := hid k1
      have K2 := hid k2
      clear c0 c1 c2 c3 c4 c5 cf d0 d1 d2 d3 d4 d5 df k1 k2
      go_wp2_with fail
      refine region_below (by kernel_rfl) (by kernel_rfl) ?_
      repeat (go_big_quiet_step ((first | (go_at_call 16; exact Calls.regrown_of (K1.out _ _)) | (go_at_call 17; exact Calls.regrown_of (K2.out _ _)))))
      refine wpQuiet_nil ?_
      intro w6 hb6
      clear p0 p1 p2 p3 p4 p5 q0 q1 q2 q3 q4 q5
      go_wp2_with fail
      go_ret
      exact ⟨rfl, hbw5.trans (hb6.mono hbw5.size)⟩
    · go_wp2_with fail
      refine (Hgr2.out _ hbw2).mono ?_
      rintro e w3 ⟨rfl, hb3⟩
      go_wp2_with fail
      go_ret
      exact ⟨rfl, hbw2.trans (hb3.mono hbw2.size)⟩
  · go_wp2_with fail
    refine (Hgr.out _ hbw).mono ?_
    rintro e w2 ⟨rfl, hb2⟩
    go_wp2_with fail
    go_ret
    exact ⟨rfl, fin _ hb2⟩
end Go.Proofs.Ytdgpdfigipplpaa
