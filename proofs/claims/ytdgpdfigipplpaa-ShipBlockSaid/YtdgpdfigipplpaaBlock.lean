/- The law ShipBlock, walked. -/
import Derived.Test.YtdgpdfigipplpaaShipI
import Derived.Test.YtdgpdfigipplpaaRefB
namespace Go.Proofs.Ytdgpdfigipplpaa
open Go.RowKit
set_option linter.unusedVariables false
set_option linter.unusedSimpArgs false

theorem block_law (m : Sh) (h : mayB m = true) (hw : Wf m) (s : List UInt8) (hs : s = putL m) (k : Nat) (h8 : k % 8 = 0) (hk : k + 8 ≤ s.length) (c : List UInt8) (hc : c.length = 8) (hne : s ≠ s.take k ++ (c ++ s.drop (k + 8))) :
    (takeM (s.take k ++ (c ++ s.drop (k + 8)))).2 ≠ 0 := by
  have e1 : s = s.take k ++ (s.drop k).take 8 ++ s.drop (k + 8) := by
    rw [List.append_assoc, ← List.drop_drop, List.take_append_drop, List.take_append_drop]
  have := take_block m h hw (k / 8) (s.take k) ((s.drop k).take 8) c (s.drop (k + 8)) (by simp; omega) (by simp; omega) hc (hs.symm.trans e1) (by
    rintro rfl
    apply hne
    rw [← List.append_assoc]
    exact e1)
  rwa [List.append_assoc] at this

set_option maxHeartbeats 4000000 in
theorem block_any (m : Sh) (v : Value) (a : Int) (b0 b1 b2 b3 b4 b5 b6 b7 : UInt8) (w : World) (hm : In w m v) (a0 : -9223372036854775808 ≤ a) (a1 : a ≤ 9223372036854775807) :
    Calls Try.prog 8 #[shipV m v, .int .i64 a, .agg #[.int .u8 (b0.toNat : Int), .int .u8 (b1.toNat : Int), .int .u8 (b2.toNat : Int), .int .u8 (b3.toNat : Int), .int .u8 (b4.toNat : Int), .int .u8 (b5.toNat : Int), .int .u8 (b6.toNat : Int), .int .u8 (b7.toNat : Int)]] w fun e w' => e = .returned (.bool true) ∧ Below w.heap.size w w' := by
  obtain ⟨ao, cap, rfl⟩ := imgs_shape hm.at'
  have Hm := hid hm
  have hgr := fun W (hW : In W m (.slice ao m.imgs.length cap)) => great_any m _ W hW.at' hW.n hW.big
  have hput : ∀ W, In W m (.slice ao m.imgs.length cap) → mayB m = true → Calls Try.prog 10 #[shipV m (.slice ao m.imgs.length cap)] W fun e w' => e = .returned (.tuple #[.string (bs (putL m)), .int .i64 0]) ∧ Below W.heap.size W w' :=
    fun W hW h => put_yes m _ W hW.at' h hW.wf
  have hno : ∀ W, In W m (.slice ao m.imgs.length cap) → mayB m = false → Calls Try.prog 10 #[shipV m (.slice ao m.imgs.length cap)] W fun e w' => e = .returned (.tuple #[.string (bs []), .int .i64 2]) ∧ Below W.heap.size W w' :=
    fun W hW h => put_no m _ W hW.at' hW.n hW.big h
  have hwf := hm.wf
  have Hwf := hid hwf
  unfold shipV at hgr hput hno ⊢
  have Hgr := hid hgr
  have Hput := hid hput
  have Hno := hid hno
  clear hm hgr hput hno hwf
  go_enter Try.func8, Try.ntmps8
  go_wp2_with fail
  refine (works_any _).mono ?_
  rintro e w1 ⟨rfl, hb1⟩
  have hbox := (hb1.block w.heap.size (by simp; omega)).trans (heap_two_old _ _ _)
  have hblk := (hb1.block (w.heap.size + 1) (by simp)).trans (heap_two_new _ _ _)
  have hbw : Below w.heap.size w w1 := (((Below.refl _ _).alloc (Nat.le_refl _) _).alloc (by simp) _).trans (hb1.mono (by simp; omega))
  have Hi := hid (Hm.out.kept hbw)
  obtain ⟨c0, c1, c2, c3, c4, c5, cf⟩ := cells6 hbox
  have Hbox := hid hbox
  have Hblk := hid hblk
  clear hb1 hbox hblk
  cases hmay : mayB m
  · have HM := hid hmay
    clear hmay
    go_wp2_with fail
    refine (Hno.out _ Hi.out HM.out).mono ?_
    rintro e w2 ⟨rfl, hb2⟩
    have hbox2 := (hb2.block w.heap.size (lt_of_block Hbox.out)).trans Hbox.out
    have hbw2 := hbw.trans (hb2.mono hbw.size)
    have Hi2 := hid (Hi.out.kept hb2)
    clear c0 c1 c2 c3 c4 c5 cf Hbox Hi hb2 hbw
    obtain ⟨c0, c1, c2, c3, c4, c5, cf⟩ := cells6 hbox2
    have Hbox := hid hbox2
    clear hbox2
    go_wp2_with fail
    refine (Hgr.out _ Hi2.out).mono ?_
    rintro e w3 ⟨rfl, hb3⟩
    have hbw3 := hbw2.trans (hb3.mono hbw2.size)
    cases hg : greatB m
    · clear hg
      go_wp2_with fail
      go_ret
      exact ⟨rfl, hbw3⟩
    · clear hg
      go_wp2_with fail
      go_ret
      exact ⟨rfl, hbw3⟩
  · have hlen := putL_length m hmay
    obtain ⟨_, hn256, _⟩ := may_facts m hmay
    have hlaw := block_law m hmay Hwf.out (putL m) rfl
    have htp := take_put m hmay Hwf.out
    obtain ⟨s, hs⟩ : ∃ s, s = putL m := ⟨_, rfl⟩
    rw [← hs] at hlen Hput
    have hsl : s.length ≤ 262144 := by omega
    rw [← hs] at hlaw htp
    have Hlaw := hid hlaw
    have Htp := hid htp
    have h8 : s.length % 8 = 0 := by omega
    have h56 : 56 ≤ s.length := by omega
    have HM := hid hmay
    clear hlaw htp hmay hlen hn256
    go_wp2_with fail
    refine (Hput.out _ Hi.out HM.out).mono ?_
    rintro e w2 ⟨rfl, hb2⟩
    have hbox2 := (hb2.block w.heap.size (lt_of_block Hbox.out)).trans Hbox.out
    have hbw2 := hbw.trans (hb2.mono hbw.size)
    have hblk2 := (hb2.block (w.heap.size + 1) (lt_of_block Hblk.out)).trans Hblk.out
    have Hi2 := hid (Hi.out.kept hb2)
    clear c0 c1 c2 c3 c4 c5 cf Hbox Hi hb2 hbw
    obtain ⟨c0, c1, c2, c3, c4, c5, cf⟩ := cells6 hbox2
    have Hbox := hid hbox2
    clear hbox2 hs
    go_wp2_with fail
    refine (Hgr.out _ Hi2.out).mono ?_
    rintro e w3 ⟨rfl, hb3⟩
    have hbw3 := hbw2.trans (hb3.mono hbw2.size)
    have hblk3 := (hb3.block (w.heap.size + 1) (lt_of_block hblk2)).trans hblk2
    clear c0 c1 c2 c3 c4 c5 cf Hbox Hi2 hb3 hbw2 hblk2
    cases hg : greatB m
    · clear hg
      by_cases hneg : a < 0
      · go_wp2_with fail
        go_ret
        exact ⟨rfl, hbw3⟩
      · obtain ⟨n, rfl⟩ : ∃ n : Nat, a = n := ⟨a.toNat, by omega⟩
        have hneg' : decide ((n : Int) < 0) = false := by simp
        clear hneg a0 a1
        obtain ⟨k, hk⟩ : ∃ k : Nat, k = n % (s.length / 8) * 8 := ⟨_, rfl⟩
        have hkI : (n : Int) % ((s.length : Int) / 8) * 8 = (k : Int) := by rw [hk]; simp
        have hd8 : ((s.length : Int) / 8 == 0) = false := by rw [beq_eq_false_iff_ne]; omega
        have hk8 : k % 8 = 0 := by omega
        have hkl : k + 8 ≤ s.length := by
          have : n % (s.length / 8) < s.length / 8 := Nat.mod_lt _ (by omega)
          omega
        obtain ⟨c, hc⟩ : ∃ c : List UInt8, c = [b0, b1, b2, b3, b4, b5, b6, b7] := ⟨_, rfl⟩
        have hcl : c.length = 8 := by rw [hc]; rfl
        have hlaw := Hlaw.out k hk8 hkl c hcl
        obtain ⟨t, ht⟩ : ∃ t, t = s.take k ++ (c ++ s.drop (k + 8)) := ⟨_, rfl⟩
        have htl : t.length ≤ 1099511627776 := by rw [ht]; simp; omega
        rw [← ht] at hlaw
        have htk := fun W => take_any t W htl
        have hfin : ((takeM t).2 == 0) = (s == t) := by
          by_cases he : s = t
          · rw [← he, Htp.out]; simp
          · rw [beq_eq_false_iff_ne.2 (hlaw he), beq_eq_false_iff_ne.2 he]
        obtain ⟨q, hq⟩ : ∃ q, q = takeM t := ⟨_, rfl⟩
        rw [← hq] at hfin htk
        have kd := fun (W : World) (hW : W.heap[w.heap.size + 1]? = w3.heap[w.heap.size + 1]?) => run_convert_cells (P := Try.prog) W 38 9 5 Try.underlying38 Try.underlying5 Try.underlying9 (w.heap.size + 1) 0 8 8 ([(b0.toNat : Int), (b1.toNat : Int), (b2.toNat : Int), (b3.toNat : Int), (b4.toNat : Int), (b5.toNat : Int), (b6.toNat : Int), (b7.toNat : Int)] : List Int) rfl
          (by intro i hi; match i, hi with | 0, _ => simpa using cell_of_block (hW.trans hblk3) 0 | 1, _ => simpa using cell_of_block (hW.trans hblk3) 1 | 2, _ => simpa using cell_of_block (hW.trans hblk3) 2 | 3, _ => simpa using cell_of_block (hW.trans hblk3) 3 | 4, _ => simpa using cell_of_block (hW.trans hblk3) 4 | 5, _ => simpa using cell_of_block (hW.trans hblk3) 5 | 6, _ => simpa using cell_of_block (hW.trans hblk3) 6 | 7, _ => simpa using cell_of_block (hW.trans hblk3) 7)
        have e1 : (([(b0.toNat : Int), (b1.toNat : Int), (b2.toNat : Int), (b3.toNat : Int), (b4.toNat : Int), (b5.toNat : Int), (b6.toNat : Int), (b7.toNat : Int)] : List Int).map fun n => UInt8.ofNat n.toNat) = c := by rw [hc]; simp
        simp only [e1] at kd
        have ecat : List.take k s ++ (c ++ List.drop (k + 8) s) = t := ht.symm
        have Hfin := hid hfin
        have Htk := hid htk
        have hblt := lt_of_block hblk3
        clear hlaw htk hfin hq ht hc e1 htl hk hblk3
        have hw8 : IntKind.i64.wrap ((k : Int) + 8) = (k : Int) + 8 := IntWalk.i64_in _ (by omega)
        have hn8 : ((k : Int) + 8).toNat = k + 8 := by omega
        have f7 : k ≤ s.length := by omega
        have f9 : (k : Int) + 8 ≤ (s.length : Int) := by omega
        have g1 : ¬ (9223372036854775807 < k + 8) := by omega
        have f3 : (0 : Int) ≤ (k : Int) + 8 := by omega
        have g2 : ¬ (9223372036854775807 < k + 8 + (s.length - (k + 8))) := by omega
        have g3 : ¬ (9223372036854775807 < k + (8 + (s.length - (k + 8)))) := by omega
        have g4 : ¬ (9223372036854775807 < s.length) := by omega
        have Kd := hid kd
        clear kd
        go_wp2_with fail
        refine region_tail 11 (fun W => W.heap[w.heap.size + 1]? = w3.heap[w.heap.size + 1]? ∧ Frm (fun _ => False) w3 W) (by kernel_rfl) (by kernel_rfl) ⟨rfl, (Frm.refl _ _).drew⟩ ?_
        rintro W ⟨hWb, hWf⟩
        have kd := Kd.out W hWb
        clear hWb
        simp only [List.take_succ_cons, List.take_zero, List.drop_succ_cons, List.drop_zero]
        repeat still_step
        refine wpStill_nil ?_
        go_wp2_with fail
        refine (Htk.out _).mono ?_
        rintro e w4 ⟨v4, rfl, hi4, hb4⟩
        obtain ⟨ao4, cap4, rfl⟩ := imgs_shape hi4
        have hb5 : Below w3.heap.size w3 w4 := (hWf.below (fun _ _ h => h)).trans (hb4.mono hWf.size)
        clear hi4 hb4
        unfold shipV
        have hF := Hfin.out
        have hF2 : ((q.2 == 0) == (s == t)) = true := by rw [hF]; simp
        have HF2 := hid hF2
        clear hF hF2 Hfin
        go_wp2_with fail
        go_ret
        exact ⟨ret_bool (by first | exact HF2.out | simpa using HF2.out), hbw3.trans (hb5.mono hbw3.size)⟩
    · clear hg
      go_wp2_with fail
      go_ret
      exact ⟨rfl, hbw3⟩
end Go.Proofs.Ytdgpdfigipplpaa
