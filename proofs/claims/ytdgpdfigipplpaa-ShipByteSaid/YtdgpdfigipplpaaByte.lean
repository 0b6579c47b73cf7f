/- The law ShipByte, walked. -/
import Derived.Test.YtdgpdfigipplpaaShipI
import Derived.Laws.BitsAllLaws
namespace Go.Proofs.Ytdgpdfigipplpaa
open Go.RowKit
set_option linter.unusedVariables false
set_option linter.unusedSimpArgs false

theorem byte_ne (m : Sh) (h : mayB m = true) (hw : Wf m) (s : List UInt8) (hs : s = putL m) (k : Nat) (hk : k < s.length) (x : UInt8) (hx : x ≠ s[k]) : (takeM (s.take k ++ [x] ++ s.drop (k + 1))).2 ≠ 0 := by
  subst hs
  have hl := putL_length m h
  generalize hp : putL m = s at *
  have h8 : s.length % 8 = 0 := by omega
  have hset : s.take k ++ [x] ++ s.drop (k + 1) = s.set k x := by
    rw [List.set_eq_take_append_cons_drop, if_pos hk, List.append_assoc]; rfl
  have e1 : s = s.take (8 * (k / 8)) ++ (s.drop (8 * (k / 8))).take 8 ++ s.drop (8 * (k / 8) + 8) := by
    rw [List.append_assoc, ← List.drop_drop, List.take_append_drop, List.take_append_drop]
  have hlb : ((s.drop (8 * (k / 8))).take 8).length = 8 := by simp; omega
  have hla : (s.take (8 * (k / 8))).length = 8 * (k / 8) := by simp; omega
  have hget : ((s.drop (8 * (k / 8))).take 8)[k - 8 * (k / 8)]'(by omega) = s[k] := by
    rw [List.getElem_take, List.getElem_drop]; congr 1; omega
  have e2 : s.set k x = s.take (8 * (k / 8)) ++ ((s.drop (8 * (k / 8))).take 8).set (k - 8 * (k / 8)) x ++ s.drop (8 * (k / 8) + 8) := by
    conv => lhs; rw [e1]
    rw [List.append_assoc, List.set_append_right _ _ (by omega), List.set_append_left _ _ (by omega), List.append_assoc, hla]
  rw [hset, e2]
  refine take_block m h hw (k / 8) _ ((s.drop (8 * (k / 8))).take 8) _ _ hla hlb (by rw [List.length_set]; exact hlb) (hp.trans e1) ?_
  intro he
  have h3 : (((s.drop (8 * (k / 8))).take 8).set (k - 8 * (k / 8)) x)[k - 8 * (k / 8)]'(by rw [List.length_set]; omega) = x := List.getElem_set_self ..
  have h4 : ((s.drop (8 * (k / 8))).take 8)[k - 8 * (k / 8)]'(by omega) = x := by
    have := List.getElem_of_eq he (i := k - 8 * (k / 8)) (by omega)
    rw [this]; exact h3
  exact hx (h4.symm.trans hget)

theorem byte_law (m : Sh) (h : mayB m = true) (hw : Wf m) (s : List UInt8) (hs : s = putL m) (k : Nat) (hk : k < s.length) (x : UInt8) :
    (((takeM (s.take k ++ [s[k] ^^^ x] ++ s.drop (k + 1))).2 == 0) == ((x.toNat : Int) == 0)) = true := by
  by_cases hx : x = 0
  · subst hx
    have : s.take k ++ [s[k] ^^^ 0] ++ s.drop (k + 1) = s := by
      rw [UInt8.xor_zero, List.append_assoc]
      show s.take k ++ (s[k] :: s.drop (k + 1)) = s
      rw [← List.drop_eq_getElem_cons, List.take_append_drop]
    rw [this, hs, take_put m h hw]
    rfl
  · have h1 : s[k] ^^^ x ≠ s[k] := by
      intro he
      apply hx
      have := congrArg (fun z => s[k] ^^^ z) he
      simpa [← UInt8.xor_assoc] using this
    have h2 := byte_ne m h hw s hs k hk _ h1
    have h3 : ((x.toNat : Int) == 0) = false := by
      rw [beq_eq_false_iff_ne]
      intro h0
      apply hx
      have h5 : x.toNat = 0 := by omega
      exact UInt8.toNat.inj h5
    rw [h3, beq_eq_false_iff_ne.2 h2]
    rfl

set_option maxHeartbeats 1500000 in
theorem byte_any (m : Sh) (v : Value) (a : Int) (x : UInt8) (w : World) (hm : In w m v) (a0 : -9223372036854775808 ≤ a) (a1 : a ≤ 9223372036854775807) :
    Calls Try.prog 7 #[shipV m v, .int .i64 a, .int .u8 (x.toNat : Int)] w fun e w' => e = .returned (.bool true) ∧ Below w.heap.size w w' := by
  obtain ⟨ao, cap, rfl⟩ := imgs_shape hm.at'
  have Hm := hid hm
  have hgr := fun W (hW : In W m (.slice ao m.imgs.length cap)) => great_any m _ W hW.at' hW.n hW.big
  have hput : ∀ W, In W m (.slice ao m.imgs.length cap) → mayB m = true → Calls Try.prog 10 #[shipV m (.slice ao m.imgs.length cap)] W fun e w' => e = .returned (.tuple #[.string (bs (putL m)), .int .i64 0]) ∧ Below W.heap.size W w' :=
    fun W hW h => put_yes m _ W hW.at' h hW.wf
  have hno : ∀ W, In W m (.slice ao m.imgs.length cap) → mayB m = false → Calls Try.prog 10 #[shipV m (.slice ao m.imgs.length cap)] W fun e w' => e = .returned (.tuple #[.string (bs []), .int .i64 2]) ∧ Below W.heap.size W w' :=
    fun W hW h => put_no m _ W hW.at' hW.n hW.big h
  have hwf := hm.wf
  have Hwf := hid hwf
  unfold shipV at hgr hput hno ⊢
  have Hgr := hid hgr
  have Hput := hid hput
  have Hno := hid hno
  clear hm hgr hput hno hwf
  go_enter Try.func7, Try.ntmps7
  go_wp2_with fail
  refine (works_any _).mono ?_
  rintro e w1 ⟨rfl, hb1⟩
  have hbox := (hb1.block w.heap.size (by simp)).trans (heap_alloc_new _ _)
  have hbw : Below w.heap.size w w1 := ((Below.refl _ _).alloc (Nat.le_refl _) _).trans (hb1.mono (by simp))
  have Hi := hid (Hm.out.kept hbw)
  obtain ⟨c0, c1, c2, c3, c4, c5, cf⟩ := cells6 hbox
  have Hbox := hid hbox
  clear hb1 hbox
  cases hmay : mayB m
  · have HM := hid hmay
    clear hmay
    go_wp2_with fail
    refine (Hno.out _ Hi.out HM.out).mono ?_
    rintro e w2 ⟨rfl, hb2⟩
    have hbox2 := (hb2.block w.heap.size (lt_of_block Hbox.out)).trans Hbox.out
    have hbw2 := hbw.trans (hb2.mono hbw.size)
    have Hi2 := hid (Hi.out.kept hb2)
    clear c0 c1 c2 c3 c4 c5 cf Hbox Hi hb2 hbw
    obtain ⟨c0, c1, c2, c3, c4, c5, cf⟩ := cells6 hbox2
    have Hbox := hid hbox2
    clear hbox2
    go_wp2_with fail
    refine (Hgr.out _ Hi2.out).mono ?_
    rintro e w3 ⟨rfl, hb3⟩
    have hbw3 := hbw2.trans (hb3.mono hbw2.size)
    cases hg : greatB m
    · clear hg
      go_wp2_with fail
      go_ret
      exact ⟨rfl, hbw3⟩
    · clear hg
      go_wp2_with fail
      go_ret
      exact ⟨rfl, hbw3⟩
  · have hlen := putL_length m hmay
    obtain ⟨_, hn256, _⟩ := may_facts m hmay
    have hlaw := byte_law m hmay Hwf.out (putL m) rfl
    obtain ⟨s, hs⟩ : ∃ s, s = putL m := ⟨_, rfl⟩
    rw [← hs] at hlen Hput
    have hsl : s.length ≤ 262144 := by omega
    rw [← hs] at hlaw
    have Hlaw := hid hlaw
    have HM := hid hmay
    clear hlaw hmay hlen hn256
    go_wp2_with fail
    refine (Hput.out _ Hi.out HM.out).mono ?_
    rintro e w2 ⟨rfl, hb2⟩
    have hbox2 := (hb2.block w.heap.size (lt_of_block Hbox.out)).trans Hbox.out
    have hbw2 := hbw.trans (hb2.mono hbw.size)
    have Hi2 := hid (Hi.out.kept hb2)
    clear c0 c1 c2 c3 c4 c5 cf Hbox Hi hb2 hbw
    obtain ⟨c0, c1, c2, c3, c4, c5, cf⟩ := cells6 hbox2
    have Hbox := hid hbox2
    clear hbox2 hs
    go_wp2_with fail
    refine (Hgr.out _ Hi2.out).mono ?_
    rintro e w3 ⟨rfl, hb3⟩
    have hbw3 := hbw2.trans (hb3.mono hbw2.size)
    clear c0 c1 c2 c3 c4 c5 cf Hbox Hi2 hb3 hbw2
    cases hg : greatB m
    · clear hg
      by_cases hneg : a < 0
      · go_wp2_with fail
        go_ret
        exact ⟨rfl, hbw3⟩
      · obtain ⟨k, rfl⟩ : ∃ k : Nat, a = k := ⟨a.toNat, by omega⟩
        have hneg' : decide ((k : Int) < 0) = false := by simp
        clear hneg a0 a1
        by_cases hk : k < s.length
        · have hge : decide ((s.length : Int) ≤ (k : Int)) = false := by simp; omega
          have hlaw := Hlaw.out k hk x
          obtain ⟨y, hy⟩ : ∃ y, y = s[k] ^^^ x := ⟨_, rfl⟩
          have hxor : bits .xor .u8 (s[k].toNat : Int) (x.toNat : Int) = (y.toNat : Int) := by
            rw [Go.u8_xor_nat _ _ (UInt8.toNat_lt _) (UInt8.toNat_lt _), hy, UInt8.toNat_xor]
          rw [← hy] at hlaw
          have htk := fun W => take_any (s.take k ++ [y] ++ s.drop (k + 1)) W (by simp; omega)
          have ecat : s.take k ++ [y] ++ s.drop (k + 1) = s.take k ++ y :: s.drop (k + 1) := by simp
          rw [ecat] at htk hlaw
          obtain ⟨q, hq⟩ : ∃ q, q = takeM (s.take k ++ y :: s.drop (k + 1)) := ⟨_, rfl⟩
          rw [← hq] at hlaw htk
          have Htk := hid htk
          have e1 : ([(y.toNat : Int)].map fun n => UInt8.ofNat n.toNat) = [y] := by simp
          have kd := fun T => run_convert_cells (P := Try.prog) ((w3.alloc (.cells #[.int .u8 (y.toNat : Int)] T)).drew) 38 9 5 Try.underlying38 Try.underlying5 Try.underlying9 w3.heap.size 0 1 1 [(y.toNat : Int)] rfl
            (by intro i hi; match i, hi with | 0, _ => simp)
          simp only [e1] at kd
          have Hk := hid hk
          have Hlw := hid hlaw
          clear hlaw htk hq hy ecat
          go_wp2_with fail
          have hst : ∀ W, W.heap.size = w3.heap.size + 1 → Below w3.heap.size w3 W → Calls Try.prog 12 #[.string (bs (s.take k ++ y :: s.drop (k + 1)))] W fun e w' => (∃ ao cap, e = .returned (.tuple #[.agg #[.int .u8 q.1.kind, .int .u64 q.1.epoch, .int .u64 q.1.k, .bool q.1.full, .int .i64 q.1.pages, .slice ao q.1.imgs.length cap], .int .i64 q.2])) ∧ Below w3.heap.size w3 w' := by
            intro W hW hB
            refine (Htk.out W).mono ?_
            rintro e w4 ⟨v4, rfl, hi4, hb4⟩
            obtain ⟨ao4, cap4, rfl⟩ := imgs_shape hi4
            exact ⟨⟨ao4, cap4, rfl⟩, hB.trans (hb4.mono hB.size)⟩
          have Hst := hid hst
          have f1 : k ≤ s.length := by omega
          have f2 : k + 1 ≤ s.length := by omega
          have f3 : (0 : Int) ≤ (k : Int) + 1 := by omega
          have f4 : (k : Int) + 1 ≤ (s.length : Int) := by omega
          have f5 : ((k : Int) + 1).toNat = k + 1 := by omega
          have g1 : ¬ (9223372036854775807 < k + 1) := by omega
          have g2 : ¬ (9223372036854775807 < s.length) := by omega
          have g3 : ¬ (9223372036854775807 < k + 1 + (s.length - (k + 1))) := by omega
          have g4 : ¬ (9223372036854775807 < k + (s.length - (k + 1) + 1)) := by omega
          have g5 : ¬ (9223372036854775807 < k + (s.length - k)) := by omega
          have hw1 : IntKind.i64.wrap ((k : Int) + 1) = (k : Int) + 1 := IntWalk.i64_in _ (by omega)
          clear hst Htk
          go_region_with ((go_at_call 12; refine (Hst.out _ (by simp) (((Below.refl _ _).alloc (Nat.le_refl _) _).drew)).mono ?_; rintro e w4 ⟨⟨ao4, cap4, rfl⟩, hb5⟩))
          all_goals
            go_wp2_with fail
            go_ret
            exact ⟨ret_bool (by first | exact Hlw.out | simpa using Hlw.out), hbw3.trans (hb5.mono hbw3.size)⟩
        · have hge : decide ((s.length : Int) ≤ (k : Int)) = true := by simp; omega
          go_wp2_with fail
          go_ret
          exact ⟨rfl, hbw3⟩
    · clear hg
      go_wp2_with fail
      go_ret
      exact ⟨rfl, hbw3⟩
end Go.Proofs.Ytdgpdfigipplpaa
