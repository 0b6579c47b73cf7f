/- slices.Equal at images, ship.Same, and the reference's Same. -/
import Derived.Test.YtdgpdfigipplpaaShipB
namespace Go.Proofs.Ytdgpdfigipplpaa
open Go.RowKit
set_option linter.unusedVariables false
set_option linter.unusedSimpArgs false

theorem guard_img : Try.prog.eqGuardType Try.prog.depth 51 = false := by kernel_rfl
theorem neq_img (a b : Int) (s t : List UInt8) (w : World) :
    (binOp .neq 51 (.agg #[.int .i64 a, .string (bs s)]) (.agg #[.int .i64 b, .string (bs t)])).run Try.prog w = .ok (.bool (!(a == b && s == t))) w := by
  have hS : Try.prog.underlying 51 = some (.struct (Try.prog.fieldsOf 51)) := by kernel_rfl
  have hp : Try.prog.stoodInHeld 51 = false := by kernel_rfl
  rw [run_neq_struct, show (10000 : Nat) = 9999 + 1 from rfl, run_equalIn_agg w 9999 51 _ _ hS hp]
  simp only [Program.fieldsOf, Try.underlying51]
  go_simp
  by_cases h1 : a = b <;> by_cases h2 : s = t <;> simp [h1, h2]

def EqRel (l1 l2 : List Img) (w : World) (v13 : Value) (wr : World) : Prop :=
  ∃ k : Nat, k ≤ l1.length ∧ v13 = .int .i64 k ∧ l1.take k = l2.take k ∧ Below w.heap.size w wr

set_option maxHeartbeats 1000000 in
theorem equal_any (l1 l2 : List Img) (v1 v2 : Value) (w : World) (h1 : ImgsAt w v1 l1) (h2 : ImgsAt w v2 l2) (n1 : l1.length ≤ 9223372036854775807) (n2 : l2.length ≤ 9223372036854775807) :
    Calls Try.prog 33 #[v1, v2] w fun e w' => e = .returned (.bool (decide (l1 = l2))) ∧ Below w.heap.size w w' := by
  obtain ⟨ao1, cap1, rfl⟩ := imgs_shape h1
  obtain ⟨ao2, cap2, rfl⟩ := imgs_shape h2
  have H1 := hid h1
  have H2 := hid h2
  clear h1 h2
  have hneq := neq_img
  have hguard := guard_img
  by_cases hl : l1.length = l2.length
  · rw [← hl]
    have hln : ((l1.length : Int) != (l1.length : Int)) = false := by simp
    have HL := hid hl
    rw [← hl] at H2
    clear hl
    go_enter Try.func33, Try.ntmps33
    go_wp2_with fail
    go_loopw [13] (fun v13 wr => EqRel l1 l2 w v13 wr) (fun v13 _ => l1.length - (intOf v13).toNat)
    case atStart => exact ⟨0, Nat.zero_le _, rfl, rfl, Below.refl _ _⟩
    case round =>
      obtain ⟨k, hk, rfl, hpre, hb⟩ := hrel
      have Hpre := hid hpre
      clear hpre
      by_cases hlt : k < l1.length
      · obtain ⟨b1, o1, rfl, c1, d1⟩ := imgs_cell H1.out hb k hlt
        have H2' : ImgsAt w (.slice ao2 l2.length cap2) l2 := by rw [← HL.out]; exact H2.out
        obtain ⟨b2, o2, rfl, c2, d2⟩ := imgs_cell H2' hb k (by rw [← HL.out]; exact hlt)
        have hstep : l1.take (k + 1) = l2.take (k + 1) ↔ l1[k] = l2[k]'(by rw [← HL.out]; exact hlt) := by
          rw [List.take_succ_eq_append_getElem hlt, List.take_succ_eq_append_getElem (by rw [← HL.out]; exact hlt), Hpre.out]
          exact ⟨fun h => by simpa using List.append_cancel_left h, fun h => by rw [h]⟩
        have hall : l1 = l2 → l1[k] = l2[k]'(by rw [← HL.out]; exact hlt) := by rintro rfl; rfl
        obtain ⟨x, hx⟩ : ∃ x, x = l1[k] := ⟨_, rfl⟩
        obtain ⟨y, hy⟩ : ∃ y, y = l2[k]'(by rw [← HL.out]; exact hlt) := ⟨_, rfl⟩
        obtain ⟨p1, s1⟩ := x
        obtain ⟨p2, s2⟩ := y
        rw [← hx] at c1 d1 hstep hall
        rw [← hy] at c2 d2 hstep hall
        simp only at c1 d1 c2 d2
        have Hstep := hid hstep
        have Hall := hid hall
        clear hx hy hstep hall H2'
        by_cases he : p1 = p2 ∧ s1 = s2
        · obtain ⟨rfl, rfl⟩ := he
          have he' : (p1 == p1 && s1 == s1) = true := by simp
          go_wp2_with fail
          go_quiet (fail)
          go_wp2_with fail
          go_roundw
          case rel => exact ⟨k + 1, by omega, by go_num, by first | exact Hstep.out.2 rfl | exact Hstep.out.2 trivial, below_drewN hb _⟩
          case measure => simp [intOf]; omega
        · have he' : (p1 == p2 && s1 == s2) = false := by
            by_cases g1 : p1 = p2
            · by_cases g2 : s1 = s2
              · exact absurd ⟨g1, g2⟩ he
              · simp [g2]
            · simp [g1]
          have hfin : decide (l1 = l2) = false := by
            rw [decide_eq_false_iff_not]
            intro h
            have := Hall.out h
            simp only [Prod.mk.injEq] at this
            exact he this
          have Hfin := hid hfin
          clear hfin he
          go_wp2_with fail
          go_quiet (fail)
          go_wp2_with fail
          go_ret
          exact ⟨ret_bool (by rw [Hfin.out]), below_drewN hb _⟩
      · have hfin : decide (l1 = l2) = true := by
          rw [decide_eq_true_iff]
          have := Hpre.out
          rw [List.take_of_length_le (by omega), List.take_of_length_le (by rw [← HL.out]; omega)] at this
          exact this
        have Hfin := hid hfin
        clear hfin
        go_wp2_with fail
        go_ret
        exact ⟨ret_bool (by rw [Hfin.out]), hb⟩
  · have hln : ((l1.length : Int) != (l2.length : Int)) = true := by simp; omega
    have hfin : decide (l1 = l2) = false := by
      rw [decide_eq_false_iff_not]
      rintro rfl
      exact hl rfl
    have Hfin := hid hfin
    clear hl hfin
    go_enter Try.func33, Try.ntmps33
    go_wp2
    go_ret
    exact ⟨ret_bool (by rw [Hfin.out]), Below.refl _ _⟩

def sameB (a b : Sh) : Bool := a.kind == b.kind && (a.epoch == b.epoch && (a.k == b.k && (a.full == b.full && (a.pages == b.pages && decide (a.imgs = b.imgs)))))
theorem sameB_self (a : Sh) : sameB a a = true := by simp [sameB]

set_option maxHeartbeats 1000000 in
theorem same_any (a b : Sh) (v1 v2 : Value) (w : World) (h1 : ImgsAt w v1 a.imgs) (h2 : ImgsAt w v2 b.imgs) (n1 : a.imgs.length ≤ 9223372036854775807) (n2 : b.imgs.length ≤ 9223372036854775807) :
    Calls Try.prog 16 #[shipV a v1, shipV b v2] w fun e w' => e = .returned (.bool (sameB a b)) ∧ Below w.heap.size w w' := by
  have hE := fun W (hW : Below w.heap.size w W) => equal_any a.imgs b.imgs v1 v2 W (imgs_kept h1 hW) (imgs_kept h2 hW) n1 n2
  have HE := hid hE
  obtain ⟨ao1, cap1, rfl⟩ := imgs_shape h1
  obtain ⟨ao2, cap2, rfl⟩ := imgs_shape h2
  clear hE h1 h2
  unfold shipV
  by_cases e1 : (a.kind == b.kind) = true
  · by_cases e2 : (a.epoch == b.epoch) = true
    · by_cases e3 : (a.k == b.k) = true
      · by_cases e4 : (a.full == b.full) = true
        · by_cases e5 : (a.pages == b.pages) = true
          · have hfin : sameB a b = decide (a.imgs = b.imgs) := by simp only [sameB, e1, e2, e3, e4, e5, Bool.true_and]
            have Hfin := hid hfin
            clear hfin
            go_enter Try.func16, Try.ntmps16
            go_wp2_with fail
            refine (HE.out _ (((Below.refl _ _).alloc (Nat.le_refl _) _).alloc (by simp) _)).mono ?_
            rintro e w1 ⟨rfl, hb1⟩
            go_wp2_with fail
            go_ret
            exact ⟨ret_bool (by rw [Hfin.out]), (((Below.refl _ _).alloc (Nat.le_refl _) _).alloc (by simp) _).trans (hb1.mono (by simp; omega))⟩
          · have e5' : (a.pages == b.pages) = false := by simpa using e5
            have hfin : sameB a b = false := by simp only [sameB, e1, e2, e3, e4, e5', Bool.false_and, Bool.true_and]
            have Hfin := hid hfin
            clear hfin e5
            go_enter Try.func16, Try.ntmps16
            go_wp2
            go_ret
            exact ⟨ret_bool (by rw [Hfin.out]), ((Below.refl _ _).alloc (Nat.le_refl _) _).alloc (by simp) _⟩
        · have e4' : (a.full == b.full) = false := by simpa using e4
          have hfin : sameB a b = false := by simp only [sameB, e1, e2, e3, e4', Bool.false_and, Bool.true_and]
          have Hfin := hid hfin
          clear hfin e4
          go_enter Try.func16, Try.ntmps16
          go_wp2
          go_ret
          exact ⟨ret_bool (by rw [Hfin.out]), ((Below.refl _ _).alloc (Nat.le_refl _) _).alloc (by simp) _⟩
      · have e3' : (a.k == b.k) = false := by simpa using e3
        have hfin : sameB a b = false := by simp only [sameB, e1, e2, e3', Bool.false_and, Bool.true_and]
        have Hfin := hid hfin
        clear hfin e3
        go_enter Try.func16, Try.ntmps16
        go_wp2
        go_ret
        exact ⟨ret_bool (by rw [Hfin.out]), ((Below.refl _ _).alloc (Nat.le_refl _) _).alloc (by simp) _⟩
    · have e2' : (a.epoch == b.epoch) = false := by simpa using e2
      have hfin : sameB a b = false := by simp only [sameB, e1, e2', Bool.false_and, Bool.true_and]
      have Hfin := hid hfin
      clear hfin e2
      go_enter Try.func16, Try.ntmps16
      go_wp2
      go_ret
      exact ⟨ret_bool (by rw [Hfin.out]), ((Below.refl _ _).alloc (Nat.le_refl _) _).alloc (by simp) _⟩
  · have e1' : (a.kind == b.kind) = false := by simpa using e1
    have hfin : sameB a b = false := by simp only [sameB, e1', Bool.false_and]
    have Hfin := hid hfin
    clear hfin e1
    go_enter Try.func16, Try.ntmps16
    go_wp2
    go_ret
    exact ⟨ret_bool (by rw [Hfin.out]), ((Below.refl _ _).alloc (Nat.le_refl _) _).alloc (by simp) _⟩
end Go.Proofs.Ytdgpdfigipplpaa
