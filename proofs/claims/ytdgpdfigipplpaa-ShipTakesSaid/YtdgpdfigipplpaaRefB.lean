/- counterfoilref26.Same: the same answer as the ship's Same. -/
import Derived.Test.YtdgpdfigipplpaaShipF
namespace Go.Proofs.Ytdgpdfigipplpaa
open Go.RowKit
set_option linter.unusedVariables false
set_option linter.unusedSimpArgs false

/-- How far two rows of images have been gone through. -/
def SameRel (l1 l2 : List Img) (w1 : World) (v3 : Value) (wr : World) : Prop :=
  ∃ k : Nat, k ≤ l1.length ∧ v3 = .int .i64 k ∧ l1.take k = l2.take k ∧ Below w1.heap.size w1 wr

theorem heap_two_new (w : World) (a b : Obj) : ((w.alloc a).alloc b).heap[w.heap.size + 1]? = some b := by
  have h := heap_alloc_new (w.alloc a) b
  have e : (w.alloc a).heap.size = w.heap.size + 1 := by simp
  rwa [e] at h
theorem heap_two_old (w : World) (a b : Obj) : ((w.alloc a).alloc b).heap[w.heap.size]? = some a := heap_alloc_old (heap_alloc_new _ _)

set_option maxHeartbeats 2000000 in
theorem refSame_imgs (k1 p1 q1 g1 : Int) (u1 : Bool) (l1 l2 : List Img) (v1 v2 : Value) (w : World) (h1 : ImgsAt w v1 l1) (h2 : ImgsAt w v2 l2) (n1 : l1.length ≤ 9223372036854775807) (n2 : l2.length ≤ 9223372036854775807) (hl : l1.length = l2.length) :
    Calls Try.prog 17 #[.agg #[.int .u8 k1, .int .u64 p1, .int .u64 q1, .bool u1, .int .i64 g1, v1], .agg #[.int .u8 k1, .int .u64 p1, .int .u64 q1, .bool u1, .int .i64 g1, v2]] w fun e w' => e = .returned (.bool (decide (l1 = l2))) ∧ Below w.heap.size w w' := by
  obtain ⟨ao1, cap1, rfl⟩ := imgs_shape h1
  obtain ⟨ao2, cap2, rfl⟩ := imgs_shape h2
  have H1 := hid h1
  have H2 := hid h2
  clear h1 h2
  have hneq := neq_img
  have hguard := guard_img
  rw [← hl] at H2 ⊢
  have hln : ((l1.length : Int) != (l1.length : Int)) = false := by simp
  have b1 : (k1 != k1) = false := by simp
  have b2 : (p1 != p1) = false := by simp
  have b3 : (q1 != q1) = false := by simp
  have b4 : (u1 != u1) = false := by simp
  have b5 : (g1 != g1) = false := by simp
  have HL := hid hl
  clear hl
  go_enter Try.func17, Try.ntmps17
  go_wp2_with fail
  go_loopw [5] (fun v3 wr => SameRel l1 l2 ((w.alloc (.cells #[.int .u8 k1, .int .u64 p1, .int .u64 q1, .bool u1, .int .i64 g1, .slice ao1 l1.length cap1] 28)).alloc (.cells #[.int .u8 k1, .int .u64 p1, .int .u64 q1, .bool u1, .int .i64 g1, .slice ao2 l1.length cap2] 28)) v3 wr) (fun v3 _ => l1.length - (intOf v3).toNat)
  case atStart => exact ⟨0, Nat.zero_le _, rfl, rfl, Below.refl _ _⟩
  case round =>
    obtain ⟨k, hk, rfl, hpre, hbr⟩ := hrel
    have Hpre := hid hpre
    clear hpre
    have hbw : Below w.heap.size w wr := (((Below.refl _ _).alloc (Nat.le_refl _) _).alloc (by simp) _).trans (hbr.mono (by simp; omega))
    have hbox2 : wr.heap[w.heap.size + 1]? = some (.cells #[.int .u8 k1, .int .u64 p1, .int .u64 q1, .bool u1, .int .i64 g1, .slice ao2 l1.length cap2] 28 (0, 0)) := (hbr.block _ (by simp)).trans (heap_two_new _ _ _)
    have hbox1 : wr.heap[w.heap.size]? = some (.cells #[.int .u8 k1, .int .u64 p1, .int .u64 q1, .bool u1, .int .i64 g1, .slice ao1 l1.length cap1] 28 (0, 0)) := (hbr.block _ (by simp; omega)).trans (heap_two_old _ _ _)
    have c1 := cell_of_block hbox1 5
    have c2 := cell_of_block hbox2 5
    simp at c1 c2
    clear hbox1 hbox2
    by_cases hlt : k < l1.length
    · obtain ⟨b1, o1, rfl, d1, e1⟩ := imgs_cell H1.out hbw k hlt
      have H2' : ImgsAt w (.slice ao2 l2.length cap2) l2 := by rw [← HL.out]; exact H2.out
      obtain ⟨b2, o2, rfl, d2, e2⟩ := imgs_cell H2' hbw k (by rw [← HL.out]; exact hlt)
      have hstep : l1.take (k + 1) = l2.take (k + 1) ↔ l1[k] = l2[k]'(by rw [← HL.out]; exact hlt) := by
        rw [List.take_succ_eq_append_getElem hlt, List.take_succ_eq_append_getElem (by rw [← HL.out]; exact hlt), Hpre.out]
        exact ⟨fun h => by simpa using List.append_cancel_left h, fun h => by rw [h]⟩
      have hall : l1 = l2 → l1[k] = l2[k]'(by rw [← HL.out]; exact hlt) := by rintro rfl; rfl
      obtain ⟨x, hx⟩ : ∃ x, x = l1[k] := ⟨_, rfl⟩
      obtain ⟨y, hy⟩ : ∃ y, y = l2[k]'(by rw [← HL.out]; exact hlt) := ⟨_, rfl⟩
      obtain ⟨pa, sa⟩ := x
      obtain ⟨pb, sb⟩ := y
      rw [← hx] at d1 e1 hstep hall
      rw [← hy] at d2 e2 hstep hall
      simp only at d1 e1 d2 e2
      have Hstep := hid hstep
      have Hall := hid hall
      clear hx hy hstep hall H2'
      by_cases he : pa = pb ∧ sa = sb
      · obtain ⟨rfl, rfl⟩ := he
        have he' : (pa == pa && sa == sa) = true := by simp
        go_wp2_with fail
        go_quiet (fail)
        go_wp2_with fail
        go_roundw
        case rel => exact ⟨k + 1, by omega, by go_num, by first | exact Hstep.out.2 rfl | exact Hstep.out.2 trivial, below_drewN hbr _⟩
        case measure => simp [intOf]; omega
      · have he' : (pa == pb && sa == sb) = false := by
          by_cases g1 : pa = pb
          · by_cases g2 : sa = sb
            · exact absurd ⟨g1, g2⟩ he
            · simp [g2]
          · simp [g1]
        have hfin : decide (l1 = l2) = false := by
          rw [decide_eq_false_iff_not]
          intro h
          have := Hall.out h
          simp only [Prod.mk.injEq] at this
          exact he this
        have Hfin := hid hfin
        clear hfin he
        go_wp2_with fail
        go_quiet (fail)
        go_wp2_with fail
        go_ret
        exact ⟨ret_bool (by rw [Hfin.out]), below_drewN hbw _⟩
    · have hfin : decide (l1 = l2) = true := by
        rw [decide_eq_true_iff]
        have := Hpre.out
        rw [List.take_of_length_le (by omega), List.take_of_length_le (by rw [← HL.out]; omega)] at this
        exact this
      have Hfin := hid hfin
      clear hfin
      go_wp2_with fail
      go_ret
      exact ⟨ret_bool (by rw [Hfin.out]), hbw⟩

set_option maxHeartbeats 2000000 in
theorem refSame_any (a b : Sh) (v1 v2 : Value) (w : World) (h1 : ImgsAt w v1 a.imgs) (h2 : ImgsAt w v2 b.imgs) (n1 : a.imgs.length ≤ 9223372036854775807) (n2 : b.imgs.length ≤ 9223372036854775807) :
    Calls Try.prog 17 #[shipV a v1, shipV b v2] w fun e w' => e = .returned (.bool (sameB a b)) ∧ Below w.heap.size w w' := by
  by_cases hall : (a.kind = b.kind ∧ a.epoch = b.epoch ∧ a.k = b.k ∧ a.full = b.full ∧ a.pages = b.pages) ∧ a.imgs.length = b.imgs.length
  · obtain ⟨⟨e1, e2, e3, e4, e5⟩, hl⟩ := hall
    have hfin : sameB a b = decide (a.imgs = b.imgs) := by simp [sameB, e1, e2, e3, e4, e5]
    rw [hfin]
    unfold shipV
    rw [← e1, ← e2, ← e3, ← e4, ← e5]
    exact refSame_imgs a.kind a.epoch a.k a.pages a.full a.imgs b.imgs v1 v2 w h1 h2 n1 n2 hl
  · have hfin : sameB a b = false := by
      by_cases hs : sameB a b = true
      · exfalso
        apply hall
        simp only [sameB, Bool.and_eq_true, beq_iff_eq, decide_eq_true_eq] at hs
        obtain ⟨e1, e2, e3, e4, e5, e6⟩ := hs
        exact ⟨⟨e1, e2, e3, e4, e5⟩, by rw [e6]⟩
      · simpa using hs
    rw [hfin]
    obtain ⟨ao1, cap1, rfl⟩ := imgs_shape h1
    obtain ⟨ao2, cap2, rfl⟩ := imgs_shape h2
    clear h1 h2 hfin
    unfold shipV
    by_cases e1 : a.kind = b.kind
    · by_cases e2 : a.epoch = b.epoch
      · by_cases e3 : a.k = b.k
        · by_cases e4 : a.full = b.full
          · by_cases e5 : a.pages = b.pages
            · have e6 : ((a.imgs.length : Int) != (b.imgs.length : Int)) = true := by
                simp only [bne_iff_ne, ne_eq]
                intro h
                exact hall ⟨⟨e1, e2, e3, e4, e5⟩, by omega⟩
              have e1' : (a.kind != b.kind) = false := by simpa using e1
              have e2' : (a.epoch != b.epoch) = false := by simpa using e2
              have e3' : (a.k != b.k) = false := by simpa using e3
              have e5' : (a.pages != b.pages) = false := by simpa using e5
              rw [← e4]
              clear hall e1 e2 e3 e4 e5
              cases a.full
              all_goals
                go_enter Try.func17, Try.ntmps17
                go_wp2
                go_ret
                exact ⟨ret_bool rfl, ((Below.refl _ _).alloc (Nat.le_refl _) _).alloc (by simp) _⟩
            · have e1' : (a.kind != b.kind) = false := by simpa using e1
              have e2' : (a.epoch != b.epoch) = false := by simpa using e2
              have e3' : (a.k != b.k) = false := by simpa using e3
              have e5' : (a.pages != b.pages) = true := by simpa using e5
              rw [← e4]
              clear hall e1 e2 e3 e4 e5
              cases a.full
              all_goals
                go_enter Try.func17, Try.ntmps17
                go_wp2
                go_ret
                exact ⟨ret_bool rfl, ((Below.refl _ _).alloc (Nat.le_refl _) _).alloc (by simp) _⟩
          · have e1' : (a.kind != b.kind) = false := by simpa using e1
            have e2' : (a.epoch != b.epoch) = false := by simpa using e2
            have e3' : (a.k != b.k) = false := by simpa using e3
            clear hall e1 e2 e3
            revert e4
            cases a.full <;> cases b.full <;> intro e4
            all_goals first
              | exact absurd rfl e4
              | (clear e4
                 go_enter Try.func17, Try.ntmps17
                 go_wp2
                 go_ret
                 exact ⟨ret_bool rfl, ((Below.refl _ _).alloc (Nat.le_refl _) _).alloc (by simp) _⟩)
        · have e1' : (a.kind != b.kind) = false := by simpa using e1
          have e2' : (a.epoch != b.epoch) = false := by simpa using e2
          have e3' : (a.k != b.k) = true := by simpa using e3
          clear hall e1 e2 e3
          go_enter Try.func17, Try.ntmps17
          go_wp2
          go_ret
          exact ⟨ret_bool rfl, ((Below.refl _ _).alloc (Nat.le_refl _) _).alloc (by simp) _⟩
      · have e1' : (a.kind != b.kind) = false := by simpa using e1
        have e2' : (a.epoch != b.epoch) = true := by simpa using e2
        clear hall e1 e2
        go_enter Try.func17, Try.ntmps17
        go_wp2
        go_ret
        exact ⟨ret_bool rfl, ((Below.refl _ _).alloc (Nat.le_refl _) _).alloc (by simp) _⟩
    · have e1' : (a.kind != b.kind) = true := by simpa using e1
      clear hall e1
      go_enter Try.func17, Try.ntmps17
      go_wp2
      go_ret
      exact ⟨ret_bool rfl, ((Below.refl _ _).alloc (Nat.le_refl _) _).alloc (by simp) _⟩
end Go.Proofs.Ytdgpdfigipplpaa
