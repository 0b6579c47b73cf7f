/- ship.Put: what it comes to. -/
import Derived.Test.YtdgpdfigipplpaaShipA
namespace Go.Proofs.Ytdgpdfigipplpaa
open Go.RowKit
set_option linter.unusedVariables false
set_option linter.unusedSimpArgs false

def imgsL (l : List Img) : List UInt8 := (l.map fun x => eight x.1 ++ x.2).flatten
theorem imgsL_snoc (l : List Img) (x : Img) : imgsL (l ++ [x]) = imgsL l ++ (eight x.1 ++ x.2) := by simp [imgsL]
theorem imgsL_length : ∀ l : List Img, (∀ x ∈ l, x.2.length = 512) → (imgsL l).length = 520 * l.length
  | [], _ => rfl
  | x :: l, h => by
    have := imgsL_length l (fun y hy => h y (by simp [hy]))
    have h2 := h x (by simp)
    simp only [imgsL, List.map_cons, List.flatten_cons, List.length_append, eight_length, List.length_cons, h2] at *
    omega
def headL (m : Sh) : List UInt8 := wordsL [m.kind, m.epoch, m.k, if m.full then 1 else 0, m.pages, (m.imgs.length : Int)]
theorem headL_length (m : Sh) : (headL m).length = 48 := by unfold headL; rw [wordsL_length]; rfl
def bodyL (m : Sh) : List UInt8 := headL m ++ imgsL m.imgs
def putL (m : Sh) : List UInt8 := textOf (sumAdd (0, 0) (bodyL m)) ++ bodyL m

theorem stepSum_bd (p : Int × Int) (x y : Int) : (0 ≤ (stepSum p x y).1 ∧ (stepSum p x y).1 < 4294967296) ∧ (0 ≤ (stepSum p x y).2 ∧ (stepSum p x y).2 < 4294967296) := by
  unfold stepSum; simp only; omega
theorem sumN_bd : ∀ (n : Nat) (p : Int × Int) (l : List UInt8), (0 ≤ p.1 ∧ p.1 < 4294967296) → (0 ≤ p.2 ∧ p.2 < 4294967296) → (0 ≤ (sumN n p l).1 ∧ (sumN n p l).1 < 4294967296) ∧ (0 ≤ (sumN n p l).2 ∧ (sumN n p l).2 < 4294967296)
  | 0, p, l, h1, h2 => ⟨h1, h2⟩
  | n + 1, p, l, h1, h2 => by
    unfold sumN
    split
    · exact ⟨h1, h2⟩
    · exact sumN_bd n _ _ (stepSum_bd p _ _).1 (stepSum_bd p _ _).2
theorem sumAdd_bd (p : Int × Int) (l : List UInt8) (h1 : 0 ≤ p.1 ∧ p.1 < 4294967296) (h2 : 0 ≤ p.2 ∧ p.2 < 4294967296) : (0 ≤ (sumAdd p l).1 ∧ (sumAdd p l).1 < 4294967296) ∧ (0 ≤ (sumAdd p l).2 ∧ (sumAdd p l).2 < 4294967296) := by
  unfold sumAdd; exact sumN_bd _ _ _ h1 h2

/-- The numbers of a ship are what their kinds allow. -/
def Wf (m : Sh) : Prop := (0 ≤ m.kind ∧ m.kind < 256) ∧ (0 ≤ m.epoch ∧ m.epoch < 18446744073709551616) ∧ (0 ≤ m.k ∧ m.k < 18446744073709551616)

theorem imgs_kept {w w1 : World} {v : Value} {l : List Img} (h : ImgsAt w v l) (hb : Below w.heap.size w w1) : ImgsAt w1 v l := by
  rcases h with h | ⟨b, off, cap, rfl, h⟩
  · exact .inl h
  · refine .inr ⟨b, off, cap, rfl, fun j hj => ?_⟩
    obtain ⟨c1, c2⟩ := h j hj
    have hlt : b < w.heap.size := World.block_lt_of_cell? w _ c1
    exact ⟨by rw [hb.cell (p := ⟨b, _, none⟩) hlt]; exact c1, by rw [hb.cell (p := ⟨b, _, none⟩) hlt]; exact c2⟩

theorem may_facts (m : Sh) (h : mayB m = true) : (0 ≤ m.pages ∧ m.pages ≤ 256) ∧ m.imgs.length ≤ 256 ∧ ∀ x ∈ m.imgs, x.2.length = 512 ∧ 0 < x.1 ∧ x.1 ≤ 256 := by
  unfold mayB at h
  by_cases h2 : m.kind = 2
  · rw [if_pos h2] at h
    simp at h
    obtain ⟨⟨_, hp⟩, hi⟩ := h
    rw [hp, hi]
    simp
  · rw [if_neg h2] at h
    by_cases h1 : m.kind = 1
    · rw [if_pos h1] at h
      simp at h
      obtain ⟨⟨⟨⟨h3, h4⟩, _⟩, _⟩, h5⟩ := h
      obtain ⟨g1, g2⟩ := mayImgs_len m.imgs m.pages 0 h5
      refine ⟨⟨by omega, by omega⟩, by omega, fun x hx => ?_⟩
      have := g2 x hx
      exact ⟨this.1, by omega, by omega⟩
    · rw [if_neg h1] at h
      cases h

theorem words_text' (ns : List Int) (n g cap : Nat) (w : World) (hl : ns.length = n) (hn : n ≤ 1000) (hc : ∀ j (h : j < ns.length), w.cell? ⟨g, j, none⟩ = some (.int .u64 ns[j])) (hlo : ∀ n ∈ ns, 0 ≤ n ∧ n < 18446744073709551616) :
    Calls Try.prog 21 #[.slice (some ⟨g, 0, none⟩) n cap] w fun e w' => e = .returned (.string (bs (wordsL ns))) ∧ Below w.heap.size w w' := by
  subst hl
  exact words_text ns g cap w hn hc hlo

set_option maxHeartbeats 400000 in
theorem put_no (m : Sh) (v : Value) (w : World) (hv : ImgsAt w v m.imgs) (hn : m.imgs.length ≤ 9223372036854775807) (hbig : ∀ x ∈ m.imgs, x.2.length ≤ 9223372036854775807) (hno : mayB m = false) :
    Calls Try.prog 10 #[shipV m v] w fun e w' => e = .returned (.tuple #[.string (bs []), .int .i64 2]) ∧ Below w.heap.size w w' := by
  obtain ⟨ao, cap, rfl⟩ := imgs_shape hv
  have hm := fun W hW => may_any m (.slice ao m.imgs.length cap) W hW hn hbig
  rw [hno] at hm
  have Hm := hid hm
  have Hv := hid hv
  clear hm hv hno
  unfold shipV at Hm ⊢
  go_enter Try.func10, Try.ntmps10
  go_wp2_with fail
  refine (Hm.out _ ?_).mono ?_
  · exact imgs_kept Hv.out ((Below.refl _ _).alloc (Nat.le_refl _) _)
  rintro e w1 ⟨rfl, hb1⟩
  go_wp2_with fail
  go_ret2
  exact ⟨rfl, ((Below.refl _ _).alloc (Nat.le_refl _) _).trans (hb1.mono (by simp))⟩

theorem Lib.BuilderAtF.alloc' {B b : Nat} {l : List UInt8} {w : World} (h : BldF B b l w) (o : Obj) : BldF B b l (w.alloc o) :=
  bld_kept h ((Below.refl _ _).alloc (Nat.le_refl _) _)
theorem bld_lt {B b : Nat} {l : List UInt8} {w : World} (h : BldF B b l w) : b < w.heap.size := by
  rcases h with ⟨_, v, hb, _⟩ | ⟨_, v, hb, _⟩ <;> exact lt_of_block hb

def PutRel (m : Sh) (b : Nat) (w1 : World) (v35 : Value) (wr : World) : Prop :=
  ∃ j : Nat, j ≤ m.imgs.length ∧ v35 = .int .i64 j ∧ BldF b b (headL m ++ imgsL (m.imgs.take j)) wr ∧ Below b w1 wr

set_option maxHeartbeats 2000000 in
theorem put_yes (m : Sh) (v : Value) (w : World) (hv : ImgsAt w v m.imgs) (hyes : mayB m = true) (hwf : Wf m) :
    Calls Try.prog 10 #[shipV m v] w fun e w' => e = .returned (.tuple #[.string (bs (putL m)), .int .i64 0]) ∧ Below w.heap.size w w' := by
  obtain ⟨⟨p0, p1⟩, hn, himg⟩ := may_facts m hyes
  obtain ⟨⟨k0, k1⟩, ⟨e0, e1⟩, ⟨kk0, kk1⟩⟩ := hwf
  obtain ⟨ao, cap, rfl⟩ := imgs_shape hv
  have hm := fun W hW => may_any m (.slice ao m.imgs.length cap) W hW (by omega) (fun x hx => by have := (himg x hx).1; omega)
  rw [hyes] at hm
  have Hm := hid hm
  have Hv := hid hv
  have Himg := hid himg
  clear hm hv hyes himg
  have Hhead : Hid (headL m = wordsL [m.kind, m.epoch, m.k, if m.full then 1 else 0, m.pages, (m.imgs.length : Int)]) := rfl
  unfold shipV at Hm ⊢
  go_enter Try.func10, Try.ntmps10
  go_wp2_with fail
  refine (Hm.out _ ?_).mono ?_
  · exact imgs_kept Hv.out ((Below.refl _ _).alloc (Nat.le_refl _) _)
  rintro e w1 ⟨rfl, hb1⟩
  have hbw : Below w.heap.size w w1 := ((Below.refl _ _).alloc (Nat.le_refl _) _).trans (hb1.mono (by simp))
  have hbox := (hb1.block w.heap.size (by simp)).trans (heap_alloc_new _ _)
  have hsz : w.heap.size < w1.heap.size := by have := hb1.size; simp at this; omega
  have c0 := cell_of_block hbox 0
  have c1 := cell_of_block hbox 1
  have c2 := cell_of_block hbox 2
  have c3 := cell_of_block hbox 3
  have c4 := cell_of_block hbox 4
  have c5 := cell_of_block hbox 5
  simp at c0 c1 c2 c3 c4 c5
  clear hb1 Hm hbox
  by_cases hfull : m.full = true
  · rw [hfull] at c3 Hhead
    rw [if_pos rfl] at Hhead
    clear hfull
    go_wp2_with fail
    refine (words_text' [m.kind, m.epoch, m.k, 1, m.pages, (m.imgs.length : Int)] 6 _ 6 _ rfl (by omega) ?_ ?_).mono ?_
    · intro j hj
      simp only [List.length_cons, List.length_nil] at hj
      match j, hj with
      | 0, _ => simp
      | 1, _ => simp
      | 2, _ => simp
      | 3, _ => simp
      | 4, _ => simp
      | 5, _ => simp
    · intro n hn'
      simp only [List.mem_cons, List.not_mem_nil, or_false] at hn'
      rcases hn' with rfl | rfl | rfl | rfl | rfl | rfl <;> omega
    rintro e w2 ⟨rfl, hb2⟩
    have hbld2 : BldF w1.heap.size w1.heap.size [] w2 := bld_kept (Lib.BuilderAtF.alloc' (fresh_bld w1) _) hb2
    have hB2 : Below w1.heap.size w1 w2 := (((Below.refl _ _).alloc (Nat.le_refl _) _).alloc (by simp) _).trans (hb2.mono (by simp; omega))
    have hl := wordsL_length [m.kind, m.epoch, m.k, 1, m.pages, (m.imgs.length : Int)]
    have Hl := hid hl
    clear hl hb2 c0 c1 c2 c3 c4
    go_wp2_with fail
    refine (writeString_any _ _ _ _ _ hbld2 (by rw [Hl.out]; simp) hB2.size).mono ?_
    rintro e w3 ⟨rfl, hbld3, hf3⟩
    have hB3 := hB2.trans (ws_below hf3 hB2.size)
    have d5 : w3.cell? ⟨w.heap.size, 5, none⟩ = some (.slice ao m.imgs.length cap) := by rw [hB3.cell (p := ⟨w.heap.size, 5, none⟩) hsz]; exact c5
    clear hbld2 hB2 hf3 c5 Hl
    rw [List.nil_append, ← Hhead.out] at hbld3
    go_wp2_with fail
    clear d5
    go_loopw [35] (fun v35 wr => PutRel m w1.heap.size w1 v35 wr) (fun v35 _ => m.imgs.length - (intOf v35).toNat)
    case atStart => exact ⟨0, Nat.zero_le _, rfl, by simpa [imgsL] using hbld3, hB3⟩
    case round =>
      obtain ⟨j, hj, rfl, hbld, hB⟩ := hrel
      clear hbld3 hB3
      by_cases hlt : j < m.imgs.length
      · obtain ⟨b, off, rfl, ci, cs⟩ := imgs_cell Hv.out (hbw.trans (hB.mono (by omega))) j hlt
        have hx := Himg.out m.imgs[j] (List.getElem_mem hlt)
        have hstep : imgsL (m.imgs.take (j + 1)) = imgsL (m.imgs.take j) ++ (eight m.imgs[j].1 ++ m.imgs[j].2) := by rw [List.take_succ_eq_append_getElem hlt, imgsL_snoc]
        have hlen : (headL m ++ imgsL (m.imgs.take j)).length ≤ 48 + 520 * 256 := by
          rw [List.length_append, headL_length, imgsL_length _ (fun x hx => (Himg.out x (List.mem_of_mem_take hx)).1)]
          simp; omega
        have Hstep := hid hstep
        have Hlen := hid hlen
        clear hstep hlen
        obtain ⟨x, hx1⟩ : ∃ x, x = m.imgs[j] := ⟨_, rfl⟩
        obtain ⟨pg, dat⟩ := x
        rw [← hx1] at ci cs hx Hstep
        simp only at ci cs hx Hstep
        clear hx1
        obtain ⟨hd, hpg0, hpg1⟩ := hx
        have Hd := hid hd
        clear hd
        go_wp2_with fail
        refine (words_text' [pg] 1 _ 1 _ rfl (by omega) ?_ ?_).mono ?_
        · intro i hi
          simp only [List.length_cons, List.length_nil] at hi
          match i, hi with
          | 0, _ => simp
        · intro n hn'
          simp only [List.mem_cons, List.not_mem_nil, or_false] at hn'
          subst hn'
          omega
        rintro e w4 ⟨rfl, hb4⟩
        have hbld4 := bld_kept (Lib.BuilderAtF.alloc' (Lib.BuilderAtF.alloc' hbld _) _) hb4
        have hB4 : Below w1.heap.size w1 w4 := ((hB.alloc hB.size _).alloc (by simp; have := hB.size; omega) _).trans (hb4.mono (by simp; have := hB.size; omega))
        have hx4 := (hb4.block wr.heap.size (by simp only [World.size_alloc]; omega)).trans (heap_alloc_old (heap_alloc_new _ _))
        have hne : wr.heap.size ≠ w1.heap.size := by have := bld_lt hbld; omega
        clear hb4 hbld hB ci cs
        have hw8 := wordsL_length [pg]
        have Hw8 := hid hw8
        clear hw8
        go_wp2_with fail
        refine (writeString_any _ _ _ _ _ hbld4 (by rw [Hw8.out]; have := Hlen.out; simp only [List.length_cons, List.length_nil]; omega) hB4.size).mono ?_
        rintro e w5 ⟨rfl, hbld5, hf5⟩
        have hB5 := hB4.trans (ws_below hf5 hB4.size)
        have hx5 := ws_keeps hf5 hx4 (by decide) hne
        have e1 := cell_of_block hx5 1
        simp at e1
        clear hbld4 hB4 hf5 hx5 hx4 hne
        go_wp2_with fail
        refine (writeString_any _ _ _ _ _ hbld5 (by rw [List.length_append, Hw8.out, Hd.out]; have := Hlen.out; simp only [List.length_cons, List.length_nil]; omega) hB5.size).mono ?_
        rintro e w6 ⟨rfl, hbld6, hf6⟩
        have hB6 := hB5.trans (ws_below hf6 hB5.size)
        clear hbld5 hB5 hf6 e1
        have hbld7 : BldF w1.heap.size w1.heap.size (headL m ++ imgsL (m.imgs.take (j + 1))) w6 := by
          rw [Hstep.out, ← List.append_assoc, ← List.append_assoc]
          have : wordsL [pg] = eight pg := by simp [wordsL]
          rw [this] at hbld6
          exact hbld6
        clear hbld6
        go_wp2_with fail
        go_roundw
        case rel => exact ⟨j + 1, by omega, by go_num, hbld7, hB6⟩
        case measure => simp [intOf]; omega
      · have hend : m.imgs.take j = m.imgs := List.take_of_length_le (by omega)
        rw [hend] at hbld
        have hbody : headL m ++ imgsL m.imgs = bodyL m := rfl
        rw [hbody] at hbld
        have hblen : (bodyL m).length ≤ 9223372036854775807 - 8 := by
          unfold bodyL
          rw [List.length_append, headL_length, imgsL_length _ (fun x hx => (Himg.out x hx).1)]
          omega
        have hbd := sumAdd_bd (0, 0) (bodyL m) (by decide) (by decide)
        have hput : putL m = textOf (sumAdd (0, 0) (bodyL m)) ++ bodyL m := rfl
        have Hput := hid hput
        have htl : (textOf (sumAdd (0, 0) (bodyL m))).length = 8 := rfl
        have Htl := hid htl
        obtain ⟨q, hq⟩ : ∃ q, q = sumAdd (0, 0) (bodyL m) := ⟨_, rfl⟩
        have hof := of_any (bodyL m)
        rw [← hq] at hbd Hput Htl hof
        have Hof := hid hof
        obtain ⟨B, hBd⟩ : ∃ B, B = bodyL m := ⟨_, rfl⟩
        rw [← hBd] at hbld hblen Hput Hof
        obtain ⟨⟨q0, q1⟩, q2, q3⟩ := hbd
        clear hq hBd hput htl hof hend hbody
        go_wp2_with fail
        refine (string_any _ _ _ _ hbld hB.size).mono ?_
        rintro e w4 ⟨rfl, hb4⟩
        have hB4 := hB.trans hb4
        clear hb4 hbld hB
        go_wp2_with fail
        refine (Hof.out _ (by omega)).mono ?_
        rintro e w5 ⟨rfl, hb5⟩
        have hB5 := hB4.trans (hb5.mono hB4.size)
        clear hb5 hB4
        go_wp2_with fail
        refine (text_any q _ q0 q1 q2 q3).mono ?_
        rintro e w6 ⟨rfl, hb6⟩
        have hB6 := hB5.trans (hb6.mono hB5.size)
        clear hb6 hB5
        have htl2 := Htl.out
        have hsum : (textOf q).length + B.length ≤ 9223372036854775807 := by omega
        clear htl2
        go_wp2_with fail
        go_ret2
        exact ⟨by rw [Hput.out]; rfl, hbw.trans (hB6.mono (by omega))⟩
  · have hfull' : m.full = false := by simpa using hfull
    rw [hfull'] at c3 Hhead
    rw [if_neg (by decide)] at Hhead
    clear hfull hfull'
    go_wp2_with fail
    refine (words_text' [m.kind, m.epoch, m.k, 0, m.pages, (m.imgs.length : Int)] 6 _ 6 _ rfl (by omega) ?_ ?_).mono ?_
    · intro j hj
      simp only [List.length_cons, List.length_nil] at hj
      match j, hj with
      | 0, _ => simp
      | 1, _ => simp
      | 2, _ => simp
      | 3, _ => simp
      | 4, _ => simp
      | 5, _ => simp
    · intro n hn'
      simp only [List.mem_cons, List.not_mem_nil, or_false] at hn'
      rcases hn' with rfl | rfl | rfl | rfl | rfl | rfl <;> omega
    rintro e w2 ⟨rfl, hb2⟩
    have hbld2 : BldF w1.heap.size w1.heap.size [] w2 := bld_kept (Lib.BuilderAtF.alloc' (fresh_bld w1) _) hb2
    have hB2 : Below w1.heap.size w1 w2 := (((Below.refl _ _).alloc (Nat.le_refl _) _).alloc (by simp) _).trans (hb2.mono (by simp; omega))
    have hl := wordsL_length [m.kind, m.epoch, m.k, 0, m.pages, (m.imgs.length : Int)]
    have Hl := hid hl
    clear hl hb2 c0 c1 c2 c3 c4
    go_wp2_with fail
    refine (writeString_any _ _ _ _ _ hbld2 (by rw [Hl.out]; simp) hB2.size).mono ?_
    rintro e w3 ⟨rfl, hbld3, hf3⟩
    have hB3 := hB2.trans (ws_below hf3 hB2.size)
    have d5 : w3.cell? ⟨w.heap.size, 5, none⟩ = some (.slice ao m.imgs.length cap) := by rw [hB3.cell (p := ⟨w.heap.size, 5, none⟩) hsz]; exact c5
    clear hbld2 hB2 hf3 c5 Hl
    rw [List.nil_append, ← Hhead.out] at hbld3
    go_wp2_with fail
    clear d5
    go_loopw [35] (fun v35 wr => PutRel m w1.heap.size w1 v35 wr) (fun v35 _ => m.imgs.length - (intOf v35).toNat)
    case atStart => exact ⟨0, Nat.zero_le _, rfl, by simpa [imgsL] using hbld3, hB3⟩
    case round =>
      obtain ⟨j, hj, rfl, hbld, hB⟩ := hrel
      clear hbld3 hB3
      by_cases hlt : j < m.imgs.length
      · obtain ⟨b, off, rfl, ci, cs⟩ := imgs_cell Hv.out (hbw.trans (hB.mono (by omega))) j hlt
        have hx := Himg.out m.imgs[j] (List.getElem_mem hlt)
        have hstep : imgsL (m.imgs.take (j + 1)) = imgsL (m.imgs.take j) ++ (eight m.imgs[j].1 ++ m.imgs[j].2) := by rw [List.take_succ_eq_append_getElem hlt, imgsL_snoc]
        have hlen : (headL m ++ imgsL (m.imgs.take j)).length ≤ 48 + 520 * 256 := by
          rw [List.length_append, headL_length, imgsL_length _ (fun x hx => (Himg.out x (List.mem_of_mem_take hx)).1)]
          simp; omega
        have Hstep := hid hstep
        have Hlen := hid hlen
        clear hstep hlen
        obtain ⟨x, hx1⟩ : ∃ x, x = m.imgs[j] := ⟨_, rfl⟩
        obtain ⟨pg, dat⟩ := x
        rw [← hx1] at ci cs hx Hstep
        simp only at ci cs hx Hstep
        clear hx1
        obtain ⟨hd, hpg0, hpg1⟩ := hx
        have Hd := hid hd
        clear hd
        go_wp2_with fail
        refine (words_text' [pg] 1 _ 1 _ rfl (by omega) ?_ ?_).mono ?_
        · intro i hi
          simp only [List.length_cons, List.length_nil] at hi
          match i, hi with
          | 0, _ => simp
        · intro n hn'
          simp only [List.mem_cons, List.not_mem_nil, or_false] at hn'
          subst hn'
          omega
        rintro e w4 ⟨rfl, hb4⟩
        have hbld4 := bld_kept (Lib.BuilderAtF.alloc' (Lib.BuilderAtF.alloc' hbld _) _) hb4
        have hB4 : Below w1.heap.size w1 w4 := ((hB.alloc hB.size _).alloc (by simp; have := hB.size; omega) _).trans (hb4.mono (by simp; have := hB.size; omega))
        have hx4 := (hb4.block wr.heap.size (by simp only [World.size_alloc]; omega)).trans (heap_alloc_old (heap_alloc_new _ _))
        have hne : wr.heap.size ≠ w1.heap.size := by have := bld_lt hbld; omega
        clear hb4 hbld hB ci cs
        have hw8 := wordsL_length [pg]
        have Hw8 := hid hw8
        clear hw8
        go_wp2_with fail
        refine (writeString_any _ _ _ _ _ hbld4 (by rw [Hw8.out]; have := Hlen.out; simp only [List.length_cons, List.length_nil]; omega) hB4.size).mono ?_
        rintro e w5 ⟨rfl, hbld5, hf5⟩
        have hB5 := hB4.trans (ws_below hf5 hB4.size)
        have hx5 := ws_keeps hf5 hx4 (by decide) hne
        have e1 := cell_of_block hx5 1
        simp at e1
        clear hbld4 hB4 hf5 hx5 hx4 hne
        go_wp2_with fail
        refine (writeString_any _ _ _ _ _ hbld5 (by rw [List.length_append, Hw8.out, Hd.out]; have := Hlen.out; simp only [List.length_cons, List.length_nil]; omega) hB5.size).mono ?_
        rintro e w6 ⟨rfl, hbld6, hf6⟩
        have hB6 := hB5.trans (ws_below hf6 hB5.size)
        clear hbld5 hB5 hf6 e1
        have hbld7 : BldF w1.heap.size w1.heap.size (headL m ++ imgsL (m.imgs.take (j + 1))) w6 := by
          rw [Hstep.out, ← List.append_assoc, ← List.append_assoc]
          have : wordsL [pg] = eight pg := by simp [wordsL]
          rw [this] at hbld6
          exact hbld6
        clear hbld6
        go_wp2_with fail
        go_roundw
        case rel => exact ⟨j + 1, by omega, by go_num, hbld7, hB6⟩
        case measure => simp [intOf]; omega
      · have hend : m.imgs.take j = m.imgs := List.take_of_length_le (by omega)
        rw [hend] at hbld
        have hbody : headL m ++ imgsL m.imgs = bodyL m := rfl
        rw [hbody] at hbld
        have hblen : (bodyL m).length ≤ 9223372036854775807 - 8 := by
          unfold bodyL
          rw [List.length_append, headL_length, imgsL_length _ (fun x hx => (Himg.out x hx).1)]
          omega
        have hbd := sumAdd_bd (0, 0) (bodyL m) (by decide) (by decide)
        have hput : putL m = textOf (sumAdd (0, 0) (bodyL m)) ++ bodyL m := rfl
        have Hput := hid hput
        have htl : (textOf (sumAdd (0, 0) (bodyL m))).length = 8 := rfl
        have Htl := hid htl
        obtain ⟨q, hq⟩ : ∃ q, q = sumAdd (0, 0) (bodyL m) := ⟨_, rfl⟩
        have hof := of_any (bodyL m)
        rw [← hq] at hbd Hput Htl hof
        have Hof := hid hof
        obtain ⟨B, hBd⟩ : ∃ B, B = bodyL m := ⟨_, rfl⟩
        rw [← hBd] at hbld hblen Hput Hof
        obtain ⟨⟨q0, q1⟩, q2, q3⟩ := hbd
        clear hq hBd hput htl hof hend hbody
        go_wp2_with fail
        refine (string_any _ _ _ _ hbld hB.size).mono ?_
        rintro e w4 ⟨rfl, hb4⟩
        have hB4 := hB.trans hb4
        clear hb4 hbld hB
        go_wp2_with fail
        refine (Hof.out _ (by omega)).mono ?_
        rintro e w5 ⟨rfl, hb5⟩
        have hB5 := hB4.trans (hb5.mono hB4.size)
        clear hb5 hB4
        go_wp2_with fail
        refine (text_any q _ q0 q1 q2 q3).mono ?_
        rintro e w6 ⟨rfl, hb6⟩
        have hB6 := hB5.trans (hb6.mono hB5.size)
        clear hb6 hB5
        have htl2 := Htl.out
        have hsum : (textOf q).length + B.length ≤ 9223372036854775807 := by omega
        clear htl2
        go_wp2_with fail
        go_ret2
        exact ⟨by rw [Hput.out]; rfl, hbw.trans (hB6.mono (by omega))⟩
end Go.Proofs.Ytdgpdfigipplpaa
