/- The law PagerKnown: the document's examples; no pager, no view. -/
import Derived.Test.YtmajfepbbeecjaaGreatPhD
namespace Go.Proofs.YtmajfepbbeecjaaGreat
open Go.RowKit Go.Maps
set_option linter.unusedVariables false
set_option linter.unusedSimpArgs false
set_option maxRecDepth 20000

def kP1 : Pg := (beginM p0 exG0).2
def kP2 : Pg := (presizeM kP1 2).2
def kP3 : Pg := (pwriteM kP2 2 (pageOf 97)).2
def kP4 : Pg := (psaveM kP3).2.2
def kP5 : Pg := (pwriteM kP4 2 (pageOf 98)).2
def kP6 : Pg := (pbackM kP5 1).2
def kP7 : Pg := (preleaseM kP6 1).2
def kC1 : Int × Pg × Lg × Dsk := pcommitM kP7 exG0 newM
def kG1 : Lg := kC1.2.2.1
def kD1 : Dsk := kC1.2.2.2
def pv : Pg := ⟨none, [], 1⟩
def kV1 : Pg := (beginM pv kG1).2
def kV2 : Pg := (presizeM kV1 1).2
def kC2 : Int × Pg × Lg × Dsk := pcommitM kV2 kG1 kD1
def kG2 : Lg := kC2.2.2.1
def kD2 : Dsk := kC2.2.2.2
def kC3 : Int × Lg × Dsk := lcheckM kG2 kD2
def kG3 : Lg := kC3.2.1
def kD3 : Dsk := kC3.2.2
theorem f_pages0 : ppagesM p0 exG0 = 0 := rfl
theorem f_write0 : pwriteM p0 1 (pageOf 0) = (9, p0) := rfl
theorem f_begin0 : beginM p0 exG0 = (0, kP1) := rfl
theorem f_begin1 : beginM kP1 exG0 = (9, kP1) := rfl
theorem f_read1 : preadM kP1 exG0 newM 1 = ([], 5) := by decide +kernel
theorem f_resize1 : presizeM kP1 2 = (0, kP2) := Prod.ext (by decide +kernel) rfl
theorem f_write2 : pwriteM kP2 2 (pageOf 97) = (0, kP3) := Prod.ext (by decide +kernel) rfl
theorem f_save3 : psaveM kP3 = (1, 0, kP4) := Prod.ext (by decide +kernel) (Prod.ext (by decide +kernel) rfl)
theorem f_write4 : pwriteM kP4 2 (pageOf 98) = (0, kP5) := Prod.ext (by decide +kernel) rfl
theorem f_back5 : pbackM kP5 1 = (0, kP6) := Prod.ext (by decide +kernel) rfl
theorem f_read6 : preadM kP6 exG0 newM 2 = (pageOf 97, 0) := by decide +kernel
theorem back_refused {p : Pg} {k : Int} (h : p.now ≠ none) (hk : k < 1 ∨ (p.saves.length : Int) < k) : pbackM p k = (5, p) := by
  unfold pbackM
  split
  · rename_i e; exact absurd e h
  · rw [if_pos hk]
theorem k6_now : kP6.now ≠ none := by
  intro e
  have h : kP6.now.isSome = true := by decide +kernel
  rw [e] at h
  cases h
theorem k7_now : kP7.now ≠ none := by
  intro e
  have h : kP7.now.isSome = true := by decide +kernel
  rw [e] at h
  cases h
theorem kV2_now : kV2.now ≠ none := by
  intro e
  have h : kV2.now.isSome = true := by decide +kernel
  rw [e] at h
  cases h
theorem f_back6 : pbackM kP6 2 = (5, kP6) := back_refused k6_now (by decide +kernel)
theorem f_release6 : preleaseM kP6 1 = (0, kP7) := Prod.ext (by decide +kernel) rfl
theorem f_back7 : pbackM kP7 1 = (5, kP7) := back_refused k7_now (by decide +kernel)
theorem f_commit7 : pcommitM kP7 exG0 newM = (0, p0, kG1, kD1) := by
  have h1 : kC1.1 = 0 := by decide +kernel
  have h2 : kC1.2.1 = p0 := by
    unfold kC1
    rw [commit_pg kP7 _ _ k7_now]
    have h3 : kP7.opn = 0 := by decide +kernel
    unfold emptied p0
    rw [h3]
  exact Prod.ext h1 (Prod.ext h2 rfl)
theorem f_pages8 : ppagesM p0 kG1 = 2 := by decide +kernel
theorem f_roll8 : prollM p0 = (9, p0) := rfl
theorem f_head8 : kG1.head.pages = 2 := by decide +kernel
theorem f_view8 : ({ p0 with opn := p0.opn + 1 } : Pg) = pv := rfl
theorem f_begin8 : beginM pv kG1 = (0, kV1) := rfl
theorem f_resize8 : presizeM kV1 1 = (0, kV2) := Prod.ext (by decide +kernel) rfl
theorem f_commit9 : pcommitM kV2 kG1 kD1 = (0, pv, kG2, kD2) := by
  have h1 : kC2.1 = 0 := by decide +kernel
  have h2 : kC2.2.1 = pv := by
    unfold kC2
    rw [commit_pg kV2 _ _ kV2_now]
    have h3 : kV2.opn = 1 := by decide +kernel
    unfold emptied pv
    rw [h3]
  exact Prod.ext h1 (Prod.ext h2 rfl)
theorem f_check9 : pcheckM pv kG2 kD2 = (9, kG2, kD2) := rfl
theorem f_close9 : ({ pv with opn := pv.opn - 1 } : Pg) = p0 := rfl
theorem f_check10 : pcheckM p0 kG2 kD2 = (0, kG3, kD3) := by
  have h1 : kC3.1 = 0 := by decide +kernel
  have h2 : pcheckM p0 kG2 kD2 = kC3 := rfl
  rw [h2]
  exact Prod.ext h1 rfl
theorem kD1_small : kD1.Small 8519780 := by
  have h := commit_small (g := exG0) (d := newM) 100 (by decide +kernel) new_small kP7
  exact h
theorem kD2_small : kD2.Small 17039460 := by
  have h := commit_small (g := kG1) (d := kD1) 8519780 (by rw [f_head8]; decide) kD1_small kV2
  exact h
attribute [local irreducible] kP1 kP2 kP3 kP4 kP5 kP6 kP7 kG1 kD1 kV1 kV2 kG2 kD2 kG3 kD3 pageOf exG0 newM p0 pv
section
variable {w W W' : World} {pb l b vb : Nat} {X X' : Nat → Prop}
theorem k_form {pages mark : Int} {closed : Bool} (h : VwAt W vb pb pages mark closed) : W.heap[vb]? = some (.cells #[.pointer (some ⟨pb, 0, none⟩), .int .i64 pages, .int .i64 mark, .bool closed] 124 (0, 0)) := h
theorem k_keep {pages mark : Int} {closed : Bool} (h : VwAt W vb pb pages mark closed) (hk : W'.heap[vb]? = W.heap[vb]?) : VwAt W' vb pb pages mark closed := hk.trans h

theorem k_pages0 (h : PgX w W pb l b p0 exG0 newM X) : Calls Tryz.prog 26 #[Value.pointer (some ⟨pb, 0, none⟩)] W fun e w' => e = .returned (.int .i64 0) ∧ PgX w w' pb l b p0 exG0 newM X ∧ ∀ k, X k → w'.heap[k]? = W.heap[k]? := by
  have A := px_pages h
  rw [f_pages0] at A
  exact A.mono fun e w' hh => ⟨hh.1, by rw [hh.2]; exact h, fun k _ => by rw [hh.2]⟩
theorem k_write0 (h : PgX w W pb l b p0 exG0 newM X) : Calls Tryz.prog 27 #[Value.pointer (some ⟨pb, 0, none⟩), .int .i64 1, .string (bs (pageOf 0))] W fun e w' => e = .returned (.int .i64 9) ∧ PgX w w' pb l b p0 exG0 newM X ∧ ∀ k, X k → w'.heap[k]? = W.heap[k]? := by
  have A := px_write h 1 (pageOf 0) (by decide) (by rw [pageOf_length]; decide)
  rw [f_write0] at A
  exact A
theorem k_begin0 (h : PgX w W pb l b p0 exG0 newM X) : Calls Tryz.prog 11 #[Value.pointer (some ⟨pb, 0, none⟩)] W fun e w' => e = .returned (.int .i64 0) ∧ PgX w w' pb l b kP1 exG0 newM X ∧ ∀ k, X k → w'.heap[k]? = W.heap[k]? := by
  have A := px_begin h
  rw [f_begin0] at A
  exact A
theorem k_begin1 (h : PgX w W pb l b kP1 exG0 newM X) : Calls Tryz.prog 11 #[Value.pointer (some ⟨pb, 0, none⟩)] W fun e w' => e = .returned (.int .i64 9) ∧ PgX w w' pb l b kP1 exG0 newM X ∧ ∀ k, X k → w'.heap[k]? = W.heap[k]? := by
  have A := px_begin h
  rw [f_begin1] at A
  exact A
theorem k_read1 (h : PgX w W pb l b kP1 exG0 newM X) : Calls Tryz.prog 29 #[Value.pointer (some ⟨pb, 0, none⟩), .int .i64 1] W fun e w' => e = .returned (.tuple #[.string (bs []), .int .i64 5]) ∧ PgX w w' pb l b kP1 exG0 newM X ∧ ∀ k, X k → w'.heap[k]? = W.heap[k]? := by
  have A := px_read h 1 (by decide)
  rw [f_read1] at A
  exact A.mono fun e w' hh => ⟨hh.1, h.below hh.2, fun k hk => hh.2.block k (h.xlt k hk)⟩
theorem k_resize1 (h : PgX w W pb l b kP1 exG0 newM X) : Calls Tryz.prog 12 #[Value.pointer (some ⟨pb, 0, none⟩), .int .i64 2] W fun e w' => e = .returned (.int .i64 0) ∧ PgX w w' pb l b kP2 exG0 newM X ∧ ∀ k, X k → w'.heap[k]? = W.heap[k]? := by
  have A := px_resize h 2 (by decide)
  rw [f_resize1] at A
  exact A
theorem k_write2 (h : PgX w W pb l b kP2 exG0 newM X) : Calls Tryz.prog 27 #[Value.pointer (some ⟨pb, 0, none⟩), .int .i64 2, .string (bs (pageOf 97))] W fun e w' => e = .returned (.int .i64 0) ∧ PgX w w' pb l b kP3 exG0 newM X ∧ ∀ k, X k → w'.heap[k]? = W.heap[k]? := by
  have A := px_write h 2 (pageOf 97) (by decide) (by rw [pageOf_length]; decide)
  rw [f_write2] at A
  exact A
theorem k_save3 (h : PgX w W pb l b kP3 exG0 newM X) : Calls Tryz.prog 16 #[Value.pointer (some ⟨pb, 0, none⟩)] W fun e w' => e = .returned (.tuple #[.int .i64 1, .int .i64 0]) ∧ PgX w w' pb l b kP4 exG0 newM X ∧ ∀ k, X k → w'.heap[k]? = W.heap[k]? := by
  have A := px_save h
  rw [f_save3] at A
  exact A
theorem k_write4 (h : PgX w W pb l b kP4 exG0 newM X) : Calls Tryz.prog 27 #[Value.pointer (some ⟨pb, 0, none⟩), .int .i64 2, .string (bs (pageOf 98))] W fun e w' => e = .returned (.int .i64 0) ∧ PgX w w' pb l b kP5 exG0 newM X ∧ ∀ k, X k → w'.heap[k]? = W.heap[k]? := by
  have A := px_write h 2 (pageOf 98) (by decide) (by rw [pageOf_length]; decide)
  rw [f_write4] at A
  exact A
theorem k_back5 (h : PgX w W pb l b kP5 exG0 newM X) : Calls Tryz.prog 17 #[Value.pointer (some ⟨pb, 0, none⟩), .int .i64 1] W fun e w' => e = .returned (.int .i64 0) ∧ PgX w w' pb l b kP6 exG0 newM X ∧ ∀ k, X k → w'.heap[k]? = W.heap[k]? := by
  have A := px_back h 1 (by decide)
  rw [f_back5] at A
  exact A
theorem k_read6 (h : PgX w W pb l b kP6 exG0 newM X) : Calls Tryz.prog 29 #[Value.pointer (some ⟨pb, 0, none⟩), .int .i64 2] W fun e w' => e = .returned (.tuple #[.string (bs (pageOf 97)), .int .i64 0]) ∧ PgX w w' pb l b kP6 exG0 newM X ∧ ∀ k, X k → w'.heap[k]? = W.heap[k]? := by
  have A := px_read h 2 (by decide)
  rw [f_read6] at A
  exact A.mono fun e w' hh => ⟨hh.1, h.below hh.2, fun k hk => hh.2.block k (h.xlt k hk)⟩
theorem k_back6 (h : PgX w W pb l b kP6 exG0 newM X) : Calls Tryz.prog 17 #[Value.pointer (some ⟨pb, 0, none⟩), .int .i64 2] W fun e w' => e = .returned (.int .i64 5) ∧ PgX w w' pb l b kP6 exG0 newM X ∧ ∀ k, X k → w'.heap[k]? = W.heap[k]? := by
  have A := px_back h 2 (by decide)
  rw [f_back6] at A
  exact A
theorem k_release6 (h : PgX w W pb l b kP6 exG0 newM X) : Calls Tryz.prog 30 #[Value.pointer (some ⟨pb, 0, none⟩), .int .i64 1] W fun e w' => e = .returned (.int .i64 0) ∧ PgX w w' pb l b kP7 exG0 newM X ∧ ∀ k, X k → w'.heap[k]? = W.heap[k]? := by
  have A := px_release h 1 (by decide)
  rw [f_release6] at A
  exact A
theorem k_back7 (h : PgX w W pb l b kP7 exG0 newM X) : Calls Tryz.prog 17 #[Value.pointer (some ⟨pb, 0, none⟩), .int .i64 1] W fun e w' => e = .returned (.int .i64 5) ∧ PgX w w' pb l b kP7 exG0 newM X ∧ ∀ k, X k → w'.heap[k]? = W.heap[k]? := by
  have A := px_back h 1 (by decide)
  rw [f_back7] at A
  exact A
theorem k_commit7 (h : PgX w W pb l b kP7 exG0 newM X) : Calls Tryz.prog 14 #[Value.pointer (some ⟨pb, 0, none⟩)] W fun e w' => e = .returned (.int .i64 0) ∧ PgX w w' pb l b p0 kG1 kD1 X ∧ ∀ k, X k → w'.heap[k]? = W.heap[k]? := by
  have A := px_commit h 100 new_small (by decide)
  rw [f_commit7] at A
  exact A
theorem k_pages8 (h : PgX w W pb l b p0 kG1 kD1 X) : Calls Tryz.prog 26 #[Value.pointer (some ⟨pb, 0, none⟩)] W fun e w' => e = .returned (.int .i64 2) ∧ PgX w w' pb l b p0 kG1 kD1 X ∧ ∀ k, X k → w'.heap[k]? = W.heap[k]? := by
  have A := px_pages h
  rw [f_pages8] at A
  exact A.mono fun e w' hh => ⟨hh.1, by rw [hh.2]; exact h, fun k _ => by rw [hh.2]⟩
theorem k_roll8 (h : PgX w W pb l b p0 kG1 kD1 X) : Calls Tryz.prog 19 #[Value.pointer (some ⟨pb, 0, none⟩)] W fun e w' => e = .returned (.int .i64 9) ∧ PgX w w' pb l b p0 kG1 kD1 X ∧ ∀ k, X k → w'.heap[k]? = W.heap[k]? := by
  have A := px_roll h
  rw [f_roll8] at A
  exact A
theorem k_view8 (h : PgX w W pb l b p0 kG1 kD1 X) : Calls Tryz.prog 21 #[.pointer (some ⟨pb, 0, none⟩)] W fun e w' => ∃ vb, e = .returned (.tuple #[.pointer (some ⟨vb, 0, none⟩), .int .i64 0]) ∧ PgX w w' pb l b pv kG1 kD1 (fun k => k = vb) ∧ VwAt w' vb pb 2 (kG1.list.length : Int) false ∧ W.heap.size ≤ vb := by
  have A := px_view h (by unfold p0; decide)
  rw [f_head8, f_view8] at A
  refine A.mono ?_
  rintro e w' ⟨vb, rfl, h1, h2, h3, h4⟩
  exact ⟨vb, rfl, px_add h1 (Below.refl _ _) (fun k hk => .inl (.inr hk)) (fun k hk => h1.xlt k (.inr hk)), h3, h4⟩
theorem k_begin8 (h : PgX w W pb l b pv kG1 kD1 X) : Calls Tryz.prog 11 #[Value.pointer (some ⟨pb, 0, none⟩)] W fun e w' => e = .returned (.int .i64 0) ∧ PgX w w' pb l b kV1 kG1 kD1 X ∧ ∀ k, X k → w'.heap[k]? = W.heap[k]? := by
  have A := px_begin h
  rw [f_begin8] at A
  exact A
theorem k_resize8 (h : PgX w W pb l b kV1 kG1 kD1 X) : Calls Tryz.prog 12 #[Value.pointer (some ⟨pb, 0, none⟩), .int .i64 1] W fun e w' => e = .returned (.int .i64 0) ∧ PgX w w' pb l b kV2 kG1 kD1 X ∧ ∀ k, X k → w'.heap[k]? = W.heap[k]? := by
  have A := px_resize h 1 (by decide)
  rw [f_resize8] at A
  exact A
theorem k_commit9 (h : PgX w W pb l b kV2 kG1 kD1 X) : Calls Tryz.prog 14 #[Value.pointer (some ⟨pb, 0, none⟩)] W fun e w' => e = .returned (.int .i64 0) ∧ PgX w w' pb l b pv kG2 kD2 X ∧ ∀ k, X k → w'.heap[k]? = W.heap[k]? := by
  have A := px_commit h 8519780 kD1_small (by decide)
  rw [f_commit9] at A
  exact A
theorem k_check9 (h : PgX w W pb l b pv kG2 kD2 X) : Calls Tryz.prog 22 #[Value.pointer (some ⟨pb, 0, none⟩)] W fun e w' => e = .returned (.int .i64 9) ∧ PgX w w' pb l b pv kG2 kD2 X ∧ ∀ k, X k → w'.heap[k]? = W.heap[k]? := by
  have A := px_check h 17039460 kD2_small (by decide)
  rw [f_check9] at A
  exact A
theorem k_close9 (h : PgX w W pb l b pv kG2 kD2 (fun k => k = vb)) (hw : w.heap.size ≤ vb) (hv : VwAt W vb pb 2 (kG1.list.length : Int) false) : Calls Tryz.prog 25 #[.pointer (some ⟨vb, 0, none⟩)] W fun e w' => e = .returned (.int .i64 0) ∧ PgX w w' pb l b p0 kG2 kD2 (fun k => k = vb) ∧ VwAt w' vb pb 2 (kG1.list.length : Int) true := by
  have A := vclose_any h rfl hw hv (by unfold pv; decide)
  rw [f_close9] at A
  exact A.mono fun e w' hh => ⟨hh.1, hh.2.1, hh.2.2.2⟩
theorem k_check10 (h : PgX w W pb l b p0 kG2 kD2 X) : Calls Tryz.prog 22 #[Value.pointer (some ⟨pb, 0, none⟩)] W fun e w' => e = .returned (.int .i64 0) ∧ PgX w w' pb l b p0 kG3 kD3 X ∧ ∀ k, X k → w'.heap[k]? = W.heap[k]? := by
  have A := px_check h 17039460 kD2_small (by decide)
  rw [f_check10] at A
  exact A
theorem k_page (c : UInt8) (n : Int) (hn : n = (c.toNat : Int)) (W : World) : Calls Tryz.prog 28 #[.int .u8 n] W fun e w' => e = .returned (.string (bs (pageOf c))) ∧ Below W.heap.size W w' := by rw [hn]; exact lpage_any c W
end

set_option maxHeartbeats 4000000 in
set_option maxRecDepth 20000 in
theorem pgknown_any (y0 : World) : Calls Tryz.prog 5 #[] y0 fun e w' => e = .returned (.bool true) ∧ Below y0.heap.size y0 w' := by
  have hbb : (pageOf 97 == pageOf 97) = true := by simp
  have hbc : (pageOf 97 != pageOf 97) = false := by simp
  go_enter Tryz.func5, Tryz.ntmps5
  go_upto_region 11 with (first
    | (go_at_call 10; with_reducible refine (mk_new _).mono ?_; rintro e y1 ⟨b, rfl, hd1⟩; have Hd1 := hid hd1; clear hd1)
    | (go_at_call 9; with_reducible refine (px_fresh Hd1.out).mono ?_; rintro e y2 ⟨pb, l, rfl, hm2⟩; have M0 := hid (px_add (X' := fun _ => False) hm2 (Below.refl _ _) (fun k hk => hk.elim) (fun k hk => hk.elim)); clear hm2 Hd1)
    | (go_at_call 26; with_reducible refine (k_pages0 M0.out).mono ?_; rintro e x1 ⟨rfl, hm, hk⟩; have M1 := hid hm; clear hm hk M0)
    | (go_at_call 28; with_reducible refine (k_page 0 0 (by decide) _).mono ?_; rintro e x2 ⟨rfl, hb⟩; have M2 := hid (M1.out.below hb); clear hb M1)
    | (go_at_call 27; with_reducible refine (k_write0 M2.out).mono ?_; rintro e x3 ⟨rfl, hm, hk⟩; have M3 := hid hm; clear hm hk M2)
    | (go_at_call 11; with_reducible refine (k_begin0 M3.out).mono ?_; rintro e x4 ⟨rfl, hm, hk⟩; have M4 := hid hm; clear hm hk M3)
    | (go_at_call 11; with_reducible refine (k_begin1 M4.out).mono ?_; rintro e x5 ⟨rfl, hm, hk⟩; have M5 := hid hm; clear hm hk M4)
    | (go_at_call 29; with_reducible refine (k_read1 M5.out).mono ?_; rintro e x6 ⟨rfl, hm, hk⟩; have M6 := hid hm; clear hm hk M5)
    | (go_at_call 12; with_reducible refine (k_resize1 M6.out).mono ?_; rintro e x7 ⟨rfl, hm, hk⟩; have M7 := hid hm; clear hm hk M6)
    | (go_at_call 28; with_reducible refine (k_page 97 97 (by decide) _).mono ?_; rintro e x8 ⟨rfl, hb⟩; have M8 := hid (M7.out.below hb); clear hb M7)
    | (go_at_call 27; with_reducible refine (k_write2 M8.out).mono ?_; rintro e x9 ⟨rfl, hm, hk⟩; have M9 := hid hm; clear hm hk M8)
    | (go_at_call 16; with_reducible refine (k_save3 M9.out).mono ?_; rintro e x10 ⟨rfl, hm, hk⟩; have M10 := hid hm; clear hm hk M9)
    | (go_at_call 28; with_reducible refine (k_page 98 98 (by decide) _).mono ?_; rintro e x11 ⟨rfl, hb⟩; have M11 := hid (M10.out.below hb); clear hb M10)
    | (go_at_call 27; with_reducible refine (k_write4 M11.out).mono ?_; rintro e x12 ⟨rfl, hm, hk⟩; have M12 := hid hm; clear hm hk M11)
    | (go_at_call 17; with_reducible refine (k_back5 M12.out).mono ?_; rintro e x13 ⟨rfl, hm, hk⟩; have M13 := hid hm; clear hm hk M12)
    | (go_at_call 29; with_reducible refine (k_read6 M13.out).mono ?_; rintro e x14 ⟨rfl, hm, hk⟩; have M14 := hid hm; clear hm hk M13)
    | go_in)
  go_upto_region 14 with (first
    | (go_at_call 28; with_reducible refine (k_page 97 97 (by decide) _).mono ?_; rintro e x15 ⟨rfl, hb⟩; have M15 := hid (M14.out.below hb); clear hb M14)
    | (go_at_call 17; with_reducible refine (k_back6 M15.out).mono ?_; rintro e x16 ⟨rfl, hm, hk⟩; have M16 := hid hm; clear hm hk M15)
    | (go_at_call 30; with_reducible refine (k_release6 M16.out).mono ?_; rintro e x17 ⟨rfl, hm, hk⟩; have M17 := hid hm; clear hm hk M16)
    | (go_at_call 17; with_reducible refine (k_back7 M17.out).mono ?_; rintro e x18 ⟨rfl, hm, hk⟩; have M18 := hid hm; clear hm hk M17)
    | (go_at_call 14; with_reducible refine (k_commit7 M18.out).mono ?_; rintro e x19 ⟨rfl, hm, hk⟩; have M19 := hid hm; clear hm hk M18)
    | (go_at_call 26; with_reducible refine (k_pages8 M19.out).mono ?_; rintro e x20 ⟨rfl, hm, hk⟩; have M20 := hid hm; clear hm hk M19)
    | (go_at_call 19; with_reducible refine (k_roll8 M20.out).mono ?_; rintro e x21 ⟨rfl, hm, hk⟩; have M21 := hid hm; clear hm hk M20)
    | (go_at_call 21; with_reducible refine (k_view8 M21.out).mono ?_; rintro e x22 ⟨vb, rfl, hm, hv, hvb⟩; have M22 := hid hm; have V22 := hid hv; have HVb := hid (show y0.heap.size ≤ vb from Nat.le_trans M21.out.bel.size hvb); clear hm hv hvb M21)
    | go_in)
  go_upto_region 19 with (first
    | (go_at_call 11; with_reducible refine (k_begin8 M22.out).mono ?_; rintro e x23 ⟨rfl, hm, hk⟩; have M23 := hid hm; have V23 := hid (k_keep V22.out (hk vb rfl)); clear hm hk M22 V22)
    | (go_at_call 12; with_reducible refine (k_resize8 M23.out).mono ?_; rintro e x24 ⟨rfl, hm, hk⟩; have M24 := hid hm; have V24 := hid (k_keep V23.out (hk vb rfl)); clear hm hk M23 V23)
    | (go_at_call 14; with_reducible refine (k_commit9 M24.out).mono ?_; rintro e x25 ⟨rfl, hm, hk⟩; have M25 := hid hm; have V25 := hid (k_keep V24.out (hk vb rfl)); clear hm hk M24 V24)
    | (go_at_call 24; with_reducible refine (vpages_any V25.out).mono ?_; rintro e z1 ⟨rfl, hw⟩; obtain rfl := hw.symm; simp only [Bool.false_eq_true, if_false]; skip)
    | (go_at_call 22; with_reducible refine (k_check9 M25.out).mono ?_; rintro e x26 ⟨rfl, hm, hk⟩; have M26 := hid hm; have V26 := hid (k_keep V25.out (hk vb rfl)); clear hm hk M25 V25)
    | (go_at_call 25; with_reducible refine (k_close9 M26.out HVb.out V26.out).mono ?_; rintro e x27 ⟨rfl, hm, hv⟩; have M27 := hid hm; have V27 := hid hv; clear hm hv M26 V26)
    | (go_at_call 22; with_reducible refine (k_check10 M27.out).mono ?_; rintro e x28 ⟨rfl, hm, hk⟩; have M28 := hid hm; have V28 := hid (k_keep V27.out (hk vb rfl)); clear hm hk M27 V27)
    | (go_at_call 25; with_reducible refine (closed_close (k_form V28.out)).mono ?_; rintro e z2 ⟨rfl, hw⟩; obtain rfl := hw.symm)
    | (go_at_call 24; with_reducible refine (vpages_any V28.out).mono ?_; rintro e z3 ⟨rfl, hw⟩; obtain rfl := hw.symm; simp only [if_true])
    | (go_at_call 23; with_reducible refine (closed_read (k_form V28.out) 1).mono ?_; rintro e z4 ⟨rfl, hw⟩; obtain rfl := hw.symm)
    | go_in)
  go_wp2_with (first
    | (go_at_call 29; with_reducible refine (pread_nil).mono ?_; rintro e z5 ⟨rfl, hw⟩; obtain rfl := hw.symm)
    | (go_at_call 16; with_reducible refine (psave_nil).mono ?_; rintro e z5 ⟨rfl, hw⟩; obtain rfl := hw.symm)
    | (go_at_call 21; with_reducible refine (pview_nil).mono ?_; rintro e z5 ⟨rfl, hw⟩; obtain rfl := hw.symm)
    | (go_at_call 26; with_reducible refine (ppages_nil).mono ?_; rintro e z5 ⟨rfl, hw⟩; obtain rfl := hw.symm)
    | (go_at_call 11; with_reducible refine (pbegin_nil).mono ?_; rintro e z5 ⟨rfl, hw⟩; obtain rfl := hw.symm)
    | (go_at_call 27; with_reducible refine (pwrite_nil).mono ?_; rintro e z5 ⟨rfl, hw⟩; obtain rfl := hw.symm)
    | (go_at_call 12; with_reducible refine (presize_nil).mono ?_; rintro e z5 ⟨rfl, hw⟩; obtain rfl := hw.symm)
    | (go_at_call 17; with_reducible refine (pback_nil).mono ?_; rintro e z5 ⟨rfl, hw⟩; obtain rfl := hw.symm)
    | (go_at_call 30; with_reducible refine (prelease_nil).mono ?_; rintro e z5 ⟨rfl, hw⟩; obtain rfl := hw.symm)
    | (go_at_call 19; with_reducible refine (proll_nil).mono ?_; rintro e z5 ⟨rfl, hw⟩; obtain rfl := hw.symm)
    | (go_at_call 14; with_reducible refine (pcommit_nil).mono ?_; rintro e z5 ⟨rfl, hw⟩; obtain rfl := hw.symm)
    | (go_at_call 22; with_reducible refine (pcheck_nil).mono ?_; rintro e z5 ⟨rfl, hw⟩; obtain rfl := hw.symm)
    | (go_at_call 31; with_reducible refine (plog_nil).mono ?_; rintro e z5 ⟨rfl, hw⟩; obtain rfl := hw.symm)
    | (go_at_call 23; with_reducible refine (vread_nil).mono ?_; rintro e z5 ⟨rfl, hw⟩; obtain rfl := hw.symm)
    | (go_at_call 24; with_reducible refine (vpages_nil).mono ?_; rintro e z5 ⟨rfl, hw⟩; obtain rfl := hw.symm)
    | (go_at_call 25; with_reducible refine (vclose_nil).mono ?_; rintro e z5 ⟨rfl, hw⟩; obtain rfl := hw.symm)
    | go_in)
  go_ret
  exact ⟨rfl, M28.out.bel⟩
end Go.Proofs.YtmajfepbbeecjaaGreat
