/- The pager's laws: works; slices.Equal of rows of strings; the law PagerRolls. -/
import Derived.Test.YtmajfepbbeecjaaGreatPhC
namespace Go.Proofs.YtmajfepbbeecjaaGreat
open Go.RowKit Go.Maps
set_option linter.unusedVariables false
set_option linter.unusedSimpArgs false
set_option maxRecDepth 20000

section
variable {w W W' : World} {pb l b : Nat} {p p' : Pg} {g g' : Lg} {d d' : Dsk} {X X' : Nat → Prop}
/-! ### works -/
def p0 : Pg := ⟨none, [], 0⟩
def wP1 : Pg := (beginM p0 exG0).2
def wP2 : Pg := (presizeM wP1 2).2
def wP3 : Pg := (pwriteM wP2 2 (pageOf 119)).2
def wC : Int × Pg × Lg × Dsk := pcommitM wP3 exG0 newM
def wG : Lg := (lopenM wC.2.2.2).1.getD exG0
theorem wk_begin : (beginM p0 exG0).1 = 0 := rfl
theorem wk_resize : (presizeM wP1 2).1 = 0 := rfl
theorem wk_write : (pwriteM wP2 2 (pageOf 119)).1 = 0 := by decide +kernel
theorem wk_commit : wC.1 = 0 := by decide +kernel
theorem wk_open : lopenM wC.2.2.2 = (some wG, 0) := by
  have h1 : (lopenM wC.2.2.2).1.isSome = true := by decide +kernel
  have h2 : (lopenM wC.2.2.2).2 = 0 := by decide +kernel
  obtain ⟨g, hg⟩ := Option.isSome_iff_exists.1 h1
  unfold wG
  rw [hg, ← h2, ← hg]
  simp only [hg, Option.getD_some]
  rw [← hg]
theorem wk_pages : ppagesM p0 wG = 2 := by decide +kernel
theorem wk_read : preadM p0 wG wC.2.2.2 2 = (pageOf 119, 0) := by decide +kernel
attribute [local irreducible] wP1 wP2 wP3 wC wG pageOf exG0
theorem px_fresh (h : MkD w W b newM) : Calls Tryz.prog 9 #[.pointer (some ⟨b, 0, none⟩)] W fun e w' => ∃ pb l, e = .returned (.tuple #[.pointer (some ⟨pb, 0, none⟩), .int .i64 0]) ∧ PgX w w' pb l b p0 exG0 newM (fun k => k < w.heap.size) := px_open h ex_open
theorem w_begin (h : PgX w W pb l b p0 exG0 newM X) : Calls Tryz.prog 11 #[.pointer (some ⟨pb, 0, none⟩)] W fun e w' => e = .returned (.int .i64 0) ∧ PgX w w' pb l b wP1 exG0 newM X := by
  have A := px_begin h
  rw [wk_begin] at A
  unfold wP1
  exact A.mono fun e w' hh => ⟨hh.1, hh.2.1⟩
theorem w_resize (h : PgX w W pb l b wP1 exG0 newM X) : Calls Tryz.prog 12 #[.pointer (some ⟨pb, 0, none⟩), .int .i64 2] W fun e w' => e = .returned (.int .i64 0) ∧ PgX w w' pb l b wP2 exG0 newM X := by
  have A := px_resize h 2 (by decide)
  rw [wk_resize] at A
  unfold wP2
  exact A.mono fun e w' hh => ⟨hh.1, hh.2.1⟩
theorem w_write (h : PgX w W pb l b wP2 exG0 newM X) : Calls Tryz.prog 27 #[.pointer (some ⟨pb, 0, none⟩), .int .i64 2, .string (bs (pageOf 119))] W fun e w' => e = .returned (.int .i64 0) ∧ PgX w w' pb l b wP3 exG0 newM X := by
  have A := px_write h 2 (pageOf 119) (by decide) (by rw [pageOf_length]; decide)
  rw [wk_write] at A
  unfold wP3
  exact A.mono fun e w' hh => ⟨hh.1, hh.2.1⟩
theorem w_commit (h : PgX w W pb l b wP3 exG0 newM X) : Calls Tryz.prog 14 #[.pointer (some ⟨pb, 0, none⟩)] W fun e w' => e = .returned (.int .i64 0) ∧ PgX w w' pb l b wC.2.1 wC.2.2.1 wC.2.2.2 X := by
  have A := px_commit h 100 new_small (by decide)
  have e := wk_commit
  unfold wC at e ⊢
  rw [e] at A
  exact A.mono fun e w' hh => ⟨hh.1, hh.2.1⟩
theorem w_open (h : PgX w W pb l b wC.2.1 wC.2.2.1 wC.2.2.2 X) : Calls Tryz.prog 9 #[.pointer (some ⟨b, 0, none⟩)] W fun e w' => ∃ pb l, e = .returned (.tuple #[.pointer (some ⟨pb, 0, none⟩), .int .i64 0]) ∧ PgX w w' pb l b p0 wG wC.2.2.2 (fun k => k < w.heap.size) := px_open h.log.mk'.disk wk_open
theorem w_pages (h : PgX w W pb l b p0 wG wC.2.2.2 X) : Calls Tryz.prog 26 #[.pointer (some ⟨pb, 0, none⟩)] W fun e w' => e = .returned (.int .i64 2) ∧ w' = W := by
  have A := px_pages h
  rw [wk_pages] at A
  exact A
theorem w_read (h : PgX w W pb l b p0 wG wC.2.2.2 X) : Calls Tryz.prog 29 #[.pointer (some ⟨pb, 0, none⟩), .int .i64 2] W fun e w' => e = .returned (.tuple #[.string (bs (pageOf 119)), .int .i64 0]) ∧ PgX w w' pb l b p0 wG wC.2.2.2 X := by
  have A := px_read h 2 (by decide)
  rw [wk_read] at A
  exact A.mono fun e w' hh => ⟨hh.1, h.below hh.2⟩
theorem w_page (W : World) : Calls Tryz.prog 28 #[.int .u8 119] W fun e w' => e = .returned (.string (bs (pageOf 119))) ∧ Below W.heap.size W w' := lpage_any 119 W
set_option maxHeartbeats 2000000 in
set_option maxRecDepth 20000 in
theorem works_any (w : World) : Calls Tryz.prog 7 #[] w fun e w' => e = .returned (.bool true) ∧ Below w.heap.size w w' := by
  have hbb : (pageOf 119 == pageOf 119) = true := by simp
  go_enter Tryz.func7, Tryz.ntmps7
  go_upto_region 5 with (first
    | (go_at_call 10; refine (mk_new _).mono ?_; rintro e w1 ⟨b, rfl, hd1⟩; have Hd1 := hid hd1; clear hd1)
    | (go_at_call 9; refine (px_fresh Hd1.out).mono ?_; rintro e w2 ⟨pb, l, rfl, hm2⟩; have Hm2 := hid hm2; clear hm2 Hd1)
    | (go_at_call 11; refine (w_begin Hm2.out).mono ?_; rintro e w3 ⟨rfl, hm3⟩; have Hm3 := hid hm3; clear hm3 Hm2)
    | (go_at_call 12; refine (w_resize Hm3.out).mono ?_; rintro e w4 ⟨rfl, hm4⟩; have Hm4 := hid hm4; clear hm4 Hm3)
    | (go_at_call 28; refine (w_page _).mono ?_; rintro e w5 ⟨rfl, hb5⟩; have Hm5 := hid (Hm4.out.below hb5); clear hb5 Hm4)
    | (go_at_call 27; refine (w_write Hm5.out).mono ?_; rintro e w6 ⟨rfl, hm6⟩; have Hm6 := hid hm6; clear hm6 Hm5)
    | (go_at_call 14; refine (w_commit Hm6.out).mono ?_; rintro e w7 ⟨rfl, hm7⟩; have Hm7 := hid hm7; clear hm7 Hm6)
    | go_in)
  go_wp2_with (first
    | (go_at_call 9; refine (w_open Hm7.out).mono ?_; rintro e w8 ⟨pb2, l2, rfl, hm8⟩; have Hm8 := hid hm8; clear hm8 Hm7)
    | (go_at_call 26; refine (w_pages Hm8.out).mono ?_; rintro e w9 ⟨rfl, hw⟩; obtain rfl := hw.symm)
    | (go_at_call 29; refine (w_read Hm8.out).mono ?_; rintro e w10 ⟨rfl, hm10⟩; have Hm10 := hid hm10; clear hm10 Hm8)
    | (go_at_call 28; refine (w_page _).mono ?_; rintro e w11 ⟨rfl, hb11⟩; have Hm11 := hid (Hm10.out.below hb11); clear hb11 Hm10)
    | go_in)
  go_ret
  exact ⟨rfl, Hm11.out.bel⟩

/-! ### Rows of strings -/
theorem StrRow.keep {base : Nat} {v : Value} {l : List (List UInt8)} (h : StrRow W base v l) (hk : ∀ k, v.ownBlock = some k → W'.heap[k]? = W.heap[k]?) : StrRow W' base v l := row_keep h hk
theorem StrRow.cell {base g cap : Nat} {l : List (List UInt8)} (h : StrRow W base (.slice (some ⟨g, 0, none⟩) l.length cap) l) {i : Nat} (hi : i < l.length) : W.cell? ⟨g, i, none⟩ = some (.string (bs l[i])) := by
  have := World.ownsRow.cellAt h i (by omega)
  rw [this]
  simp [strV, hi]
theorem str_equal {b1 b2 : Nat} {v1 v2 : Value} {l : List (List UInt8)} (h1 : StrRow W b1 v1 l) (h2 : StrRow W b2 v2 l) (hl : l.length ≤ 1000) :
    Calls Tryz.prog 18 #[v1, v2] W fun e w' => e = .returned (.bool true) ∧ Below W.heap.size W w' := by
  have hcell : ∀ {g cap base : Nat}, StrRow W base (.slice (some ⟨g, 0, none⟩) l.length cap) l → ∀ j, j < (l.map bs).length → W.cell? ⟨g, 0 + j, none⟩ = some (.string ((l.map bs).getD j ByteArray.empty)) := by
    intro g cap base h j hj
    have hj2 : j < l.length := by simpa using hj
    rw [Nat.zero_add, h.cell hj2]
    simp [hj2]
  rcases row_form h1 with ⟨rfl, h0⟩ | ⟨g1, c1, rfl⟩
  · have e2 : ∃ a2 c2, v2 = .slice a2 l.length c2 := by
      rcases row_form h2 with ⟨rfl, e0⟩ | ⟨g, cap, rfl⟩
      · exact ⟨none, 0, by rw [e0]⟩
      · exact ⟨_, cap, rfl⟩
    obtain ⟨a2, c2, rfl⟩ := e2
    refine (Tryz.slices_Equal_string_empty none a2 0 l.length c2 W (by omega)).mono ?_
    rintro e w' ⟨rfl, rfl⟩
    exact ⟨by simp [h0], Below.refl _ _⟩
  · rcases row_form h2 with ⟨rfl, e0⟩ | ⟨g2, c2, rfl⟩
    · rw [e0]
      refine (Tryz.slices_Equal_string_empty _ none c1 0 0 W (by omega)).mono ?_
      rintro e w' ⟨rfl, rfl⟩
      exact ⟨by simp, Below.refl _ _⟩
    · refine (Tryz.slices_Equal_string g1 0 l.length c1 g2 0 l.length c2 (l.map bs) (l.map bs) W (by simp) (by simp) (by omega) (by omega) (hcell h1) (hcell h2)).mono ?_
      rintro e w' ⟨rfl, q, rfl⟩
      exact ⟨by simp, below_drewN (Below.refl _ _) _⟩
theorem pgsL_length (p : Pg) (g : Lg) (d : Dsk) : (pgsL p g d).length ≤ 31 := by
  unfold pgsL
  rw [List.length_append, pgsR_length]
  unfold pgCount
  simp
  omega
end
/-- A script that came in. -/
structure PScript (w0 : Nat) (w : World) (v : Value) (l : List POp) : Prop where
  ops : OpsAt w (fun q => q < w0) v l
  len : l.length ≤ 9223372036854775807
  n64 : ∀ x ∈ l, in64 x.n
  keeps : ∀ x ∈ l, KeepAt w (.slice x.ka x.keep.length x.kcap) x.keep ∧ ∀ g, keepBlk (.slice x.ka x.keep.length x.kcap) x.keep = some g → g < w0 ∧ g < w.heap.size
theorem PScript.below {w0 : Nat} {w w' : World} {v : Value} {l : List POp} (h : PScript w0 w v l) (hb : Below w.heap.size w w') : PScript w0 w' v l :=
  ⟨h.ops.keep fun k hk _ => hb.block k hk, h.len, h.n64, fun x hx => ⟨(h.keeps x hx).1.keep fun g hg => hb.block g ((h.keeps x hx).2 g hg).2, fun g hg => ⟨((h.keeps x hx).2 g hg).1, Nat.lt_of_lt_of_le ((h.keeps x hx).2 g hg).2 hb.size⟩⟩⟩
end Go.Proofs.YtmajfepbbeecjaaGreat
