/- For the lifts: arguments one by one, and that they all read as they did. -/
import Derived.Test.YtdinjghfjmmjoaaGreatBase
import Derived.Test.YtdinjghfjmmjoaaGreatRows
import Derived.ProofKit
import Derived.SizedLaws
import Derived.OpenShut
import Derived.Deep.Fields
import Derived.Deep.Slices
import Derived.Test.YtdinjghfjmmjoaaGreatUvC
import Derived.Test.YtdinjghfjmmjoaaGreatUtB
import Derived.Test.YtdinjghfjmmjoaaGreatNxF
set_option linter.unusedVariables false
set_option linter.unusedSimpArgs false
namespace Go.Proofs.YtdinjghfjmmjoaaGreat
open Go.ChangeShapes Go.WideShapes Go.ChangeAt Go.RowKit Go.Deep
set_option maxRecDepth 20000
theorem own : ownKnob Tryz.prog.godebug = none := by kernel_rfl
theorem laidOut : laidOutB Tryz.prog = true := by kernel_rfl
section
variable {H : Type} {enc : TypeId × Value → H} {w : World} {base : Nat} {sp : Nat → Bool} {held : Bool}
theorem open_cells_struct {ts : TypeId} {fs : Array Field} {fuel : Nat} {cs : List Value} {x : DataW H × List MemPlace} (hs : Tryz.prog.underlying ts = some (.struct fs))
    (hone : oneCellFields Tryz.prog fs = true) (hC : Tryz.prog.cellsOf ts = fs.size) (h : DataW.trod enc Tryz.prog w base sp held fuel ts cs = some x) :
    cs.length = fs.size ∧ ∃ n, ∀ (i : Nat) (f : Field), fs[i]? = some f → ∃ y, DataW.trod enc Tryz.prog w base sp held n f.type [cs.getD i undef] = some y := by
  obtain ⟨xs, n, _, _, hl, hx, hf⟩ := DataW.trod_struct hs h
  rw [hC] at hl
  refine ⟨hl, n, fun i f hi => ?_⟩
  have hlt : i < fs.size := (Array.getElem?_eq_some_iff.1 hi).1
  obtain ⟨ho, hc⟩ := hone_of hone i f hi
  have := hf i f hi
  rw [ho, hc, take1_drop cs i undef (by omega), List.getElem?_eq_getElem (by omega)] at this
  exact ⟨_, this⟩
theorem trod_each : ∀ {ts : List TypeId} {vs : List Value} {ds : List (DataW H)} {ps : List MemPlace}, DataW.TrodAll enc Tryz.prog w base sp held ts vs ds ps →
    vs.length = ts.length ∧ ∀ (i : Nat) (t : TypeId) (v : Value), ts[i]? = some t → vs[i]? = some v → ∃ d p, DataW.Trod enc Tryz.prog w base sp held t v d p
  | [], vs, ds, ps, h => by
    obtain ⟨rfl, rfl, rfl⟩ := trodAll_nil h
    exact ⟨rfl, fun i t v ht _ => by simp at ht⟩
  | t :: ts, vs, ds, ps, h => by
    obtain ⟨v, vs', d, ds', p, q, rfl, rfl, rfl, h1, h2⟩ := trodAll_cons h
    obtain ⟨e1, e2⟩ := trod_each h2
    refine ⟨by simp [e1], fun i t' v' ht hv => ?_⟩
    cases i with
    | zero =>
      simp only [List.getElem?_cons_zero, Option.some.injEq] at ht hv
      subst ht hv
      exact ⟨d, p, h1⟩
    | succ i =>
      simp only [List.getElem?_cons_succ] at ht hv
      exact e2 i t' v' ht hv
theorem trod_ds : ∀ {ts : List TypeId} {vs : List Value} {ds : List (DataW H)} {ps : List MemPlace}, DataW.TrodAll enc Tryz.prog w base sp held ts vs ds ps → ds.length = ts.length
  | [], vs, ds, ps, h => by
    obtain ⟨rfl, rfl, rfl⟩ := trodAll_nil h
    rfl
  | t :: ts, vs, ds, ps, h => by
    obtain ⟨v, vs', d, ds', p, q, rfl, rfl, rfl, h1, h2⟩ := trodAll_cons h
    simp [trod_ds h2]
end
def readB (P : Program) (ts : List TypeId) : Bool := ts.all fun t => P.readableRec t && decide (t < P.types.size)
theorem below_all {H : Type} {enc : TypeId × Value → H} {P : Program} {W W' : World} (hl : laidOutB P = true) (hb : Below W.heap.size W W') : ∀ {ts : List TypeId} {vs : List Value} {ds : List (DataW H)} {ps : List MemPlace}, readB P ts = true →
    DataW.TrodAll enc P W 0 (fun _ => true) true ts vs ds ps → (∀ x ∈ ps, x.block < W.heap.size) → DataW.TrodAll enc P W' 0 (fun b => decide (b < W.heap.size)) true ts vs ds ps
  | [], vs, ds, ps, _, h, _ => by
    obtain ⟨rfl, rfl, rfl⟩ := trodAll_nil h
    exact trodAll_mk0
  | t :: ts, vs, ds, ps, hr, h, hlt => by
    obtain ⟨v, vs', d, ds', p, q, rfl, rfl, rfl, h1, h2⟩ := trodAll_cons h
    simp only [readB, List.all_cons, Bool.and_eq_true, decide_eq_true_eq] at hr
    exact trodAll_cons_mk (Below.trod hl hr.1.1 hr.1.2 h1 hb (fun x hx => hlt x (by simp [hx]))) (below_all hl hb (by simpa [readB] using hr.2) h2 (fun x hx => hlt x (by simp [hx])))
theorem args_two {a : Array Value} (h : a.toList.length = 2) : ∃ v0 v1, a = #[v0, v1] := by
  obtain ⟨l⟩ := a
  match l, h with
  | [v0, v1], _ => exact ⟨v0, v1, rfl⟩
theorem list_two {α : Type} {l : List α} (h : l.length = 2) : ∃ d0 d1, l = [d0, d1] := by
  match l, h with
  | [d0, d1], _ => exact ⟨d0, d1, rfl⟩
theorem u64_wf {n : Int} (h : (Lit.int .u64 n).wf = true) : 0 ≤ n ∧ n < 18446744073709551616 := by
  have h' : (decide ((0 : Int) ≤ n) && decide (n ≤ 18446744073709551615)) = true := h
  simp at h'
  omega
end Go.Proofs.YtdinjghfjmmjoaaGreat
namespace Go.Proofs.YtdinjghfjmmjoaaGreat
open Go.ChangeShapes Go.WideShapes Go.ChangeAt Go.RowKit Go.Deep
set_option maxRecDepth 20000
set_option maxRecDepth 20000
instance : Inhabited Img := ⟨⟨0, []⟩⟩
instance : Inhabited (Sh × Value) := ⟨(⟨0, 0, 0, false, 0, []⟩, undef)⟩
def ShipsAt (w : World) (v : Value) (l : List (Sh × Value)) : Prop :=
  ∃ ao cap, v = .slice ao l.length cap ∧ ∀ k (hk : k < l.length), ∃ q o, ao = some ⟨q, o, none⟩ ∧ q < w.heap.size ∧ ∀ j u, (shCells l[k].1 l[k].2)[j]? = some u → w.cell? ⟨q, o + k * 6 + j, none⟩ = some u
structure ShipsIn (w : World) (v : Value) (l : List (Sh × Value)) : Prop where
  at' : ShipsAt w v l
  len : l.length ≤ 9223372036854775807
  each : ∀ x ∈ l, ShIn w x.1 x.2
theorem lt_of_cell {w : World} {a : Addr} {v : Value} (h : w.cell? a = some v) : a.block < w.heap.size := by
  rcases Nat.lt_or_ge a.block w.heap.size with h1 | h1
  · exact h1
  · unfold World.cell? at h
    rw [Array.getElem?_eq_none h1] at h
    simp at h
section
variable {H : Type} {enc : TypeId × Value → H} {w : World} {base : Nat} {sp : Nat → Bool} {held : Bool}
end
end Go.Proofs.YtdinjghfjmmjoaaGreat
namespace Go.Proofs.YtdinjghfjmmjoaaGreat
open Go.RowKit Go.Maps
set_option maxRecDepth 20000
section
variable {w W W' : World} {pb l b : Nat} {p : Pg} {g : Lg} {d : Dsk} {X : Nat → Prop} {m : Sh} {v : Value} {L : List (List UInt8)}
theorem px_base {w1 : World} {X : Nat → Prop} (h : PgX w1 W pb l b p g d X) (hb : Below w.heap.size w w1) : PgX w W pb l b p g d X := by
  obtain ⟨⟨F, G, K, nv, sv, h1, h2, h3, h4⟩, hb1, hx⟩ := h
  exact ⟨⟨F, G, K, nv, sv, h1, h2, h3, fun k hk => ⟨Nat.le_trans hb.size (h4 k hk).1, (h4 k hk).2⟩⟩, hb.trans (hb1.mono hb.size), hx⟩
theorem sat_of_row {v : Value} {base : Nat} {l : List Img} (h : ImgRow W base v l) : SImgsAt W v l := by
  obtain ⟨ao, cap, rfl, hc⟩ := h.get
  by_cases h0 : l = []
  · exact .inl ⟨⟨ao, cap, by rw [h0]; rfl⟩, h0⟩
  · obtain ⟨q, rfl, -, -, -, -⟩ := hc 0 (by cases hi : l with | nil => exact absurd hi h0 | cons x r => simp)
    refine .inr ⟨q, 0, cap, rfl, fun j hj => ?_⟩
    obtain ⟨q', e, -, -, c1, c2⟩ := hc j hj
    injection e with e
    injection e with e
    subst e
    rw [Nat.zero_add]
    exact ⟨c1, c2⟩
theorem refSame_self {b1 b2 : Nat} {v1 v2 : Value} (a : Sh) (h1 : ImgRow W b1 v1 a.imgs) (h2 : ImgRow W b2 v2 a.imgs) (n1 : a.imgs.length ≤ 9223372036854775807) :
    Calls Tryz.prog 21 #[shipV a v1, shipV a v2] W fun e w' => e = .returned (.bool true) ∧ Below W.heap.size W w' := by
  have := refSame_any a a v1 v2 W (sat_of_row h1) (sat_of_row h2) n1 n1
  rw [sameB_self] at this
  exact this
structure FoRel (w wr : World) (pb l b i : Nat) (g : Lg) (d : Dsk) (L : List (List UInt8)) (vs : Value) : Prop where
  row : StrRow wr w.heap.size vs L
  good : Good L
  db : Db g d L
  small : d.Small (100 + 8519680 * i)
  px : PgX w wr pb l b p0 g d (fun k => vs.ownBlock = some k)
end
end Go.Proofs.YtdinjghfjmmjoaaGreat
namespace Go.Proofs.YtdinjghfjmmjoaaGreat
open Go.RowKit Go.Maps
set_option maxRecDepth 20000
section
end
end Go.Proofs.YtdinjghfjmmjoaaGreat
/- The law UnitNext: turns that come in, opened out of their readings; rows of rows. -/
namespace Go.Proofs.YtdinjghfjmmjoaaGreat
open Go.ChangeShapes Go.WideShapes Go.ChangeAt Go.RowKit Go.Deep
set_option maxRecDepth 20000
set_option maxRecDepth 20000
def TurnsAt (w : World) (v : Value) (l : List (Int × Int)) : Prop :=
  ∃ ao cap, v = .slice ao l.length cap ∧ ∀ k (hk : k < l.length), ∃ q o, ao = some ⟨q, o, none⟩ ∧ q < w.heap.size ∧ w.cell? ⟨q, o + k * 2, none⟩ = some (.int .i64 l[k].1) ∧ w.cell? ⟨q, o + k * 2 + 1, none⟩ = some (.int .u8 l[k].2)
structure TurnsIn (w : World) (v : Value) (l : List (Int × Int)) : Prop where
  at' : TurnsAt w v l
  len : l.length ≤ 9223372036854775807
  each : ∀ x ∈ l, (-9223372036854775808 ≤ x.1 ∧ x.1 ≤ 9223372036854775807) ∧ 0 ≤ x.2 ∧ x.2 ≤ 255
section
variable {H : Type} {enc : TypeId × Value → H} {w : World} {base : Nat} {sp : Nat → Bool} {held : Bool}
theorem open_turn {fuel : Nat} {cs : List Value} {x : DataW H × List MemPlace} (h : DataW.trod enc Tryz.prog w base sp held fuel 47 cs = some x) :
    ∃ (n c : Int), cs = [.int .i64 n, .int .u8 c] ∧ (-9223372036854775808 ≤ n ∧ n ≤ 9223372036854775807) ∧ 0 ≤ c ∧ c ≤ 255 := by
  obtain ⟨hl, n, hf⟩ := open_cells_struct Tryz.underlying47 (by kernel_rfl) (by kernel_rfl) h
  obtain ⟨a, b, rfl⟩ : ∃ a b, cs = [a, b] := by
    match cs, hl with
    | [a, b], _ => exact ⟨a, b, rfl⟩
  obtain ⟨y0, h0⟩ := hf 0 _ rfl
  obtain ⟨y1, h1⟩ := hf 1 _ rfl
  obtain ⟨p, e0, _, w0⟩ := DataW.trod_int Tryz.underlying3 h0
  obtain ⟨q, e1, _, w1⟩ := DataW.trod_int Tryz.underlying5 h1
  simp at e0 e1
  subst e0 e1
  have w0' : -9223372036854775808 ≤ p ∧ p ≤ 9223372036854775807 := by have h : (decide ((-9223372036854775808 : Int) ≤ p) && decide (p ≤ 9223372036854775807)) = true := w0; simpa using h
  have w1' : 0 ≤ q ∧ q ≤ 255 := by have h : (decide ((0 : Int) ≤ q) && decide (q ≤ 255)) = true := w1; simpa using h
  exact ⟨p, q, rfl, w0', w1'⟩
theorem open_turns_cell {fuel : Nat} {cs : List Value} {x : DataW H × List MemPlace} (h : DataW.trod enc Tryz.prog w base sp held fuel 43 cs = some x) :
    ∃ (v : Value) (l : List (Int × Int)), cs = [v] ∧ TurnsIn w v l := by
  rcases open_slice Tryz.underlying43 h with ⟨rfl, _⟩ | ⟨a, len, cap, m, n, D, Pl, rfl, hb, hle, hcap, hm, _, hx⟩
  · exact ⟨_, [], rfl, ⟨⟨none, 0, rfl, (fun k hk => by simp at hk)⟩, by simp, (fun x hx => by cases hx)⟩⟩
  have hlm : len ≤ m := by rw [hm]; split <;> omega
  have hcells : Tryz.prog.cellsOf 47 = 2 := by kernel_rfl
  rw [hcells] at hx
  obtain ⟨V, hV⟩ := choose_lt (α := Int × Int) (p := fun i y => (w.cell? (a.add (i * 2)) = some (.int .i64 y.1) ∧ w.cell? (a.add (i * 2 + 1)) = some (.int .u8 y.2)) ∧ (-9223372036854775808 ≤ y.1 ∧ y.1 ≤ 9223372036854775807) ∧ 0 ≤ y.2 ∧ y.2 ≤ 255) (n := len) (fun i hi => by
    obtain ⟨cs', h1, h2⟩ := hx i (by omega)
    obtain ⟨p, q, rfl, hq⟩ := open_turn h2
    obtain ⟨_, _, hc⟩ := World.cells?_some h1
    have c0 := hc 0 (by omega)
    have c1 := hc 1 (by omega)
    rw [add_add] at c0 c1
    exact ⟨⟨p, q⟩, ⟨by simpa using c0, by simpa using c1⟩, hq⟩)
  have hm' : maxLen = 9223372036854775807 := rfl
  have hlen : ((List.range len).map V).length = len := by simp
  refine ⟨_, (List.range len).map V, rfl, ⟨⟨some a, cap, by rw [hlen], fun k hk => ?_⟩, by rw [hlen]; omega, fun y hy => ?_⟩⟩
  · rw [hlen] at hk
    obtain ⟨b, off, spot⟩ := a
    have hspot : spot = none := by simpa [Addr.add] using World.cell?_spot (hV 0 (by omega)).1.1
    subst hspot
    have hlt : b < w.heap.size := by simpa [Addr.add] using lt_of_cell (hV 0 (by omega)).1.1
    have h := (hV k hk).1
    simp only [Addr.add_lit] at h
    refine ⟨b, off, rfl, hlt, ?_, ?_⟩
    · simpa using h.1
    · have := h.2
      rw [← Nat.add_assoc] at this
      simpa using this
  · obtain ⟨i, hi, rfl⟩ := List.mem_map.1 hy
    exact (hV i (by simpa using hi)).2
theorem open_turns {b0 : Nat} {v : Value} (hval : Value.okWide Tryz.prog w .any b0 43 v) (h : ∃ d p, DataW.Trod enc Tryz.prog w base sp held 43 v d p) : ∃ (z : Value × List (Int × Int)), v = z.1 ∧ TurnsIn w z.1 z.2 := by
  obtain ⟨d, p, fuel, hf⟩ := h
  obtain ⟨ao, n, cap, rfl⟩ := okWide_slice Tryz.underlying43 hval
  obtain ⟨v, l, e, hl⟩ := open_turns_cell hf
  simp [Value.cells] at e
  subst e
  exact ⟨(_, l), rfl, hl⟩
end
end Go.Proofs.YtdinjghfjmmjoaaGreat
/- The law UnitNext: rows of rows in memory. -/
namespace Go.Proofs.YtdinjghfjmmjoaaGreat
open Go.RowKit Go.Maps
set_option maxRecDepth 20000
def intsV2 (l : List Int) : List Value := l.map fun n => .int .i64 n
def IntRow2 (w : World) (base : Nat) (v : Value) (l : List Int) : Prop := w.ownsRow base 3 1 v l.length (intsV2 l)
theorem IntRow2.at' {w : World} {base : Nat} {v : Value} {l : List Int} (h : IntRow2 w base v l) : IntsAt w v l := by
  obtain ⟨ao, cap, rfl, hc⟩ := row_slice h
  refine ⟨ao, cap, rfl, fun j hj => ?_⟩
  have e : (intsV2 l)[j]? = some (.int .i64 l[j]) := by
    unfold intsV2
    rw [List.getElem?_map, List.getElem?_eq_getElem hj]
    rfl
  rcases row_form h with ⟨e1, h0⟩ | ⟨q, c, e1⟩
  · omega
  · injection e1 with e1 e2 e3
    subst e1
    refine ⟨q, 0, rfl, (row_base h rfl).2, ?_⟩
    have hc := h.cells (g := q) rfl
    have := hc _ _ e
    simp only [Addr.add_lit, Nat.zero_add] at this
    rw [Nat.zero_add]
    exact this
structure RowsAt (W : World) (base : Nat) (vS vA : Value) (S : List (List (List UInt8))) (A : List (List Int)) (X : Nat → Prop) : Prop where
  ex : ∃ sv av : List Value, sv.length = S.length ∧ av.length = A.length ∧ W.ownsRow base 52 1 vS S.length sv ∧ W.ownsRow base 55 1 vA A.length av ∧
    (∀ i (h1 : i < sv.length) (h2 : i < S.length), StrRow W base sv[i] S[i] ∧ ∀ k, sv[i].ownBlock = some k → X k) ∧
    (∀ i (h1 : i < av.length) (h2 : i < A.length), IntRow2 W base av[i] A[i] ∧ ∀ k, av[i].ownBlock = some k → X k)
  s : ∀ k, vS.ownBlock = some k → X k
  a : ∀ k, vA.ownBlock = some k → X k
section
variable {W W' : World} {base : Nat} {vS vA : Value} {S : List (List (List UInt8))} {A : List (List Int)} {X X' : Nat → Prop}
theorem rowsAt_nil (W : World) (base : Nat) (X : Nat → Prop) : RowsAt W base (.slice none 0 0) (.slice none 0 0) [] [] X :=
  ⟨⟨[], [], rfl, rfl, World.ownsRow_nil _ _ _ _, World.ownsRow_nil _ _ _ _, fun i h1 => by simp at h1, fun i h1 => by simp at h1⟩, fun k hk => (by cases hk), fun k hk => (by cases hk)⟩
theorem RowsAt.keep (h : RowsAt W base vS vA S A X) (hk : ∀ k, X k → W'.heap[k]? = W.heap[k]?) : RowsAt W' base vS vA S A X := by
  obtain ⟨⟨sv, av, h1, h2, h3, h4, h5, h6⟩, hs, ha⟩ := h
  exact ⟨⟨sv, av, h1, h2, row_keep h3 (fun k e => hk k (hs k e)), row_keep h4 (fun k e => hk k (ha k e)), fun i a b => ⟨row_keep (h5 i a b).1 (fun k e => hk k ((h5 i a b).2 k e)), (h5 i a b).2⟩, fun i a b => ⟨row_keep (h6 i a b).1 (fun k e => hk k ((h6 i a b).2 k e)), (h6 i a b).2⟩⟩, hs, ha⟩
end
end Go.Proofs.YtdinjghfjmmjoaaGreat
/- Plain laws of UnitNext: what a turn asks and how far a disk grows. -/
namespace Go.Proofs.YtdinjghfjmmjoaaGreat
open Go.RowKit Go.Maps
set_option maxRecDepth 20000
section
variable {g : Lg} {d : Dsk} {L : List (List UInt8)} {S : List (List (List UInt8))} {A : List (List Int)} {lg : Nat}
theorem nx_resize (h : NxInv g d L S A lg) {n : Nat} (hn : 2 ≤ n ∧ n ≤ 21) : ppagesM (spBeginM p0 g d).2 g < n → (presizeM (spBeginM p0 g d).2 n).1 = 0 := by
  intro _
  obtain ⟨h0, hL0, hh0⟩ : ∃ h0, ((L = [] ∧ h0 = hdr0) ∨ ∃ M, L = hdrPg h0 :: M) ∧ HdOk h0 := by
    rcases h.good with rfl | ⟨h0, M, rfl, hh⟩
    · exact ⟨hdr0, .inl ⟨rfl, rfl⟩, hd0_ok⟩
    · exact ⟨h0, .inr ⟨M, rfl⟩, hh⟩
  obtain ⟨t0, M0, s1, T0, -, -⟩ := sp_begin2 (p := p0) h.db.w hL0 hh0 rfl rfl
  obtain ⟨t1, r1, -, -⟩ := tx_resize T0 (n := n) (by omega) (by omega)
  rw [s1]
  exact congrArg (fun x => x.1) r1
theorem spc_small {N : Nat} (hg : g.head.pages ≤ 256) (h : d.Small N) (p : Pg) : (spCommitM p g d).2.2.2.Small (N + 8519680) := by
  have hm := h.mono (M := N + 8519680) (by omega)
  unfold spCommitM
  split
  · exact hm
  split
  · exact hm
  · exact commit_small N hg h _
theorem turn_small {N : Nat} {n : Int} {c : UInt8} (hg : g.head.pages ≤ 256) (h : d.Small N) (p : Pg) : (turnGM p g d n c).2.2.2.Small (N + 8519680) := by
  have hm := h.mono (M := N + 8519680) (by omega)
  unfold turnGM
  by_cases e : (spBeginM p g d).1 ≠ 0
  · rw [if_pos e]; exact hm
  · rw [if_neg e]; exact spc_small hg h _
theorem check_small2 {N : Nat} (hg : g.head.pages ≤ 256) (h : d.Small N) : (lcheckM g d).2.2.Small (N + 8519680) := (ck_small g d N (N + 8388608) (Nat.le_refl _) hg h).mono (by omega)
theorem turn_page (x : Int) : ∃ n : Nat, 2 + Int.tmod (Int.tmod x 20 + 20) 20 = (n : Int) ∧ 2 ≤ n ∧ n ≤ 21 := by
  have h1 : -20 < Int.tmod x 20 ∧ Int.tmod x 20 < 20 := by
    refine ⟨?_, Int.tmod_lt_of_pos x (by decide)⟩
    have := Int.lt_tmod_of_pos x (b := 20) (by decide)
    omega
  have h2 : 0 ≤ Int.tmod (Int.tmod x 20 + 20) 20 := Int.tmod_nonneg _ (by omega)
  have h3 : Int.tmod (Int.tmod x 20 + 20) 20 < 20 := Int.tmod_lt_of_pos _ (by decide)
  exact ⟨(2 + Int.tmod (Int.tmod x 20 + 20) 20).toNat, by omega, by omega, by omega⟩
end
end Go.Proofs.YtdinjghfjmmjoaaGreat
