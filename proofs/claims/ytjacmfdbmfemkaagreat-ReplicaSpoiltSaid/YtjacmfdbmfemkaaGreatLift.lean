/- For the lifts: arguments one by one, and that they all read as they did. -/
import Derived.Test.YtjacmfdbmfemkaaGreatBase
import Derived.Test.YtjacmfdbmfemkaaGreatRows
import Derived.ProofKit
import Derived.SizedLaws
import Derived.OpenShut
import Derived.Deep.Fields
import Derived.Deep.Slices
set_option linter.unusedVariables false
set_option linter.unusedSimpArgs false
namespace Go.Proofs.YtjacmfdbmfemkaaGreat
open Go.ChangeShapes Go.WideShapes Go.ChangeAt Go.RowKit Go.Deep
set_option maxRecDepth 20000
theorem own : ownKnob Tryz.prog.godebug = none := by kernel_rfl
theorem laidOut : laidOutB Tryz.prog = true := by kernel_rfl
section
variable {H : Type} {enc : TypeId × Value → H} {w : World} {base : Nat} {sp : Nat → Bool} {held : Bool}
theorem open_cells_struct {ts : TypeId} {fs : Array Field} {fuel : Nat} {cs : List Value} {x : DataW H × List MemPlace} (hs : Tryz.prog.underlying ts = some (.struct fs))
  (hone : oneCellFields Tryz.prog fs = true) (hC : Tryz.prog.cellsOf ts = fs.size) (h : DataW.trod enc Tryz.prog w base sp held fuel ts cs = some x) :
  cs.length = fs.size ∧ ∃ n, ∀ (i : Nat) (f : Field), fs[i]? = some f → ∃ y, DataW.trod enc Tryz.prog w base sp held n f.type [cs.getD i undef] = some y := by
 obtain ⟨xs, n, _, _, hl, hx, hf⟩ := DataW.trod_struct hs h
 rw [hC] at hl
 refine ⟨hl, n, fun i f hi => ?_⟩
 have hlt : i < fs.size := (Array.getElem?_eq_some_iff.1 hi).1
 obtain ⟨ho, hc⟩ := hone_of hone i f hi
 have := hf i f hi
 rw [ho, hc, take1_drop cs i undef (by omega), List.getElem?_eq_getElem (by omega)] at this
 exact ⟨_, this⟩
theorem trod_each : ∀ {ts : List TypeId} {vs : List Value} {ds : List (DataW H)} {ps : List MemPlace}, DataW.TrodAll enc Tryz.prog w base sp held ts vs ds ps →
  vs.length = ts.length ∧ ∀ (i : Nat) (t : TypeId) (v : Value), ts[i]? = some t → vs[i]? = some v → ∃ d p, DataW.Trod enc Tryz.prog w base sp held t v d p
 | [], vs, ds, ps, h => by
  obtain ⟨rfl, rfl, rfl⟩ := trodAll_nil h
  exact ⟨rfl, fun i t v ht _ => by simp at ht⟩
 | t :: ts, vs, ds, ps, h => by
  obtain ⟨v, vs', d, ds', p, q, rfl, rfl, rfl, h1, h2⟩ := trodAll_cons h
  obtain ⟨e1, e2⟩ := trod_each h2
  refine ⟨by simp [e1], fun i t' v' ht hv => ?_⟩
  cases i with
  | zero =>
   simp only [List.getElem?_cons_zero, Option.some.injEq] at ht hv
   subst ht hv
   exact ⟨d, p, h1⟩
  | succ i =>
   simp only [List.getElem?_cons_succ] at ht hv
   exact e2 i t' v' ht hv
theorem trod_ds : ∀ {ts : List TypeId} {vs : List Value} {ds : List (DataW H)} {ps : List MemPlace}, DataW.TrodAll enc Tryz.prog w base sp held ts vs ds ps → ds.length = ts.length
 | [], vs, ds, ps, h => by
  obtain ⟨rfl, rfl, rfl⟩ := trodAll_nil h
  rfl
 | t :: ts, vs, ds, ps, h => by
  obtain ⟨v, vs', d, ds', p, q, rfl, rfl, rfl, h1, h2⟩ := trodAll_cons h
  simp [trod_ds h2]
end
def readB (P : Program) (ts : List TypeId) : Bool := ts.all fun t => P.readableRec t && decide (t < P.types.size)
theorem below_all {H : Type} {enc : TypeId × Value → H} {P : Program} {W W' : World} (hl : laidOutB P = true) (hb : Below W.heap.size W W') : ∀ {ts : List TypeId} {vs : List Value} {ds : List (DataW H)} {ps : List MemPlace}, readB P ts = true →
  DataW.TrodAll enc P W 0 (fun _ => true) true ts vs ds ps → (∀ x ∈ ps, x.block < W.heap.size) → DataW.TrodAll enc P W' 0 (fun b => decide (b < W.heap.size)) true ts vs ds ps
 | [], vs, ds, ps, _, h, _ => by
  obtain ⟨rfl, rfl, rfl⟩ := trodAll_nil h
  exact trodAll_mk0
 | t :: ts, vs, ds, ps, hr, h, hlt => by
  obtain ⟨v, vs', d, ds', p, q, rfl, rfl, rfl, h1, h2⟩ := trodAll_cons h
  simp only [readB, List.all_cons, Bool.and_eq_true, decide_eq_true_eq] at hr
  exact trodAll_cons_mk (Below.trod hl hr.1.1 hr.1.2 h1 hb (fun x hx => hlt x (by simp [hx]))) (below_all hl hb (by simpa [readB] using hr.2) h2 (fun x hx => hlt x (by simp [hx])))
theorem args_four {a : Array Value} (h : a.toList.length = 4) : ∃ v0 v1 v2 v3, a = #[v0, v1, v2, v3] := by
 obtain ⟨l⟩ := a
 match l, h with
 | [v0, v1, v2, v3], _ => exact ⟨v0, v1, v2, v3, rfl⟩
theorem list_four {α : Type} {l : List α} (h : l.length = 4) : ∃ d0 d1 d2 d3, l = [d0, d1, d2, d3] := by
 match l, h with
 | [d0, d1, d2, d3], _ => exact ⟨d0, d1, d2, d3, rfl⟩
theorem u8_wf {n : Int} (h : (Lit.int .u8 n).wf = true) : 0 ≤ n ∧ n < 256 := by
 have h' : (decide ((0 : Int) ≤ n) && decide (n ≤ 255)) = true := h
 simp at h'
 omega
theorem u8_of {n : Int} (h : (Lit.int .u8 n).wf = true) : ∃ b : UInt8, n = (b.toNat : Int) := by
 have h' := u8_wf h
 exact ⟨UInt8.ofNat n.toNat, by simp; omega⟩
end Go.Proofs.YtjacmfdbmfemkaaGreat
