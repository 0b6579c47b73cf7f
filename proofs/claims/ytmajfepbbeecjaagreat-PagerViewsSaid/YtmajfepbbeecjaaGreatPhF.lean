/- Scripts (Op of counterfoillaw06) that come in, opened out of their readings. -/
import Derived.Test.YtmajfepbbeecjaaGreatLift
import Derived.Test.YtmajfepbbeecjaaGreatPhD
namespace Go.Proofs.YtmajfepbbeecjaaGreat
open Go.ChangeShapes Go.WideShapes Go.ChangeAt Go.RowKit Go.Deep
set_option linter.unusedVariables false
set_option linter.unusedSimpArgs false
set_option maxRecDepth 20000
set_option maxRecDepth 20000

instance : Inhabited POp := ⟨⟨0, 0, 0, false, [], none, 0⟩⟩
theorem lt_of_cell {w : World} {a : Addr} {v : Value} (h : w.cell? a = some v) : a.block < w.heap.size := by
  rcases Nat.lt_or_ge a.block w.heap.size with h1 | h1
  · exact h1
  · unfold World.cell? at h
    rw [Array.getElem?_eq_none h1] at h
    simp at h
section
variable {H : Type} {enc : TypeId × Value → H} {w : World} {base : Nat} {sp : Nat → Bool} {held : Bool}
/-- A row of bools, opened. -/
theorem open_bools_cell {fuel : Nat} {cs : List Value} {x : DataW H × List MemPlace} (h : DataW.trod enc Tryz.prog w base sp held fuel 41 cs = some x) :
    ∃ (ka : Option Addr) (kcap : Nat) (ks : List Bool), cs = [.slice ka ks.length kcap] ∧ KeepAt w (.slice ka ks.length kcap) ks ∧ (∀ g, keepBlk (.slice ka ks.length kcap) ks = some g → g < w.heap.size) ∧ ks.length ≤ 9223372036854775807 := by
  rcases open_slice1 Tryz.underlying41 (by kernel_rfl) h with ⟨rfl, _⟩ | ⟨a, len, cap, m, n, V, D, Pl, rfl, hb, hle, hcap, hm, _, hx⟩
  · exact ⟨none, 0, [], rfl, ⟨none, 0, rfl, .inl rfl⟩, (fun g hg => by cases hg), by simp⟩
  have hlm : len ≤ m := by rw [hm]; split <;> omega
  obtain ⟨B, hB⟩ := choose_lt (α := Bool) (p := fun i b => w.cell? (a.add i) = some (.bool b)) (n := len) (fun i hi => by
    obtain ⟨h1, h2⟩ := hx i (by omega)
    obtain ⟨b, e, _⟩ := DataW.trod_bool Tryz.underlying4 h2
    simp at e
    exact ⟨b, by rw [h1, e]⟩)
  have hm' : maxLen = 9223372036854775807 := rfl
  have hlen : ((List.range len).map B).length = len := by simp
  refine ⟨some a, cap, (List.range len).map B, by rw [hlen], ?_, ?_, by rw [hlen]; omega⟩
  · refine ⟨some a, cap, rfl, ?_⟩
    by_cases h0 : len = 0
    · subst h0
      exact .inl rfl
    · obtain ⟨b, off, spot⟩ := a
      have hspot : spot = none := by simpa [Addr.add] using World.cell?_spot (hB 0 (by omega))
      subst hspot
      refine .inr ⟨b, off, rfl, fun i v hi => ?_⟩
      have hi' : i < len := by
        have := (List.getElem?_eq_some_iff.1 hi).1
        simpa using this
      have e := hB i hi'
      simp only [Addr.add_lit] at e
      rw [e]
      simp [List.getElem?_map, hi'] at hi
      rw [hi]
  · intro g hg
    by_cases h0 : len = 0
    · subst h0
      cases hg
    · have h1 := lt_of_cell (hB 0 (by omega))
      unfold keepBlk at hg
      split at hg
      · cases hg
      · cases hg
        simpa [Addr.add] using h1
/-- What is so of a call that came in. -/
def POpOk (w : World) (y : POp) : Prop := in64 y.n ∧ KeepAt w (.slice y.ka y.keep.length y.kcap) y.keep ∧ ∀ g, keepBlk (.slice y.ka y.keep.length y.kcap) y.keep = some g → g < w.heap.size
/-- A call, opened. -/
theorem open_pop_cells {fuel : Nat} {cs : List Value} {x : DataW H × List MemPlace} (h : DataW.trod enc Tryz.prog w base sp held fuel 43 cs = some x) :
    ∃ y : POp, cs = popCells y ∧ POpOk w y := by
  obtain ⟨hl, n, hf⟩ := open_cells_struct Tryz.underlying43 (by kernel_rfl) (by kernel_rfl) h
  obtain ⟨a0, a1, a2, a3, a4, rfl⟩ : ∃ a0 a1 a2 a3 a4, cs = [a0, a1, a2, a3, a4] := by
    match cs, hl with
    | [a0, a1, a2, a3, a4], _ => exact ⟨a0, a1, a2, a3, a4, rfl⟩
  obtain ⟨y0, h0⟩ := hf 0 _ rfl
  obtain ⟨y1, h1⟩ := hf 1 _ rfl
  obtain ⟨y2, h2⟩ := hf 2 _ rfl
  obtain ⟨y3, h3⟩ := hf 3 _ rfl
  obtain ⟨y4, h4⟩ := hf 4 _ rfl
  obtain ⟨k0, e0, _, w0⟩ := DataW.trod_int Tryz.underlying3 h0
  obtain ⟨k1, e1, _, w1⟩ := DataW.trod_int Tryz.underlying3 h1
  obtain ⟨k2, e2, _, w2⟩ := DataW.trod_int Tryz.underlying5 h2
  obtain ⟨bv, e3, _⟩ := DataW.trod_bool Tryz.underlying4 h3
  obtain ⟨ka, kcap, ks, e4, hk, hkb, hkl⟩ := open_bools_cell h4
  obtain ⟨c, rfl⟩ := u8_of w2
  simp at e0 e1 e2 e3 e4
  subst e0 e1 e2 e3 e4
  exact ⟨⟨k0, k1, c, bv, ks, ka, kcap⟩, rfl, i64_wf w1, hk, hkb⟩
/-- A script, opened. -/
theorem open_pscript_cell {fuel : Nat} {cs : List Value} {x : DataW H × List MemPlace} (h : DataW.trod enc Tryz.prog w base sp held fuel 22 cs = some x) :
    ∃ (v : Value) (l : List POp), cs = [v] ∧ PScript w.heap.size w v l := by
  rcases open_slice Tryz.underlying22 h with ⟨rfl, _⟩ | ⟨a, len, cap, m, n, D, Pl, rfl, hb, hle, hcap, hm, _, hx⟩
  · exact ⟨_, [], rfl, ⟨⟨none, 0, rfl, (fun k hk => by simp at hk)⟩, by simp, (fun x hx => by cases hx), (fun x hx => by cases hx)⟩⟩
  have hlm : len ≤ m := by rw [hm]; split <;> omega
  have hcells : Tryz.prog.cellsOf 43 = 5 := by kernel_rfl
  rw [hcells] at hx
  obtain ⟨V, hV⟩ := choose_lt (α := POp) (p := fun i y => POpOk w y ∧ ∀ j u, (popCells y)[j]? = some u → w.cell? (a.add (i * 5 + j)) = some u) (n := len) (fun i hi => by
    obtain ⟨cs', h1, h2⟩ := hx i (by omega)
    obtain ⟨y, rfl, hy⟩ := open_pop_cells h2
    refine ⟨y, hy, fun j u hj => ?_⟩
    obtain ⟨_, _, hc⟩ := World.cells?_some h1
    have hj7 : j < 5 := by
      have := (List.getElem?_eq_some_iff.1 hj).1
      simpa [popCells] using this
    have c0 := hc j hj7
    rw [add_add] at c0
    rw [c0]
    simpa using hj)
  have hm' : maxLen = 9223372036854775807 := rfl
  have hlen : ((List.range len).map V).length = len := by simp
  have hall : ∀ y ∈ (List.range len).map V, POpOk w y := fun y hy => by
    obtain ⟨i, hi, rfl⟩ := List.mem_map.1 hy
    exact (hV i (by simpa using hi)).1
  refine ⟨_, (List.range len).map V, rfl, ⟨⟨some a, cap, by rw [hlen], fun k hk => ?_⟩, by rw [hlen]; omega, fun y hy => (hall y hy).1, fun y hy => ⟨(hall y hy).2.1, fun g hg => ⟨(hall y hy).2.2 g hg, (hall y hy).2.2 g hg⟩⟩⟩⟩
  rw [hlen] at hk
  obtain ⟨b, off, spot⟩ := a
  have c0 := (hV 0 (by omega)).2 0 _ rfl
  have hspot : spot = none := by simpa [Addr.add] using World.cell?_spot c0
  subst hspot
  have hlt : b < w.heap.size := by simpa [Addr.add] using lt_of_cell c0
  refine ⟨b, off, rfl, hlt, hlt, fun j u hj => ?_⟩
  simp at hj
  have e := (hV k hk).2 j u hj
  simp only [Addr.add_lit] at e
  rw [← e]
  congr 2
  omega
theorem open_pscript {b0 : Nat} {v : Value} (hval : Value.okWide Tryz.prog w .any b0 22 v) (h : ∃ d p, DataW.Trod enc Tryz.prog w base sp held 22 v d p) : ∃ (z : Value × List POp), v = z.1 ∧ PScript w.heap.size w z.1 z.2 := by
  obtain ⟨d, p, fuel, hf⟩ := h
  obtain ⟨ao, n, cap, rfl⟩ := okWide_slice Tryz.underlying22 hval
  obtain ⟨v, l, e, hl⟩ := open_pscript_cell hf
  simp [Value.cells] at e
  subst e
  exact ⟨(_, l), rfl, hl⟩
end
end Go.Proofs.YtmajfepbbeecjaaGreat
