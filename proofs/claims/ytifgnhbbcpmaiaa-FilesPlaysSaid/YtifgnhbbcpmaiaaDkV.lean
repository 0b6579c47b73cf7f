/- Calls (Op) and rows of bools that come in, opened out of their readings. -/
import Derived.Test.YtifgnhbbcpmaiaaLift
import Derived.Test.YtifgnhbbcpmaiaaDkO
namespace Go.Proofs.Ytifgnhbbcpmaiaa
open Go.ChangeShapes Go.WideShapes Go.ChangeAt Go.RowKit Go.Deep
set_option linter.unusedVariables false
set_option linter.unusedSimpArgs false
set_option maxRecDepth 20000

theorem lt_of_cell {w : World} {a : Addr} {v : Value} (h : w.cell? a = some v) : a.block < w.heap.size := by
  rcases Nat.lt_or_ge a.block w.heap.size with h1 | h1
  · exact h1
  · unfold World.cell? at h
    rw [Array.getElem?_eq_none h1] at h
    simp at h
def alive (w : World) : Nat → Prop := fun k => k < w.heap.size
section
variable {H : Type} {enc : TypeId × Value → H} {w : World} {base : Nat} {sp : Nat → Bool} {held : Bool}

/-- A row of bools, opened. -/
theorem open_bools_cell {fuel : Nat} {cs : List Value} {x : DataW H × List MemPlace} (h : DataW.trod enc Try.prog w base sp held fuel 23 cs = some x) :
    ∃ (ka : Option Addr) (kcap : Nat) (ks : List Bool), cs = [.slice ka ks.length kcap] ∧ KeepAt w (.slice ka ks.length kcap) ks ∧ (∀ g, keepBlk (.slice ka ks.length kcap) ks = some g → g < w.heap.size) ∧ ks.length ≤ 9223372036854775807 := by
  rcases open_slice1 Try.underlying23 (by kernel_rfl) h with ⟨rfl, _⟩ | ⟨a, len, cap, m, n, V, D, Pl, rfl, hb, hle, hcap, hm, _, hx⟩
  · exact ⟨none, 0, [], rfl, ⟨none, 0, rfl, .inl rfl⟩, (fun g hg => by cases hg), by simp⟩
  have hlm : len ≤ m := by rw [hm]; split <;> omega
  obtain ⟨B, hB⟩ := choose_lt (α := Bool) (p := fun i b => w.cell? (a.add i) = some (.bool b)) (n := len) (fun i hi => by
    obtain ⟨h1, h2⟩ := hx i (by omega)
    obtain ⟨b, e, _⟩ := DataW.trod_bool Try.underlying4 h2
    simp at e
    exact ⟨b, by rw [h1, e]⟩)
  have hm' : maxLen = 9223372036854775807 := rfl
  have hlen : ((List.range len).map B).length = len := by simp
  refine ⟨some a, cap, (List.range len).map B, by rw [hlen], ?_, ?_, by rw [hlen]; omega⟩
  · refine ⟨some a, cap, rfl, ?_⟩
    by_cases h0 : len = 0
    · subst h0
      exact .inl rfl
    · obtain ⟨b, off, spot⟩ := a
      have hspot : spot = none := by simpa [Addr.add] using World.cell?_spot (hB 0 (by omega))
      subst hspot
      refine .inr ⟨b, off, rfl, fun i v hi => ?_⟩
      have hi' : i < len := by
        have := (List.getElem?_eq_some_iff.1 hi).1
        simpa using this
      have e := hB i hi'
      simp only [Addr.add_lit] at e
      rw [e]
      simp [List.getElem?_map, hi'] at hi
      rw [hi]
  · intro g hg
    by_cases h0 : len = 0
    · subst h0
      cases hg
    · have h1 := lt_of_cell (hB 0 (by omega))
      unfold keepBlk at hg
      split at hg
      · cases hg
      · cases hg
        simpa [Addr.add] using h1
/-- A call, opened. -/
theorem open_op_cells {fuel : Nat} {cs : List Value} {x : DataW H × List MemPlace} (h : DataW.trod enc Try.prog w base sp held fuel 34 cs = some x) :
    ∃ y : OpM, cs = opCells y ∧ OpOk (alive w) w y := by
  obtain ⟨hl, n, hf⟩ := open_cells_struct Try.underlying34 (by kernel_rfl) (by kernel_rfl) h
  obtain ⟨a0, a1, a2, a3, a4, a5, a6, rfl⟩ : ∃ a0 a1 a2 a3 a4 a5 a6, cs = [a0, a1, a2, a3, a4, a5, a6] := by
    match cs, hl with
    | [a0, a1, a2, a3, a4, a5, a6], _ => exact ⟨a0, a1, a2, a3, a4, a5, a6, rfl⟩
  obtain ⟨y0, h0⟩ := hf 0 _ rfl
  obtain ⟨y1, h1⟩ := hf 1 _ rfl
  obtain ⟨y2, h2⟩ := hf 2 _ rfl
  obtain ⟨y3, h3⟩ := hf 3 _ rfl
  obtain ⟨y4, h4⟩ := hf 4 _ rfl
  obtain ⟨y5, h5⟩ := hf 5 _ rfl
  obtain ⟨y6, h6⟩ := hf 6 _ rfl
  obtain ⟨k0, e0, _, w0⟩ := DataW.trod_int Try.underlying3 h0
  obtain ⟨k1, e1, _, w1⟩ := DataW.trod_int Try.underlying3 h1
  obtain ⟨k2, e2, _, w2⟩ := DataW.trod_int Try.underlying3 h2
  obtain ⟨k3, e3, _, w3⟩ := DataW.trod_int Try.underlying3 h3
  obtain ⟨k4, e4, _, w4⟩ := DataW.trod_int Try.underlying5 h4
  obtain ⟨g, e5, _, hs⟩ := DataW.trod_string Try.underlying9 h5
  obtain ⟨ka, kcap, ks, e6, hk, hkb, hkl⟩ := open_bools_cell h6
  obtain ⟨c, rfl⟩ := u8_of w4
  simp at e0 e1 e2 e3 e4 e5 e6
  subst e0 e1 e2 e3 e4 e5 e6
  exact ⟨⟨k0, k1, k2, k3, c, g.data.toList, ka, kcap, ks⟩, rfl, i64_wf w0, i64_wf w1, i64_wf w2, i64_wf w3, len_of hs, hkl, hk, hkb⟩
/-- Calls, opened. -/
theorem open_ops_cell {fuel : Nat} {cs : List Value} {x : DataW H × List MemPlace} (h : DataW.trod enc Try.prog w base sp held fuel 22 cs = some x) :
    ∃ (v : Value) (l : List OpM), cs = [v] ∧ OpsAt (alive w) w v l := by
  rcases open_slice Try.underlying22 h with ⟨rfl, _⟩ | ⟨a, len, cap, m, n, D, Pl, rfl, hb, hle, hcap, hm, _, hx⟩
  · exact ⟨_, [], rfl, ⟨none, 0, rfl, .inl rfl⟩, (fun x hx => by cases hx), by simp⟩
  have hlm : len ≤ m := by rw [hm]; split <;> omega
  have hcells : Try.prog.cellsOf 34 = 7 := by kernel_rfl
  rw [hcells] at hx
  obtain ⟨V, hV⟩ := choose_lt (α := OpM) (p := fun i y => OpOk (alive w) w y ∧ ∀ j u, (opCells y)[j]? = some u → w.cell? (a.add (i * 7 + j)) = some u) (n := len) (fun i hi => by
    obtain ⟨cs', h1, h2⟩ := hx i (by omega)
    obtain ⟨y, rfl, hy⟩ := open_op_cells h2
    refine ⟨y, hy, fun j u hj => ?_⟩
    obtain ⟨_, _, hc⟩ := World.cells?_some h1
    have hj7 : j < 7 := by
      have := (List.getElem?_eq_some_iff.1 hj).1
      simpa [opCells] using this
    have c0 := hc j hj7
    rw [add_add] at c0
    rw [c0]
    simpa using hj)
  have hm' : maxLen = 9223372036854775807 := rfl
  have hlen : ((List.range len).map V).length = len := by simp
  refine ⟨_, (List.range len).map V, rfl, ?_, ?_, by rw [hlen]; omega⟩
  · rw [hlen]
    refine ⟨some a, cap, rfl, ?_⟩
    by_cases h0 : len = 0
    · subst h0
      exact .inl rfl
    · obtain ⟨b, off, spot⟩ := a
      have c0 := (hV 0 (by omega)).2 0 _ rfl
      have hspot : spot = none := by simpa [Addr.add] using World.cell?_spot c0
      subst hspot
      refine .inr ⟨b, off, rfl, by simpa [Addr.add, alive] using lt_of_cell c0, fun i y hi => ?_⟩
      have hi' : i < len := by
        have := (List.getElem?_eq_some_iff.1 hi).1
        simpa using this
      simp [List.getElem?_map, hi'] at hi
      subst hi
      intro j u hj
      have e := (hV i hi').2 j u hj
      simp only [Addr.add_lit] at e
      rw [← e]
      congr 2
      omega
  · intro y hy
    obtain ⟨i, hi, rfl⟩ := List.mem_map.1 hy
    exact (hV i (by simpa using hi)).1

theorem open_ops {b0 : Nat} {v : Value} (hval : Value.okWide Try.prog w .any b0 22 v) (h : ∃ d p, DataW.Trod enc Try.prog w base sp held 22 v d p) : ∃ (z : Value × List OpM), v = z.1 ∧ OpsAt (alive w) w z.1 z.2 := by
  obtain ⟨d, p, fuel, hf⟩ := h
  obtain ⟨ao, n, cap, rfl⟩ := okWide_slice Try.underlying22 hval
  obtain ⟨v, l, e, hl⟩ := open_ops_cell hf
  simp [Value.cells] at e
  subst e
  exact ⟨(_, l), rfl, hl⟩
theorem open_bools {b0 : Nat} {v : Value} (hval : Value.okWide Try.prog w .any b0 23 v) (h : ∃ d p, DataW.Trod enc Try.prog w base sp held 23 v d p) :
    ∃ (z : Value × List Bool), v = z.1 ∧ KeepAt w z.1 z.2 ∧ (∀ g, keepBlk z.1 z.2 = some g → g < w.heap.size) ∧ z.2.length ≤ 9223372036854775807 := by
  obtain ⟨d, p, fuel, hf⟩ := h
  obtain ⟨ao, n, cap, rfl⟩ := okWide_slice Try.underlying23 hval
  obtain ⟨ka, kcap, ks, e, h1, h2, h3⟩ := open_bools_cell hf
  simp [Value.cells] at e
  obtain ⟨rfl, rfl, rfl⟩ := e
  exact ⟨(_, ks), rfl, h1, h2, h3⟩
theorem open_op {b0 : Nat} {v : Value} (hval : Value.okWide Try.prog w .any b0 34 v) (h : ∃ d p, DataW.Trod enc Try.prog w base sp held 34 v d p) : ∃ (y : OpM), v = opV y ∧ OpOk (alive w) w y := by
  obtain ⟨d, p, h⟩ := h
  obtain ⟨cs, rfl, hsz⟩ := okWide_struct Try.underlying34 hval
  obtain ⟨fuel, hf⟩ := h
  simp only [Value.cells] at hf
  obtain ⟨y, e, hy⟩ := open_op_cells hf
  exact ⟨y, by unfold opV; rw [← e], hy⟩
theorem open_i64 {b0 : Nat} {v : Value} (hval : Value.okWide Try.prog w .any b0 3 v) (h : ∃ d p, DataW.Trod enc Try.prog w base sp held 3 v d p) : ∃ n : Int, v = .int .i64 n ∧ in64 n := by
  obtain ⟨d, p, h⟩ := h
  obtain ⟨n, rfl, _, _, hw⟩ := open_int Try.underlying3 hval h
  exact ⟨n, rfl, i64_wf hw⟩
end
end Go.Proofs.Ytifgnhbbcpmaiaa
