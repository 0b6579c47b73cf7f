/- Scripts (Op of counterfoillaw05) and rows of Puts that come in, opened out of their readings. -/
import Derived.Test.YtioafhkblmebmaaLift
import Derived.Test.YtioafhkblmebmaaWaX
namespace Go.Proofs.Ytioafhkblmebmaa
open Go.ChangeShapes Go.WideShapes Go.ChangeAt Go.RowKit Go.Deep
set_option linter.unusedVariables false
set_option linter.unusedSimpArgs false
set_option maxRecDepth 20000

instance : Inhabited PutM := ⟨⟨0, 0, 0⟩⟩
instance : Inhabited WOp := ⟨⟨0, 0, 0, 0, [], none, 0, false, [], none, 0, []⟩⟩
theorem lt_of_cell {w : World} {a : Addr} {v : Value} (h : w.cell? a = some v) : a.block < w.heap.size := by
  rcases Nat.lt_or_ge a.block w.heap.size with h1 | h1
  · exact h1
  · unfold World.cell? at h
    rw [Array.getElem?_eq_none h1] at h
    simp at h
section
variable {H : Type} {enc : TypeId × Value → H} {w : World} {base : Nat} {sp : Nat → Bool} {held : Bool}

/-- A row of bools: its value's form alone. -/
theorem open_keep_cell {fuel : Nat} {cs : List Value} {x : DataW H × List MemPlace} (h : DataW.trod enc Try.prog w base sp held fuel 32 cs = some x) :
    ∃ (ka : Option Addr) (kcap : Nat) (ks : List Bool), cs = [.slice ka ks.length kcap] := by
  rcases open_slice1 Try.underlying32 (by kernel_rfl) h with ⟨rfl, _⟩ | ⟨a, len, cap, m, n, V, D, Pl, rfl, hb, hle, hcap, hm, _, hx⟩
  · exact ⟨none, 0, [], rfl⟩
  · exact ⟨some a, cap, List.replicate len false, by simp⟩
/-- A Put, opened. -/
theorem open_put_cells {fuel : Nat} {cs : List Value} {x : DataW H × List MemPlace} (h : DataW.trod enc Try.prog w base sp held fuel 96 cs = some x) :
    ∃ y : PutM, cs = putCells y := by
  obtain ⟨hl, n, hf⟩ := open_cells_struct Try.underlying96 (by kernel_rfl) (by kernel_rfl) h
  obtain ⟨a0, a1, a2, rfl⟩ : ∃ a0 a1 a2, cs = [a0, a1, a2] := by
    match cs, hl with
    | [a0, a1, a2], _ => exact ⟨a0, a1, a2, rfl⟩
  obtain ⟨y0, h0⟩ := hf 0 _ rfl
  obtain ⟨y1, h1⟩ := hf 1 _ rfl
  obtain ⟨y2, h2⟩ := hf 2 _ rfl
  obtain ⟨k0, e0, _, w0⟩ := DataW.trod_int Try.underlying3 h0
  obtain ⟨k1, e1, _, w1⟩ := DataW.trod_int Try.underlying5 h1
  obtain ⟨k2, e2, _, w2⟩ := DataW.trod_int Try.underlying3 h2
  obtain ⟨c, rfl⟩ := u8_of w1
  simp at e0 e1 e2
  subst e0 e1 e2
  exact ⟨⟨k0, c, k2⟩, rfl⟩
/-- A row of Puts, opened. -/
theorem open_puts_cell {fuel : Nat} {cs : List Value} {x : DataW H × List MemPlace} (h : DataW.trod enc Try.prog w base sp held fuel 31 cs = some x) :
    ∃ (ia : Option Addr) (icap : Nat) (l : List PutM), cs = [.slice ia l.length icap] ∧ PutsIn w ia l ∧ l.length ≤ 9223372036854775807 := by
  rcases open_slice Try.underlying31 h with ⟨rfl, _⟩ | ⟨a, len, cap, m, n, D, Pl, rfl, hb, hle, hcap, hm, _, hx⟩
  · exact ⟨none, 0, [], rfl, (fun k hk => by simp at hk), by simp⟩
  have hlm : len ≤ m := by rw [hm]; split <;> omega
  have hcells : Try.prog.cellsOf 96 = 3 := by kernel_rfl
  rw [hcells] at hx
  obtain ⟨V, hV⟩ := choose_lt (α := PutM) (p := fun i y => ∀ j u, (putCells y)[j]? = some u → w.cell? (a.add (i * 3 + j)) = some u) (n := len) (fun i hi => by
    obtain ⟨cs', h1, h2⟩ := hx i (by omega)
    obtain ⟨y, rfl⟩ := open_put_cells h2
    refine ⟨y, fun j u hj => ?_⟩
    obtain ⟨_, _, hc⟩ := World.cells?_some h1
    have hj7 : j < 3 := by
      have := (List.getElem?_eq_some_iff.1 hj).1
      simpa [putCells] using this
    have c0 := hc j hj7
    rw [add_add] at c0
    rw [c0]
    simpa using hj)
  have hm' : maxLen = 9223372036854775807 := rfl
  have hlen : ((List.range len).map V).length = len := by simp
  refine ⟨some a, cap, (List.range len).map V, by rw [hlen], fun k hk => ?_, by rw [hlen]; omega⟩
  rw [hlen] at hk
  obtain ⟨b, off, spot⟩ := a
  have c0 := hV 0 (by omega) 0 _ rfl
  have hspot : spot = none := by simpa [Addr.add] using World.cell?_spot c0
  subst hspot
  refine ⟨b, off, rfl, by simpa [Addr.add] using lt_of_cell c0, fun j u hj => ?_⟩
  simp at hj
  have e := hV k hk j u hj
  simp only [Addr.add_lit] at e
  rw [← e]
  congr 2
  omega
/-- A step, opened. -/
theorem open_wop_cells {fuel : Nat} {cs : List Value} {x : DataW H × List MemPlace} (h : DataW.trod enc Try.prog w base sp held fuel 34 cs = some x) :
    ∃ y : WOp, cs = wopCells y ∧ PutsIn w y.ia y.imgs := by
  obtain ⟨hl, n, hf⟩ := open_cells_struct Try.underlying34 (by kernel_rfl) (by kernel_rfl) h
  obtain ⟨a0, a1, a2, a3, a4, a5, a6, a7, rfl⟩ : ∃ a0 a1 a2 a3 a4 a5 a6 a7, cs = [a0, a1, a2, a3, a4, a5, a6, a7] := by
    match cs, hl with
    | [a0, a1, a2, a3, a4, a5, a6, a7], _ => exact ⟨a0, a1, a2, a3, a4, a5, a6, a7, rfl⟩
  obtain ⟨y0, h0⟩ := hf 0 _ rfl
  obtain ⟨y1, h1⟩ := hf 1 _ rfl
  obtain ⟨y2, h2⟩ := hf 2 _ rfl
  obtain ⟨y3, h3⟩ := hf 3 _ rfl
  obtain ⟨y4, h4⟩ := hf 4 _ rfl
  obtain ⟨y5, h5⟩ := hf 5 _ rfl
  obtain ⟨y6, h6⟩ := hf 6 _ rfl
  obtain ⟨y7, h7⟩ := hf 7 _ rfl
  obtain ⟨k0, e0, _, w0⟩ := DataW.trod_int Try.underlying3 h0
  obtain ⟨k1, e1, _, w1⟩ := DataW.trod_int Try.underlying3 h1
  obtain ⟨k2, e2, _, w2⟩ := DataW.trod_int Try.underlying3 h2
  obtain ⟨k3, e3, _, w3⟩ := DataW.trod_int Try.underlying3 h3
  obtain ⟨ia, icap, il, e4, hil, -⟩ := open_puts_cell h4
  obtain ⟨bv, e5, _⟩ := DataW.trod_bool Try.underlying4 h5
  obtain ⟨ka, kcap, ks, e6⟩ := open_keep_cell h6
  obtain ⟨g, e7, _, hs⟩ := DataW.trod_string Try.underlying9 h7
  simp at e0 e1 e2 e3 e4 e5 e6 e7
  subst e0 e1 e2 e3 e4 e5 e6 e7
  exact ⟨⟨k0, k1, k2, k3, il, ia, icap, bv, ks, ka, kcap, g.data.toList⟩, rfl, hil⟩
/-- A script, opened. -/
theorem open_script_cell {fuel : Nat} {cs : List Value} {x : DataW H × List MemPlace} (h : DataW.trod enc Try.prog w base sp held fuel 22 cs = some x) :
    ∃ (v : Value) (l : List WOp), cs = [v] ∧ ScriptAt w v l := by
  rcases open_slice Try.underlying22 h with ⟨rfl, _⟩ | ⟨a, len, cap, m, n, D, Pl, rfl, hb, hle, hcap, hm, _, hx⟩
  · exact ⟨_, [], rfl, ⟨⟨none, 0, rfl, (fun k hk => by simp at hk)⟩, by simp, (fun x hx => by cases hx)⟩⟩
  have hlm : len ≤ m := by rw [hm]; split <;> omega
  have hcells : Try.prog.cellsOf 34 = 8 := by kernel_rfl
  rw [hcells] at hx
  obtain ⟨V, hV⟩ := choose_lt (α := WOp) (p := fun i y => PutsIn w y.ia y.imgs ∧ ∀ j u, (wopCells y)[j]? = some u → w.cell? (a.add (i * 8 + j)) = some u) (n := len) (fun i hi => by
    obtain ⟨cs', h1, h2⟩ := hx i (by omega)
    obtain ⟨y, rfl, hy⟩ := open_wop_cells h2
    refine ⟨y, hy, fun j u hj => ?_⟩
    obtain ⟨_, _, hc⟩ := World.cells?_some h1
    have hj7 : j < 8 := by
      have := (List.getElem?_eq_some_iff.1 hj).1
      simpa [wopCells] using this
    have c0 := hc j hj7
    rw [add_add] at c0
    rw [c0]
    simpa using hj)
  have hm' : maxLen = 9223372036854775807 := rfl
  have hlen : ((List.range len).map V).length = len := by simp
  refine ⟨_, (List.range len).map V, rfl, ⟨⟨some a, cap, by rw [hlen], fun k hk => ?_⟩, by rw [hlen]; omega, fun y hy => ?_⟩⟩
  · rw [hlen] at hk
    obtain ⟨b, off, spot⟩ := a
    have c0 := (hV 0 (by omega)).2 0 _ rfl
    have hspot : spot = none := by simpa [Addr.add] using World.cell?_spot c0
    subst hspot
    refine ⟨b, off, rfl, by simpa [Addr.add] using lt_of_cell c0, fun j u hj => ?_⟩
    simp at hj
    have e := (hV k hk).2 j u hj
    simp only [Addr.add_lit] at e
    rw [← e]
    congr 2
    omega
  · obtain ⟨i, hi, rfl⟩ := List.mem_map.1 hy
    exact (hV i (by simpa using hi)).1
theorem open_script {b0 : Nat} {v : Value} (hval : Value.okWide Try.prog w .any b0 22 v) (h : ∃ d p, DataW.Trod enc Try.prog w base sp held 22 v d p) : ∃ (z : Value × List WOp), v = z.1 ∧ ScriptAt w z.1 z.2 := by
  obtain ⟨d, p, fuel, hf⟩ := h
  obtain ⟨ao, n, cap, rfl⟩ := okWide_slice Try.underlying22 hval
  obtain ⟨v, l, e, hl⟩ := open_script_cell hf
  simp [Value.cells] at e
  subst e
  exact ⟨(_, l), rfl, hl⟩
theorem open_puts {b0 : Nat} {v : Value} (hval : Value.okWide Try.prog w .any b0 31 v) (h : ∃ d p, DataW.Trod enc Try.prog w base sp held 31 v d p) : ∃ (z : Option Addr × Nat × List PutM), v = .slice z.1 z.2.2.length z.2.1 ∧ PutsIn w z.1 z.2.2 ∧ z.2.2.length ≤ 9223372036854775807 := by
  obtain ⟨d, p, fuel, hf⟩ := h
  obtain ⟨ao, n, cap, rfl⟩ := okWide_slice Try.underlying31 hval
  obtain ⟨ia, icap, l, e, h1, h2⟩ := open_puts_cell hf
  simp [Value.cells] at e
  obtain ⟨rfl, rfl, rfl⟩ := e
  exact ⟨(_, _, l), rfl, h1, h2⟩
theorem open_i64 {b0 : Nat} {v : Value} (hval : Value.okWide Try.prog w .any b0 3 v) (h : ∃ d p, DataW.Trod enc Try.prog w base sp held 3 v d p) : ∃ n : Int, v = .int .i64 n ∧ (-9223372036854775808 ≤ n ∧ n ≤ 9223372036854775807) := by
  obtain ⟨d, p, h⟩ := h
  obtain ⟨n, rfl, _, _, hw⟩ := open_int Try.underlying3 hval h
  exact ⟨n, rfl, i64_wf hw⟩
end
end Go.Proofs.Ytioafhkblmebmaa
