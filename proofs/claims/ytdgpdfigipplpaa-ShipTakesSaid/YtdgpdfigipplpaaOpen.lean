/- What is asked of a ship that comes in, opened out of its reading. -/
import Derived.Test.YtdgpdfigipplpaaShipI
import Derived.Test.YtdgpdfigipplpaaRows
import Derived.ProofKit
import Derived.SizedLaws
import Derived.Deep.Fields
import Derived.Deep.Slices
namespace Go.Proofs.Ytdgpdfigipplpaa
open Go.ChangeShapes Go.WideShapes Go.ChangeAt Go.RowKit Go.Deep
set_option linter.unusedVariables false
set_option linter.unusedSimpArgs false

theorem own : ownKnob Try.prog.godebug = none := by kernel_rfl
theorem laidOut : laidOutB Try.prog = true := by kernel_rfl

section
variable {H : Type} {enc : TypeId × Value → H} {w : World} {base : Nat} {sp : Nat → Bool} {held : Bool}

/-- A struct whose fields are one cell each, opened: each field's cell reads at the field's type. -/
theorem open_cells_struct {ts : TypeId} {fs : Array Field} {fuel : Nat} {cs : List Value} {x : DataW H × List MemPlace} (hs : Try.prog.underlying ts = some (.struct fs))
    (hone : oneCellFields Try.prog fs = true) (hC : Try.prog.cellsOf ts = fs.size) (h : DataW.trod enc Try.prog w base sp held fuel ts cs = some x) :
    cs.length = fs.size ∧ ∃ n, ∀ (i : Nat) (f : Field), fs[i]? = some f → ∃ y, DataW.trod enc Try.prog w base sp held n f.type [cs.getD i undef] = some y := by
  obtain ⟨xs, n, _, _, hl, hx, hf⟩ := DataW.trod_struct hs h
  rw [hC] at hl
  refine ⟨hl, n, fun i f hi => ?_⟩
  have hlt : i < fs.size := (Array.getElem?_eq_some_iff.1 hi).1
  obtain ⟨ho, hc⟩ := hone_of hone i f hi
  have := hf i f hi
  rw [ho, hc, take1_drop cs i undef (by omega), List.getElem?_eq_getElem (by omega)] at this
  exact ⟨_, this⟩

/-- An image, opened. -/
theorem open_image {fuel : Nat} {cs : List Value} {x : DataW H × List MemPlace} (h : DataW.trod enc Try.prog w base sp held fuel 51 cs = some x) :
    ∃ (n : Int) (l : List UInt8), cs = [.int .i64 n, .string (bs l)] ∧ l.length ≤ 9223372036854775807 := by
  obtain ⟨hl, n, hf⟩ := open_cells_struct Try.underlying51 (by kernel_rfl) (by kernel_rfl) h
  obtain ⟨a, b, rfl⟩ : ∃ a b, cs = [a, b] := by
    match cs, hl with
    | [a, b], _ => exact ⟨a, b, rfl⟩
  obtain ⟨y0, h0⟩ := hf 0 _ rfl
  obtain ⟨y1, h1⟩ := hf 1 _ rfl
  obtain ⟨p, e0, _, _⟩ := DataW.trod_int Try.underlying3 h0
  obtain ⟨q, e1, _, hs⟩ := DataW.trod_string Try.underlying9 h1
  simp at e0 e1
  refine ⟨p, q.data.toList, by rw [e0, e1]; rfl, ?_⟩
  have : q.size = q.data.toList.length := by show q.data.size = _; exact Array.length_toList.symm
  have hm : maxLen = 9223372036854775807 := rfl
  omega

/-- Images, opened. -/
theorem open_images {fuel : Nat} {cs : List Value} {x : DataW H × List MemPlace} (h : DataW.trod enc Try.prog w base sp held fuel 26 cs = some x) :
    ∃ (v : Value) (l : List Img), cs = [v] ∧ ImgsAt w v l ∧ l.length ≤ 9223372036854775807 ∧ ∀ z ∈ l, z.2.length ≤ 9223372036854775807 := by
  rcases open_slice Try.underlying26 h with ⟨rfl, _⟩ | ⟨a, len, cap, m, n, D, Pl, rfl, hb, hle, hcap, hm, _, hx⟩
  · exact ⟨_, [], rfl, Or.inl ⟨⟨_, _, rfl⟩, rfl⟩, by simp, by simp⟩
  have hlm : len ≤ m := by rw [hm]; split <;> omega
  have hcells : Try.prog.cellsOf 51 = 2 := by kernel_rfl
  rw [hcells] at hx
  obtain ⟨V, hV⟩ := choose_lt (α := Img) (p := fun i z => w.cell? (a.add (i * 2)) = some (.int .i64 z.1) ∧ w.cell? (a.add (i * 2 + 1)) = some (.string (bs z.2)) ∧ z.2.length ≤ 9223372036854775807) (n := len) (fun i hi => by
    obtain ⟨cs', h1, h2⟩ := hx i (by omega)
    obtain ⟨p, q, rfl, hq⟩ := open_image h2
    obtain ⟨_, _, hc⟩ := World.cells?_some h1
    have c0 := hc 0 (by omega)
    have c1 := hc 1 (by omega)
    rw [add_add] at c0 c1
    exact ⟨(p, q), by simpa using c0, by simpa using c1, hq⟩)
  have hm' : maxLen = 9223372036854775807 := rfl
  refine ⟨_, (List.range len).map V, rfl, ?_, by simp; omega, ?_⟩
  · by_cases h0 : len = 0
    · subst h0
      exact Or.inl ⟨⟨_, _, rfl⟩, rfl⟩
    · obtain ⟨b, off, spot⟩ := a
      have hspot : spot = none := by simpa [Addr.add] using World.cell?_spot (hV 0 (by omega)).1
      subst hspot
      refine Or.inr ⟨b, off, cap, by simp, fun j hj => ?_⟩
      have hj' : j < len := by simpa using hj
      have h := hV j hj'
      simp only [Addr.add_lit] at h
      simp only [List.getElem_map, List.getElem_range]
      exact ⟨h.1, by have := h.2.1; rwa [← Nat.add_assoc] at this⟩
  · intro z hz
    obtain ⟨i, hi, rfl⟩ := List.mem_map.1 hz
    exact (hV i (by simpa using hi)).2.2

/-- A ship, opened. -/
theorem open_ship {b0 : Nat} {v : Value} {d : DataW H} {p : List MemPlace} (hval : Value.okWide Try.prog w .any b0 28 v) (h : DataW.Trod enc Try.prog w base sp held 28 v d p) :
    ∃ (m : Sh) (vs : Value), v = shipV m vs ∧ In w m vs := by
  obtain ⟨cs, rfl, hsz⟩ := okWide_struct Try.underlying28 hval
  obtain ⟨fuel, hf⟩ := h
  simp only [Value.cells] at hf
  obtain ⟨hl, n, hf⟩ := open_cells_struct Try.underlying28 (by kernel_rfl) (by kernel_rfl) hf
  obtain ⟨cs⟩ := cs
  obtain ⟨a0, a1, a2, a3, a4, a5, rfl⟩ : ∃ a0 a1 a2 a3 a4 a5, cs = [a0, a1, a2, a3, a4, a5] := by
    match cs, hl with
    | [a0, a1, a2, a3, a4, a5], _ => exact ⟨a0, a1, a2, a3, a4, a5, rfl⟩
  obtain ⟨y0, h0⟩ := hf 0 _ rfl
  obtain ⟨y1, h1⟩ := hf 1 _ rfl
  obtain ⟨y2, h2⟩ := hf 2 _ rfl
  obtain ⟨y3, h3⟩ := hf 3 _ rfl
  obtain ⟨y4, h4⟩ := hf 4 _ rfl
  obtain ⟨y5, h5⟩ := hf 5 _ rfl
  obtain ⟨k, e0, _, w0⟩ := DataW.trod_int Try.underlying5 h0
  obtain ⟨ep, e1, _, w1⟩ := DataW.trod_int Try.underlying25 h1
  obtain ⟨kk, e2, _, w2⟩ := DataW.trod_int Try.underlying25 h2
  obtain ⟨fu, e3, _⟩ := DataW.trod_bool Try.underlying4 h3
  obtain ⟨pg, e4, _, w4⟩ := DataW.trod_int Try.underlying3 h4
  obtain ⟨vs, l, e5, hi, hn, hb⟩ := open_images h5
  simp at e0 e1 e2 e3 e4 e5
  subst e0 e1 e2 e3 e4 e5
  have w0' : 0 ≤ k ∧ k ≤ 255 := by have h : (decide ((0 : Int) ≤ k) && decide (k ≤ 255)) = true := w0; simpa using h
  have w1' : 0 ≤ ep ∧ ep ≤ 18446744073709551615 := by have h : (decide ((0 : Int) ≤ ep) && decide (ep ≤ 18446744073709551615)) = true := w1; simpa using h
  have w2' : 0 ≤ kk ∧ kk ≤ 18446744073709551615 := by have h : (decide ((0 : Int) ≤ kk) && decide (kk ≤ 18446744073709551615)) = true := w2; simpa using h
  exact ⟨⟨k, ep, kk, fu, pg, l⟩, a5, rfl, hi, hn, hb, ⟨w0'.1, by have := w0'.2; simp only; omega⟩, ⟨w1'.1, by have := w1'.2; simp only; omega⟩, ⟨w2'.1, by have := w2'.2; simp only; omega⟩⟩
end
end Go.Proofs.Ytdgpdfigipplpaa
