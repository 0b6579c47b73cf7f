/- SpacePlays: calls that come in, opened out of their readings; what is read behind a call. -/
import Derived.Test.YtlkkclooihjpiaaGreatPyD
import Derived.Test.YtlkkclooihjpiaaGreatSqH
set_option linter.unusedVariables false
set_option linter.unusedSimpArgs false
namespace Go.Proofs.YtlkkclooihjpiaaGreat
open Go.ChangeShapes Go.WideShapes Go.ChangeAt Go.RowKit Go.Deep
set_option maxRecDepth 20000
set_option maxRecDepth 20000
structure Op3 where
 k : Int
 n : Int
 i : Int
instance : Inhabited Op3 := ⟨⟨0, 0, 0⟩⟩
def Ops3At (w : World) (v : Value) (l : List Op3) : Prop :=
 ∃ ao cap, v = .slice ao l.length cap ∧ ∀ k (hk : k < l.length), ∃ q o, ao = some ⟨q, o, none⟩ ∧ q < w.heap.size ∧ w.cell? ⟨q, o + k * 3, none⟩ = some (.int .i64 l[k].k) ∧ w.cell? ⟨q, o + k * 3 + 1, none⟩ = some (.int .i64 l[k].n) ∧ w.cell? ⟨q, o + k * 3 + 2, none⟩ = some (.int .i64 l[k].i)
structure Ops3In (w : World) (v : Value) (l : List Op3) : Prop where
 at' : Ops3At w v l
 len : l.length ≤ 9223372036854775807
 each : ∀ x ∈ l, in64 x.k ∧ in64 x.n ∧ in64 x.i
theorem lt_of_cell {w : World} {a : Addr} {v : Value} (h : w.cell? a = some v) : a.block < w.heap.size := by
 rcases Nat.lt_or_ge a.block w.heap.size with h1 | h1
 ·exact h1
 ·unfold World.cell? at h
  rw [Array.getElem?_eq_none h1] at h
  simp at h
section
variable {H : Type} {enc : TypeId × Value → H} {w : World} {base : Nat} {sp : Nat → Bool} {held : Bool}
theorem open_op3 {fuel : Nat} {cs : List Value} {x : DataW H × List MemPlace} (h : DataW.trod enc Tryz.prog w base sp held fuel 43 cs = some x) :
  ∃ (a b c : Int), cs = [.int .i64 a, .int .i64 b, .int .i64 c] ∧ in64 a ∧ in64 b ∧ in64 c := by
 obtain ⟨hl, n, hf⟩ := open_cells_struct Tryz.underlying43 (by kernel_rfl) (by kernel_rfl) h
 obtain ⟨a, b, c, rfl⟩ : ∃ a b c, cs = [a, b, c] := by
  match cs, hl with
  | [a, b, c], _ => exact ⟨a, b, c, rfl⟩
 obtain ⟨y0, h0⟩ := hf 0 _ rfl
 obtain ⟨y1, h1⟩ := hf 1 _ rfl
 obtain ⟨y2, h2⟩ := hf 2 _ rfl
 obtain ⟨p, e0, _, w0⟩ := DataW.trod_int Tryz.underlying3 h0
 obtain ⟨q, e1, _, w1⟩ := DataW.trod_int Tryz.underlying3 h1
 obtain ⟨r, e2, _, w2⟩ := DataW.trod_int Tryz.underlying3 h2
 simp at e0 e1 e2
 subst e0 e1 e2
 exact ⟨p, q, r, rfl, i64_wf w0, i64_wf w1, i64_wf w2⟩
theorem open_op3s_cell {fuel : Nat} {cs : List Value} {x : DataW H × List MemPlace} (h : DataW.trod enc Tryz.prog w base sp held fuel 23 cs = some x) :
  ∃ (v : Value) (l : List Op3), cs = [v] ∧ Ops3In w v l := by
 rcases open_slice Tryz.underlying23 h with ⟨rfl, _⟩ | ⟨a, len, cap, m, n, D, Pl, rfl, hb, hle, hcap, hm, _, hx⟩
 ·exact ⟨_, [], rfl, ⟨⟨none, 0, rfl, (fun k hk => by simp at hk)⟩, by simp, (fun x hx => by cases hx)⟩⟩
 have hlm : len ≤ m := by rw [hm]; split <;> omega
 have hcells : Tryz.prog.cellsOf 43 = 3 := by kernel_rfl
 rw [hcells] at hx
 obtain ⟨V, hV⟩ := choose_lt (α := Op3) (p := fun i y => (w.cell? (a.add (i * 3)) = some (.int .i64 y.k) ∧ w.cell? (a.add (i * 3 + 1)) = some (.int .i64 y.n) ∧ w.cell? (a.add (i * 3 + 2)) = some (.int .i64 y.i)) ∧ in64 y.k ∧ in64 y.n ∧ in64 y.i) (n := len) (fun i hi => by
  obtain ⟨cs', h1, h2⟩ := hx i (by omega)
  obtain ⟨p, q, r, rfl, hq⟩ := open_op3 h2
  obtain ⟨_, _, hc⟩ := World.cells?_some h1
  have c0 := hc 0 (by omega)
  have c1 := hc 1 (by omega)
  have c2 := hc 2 (by omega)
  rw [add_add] at c0 c1 c2
  exact ⟨⟨p, q, r⟩, ⟨by simpa using c0, by simpa using c1, by simpa using c2⟩, hq⟩)
 have hm' : maxLen = 9223372036854775807 := rfl
 have hlen : ((List.range len).map V).length = len := by simp
 refine ⟨_, (List.range len).map V, rfl, ⟨⟨some a, cap, by rw [hlen], fun k hk => ?_⟩, by rw [hlen]; omega, fun y hy => ?_⟩⟩
 ·rw [hlen] at hk
  obtain ⟨b, off, spot⟩ := a
  have hspot : spot = none := by simpa [Addr.add] using World.cell?_spot (hV 0 (by omega)).1.1
  subst hspot
  have hlt : b < w.heap.size := by simpa [Addr.add] using lt_of_cell (hV 0 (by omega)).1.1
  have h := (hV k hk).1
  simp only [Addr.add_lit] at h
  simp only [List.getElem_map, List.getElem_range]
  refine ⟨b, off, rfl, hlt, h.1, ?_, ?_⟩
  ·have := h.2.1; rwa [← Nat.add_assoc] at this
  ·have := h.2.2; rwa [← Nat.add_assoc] at this
 ·obtain ⟨i, hi, rfl⟩ := List.mem_map.1 hy
  exact (hV i (by simpa using hi)).2
theorem open_op3s {b0 : Nat} {v : Value} (hval : Value.okWide Tryz.prog w .any b0 23 v) (h : ∃ d p, DataW.Trod enc Tryz.prog w base sp held 23 v d p) : ∃ (z : Value × List Op3), v = z.1 ∧ Ops3In w z.1 z.2 := by
 obtain ⟨d, p, fuel, hf⟩ := h
 obtain ⟨ao, n, cap, rfl⟩ := okWide_slice Tryz.underlying23 hval
 obtain ⟨v, l, e, hl⟩ := open_op3s_cell hf
 simp [Value.cells] at e
 subst e
 exact ⟨(_, l), rfl, hl⟩
end
section
variable {w W W' : World} {pb l b wb N : Nat} {p p' : Pg} {g g' : Lg} {d d' : Dsk} {m m2 : RWd} {B X X' : Nat → Prop}
theorem PySt.tail (h : PySt w W pb l b wb p g d m m N B X) : ∃ (P K fl ln r0 r1 r2 r3 r4 r5 r6 r7 : Int),
  Calls Tryz.prog 10 #[.pointer (some ⟨pb, 0, none⟩)] W (fun e w' => e = .returned (.tuple #[.agg #[.int .i64 fl, .int .i64 ln, .int .u64 K, .int .i64 r0, .int .i64 r1, .int .i64 r2, .int .i64 r3, .int .i64 r4, .int .i64 r5, .int .i64 r6, .int .i64 r7], .int .i64 0]) ∧ Below W.heap.size W w') ∧
  (∀ W2, Below W.heap.size W W2 → Calls Tryz.prog 21 #[.pointer (some ⟨wb, 0, none⟩)] W2 fun e w' => ∃ ao z cap, e = .returned (.agg #[.int .i64 P, .slice ao z cap, .int .u64 K, .int .i64 r0, .int .i64 r1, .int .i64 r2, .int .i64 r3, .int .i64 r4, .int .i64 r5, .int .i64 r6, .int .i64 r7]) ∧ Below W2.heap.size W2 w' ∧
   Calls Tryz.prog 20 #[.agg #[.int .i64 P, .slice ao z cap, .int .u64 K, .int .i64 r0, .int .i64 r1, .int .i64 r2, .int .i64 r3, .int .i64 r4, .int .i64 r5, .int .i64 r6, .int .i64 r7]] w' fun e w2 => e = .returned (.agg #[.int .i64 fl, .int .i64 ln, .int .u64 K, .int .i64 r0, .int .i64 r1, .int .i64 r2, .int .i64 r3, .int .i64 r4, .int .i64 r5, .int .i64 r6, .int .i64 r7]) ∧ Below w'.heap.size w' w2) ∧
  (∀ W2, Below W.heap.size W W2 → Calls Tryz.prog 9 #[.pointer (some ⟨pb, 0, none⟩)] W2 fun e w' => e = .returned (.int .i64 P) ∧ w' = W2) := by
 obtain ⟨hr1, hr2, -⟩ := pw_read h.inv
 obtain ⟨hb1, hb2, -⟩ := pw_st h.inv
 have A := sread_any h.px
 rw [hr1] at A
 have C := fun W2 (hb : Below W.heap.size W W2) => px_pages (h.px.below hb)
 rw [hr2] at C
 have S := fun W2 (hb : Below W.heap.size W W2) => (h.below hb).state
 have HD := fun (W3 : World) (fv : Value) (hrow : IRow W3 w.heap.size fv m.st.free) => rheader_any hrow hb2 hb1
 obtain ⟨s, hs⟩ : ∃ s, s = m.st := ⟨_, rfl⟩
 rw [← hs] at A hb2
 simp only [← hs] at C S HD
 obtain ⟨P, F, K, r⟩ := s
 obtain ⟨r0, r1, r2, r3, r4, r5, r6, r7, rfl⟩ := roots8 hb2
 refine ⟨P, K, _, _, r0, r1, r2, r3, r4, r5, r6, r7, A, fun W2 hb => ?_, C⟩
 refine (S W2 hb).mono ?_
 rintro e w' ⟨fv, rfl, hrow, hbe⟩
 obtain ⟨ao, cap, rfl, -⟩ := hrow.shape
 exact ⟨ao, F.length, cap, rfl, hbe, HD w' _ hrow⟩
end
end Go.Proofs.YtlkkclooihjpiaaGreat
