/- Strings that come in, opened out of their readings. -/
import Derived.Test.YtcpejlmnplkbaaaGreatRnQ
import Derived.Test.YtcpejlmnplkbaaaGreatHeld
namespace Go.Proofs.YtcpejlmnplkbaaaGreat
open Go.ChangeShapes Go.WideShapes Go.ChangeAt Go.RowKit Go.Deep
set_option linter.unusedVariables false
set_option linter.unusedSimpArgs false
set_option maxRecDepth 20000
set_option maxRecDepth 20000

theorem args_one {a : Array Value} (h : a.toList.length = 1) : ∃ v0, a = #[v0] := by
  obtain ⟨l⟩ := a
  match l, h with
  | [v0], _ => exact ⟨v0, rfl⟩
theorem list_one {α : Type} {l : List α} (h : l.length = 1) : ∃ d0, l = [d0] := by
  match l, h with
  | [d0], _ => exact ⟨d0, rfl⟩
theorem len_of {s : ByteArray} (h : s.size ≤ maxLen) : s.data.toList.length ≤ 9223372036854775807 := by
  have e : s.size = s.data.toList.length := by show s.data.size = _; exact Array.length_toList.symm
  have hm : maxLen = 9223372036854775807 := rfl
  omega
section
variable {H : Type} {enc : TypeId × Value → H} {w : World} {base : Nat} {sp : Nat → Bool} {held : Bool}
theorem open_strs_cell {fuel : Nat} {cs : List Value} {x : DataW H × List MemPlace} (h : DataW.trod enc Tryz.prog w base sp held fuel 57 cs = some x) :
    ∃ (v : Value) (l : List (List UInt8)), cs = [v] ∧ StrsIn w v l := by
  rcases open_slice1 Tryz.underlying57 (by kernel_rfl) h with ⟨rfl, _⟩ | ⟨a, len, cap, m, n, V, D, Pl, rfl, hb, hle, hcap, hm, _, hx⟩
  · exact ⟨_, [], rfl, ⟨⟨none, 0, rfl, (fun k hk => by simp at hk)⟩, by simp, (fun x hx => by cases hx)⟩⟩
  have hlm : len ≤ m := by rw [hm]; split <;> omega
  obtain ⟨B, hB⟩ := choose_lt (α := List UInt8) (p := fun i b => w.cell? (a.add i) = some (.string (bs b)) ∧ b.length ≤ 9223372036854775807) (n := len) (fun i hi => by
    obtain ⟨h1, h2⟩ := hx i (by omega)
    obtain ⟨q, e, _, hs⟩ := DataW.trod_string Tryz.underlying9 h2
    simp at e
    exact ⟨q.data.toList, by rw [h1, e]; rfl, len_of hs⟩)
  have hm' : maxLen = 9223372036854775807 := rfl
  have hlen : ((List.range len).map B).length = len := by simp
  refine ⟨_, (List.range len).map B, rfl, ⟨⟨some a, cap, by rw [hlen], fun k hk => ?_⟩, by rw [hlen]; omega, fun y hy => ?_⟩⟩
  · rw [hlen] at hk
    obtain ⟨b, off, spot⟩ := a
    have c0 := (hB 0 (by omega)).1
    have hspot : spot = none := by simpa [Addr.add] using World.cell?_spot c0
    subst hspot
    have hlt : b < w.heap.size := by simpa [Addr.add] using lt_of_cell c0
    refine ⟨b, off, rfl, hlt, ?_⟩
    have e := (hB k hk).1
    simp only [Addr.add_lit] at e
    rw [e]
    simp
  · obtain ⟨i, hi, rfl⟩ := List.mem_map.1 hy
    exact (hB i (by simpa using hi)).2
theorem open_strs {b0 : Nat} {v : Value} (hval : Value.okWide Tryz.prog w .any b0 57 v) (h : ∃ d p, DataW.Trod enc Tryz.prog w base sp held 57 v d p) : ∃ (z : Value × List (List UInt8)), v = z.1 ∧ StrsIn w z.1 z.2 := by
  obtain ⟨d, p, fuel, hf⟩ := h
  obtain ⟨ao, n, cap, rfl⟩ := okWide_slice Tryz.underlying57 hval
  obtain ⟨v, l, e, hl⟩ := open_strs_cell hf
  simp [Value.cells] at e
  subst e
  exact ⟨(_, l), rfl, hl⟩
end
end Go.Proofs.YtcpejlmnplkbaaaGreat
