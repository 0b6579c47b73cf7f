/- Heads, frames and pairs that come in, opened out of their readings. -/
import Derived.Test.YtnfoahedkkamhaaLift
import Derived.Test.YtnfoahedkkamhaaFrX
namespace Go.Proofs.Ytnfoahedkkamhaa
open Go.ChangeShapes Go.WideShapes Go.ChangeAt Go.RowKit Go.Deep
set_option linter.unusedVariables false
set_option linter.unusedSimpArgs false

section
variable {H : Type} {enc : TypeId × Value → H} {w : World} {base : Nat} {sp : Nat → Bool} {held : Bool}

theorem open_hd {b0 : Nat} {v : Value} (hval : Value.okWide Try.prog w .any b0 27 v) (h : ∃ d p, DataW.Trod enc Try.prog w base sp held 27 v d p) : ∃ m : Hd, v = hdV m ∧ HdWf m := by
  obtain ⟨d, p, h⟩ := h
  obtain ⟨cs, rfl, hsz⟩ := okWide_struct Try.underlying27 hval
  obtain ⟨fuel, hf⟩ := h
  simp only [Value.cells] at hf
  obtain ⟨hl, n, hf⟩ := open_cells_struct Try.underlying27 (by kernel_rfl) (by kernel_rfl) hf
  obtain ⟨cs⟩ := cs
  obtain ⟨a0, a1, a2, rfl⟩ : ∃ a0 a1 a2, cs = [a0, a1, a2] := by
    match cs, hl with
    | [a0, a1, a2], _ => exact ⟨a0, a1, a2, rfl⟩
  obtain ⟨y0, h0⟩ := hf 0 _ rfl
  obtain ⟨y1, h1⟩ := hf 1 _ rfl
  obtain ⟨y2, h2⟩ := hf 2 _ rfl
  obtain ⟨k, e0, _, w0⟩ := DataW.trod_int Try.underlying25 h0
  obtain ⟨f, e1, _, w1⟩ := DataW.trod_int Try.underlying3 h1
  obtain ⟨g, e2, _, w2⟩ := DataW.trod_int Try.underlying3 h2
  simp at e0 e1 e2
  subst e0 e1 e2
  exact ⟨⟨k, f, g⟩, rfl, u64_wf w0⟩
theorem open_pair {b0 : Nat} {v : Value} (hval : Value.okWide Try.prog w .any b0 33 v) (h : ∃ d p, DataW.Trod enc Try.prog w base sp held 33 v d p) : ∃ m : Int × Int, v = pairV m ∧ PairWf m := by
  obtain ⟨d, p, h⟩ := h
  obtain ⟨cs, rfl, hsz⟩ := okWide_struct Try.underlying33 hval
  obtain ⟨fuel, hf⟩ := h
  simp only [Value.cells] at hf
  obtain ⟨hl, n, hf⟩ := open_cells_struct Try.underlying33 (by kernel_rfl) (by kernel_rfl) hf
  obtain ⟨cs⟩ := cs
  obtain ⟨a0, a1, rfl⟩ : ∃ a0 a1, cs = [a0, a1] := by
    match cs, hl with
    | [a0, a1], _ => exact ⟨a0, a1, rfl⟩
  obtain ⟨y0, h0⟩ := hf 0 _ rfl
  obtain ⟨y1, h1⟩ := hf 1 _ rfl
  obtain ⟨k, e0, _, w0⟩ := DataW.trod_int Try.underlying31 h0
  obtain ⟨f, e1, _, w1⟩ := DataW.trod_int Try.underlying31 h1
  simp at e0 e1
  subst e0 e1
  exact ⟨(k, f), rfl, u32_wf w0, u32_wf w1⟩
theorem open_fr {b0 : Nat} {v : Value} (hval : Value.okWide Try.prog w .any b0 37 v) (h : ∃ d p, DataW.Trod enc Try.prog w base sp held 37 v d p) : ∃ m : Fr, v = frV m ∧ m.data.length ≤ 9223372036854775807 := by
  obtain ⟨d, p, h⟩ := h
  obtain ⟨cs, rfl, hsz⟩ := okWide_struct Try.underlying37 hval
  obtain ⟨fuel, hf⟩ := h
  simp only [Value.cells] at hf
  obtain ⟨hl, n, hf⟩ := open_cells_struct Try.underlying37 (by kernel_rfl) (by kernel_rfl) hf
  obtain ⟨cs⟩ := cs
  obtain ⟨a0, a1, a2, rfl⟩ : ∃ a0 a1 a2, cs = [a0, a1, a2] := by
    match cs, hl with
    | [a0, a1, a2], _ => exact ⟨a0, a1, a2, rfl⟩
  obtain ⟨y0, h0⟩ := hf 0 _ rfl
  obtain ⟨y1, h1⟩ := hf 1 _ rfl
  obtain ⟨y2, h2⟩ := hf 2 _ rfl
  obtain ⟨k, e0, _, w0⟩ := DataW.trod_int Try.underlying3 h0
  obtain ⟨f, e1, _, w1⟩ := DataW.trod_int Try.underlying3 h1
  obtain ⟨g, e2, _, hs⟩ := DataW.trod_string Try.underlying9 h2
  simp at e0 e1 e2
  subst e0 e1 e2
  exact ⟨⟨k, f, g.data.toList⟩, rfl, len_of hs⟩
theorem open_str {b0 : Nat} {v : Value} (hval : Value.okWide Try.prog w .any b0 9 v) (h : ∃ d p, DataW.Trod enc Try.prog w base sp held 9 v d p) : ∃ l : List UInt8, v = .string (bs l) ∧ l.length ≤ 9223372036854775807 := by
  obtain ⟨d, p, h⟩ := h
  obtain ⟨s, rfl, _, _, hs⟩ := ChangeMaps.open_string Try.underlying9 hval h
  exact ⟨s.data.toList, rfl, len_of hs⟩
theorem open_u64 {b0 : Nat} {v : Value} (hval : Value.okWide Try.prog w .any b0 25 v) (h : ∃ d p, DataW.Trod enc Try.prog w base sp held 25 v d p) : ∃ n : Int, v = .int .u64 n ∧ 0 ≤ n ∧ n < 18446744073709551616 := by
  obtain ⟨d, p, h⟩ := h
  obtain ⟨n, rfl, _, _, hw⟩ := open_int Try.underlying25 hval h
  exact ⟨n, rfl, u64_wf hw⟩
theorem open_i64 {b0 : Nat} {v : Value} (hval : Value.okWide Try.prog w .any b0 3 v) (h : ∃ d p, DataW.Trod enc Try.prog w base sp held 3 v d p) : ∃ n : Int, v = .int .i64 n ∧ -9223372036854775808 ≤ n ∧ n ≤ 9223372036854775807 := by
  obtain ⟨d, p, h⟩ := h
  obtain ⟨n, rfl, _, _, hw⟩ := open_int Try.underlying3 hval h
  exact ⟨n, rfl, i64_wf hw⟩
/-- Eight bytes, opened. -/
theorem open_block {b0 : Nat} {v : Value} (hval : Value.okWide Try.prog w .any b0 51 v) (h : ∃ d p, DataW.Trod enc Try.prog w base sp held 51 v d p) :
    ∃ b0 b1 b2 b3 b4 b5 b6 b7 : UInt8, v = .agg #[.int .u8 (b0.toNat : Int), .int .u8 (b1.toNat : Int), .int .u8 (b2.toNat : Int), .int .u8 (b3.toNat : Int), .int .u8 (b4.toNat : Int), .int .u8 (b5.toNat : Int), .int .u8 (b6.toNat : Int), .int .u8 (b7.toNat : Int)] := by
  obtain ⟨d, p, h⟩ := h
  simp only [Value.okWide, Try.underlying51] at hval
  obtain ⟨cs, rfl, hsz, _⟩ := hval
  obtain ⟨fuel, hf⟩ := h
  simp only [Value.cells] at hf
  obtain ⟨xs, n, _, _, hl, hx, hel⟩ := Go.DataW.trod_array Try.underlying51 hf
  have e8 : Try.prog.cellsOf 51 = 8 := by kernel_rfl
  have e1 : Try.prog.cellsOf 5 = 1 := by kernel_rfl
  rw [e8] at hl
  rw [e1] at hel
  obtain ⟨cs⟩ := cs
  obtain ⟨a0, a1, a2, a3, a4, a5, a6, a7, rfl⟩ : ∃ a0 a1 a2 a3 a4 a5 a6 a7, cs = [a0, a1, a2, a3, a4, a5, a6, a7] := by
    match cs, hl with
    | [a0, a1, a2, a3, a4, a5, a6, a7], _ => exact ⟨a0, a1, a2, a3, a4, a5, a6, a7, rfl⟩
  have one : ∀ (c : Value) (i : Nat), i < 8 → DataW.trod enc Try.prog w base sp held n 5 [c] = xs[i]? → ∃ b : UInt8, c = .int .u8 (b.toNat : Int) := by
    intro c i hi hc
    rw [List.getElem?_eq_getElem (by omega)] at hc
    obtain ⟨z, ez, _, wz⟩ := DataW.trod_int Try.underlying5 hc
    obtain ⟨b, rfl⟩ := u8_of wz
    exact ⟨b, by simpa using ez⟩
  obtain ⟨b0, rfl⟩ := one a0 0 (by decide) (hel 0 (by decide))
  obtain ⟨b1, rfl⟩ := one a1 1 (by decide) (hel 1 (by decide))
  obtain ⟨b2, rfl⟩ := one a2 2 (by decide) (hel 2 (by decide))
  obtain ⟨b3, rfl⟩ := one a3 3 (by decide) (hel 3 (by decide))
  obtain ⟨b4, rfl⟩ := one a4 4 (by decide) (hel 4 (by decide))
  obtain ⟨b5, rfl⟩ := one a5 5 (by decide) (hel 5 (by decide))
  obtain ⟨b6, rfl⟩ := one a6 6 (by decide) (hel 6 (by decide))
  obtain ⟨b7, rfl⟩ := one a7 7 (by decide) (hel 7 (by decide))
  exact ⟨b0, b1, b2, b3, b4, b5, b6, b7, rfl⟩
end
end Go.Proofs.Ytnfoahedkkamhaa
