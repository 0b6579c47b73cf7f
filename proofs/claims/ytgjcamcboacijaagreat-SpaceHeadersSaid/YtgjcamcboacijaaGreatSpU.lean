/- Headers that come in, opened. -/
import Derived.Test.YtgjcamcboacijaaGreatLift
import Derived.Test.YtgjcamcboacijaaGreatSpZ
namespace Go.Proofs.YtgjcamcboacijaaGreat
open Go.ChangeShapes Go.WideShapes Go.ChangeAt Go.RowKit Go.Deep
set_option linter.unusedVariables false
set_option linter.unusedSimpArgs false
set_option maxRecDepth 20000
set_option maxRecDepth 20000

section
variable {H : Type} {enc : TypeId × Value → H} {w : World} {base : Nat} {sp : Nat → Bool} {held : Bool}
theorem in64_wf {n : Int} (h : (Lit.int .i64 n).wf = true) : in64 n := by
  have h' : (decide ((-9223372036854775808 : Int) ≤ n) && decide (n ≤ 9223372036854775807)) = true := h
  simp at h'
  exact ⟨by omega, by omega⟩
theorem open_hdr {b0 : Nat} {v : Value} (hval : Value.okWide Tryz.prog w .any b0 25 v) (h : ∃ d p, DataW.Trod enc Tryz.prog w base sp held 25 v d p) :
    ∃ h : Hdr, v = hdrV h ∧ h.Wf := by
  obtain ⟨d, p, h⟩ := h
  obtain ⟨cs, rfl, hsz⟩ := okWide_struct Tryz.underlying25 hval
  obtain ⟨fuel, hf⟩ := h
  simp only [Value.cells] at hf
  obtain ⟨xs, n, _, _, hl, hx, hel⟩ := DataW.trod_struct Tryz.underlying25 hf
  have hx4 : xs.length = 4 := hx
  have e11 : Tryz.prog.cellsOf 25 = 11 := by kernel_rfl
  have e8 : Tryz.prog.cellsOf 23 = 8 := by kernel_rfl
  have e1 : Tryz.prog.cellsOf 3 = 1 := by kernel_rfl
  have eu : Tryz.prog.cellsOf 22 = 1 := by kernel_rfl
  rw [e11] at hl
  obtain ⟨cs⟩ := cs
  obtain ⟨f, c, k, a0, a1, a2, a3, a4, a5, a6, a7, rfl⟩ : ∃ f c k a0 a1 a2 a3 a4 a5 a6 a7, cs = [f, c, k, a0, a1, a2, a3, a4, a5, a6, a7] := by
    match cs, hl with
    | [f, c, k, a0, a1, a2, a3, a4, a5, a6, a7], _ => exact ⟨f, c, k, a0, a1, a2, a3, a4, a5, a6, a7, rfl⟩
  have x0 : DataW.trod enc Tryz.prog w base sp held n 3 ((List.drop 0 [f, c, k, a0, a1, a2, a3, a4, a5, a6, a7]).take (Tryz.prog.cellsOf 3)) = xs[0]? := hel 0 _ rfl
  have x1 : DataW.trod enc Tryz.prog w base sp held n 3 ((List.drop 1 [f, c, k, a0, a1, a2, a3, a4, a5, a6, a7]).take (Tryz.prog.cellsOf 3)) = xs[1]? := hel 1 _ rfl
  have x2 : DataW.trod enc Tryz.prog w base sp held n 22 ((List.drop 2 [f, c, k, a0, a1, a2, a3, a4, a5, a6, a7]).take (Tryz.prog.cellsOf 22)) = xs[2]? := hel 2 _ rfl
  have x3 : DataW.trod enc Tryz.prog w base sp held n 23 ((List.drop 3 [f, c, k, a0, a1, a2, a3, a4, a5, a6, a7]).take (Tryz.prog.cellsOf 23)) = xs[3]? := hel 3 _ rfl
  rw [e1, List.getElem?_eq_getElem (by omega)] at x0 x1
  rw [eu, List.getElem?_eq_getElem (by omega)] at x2
  rw [e8, List.getElem?_eq_getElem (by omega)] at x3
  obtain ⟨zf, ef, _, wf⟩ := DataW.trod_int Tryz.underlying3 (show DataW.trod enc Tryz.prog w base sp held n 3 [f] = _ from x0)
  obtain ⟨zc, ec, _, wc⟩ := DataW.trod_int Tryz.underlying3 (show DataW.trod enc Tryz.prog w base sp held n 3 [c] = _ from x1)
  obtain ⟨zk, ek, _, wk⟩ := DataW.trod_int Tryz.underlying22 (show DataW.trod enc Tryz.prog w base sp held n 22 [k] = _ from x2)
  obtain ⟨ys, m, _, _, hl8, hy, hey⟩ := Go.DataW.trod_array Tryz.underlying23 (show DataW.trod enc Tryz.prog w base sp held n 23 [a0, a1, a2, a3, a4, a5, a6, a7] = _ from x3)
  rw [e1] at hey
  have one : ∀ (c : Value) (i : Nat), i < 8 → DataW.trod enc Tryz.prog w base sp held m 3 [c] = ys[i]? → ∃ z : Int, c = .int .i64 z ∧ in64 z := by
    intro c i hi hc
    rw [List.getElem?_eq_getElem (by omega)] at hc
    obtain ⟨z, ez, _, wz⟩ := DataW.trod_int Tryz.underlying3 hc
    exact ⟨z, by simpa using ez, in64_wf wz⟩
  obtain ⟨b0, rfl, h0⟩ := one a0 0 (by decide) (hey 0 (by decide))
  obtain ⟨b1, rfl, h1⟩ := one a1 1 (by decide) (hey 1 (by decide))
  obtain ⟨b2, rfl, h2⟩ := one a2 2 (by decide) (hey 2 (by decide))
  obtain ⟨b3, rfl, h3⟩ := one a3 3 (by decide) (hey 3 (by decide))
  obtain ⟨b4, rfl, h4⟩ := one a4 4 (by decide) (hey 4 (by decide))
  obtain ⟨b5, rfl, h5⟩ := one a5 5 (by decide) (hey 5 (by decide))
  obtain ⟨b6, rfl, h6⟩ := one a6 6 (by decide) (hey 6 (by decide))
  obtain ⟨b7, rfl, h7⟩ := one a7 7 (by decide) (hey 7 (by decide))
  simp at ef ec ek
  subst ef ec ek
  refine ⟨⟨zf, zc, zk, [b0, b1, b2, b3, b4, b5, b6, b7]⟩, rfl, in64_wf wf, in64_wf wc, u64_wf wk, rfl, ?_⟩
  intro z hz
  simp only [List.mem_cons, List.not_mem_nil, or_false] at hz
  rcases hz with rfl | rfl | rfl | rfl | rfl | rfl | rfl | rfl <;> assumption
theorem open_str {b0 : Nat} {v : Value} (hval : Value.okWide Tryz.prog w .any b0 9 v) (h : ∃ d p, DataW.Trod enc Tryz.prog w base sp held 9 v d p) : ∃ l : List UInt8, v = .string (bs l) ∧ l.length ≤ 9223372036854775807 := by
  obtain ⟨d, p, h⟩ := h
  obtain ⟨s, rfl, _, _, hs⟩ := ChangeMaps.open_string Tryz.underlying9 hval h
  exact ⟨s.data.toList, rfl, len_of hs⟩
end
end Go.Proofs.YtgjcamcboacijaaGreat
