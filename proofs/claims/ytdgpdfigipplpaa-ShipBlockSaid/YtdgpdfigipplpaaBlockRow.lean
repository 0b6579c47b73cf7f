/- The row of ShipBlock, lifted: for every ship, every number and every eight bytes that may come in, ShipBlock answers true, and what came in reads as it did. No condition. -/
import Derived.Test.YtdgpdfigipplpaaOpen
import Derived.OpenShut
import Derived.Test.YtdgpdfigipplpaaBlock
namespace Go.Proofs.Ytdgpdfigipplpaa
open Go.ChangeShapes Go.WideShapes Go.ChangeAt Go.RowKit Go.Deep
set_option linter.unusedVariables false
set_option linter.unusedSimpArgs false

theorem u8_of {n : Int} (h : (Lit.int .u8 n).wf = true) : ∃ b : UInt8, n = (b.toNat : Int) := by
  have h' : (decide ((0 : Int) ≤ n) && decide (n ≤ 255)) = true := h
  simp at h'
  exact ⟨UInt8.ofNat n.toNat, by simp; omega⟩
/-- Eight bytes, opened. -/
theorem open_block {H : Type} {enc : TypeId × Value → H} {w : World} {base : Nat} {sp : Nat → Bool} {held : Bool} {bb : Nat} {v : Value} {d : DataW H} {p : List MemPlace} (hval : Value.okWide Try.prog w .any bb 40 v) (h : DataW.Trod enc Try.prog w base sp held 40 v d p) :
    ∃ b0 b1 b2 b3 b4 b5 b6 b7 : UInt8, v = .agg #[.int .u8 (b0.toNat : Int), .int .u8 (b1.toNat : Int), .int .u8 (b2.toNat : Int), .int .u8 (b3.toNat : Int), .int .u8 (b4.toNat : Int), .int .u8 (b5.toNat : Int), .int .u8 (b6.toNat : Int), .int .u8 (b7.toNat : Int)] := by
  simp only [Value.okWide, Try.underlying40] at hval
  obtain ⟨cs, rfl, hsz, _⟩ := hval
  obtain ⟨fuel, hf⟩ := h
  simp only [Value.cells] at hf
  obtain ⟨xs, n, _, _, hl, hx, hel⟩ := Go.DataW.trod_array Try.underlying40 hf
  have e8 : Try.prog.cellsOf 40 = 8 := by kernel_rfl
  have e1 : Try.prog.cellsOf 5 = 1 := by kernel_rfl
  rw [e8] at hl
  rw [e1] at hel
  obtain ⟨cs⟩ := cs
  obtain ⟨a0, a1, a2, a3, a4, a5, a6, a7, rfl⟩ : ∃ a0 a1 a2 a3 a4 a5 a6 a7, cs = [a0, a1, a2, a3, a4, a5, a6, a7] := by
    match cs, hl with
    | [a0, a1, a2, a3, a4, a5, a6, a7], _ => exact ⟨a0, a1, a2, a3, a4, a5, a6, a7, rfl⟩
  have one : ∀ (c : Value) (i : Nat), i < 8 → DataW.trod enc Try.prog w base sp held n 5 [c] = xs[i]? → ∃ b : UInt8, c = .int .u8 (b.toNat : Int) := by
    intro c i hi hc
    rw [List.getElem?_eq_getElem (by omega)] at hc
    obtain ⟨z, ez, _, wz⟩ := DataW.trod_int Try.underlying5 hc
    obtain ⟨b, rfl⟩ := u8_of wz
    exact ⟨b, by simpa using ez⟩
  obtain ⟨b0, rfl⟩ := one a0 0 (by decide) (hel 0 (by decide))
  obtain ⟨b1, rfl⟩ := one a1 1 (by decide) (hel 1 (by decide))
  obtain ⟨b2, rfl⟩ := one a2 2 (by decide) (hel 2 (by decide))
  obtain ⟨b3, rfl⟩ := one a3 3 (by decide) (hel 3 (by decide))
  obtain ⟨b4, rfl⟩ := one a4 4 (by decide) (hel 4 (by decide))
  obtain ⟨b5, rfl⟩ := one a5 5 (by decide) (hel 5 (by decide))
  obtain ⟨b6, rfl⟩ := one a6 6 (by decide) (hel 6 (by decide))
  obtain ⟨b7, rfl⟩ := one a7 7 (by decide) (hel 7 (by decide))
  exact ⟨b0, b1, b2, b3, b4, b5, b6, b7, rfl⟩

set_option maxHeartbeats 800000 in
set_option maxRecDepth 100000 in
theorem block_lifted (os : Os) (started : os.Started) (H : Type) (enc : TypeId × Value → H) :
    ReturnsInHanded {} Try.checked os 8 .any (Rows.shipBlockSpec.pre6 enc Try.prog Try.f8 Rows.shipBlockRow.domain false) (Rows.shipBlockSpec.post enc Try.prog Try.f8 false true false false) := by
  refine returnsInHanded_of_change (C := Try.checked) own started (by kernel_rfl) Try.func8
    (ChangeSpec.witness6 (enc := enc) (C := Try.checked) false ⟨#[], #[.agg #[.int .u8 0, .int .u64 0, .int .u64 0, .bool false, .int .i64 0, .slice none 0 0], .int .i64 0, .agg #[.int .u8 0, .int .u8 0, .int .u8 0, .int .u8 0, .int .u8 0, .int .u8 0, .int .u8 0, .int .u8 0]], []⟩ 8 (by kernel_rfl) (by kernel_rfl) (by kernel_rfl) (by kernel_rfl)) ?_
  intro W base args ds gs before hval0 hW hcnd _
  have hval : ∀ (j : Nat) t v, Try.f8.params[j]? = some t → args[j]? = some v → Value.okWide Try.prog W .any base t v := hval0
  have hW' := hW
  obtain ⟨p, q, hA0, hV, rfl, hfz, hnd⟩ := hW
  have hA : DataW.TrodAll enc Try.prog W 0 (fun _ => true) true Try.f8.params.toList args.toList ds p := hA0
  rw [Try.params8] at hA hval
  obtain ⟨v0, v1, v2, d0, d1, d2, p0, p1, p2, rfl, rfl, rfl, h0, h1, h2⟩ := trodAll_three hA
  obtain ⟨rfl, rfl⟩ := trodVars_none hV
  obtain ⟨m, vs, rfl, hm⟩ := open_ship (hval 0 28 v0 rfl rfl) h0
  have h1k := h1
  obtain ⟨a, rfl, rfl, rfl, wa⟩ := open_int Try.underlying3 (hval 1 3 v1 rfl rfl) h1
  obtain ⟨b0, b1, b2, b3, b4, b5, b6, b7, rfl⟩ := open_block (hval 2 40 v2 rfl rfl) h2
  clear hA0 hval0
  simp only [List.append_nil] at hW'
  have hlt : ∀ y ∈ p0, y.block < W.heap.size := fun y hy => by simpa using hW'.lt y (by simp [hy])
  have hlt2 : ∀ y ∈ p2, y.block < W.heap.size := fun y hy => by simpa using hW'.lt y (by simp [hy])
  have ha : -9223372036854775808 ≤ a ∧ a ≤ 9223372036854775807 := by
    have h : (decide ((-9223372036854775808 : Int) ≤ a) && decide (a ≤ 9223372036854775807)) = true := wa
    simpa using h
  refine (block_any m vs a b0 b1 b2 b3 b4 b5 b6 b7 W hm ha.1 ha.2).mono fun e W' ⟨he, hb⟩ => ?_
  subst he
  exact ⟨_, rfl, _, _, _, [], _, [], hW', trodAll_mk1 (shut_bool Try.underlying4 _), trodAll_mk3 (Below.trod laidOut (by kernel_rfl) (of_decide_eq_true (by kernel_rfl)) h0 hb hlt) (Below.trod laidOut (by kernel_rfl) (of_decide_eq_true (by kernel_rfl)) h1k hb (fun y hy => by cases hy)) (Below.trod laidOut (by kernel_rfl) (of_decide_eq_true (by kernel_rfl)) h2 hb hlt2), rfl, hb.frame _, fun h => by cases h⟩

/-- ShipBlock: for every ship, number and eight bytes, true. No condition. -/
theorem shipBlock_holds : Rows.ShipBlockSaid :=
  OpenClaim.holds_of_wide 8 Try.f8 rfl rfl rfl rfl rfl rfl rfl ⟨rfl, rfl, rfl, rfl, rfl⟩ rfl rfl rfl rfl rfl (by kernel_rfl) Try.func8 (by kernel_rfl)
    (of_decide_eq_true (by kernel_rfl)) (by unfold Func.isWrapper; first | (rw [if_pos (by decide +kernel)]; kernel_rfl) | (rw [if_neg (by decide +kernel)]; exact ⟨rfl, rfl⟩))
    (fun os started H enc _ => block_lifted os started H enc)

#print axioms shipBlock_holds
end Go.Proofs.Ytdgpdfigipplpaa
