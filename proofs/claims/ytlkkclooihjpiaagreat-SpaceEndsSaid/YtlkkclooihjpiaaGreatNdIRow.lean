/- The row of SpaceEnds, lifted: whatever pages are laid and whatever calls come in: each call ends, a rollback leaves what was read, SpaceEnds answers true, and what came in reads as it did. No condition. -/
import Derived.Test.YtlkkclooihjpiaaGreatNdI
set_option linter.unusedVariables false
set_option linter.unusedSimpArgs false
namespace Go.Proofs.YtlkkclooihjpiaaGreat
open Go.ChangeShapes Go.WideShapes Go.ChangeAt Go.RowKit Go.Deep
set_option maxRecDepth 20000
set_option maxRecDepth 20000
section
variable {H : Type} {enc : TypeId × Value → H} {w : World} {base : Nat} {sp : Nat → Bool} {held : Bool}
theorem open_strs_cell {fuel : Nat} {cs : List Value} {x : DataW H × List MemPlace} (h : DataW.trod enc Tryz.prog w base sp held fuel 22 cs = some x) :
  ∃ (v : Value) (l : List (List UInt8)), cs = [v] ∧ StrsIn w v l := by
 rcases open_slice1 Tryz.underlying22 (by kernel_rfl) h with ⟨rfl, _⟩ | ⟨a, len, cap, m, n, V, D, Pl, rfl, hb, hle, hcap, hm, _, hx⟩
 ·exact ⟨_, [], rfl, ⟨⟨none, 0, rfl, (fun k hk => by simp at hk)⟩, by simp, (fun x hx => by cases hx)⟩⟩
 have hlm : len ≤ m := by rw [hm]; split <;> omega
 obtain ⟨B, hB⟩ := choose_lt (α := List UInt8) (p := fun i b => w.cell? (a.add i) = some (.string (bs b)) ∧ b.length ≤ 9223372036854775807) (n := len) (fun i hi => by
  obtain ⟨h1, h2⟩ := hx i (by omega)
  obtain ⟨q, e, _, hs⟩ := DataW.trod_string Tryz.underlying9 h2
  simp at e
  exact ⟨q.data.toList, by rw [h1, e]; rfl, len_of hs⟩)
 have hm' : maxLen = 9223372036854775807 := rfl
 have hlen : ((List.range len).map B).length = len := by simp
 refine ⟨_, (List.range len).map B, rfl, ⟨⟨some a, cap, by rw [hlen], fun k hk => ?_⟩, by rw [hlen]; omega, fun y hy => ?_⟩⟩
 ·rw [hlen] at hk
  obtain ⟨b, off, spot⟩ := a
  have c0 := (hB 0 (by omega)).1
  have hspot : spot = none := by simpa [Addr.add] using World.cell?_spot c0
  subst hspot
  have hlt : b < w.heap.size := by simpa [Addr.add] using lt_of_cell c0
  refine ⟨b, off, rfl, hlt, ?_⟩
  have e := (hB k hk).1
  simp only [Addr.add_lit] at e
  rw [e]
  simp
 ·obtain ⟨i, hi, rfl⟩ := List.mem_map.1 hy
  exact (hB i (by simpa using hi)).2
theorem open_strs {b0 : Nat} {v : Value} (hval : Value.okWide Tryz.prog w .any b0 22 v) (h : ∃ d p, DataW.Trod enc Tryz.prog w base sp held 22 v d p) : ∃ (z : Value × List (List UInt8)), v = z.1 ∧ StrsIn w z.1 z.2 := by
 obtain ⟨d, p, fuel, hf⟩ := h
 obtain ⟨ao, n, cap, rfl⟩ := okWide_slice Tryz.underlying22 hval
 obtain ⟨v, l, e, hl⟩ := open_strs_cell hf
 simp [Value.cells] at e
 subst e
 exact ⟨(_, l), rfl, hl⟩
end
set_option maxHeartbeats 800000 in
set_option maxRecDepth 100000 in
theorem spaceEnds_lifted (os : Os) (started : os.Started) (H : Type) (enc : TypeId × Value → H) :
  ReturnsInHanded {} Tryz.checked os 3 .any (Rows.spaceEndsSpec.pre6 enc Tryz.prog Tryz.f3 Rows.spaceEndsRow.domain false) (Rows.spaceEndsSpec.post enc Tryz.prog Tryz.f3 false true false false) := by
 refine returnsInHanded_of_change (C := Tryz.checked) own started (by kernel_rfl) Tryz.func3
  (ChangeSpec.witness6 (enc := enc) (C := Tryz.checked) false ⟨#[], #[.slice none 0 0, .slice none 0 0], []⟩ 8 (by kernel_rfl) (by kernel_rfl) (by kernel_rfl) (by kernel_rfl)) ?_
 intro W base args ds gs before hval0 hW hcnd _
 have hval : ∀ (j : Nat) t v, Tryz.f3.params[j]? = some t → args[j]? = some v → Value.okWide Tryz.prog W .any base t v := hval0
 have hW' := hW
 obtain ⟨plcs, plcs2, hA0, hV, rfl, hfz, hnd⟩ := hW
 have hA : DataW.TrodAll enc Tryz.prog W 0 (fun _ => true) true Tryz.f3.params.toList args.toList ds plcs := hA0
 rw [Tryz.params3] at hA hval
 obtain ⟨rfl, rfl⟩ := trodVars_none hV
 have each := trod_each hA
 obtain ⟨v0, v1, rfl⟩ := args_two each.1
 obtain ⟨d0, d1, rfl⟩ := list_two (trod_ds hA)
 obtain ⟨a1, rfl, g1⟩ := open_strs (hval 0 22 v0 rfl rfl) (each.2 0 22 v0 rfl rfl)
 obtain ⟨a2, rfl, g2⟩ := open_op3s (hval 1 23 v1 rfl rfl) (each.2 1 23 v1 rfl rfl)
 clear hA0 hval0 each
 simp only [List.append_nil] at hW'
 have hlt : ∀ y ∈ plcs, y.block < W.heap.size := fun y hy => by simpa using hW'.lt y (by simpa using hy)
 refine (show Calls _ _ _ _ _ from spaceEnds_any W _ _ _ _ g1 g2).mono fun e W' ⟨he, hb⟩ => ?_
 subst he
 exact ⟨_, rfl, _, _, _, [], _, [], hW', trodAll_mk1 (shut_bool Tryz.underlying4 _), below_all laidOut hb (by kernel_rfl) hA hlt, rfl, hb.frame _, fun h => by cases h⟩
theorem spaceEnds_holds : Rows.SpaceEndsSaid :=
 OpenClaim.holds_of_wide 3 Tryz.f3 rfl rfl rfl rfl rfl rfl rfl ⟨rfl, rfl, rfl, rfl, rfl⟩ rfl rfl rfl rfl rfl (by kernel_rfl) Tryz.func3 (by kernel_rfl)
  (of_decide_eq_true (by kernel_rfl)) (by unfold Func.isWrapper; first | (rw [if_pos (by decide +kernel)]; kernel_rfl) | (rw [if_neg (by decide +kernel)]; exact ⟨rfl, rfl⟩))
  (fun os started H enc _ => spaceEnds_lifted os started H enc)
#print axioms spaceEnds_holds
end Go.Proofs.YtlkkclooihjpiaaGreat
