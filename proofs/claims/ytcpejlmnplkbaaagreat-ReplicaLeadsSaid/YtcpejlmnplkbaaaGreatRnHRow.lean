/- Letters (Come) and numbers that come in, opened out of their readings. -/
import Derived.Test.YtcpejlmnplkbaaaGreatRnH
import Derived.Test.YtcpejlmnplkbaaaGreatLift
set_option linter.unusedVariables false
set_option linter.unusedSimpArgs false
namespace Go.Proofs.YtcpejlmnplkbaaaGreat
open Go.ChangeShapes Go.WideShapes Go.ChangeAt Go.RowKit Go.Deep
set_option maxRecDepth 20000
set_option maxRecDepth 20000
instance : Inhabited Cm := ⟨⟨0, []⟩⟩
section
variable {H : Type} {enc : TypeId × Value → H} {w : World} {base : Nat} {sp : Nat → Bool} {held : Bool}
theorem open_come {fuel : Nat} {cs : List Value} {x : DataW H × List MemPlace} (h : DataW.trod enc Tryz.prog w base sp held fuel 32 cs = some x) :
  ∃ (n : Int) (l : List UInt8), cs = [.int .i64 n, .string (bs l)] ∧ l.length ≤ 9223372036854775807 := by
 obtain ⟨hl, n, hf⟩ := open_cells_struct Tryz.underlying32 (by kernel_rfl) (by kernel_rfl) h
 obtain ⟨a, b, rfl⟩ : ∃ a b, cs = [a, b] := by
  match cs, hl with
  | [a, b], _ => exact ⟨a, b, rfl⟩
 obtain ⟨y0, h0⟩ := hf 0 _ rfl
 obtain ⟨y1, h1⟩ := hf 1 _ rfl
 obtain ⟨p, e0, _, _⟩ := DataW.trod_int Tryz.underlying3 h0
 obtain ⟨q, e1, _, hs⟩ := DataW.trod_string Tryz.underlying9 h1
 simp at e0 e1
 refine ⟨p, q.data.toList, by rw [e0, e1]; rfl, ?_⟩
 have : q.size = q.data.toList.length := by show q.data.size = _; exact Array.length_toList.symm
 have hm : maxLen = 9223372036854775807 := rfl
 omega
theorem open_comes_cell {fuel : Nat} {cs : List Value} {x : DataW H × List MemPlace} (h : DataW.trod enc Tryz.prog w base sp held fuel 23 cs = some x) :
  ∃ (v : Value) (l : List Cm), cs = [v] ∧ ComesIn w v l := by
 rcases open_slice Tryz.underlying23 h with ⟨rfl, _⟩ | ⟨a, len, cap, m, n, D, Pl, rfl, hb, hle, hcap, hm, _, hx⟩
 ·exact ⟨_, [], rfl, ⟨⟨none, 0, rfl, (fun k hk => by simp at hk)⟩, by simp, (fun x hx => by cases hx)⟩⟩
 have hlm : len ≤ m := by rw [hm]; split <;> omega
 have hcells : Tryz.prog.cellsOf 32 = 2 := by kernel_rfl
 rw [hcells] at hx
 obtain ⟨V, hV⟩ := choose_lt (α := Cm) (p := fun i z => w.cell? (a.add (i * 2)) = some (.int .i64 z.frm) ∧ w.cell? (a.add (i * 2 + 1)) = some (.string (bs z.s)) ∧ z.s.length ≤ 9223372036854775807) (n := len) (fun i hi => by
  obtain ⟨cs', h1, h2⟩ := hx i (by omega)
  obtain ⟨p, q, rfl, hq⟩ := open_come h2
  obtain ⟨_, _, hc⟩ := World.cells?_some h1
  have c0 := hc 0 (by omega)
  have c1 := hc 1 (by omega)
  rw [add_add] at c0 c1
  exact ⟨⟨p, q⟩, by simpa using c0, by simpa using c1, hq⟩)
 have hm' : maxLen = 9223372036854775807 := rfl
 have hlen : ((List.range len).map V).length = len := by simp
 refine ⟨_, (List.range len).map V, rfl, ⟨⟨some a, cap, by rw [hlen], fun k hk => ?_⟩, by rw [hlen]; omega, fun y hy => ?_⟩⟩
 ·rw [hlen] at hk
  obtain ⟨b, off, spot⟩ := a
  have hspot : spot = none := by simpa [Addr.add] using World.cell?_spot (hV 0 (by omega)).1
  subst hspot
  have hlt : b < w.heap.size := by simpa [Addr.add] using lt_of_cell (hV 0 (by omega)).1
  refine ⟨b, off, rfl, hlt, hlt, ?_⟩
  have h := hV k hk
  simp only [Addr.add_lit] at h
  simp only [List.getElem_map, List.getElem_range]
  exact ⟨h.1, by have := h.2.1; rwa [← Nat.add_assoc] at this⟩
 ·obtain ⟨i, hi, rfl⟩ := List.mem_map.1 hy
  exact (hV i (by simpa using hi)).2.2
theorem open_comes {b0 : Nat} {v : Value} (hval : Value.okWide Tryz.prog w .any b0 23 v) (h : ∃ d p, DataW.Trod enc Tryz.prog w base sp held 23 v d p) : ∃ (z : Value × List Cm), v = z.1 ∧ ComesIn w z.1 z.2 := by
 obtain ⟨d, p, fuel, hf⟩ := h
 obtain ⟨ao, n, cap, rfl⟩ := okWide_slice Tryz.underlying23 hval
 obtain ⟨v, l, e, hl⟩ := open_comes_cell hf
 simp [Value.cells] at e
 subst e
 exact ⟨(_, l), rfl, hl⟩
theorem open_u64 {b0 : Nat} {v : Value} (hval : Value.okWide Tryz.prog w .any b0 22 v) (h : ∃ d p, DataW.Trod enc Tryz.prog w base sp held 22 v d p) : ∃ n : Int, v = .int .u64 n ∧ 0 ≤ n ∧ n < 18446744073709551616 := by
 obtain ⟨d, p, h⟩ := h
 obtain ⟨n, rfl, _, _, hw⟩ := open_int Tryz.underlying22 hval h
 exact ⟨n, rfl, u64_wf hw⟩
end
end Go.Proofs.YtcpejlmnplkbaaaGreat
/- The row of ReplicaLeads, lifted: whatever letters come from anywhere to one that leads: each answer, and what each node has, is the document's, ReplicaLeads answers true, and what came in reads as it did. No condition. -/
namespace Go.Proofs.YtcpejlmnplkbaaaGreat
open Go.ChangeShapes Go.WideShapes Go.ChangeAt Go.RowKit Go.Deep
set_option maxRecDepth 20000
set_option maxHeartbeats 800000 in
set_option maxRecDepth 100000 in
theorem replicaLeads_lifted (os : Os) (started : os.Started) (H : Type) (enc : TypeId × Value → H) :
  ReturnsInHanded {} Tryz.checked os 3 .any (Rows.replicaLeadsSpec.pre6 enc Tryz.prog Tryz.f3 Rows.replicaLeadsRow.domain false) (Rows.replicaLeadsSpec.post enc Tryz.prog Tryz.f3 false true false false) := by
 refine returnsInHanded_of_change (C := Tryz.checked) own started (by kernel_rfl) Tryz.func3
  (ChangeSpec.witness6 (enc := enc) (C := Tryz.checked) false ⟨#[], #[.int .u64 0, .slice none 0 0], []⟩ 8 (by kernel_rfl) (by kernel_rfl) (by kernel_rfl) (by kernel_rfl)) ?_
 intro W base args ds gs before hval0 hW hcnd _
 have hval : ∀ (j : Nat) t v, Tryz.f3.params[j]? = some t → args[j]? = some v → Value.okWide Tryz.prog W .any base t v := hval0
 have hW' := hW
 obtain ⟨plcs, plcs2, hA0, hV, rfl, hfz, hnd⟩ := hW
 have hA : DataW.TrodAll enc Tryz.prog W 0 (fun _ => true) true Tryz.f3.params.toList args.toList ds plcs := hA0
 rw [Tryz.params3] at hA hval
 obtain ⟨rfl, rfl⟩ := trodVars_none hV
 have each := trod_each hA
 obtain ⟨v0, v1, rfl⟩ := args_two each.1
 obtain ⟨d0, d1, rfl⟩ := list_two (trod_ds hA)
 obtain ⟨a0, rfl, g0⟩ := open_u64 (hval 0 22 v0 rfl rfl) (each.2 0 22 v0 rfl rfl)
 obtain ⟨a1, rfl, g1⟩ := open_comes (hval 1 23 v1 rfl rfl) (each.2 1 23 v1 rfl rfl)
 clear hA0 hval0 each
 simp only [List.append_nil] at hW'
 have hlt : ∀ y ∈ plcs, y.block < W.heap.size := fun y hy => by simpa using hW'.lt y (by simpa using hy)
 refine (show Calls _ _ _ _ _ from rleads_any W _ _ _ g1).mono fun e W' ⟨he, hb⟩ => ?_
 subst he
 exact ⟨_, rfl, _, _, _, [], _, [], hW', trodAll_mk1 (shut_bool Tryz.underlying4 _), below_all laidOut hb (by kernel_rfl) hA hlt, rfl, hb.frame _, fun h => by cases h⟩
theorem replicaLeads_holds : Rows.ReplicaLeadsSaid :=
 OpenClaim.holds_of_wide 3 Tryz.f3 rfl rfl rfl rfl rfl rfl rfl ⟨rfl, rfl, rfl, rfl, rfl⟩ rfl rfl rfl rfl rfl (by kernel_rfl) Tryz.func3 (by kernel_rfl)
  (of_decide_eq_true (by kernel_rfl)) (by unfold Func.isWrapper; first | (rw [if_pos (by decide +kernel)]; kernel_rfl) | (rw [if_neg (by decide +kernel)]; exact ⟨rfl, rfl⟩))
  (fun os started H enc _ => replicaLeads_lifted os started H enc)
#print axioms replicaLeads_holds
end Go.Proofs.YtcpejlmnplkbaaaGreat
