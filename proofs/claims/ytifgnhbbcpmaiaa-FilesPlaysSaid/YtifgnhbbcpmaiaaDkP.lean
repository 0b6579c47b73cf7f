/- heavy and far. -/
import Derived.Test.YtifgnhbbcpmaiaaDkO
namespace Go.Proofs.Ytifgnhbbcpmaiaa
open Go.RowKit Go.Maps
set_option linter.unusedVariables false
set_option linter.unusedSimpArgs false

/-- What is not heavy. -/
structure LightOp (x : OpM) : Prop where
  s : x.s.length ≤ 16384
  keep : x.keep.length ≤ 4096
structure Light (l : List OpM) : Prop where
  len : l.length ≤ 200
  ok : ∀ x ∈ l, LightOp x

/-- A bool is returned; where it is false, p. -/
def BoolSaid (e : Ending) (p : Prop) : Prop := ∃ r : Bool, e = .returned (.bool r) ∧ (r = false → p)
theorem all_lt {W w' : World} {S : Nat → Prop} (hS : ∀ k, S k → k < W.heap.size) (hb : Below W.heap.size W w') : ∀ k, S k → w'.heap[k]? = W.heap[k]? := fun k hk => hb.block k (hS k hk)

section
variable {S : Nat → Prop} {w : World} {v : Value} {l : List OpM}
set_option maxHeartbeats 1000000 in
set_option maxRecDepth 20000 in
theorem heavy_any (h : OpsAt S w v l) (hS : ∀ k, S k → k < w.heap.size) : Calls Try.prog 10 #[v] w fun e w' => BoolSaid e (Light l) ∧ Below w.heap.size w w' := by
  obtain ⟨ao, cap, rfl, hval⟩ := h.val
  have H := hid h
  have HS := hid hS
  obtain ⟨n, hn⟩ : ∃ n, n = l.length := ⟨_, rfl⟩
  rw [← hn]
  have hn63 : (n : Int) ≤ 9223372036854775807 := by have := h.len; omega
  have Hn := hid hn
  have Hval := hid hval
  clear h hS hn hval
  go_enter Try.func10, Try.ntmps10
  go_wp2_with fail
  go_loopw [8, 3] (fun v8 v3 wr => ∃ (i : Nat) (t : Int), v8 = .int .i64 (i : Int) ∧ v3 = .int .i64 t ∧ i ≤ n ∧ 0 ≤ t ∧ t ≤ 16384 ∧ (∀ x ∈ l.take i, LightOp x) ∧ Below w.heap.size w wr) (fun v8 _ _ => n - (intOf v8).toNat)
  case atStart => exact ⟨0, 0, rfl, rfl, Nat.zero_le _, by omega, by omega, fun x hx => by simp at hx, Below.refl _ _⟩
  case round =>
    obtain ⟨i, t, rfl, rfl, hin, ht0, ht1, hli, hbel⟩ := hrel
    have Hli := hid hli
    have Hbel := hid hbel
    clear hli hbel
    by_cases hlt : i < n
    · have hil : i < l.length := by have := Hn.out; omega
      obtain ⟨x, hx⟩ : ∃ x, x = l[i] := ⟨_, rfl⟩
      have hget : l[i]? = some x := by rw [List.getElem?_eq_getElem hil, hx]
      have Hx := hid hx
      have Hok := hid (H.out.ok x (List.mem_of_getElem? hget))
      obtain ⟨g, o, rfl, hSg, hrng⟩ := Hval.out.resolve_left (fun e => by rw [e] at hil; simp at hil)
      have Hrange := hid (rangeAt_move (hrng i x hget) (Hbel.out.block g (HS.out g hSg)))
      have hlt2 : decide ((i : Int) < (n : Int)) = true := by simp; omega
      clear hx hget
      go_upto_region 4 with fail
      refine wp_region_lit ?_
      refine wpList_value (w' := wr) rfl (.pointer (some ⟨g, o + i * 7, none⟩)) (by go_simp) ?_
      simp only [Act.put, List.setIfInBounds_toArray, List.set_cons_zero, List.set_cons_succ]
      refine wpList_value rfl (opV x) (exec_load rfl (by rfl) (run_loadAt_mid wr _ _ _ _ _ Hrange.out Try.underlying34 rfl (by kernel_rfl))) ?_
      simp only [Act.put, List.setIfInBounds_toArray, List.set_cons_zero, List.set_cons_succ]
      refine wpList_value rfl (.pointer (some ⟨wr.heap.size, 0, none⟩)) (w' := wr.alloc (.cells (opCells ⟨0, 0, 0, 0, 0, [], none, 0, []⟩).toArray 34)) (by kernel_rfl) ?_
      simp only [Act.put, List.setIfInBounds_toArray, List.set_cons_zero, List.set_cons_succ]
      refine wpList_skip rfl (exec_store rfl rfl rfl (run_storeAt_new wr 34 _ _ (by kernel_rfl) (by rfl) (all_oneCell_toArray (opCells_one x)))) ?_
      refine wpList_nil ?_
      simp only [Act.put, List.setIfInBounds_toArray, List.set_cons_zero, List.set_cons_succ]
      obtain ⟨B, hB⟩ : ∃ B, B = wr.heap.size := ⟨_, rfl⟩
      rw [← hB]
      have hBn := heap_alloc_new wr (.cells (opCells x).toArray 34)
      rw [← hB] at hBn
      have hbelA := Hbel.out.alloc Hbel.out.size (.cells (opCells x).toArray 34)
      obtain ⟨wa, hwa⟩ : ∃ wa, wa = wr.alloc (.cells (opCells x).toArray 34) := ⟨_, rfl⟩
      rw [← hwa] at hBn hbelA ⊢
      have q := fun o => cell_of_block hBn o
      have q0 : wa.cell? ⟨B, 0, none⟩ = some (.int .i64 x.kind) := (q 0).trans rfl
      have q3 : wa.cell? ⟨B, 3, none⟩ = some (.int .i64 x.n) := (q 3).trans rfl
      have q5 : wa.cell? ⟨B, 5, none⟩ = some (.string (bs x.s)) := (q 5).trans rfl
      have q6 : wa.cell? ⟨B, 6, none⟩ = some (.slice x.ka x.keep.length x.kcap) := (q 6).trans rfl
      have HbelA := hid hbelA
      clear hBn hbelA hwa hB Hbel q
      obtain ⟨t1, e1⟩ : ∃ t1 : Int, min (x.s.length : Int) 65536 = t1 := ⟨_, rfl⟩
      have hw1 : IntKind.i64.wrap (t + t1) = t + t1 := IntWalk.i64_in _ (by omega)
      by_cases h0 : x.kind = 0
      · have h0' : (x.kind == 0) = true := by simpa using h0
        obtain ⟨t2, e2⟩ : ∃ t2 : Int, min (max x.n 0) 1024 = t2 := ⟨_, rfl⟩
        obtain ⟨T, hTe⟩ : ∃ T : Int, t + t1 + t2 = T := ⟨_, rfl⟩
        have hw2 : IntKind.i64.wrap (t + t1 + t2) = T := by rw [hTe]; exact IntWalk.i64_in _ (by omega)
        have HTe := hid (show t + t1 ≤ T ∧ 0 ≤ T ∧ min (x.s.length : Int) 65536 = t1 from ⟨by omega, by omega, e1⟩)
        clear h0 hTe
        by_cases hT : 16384 < T
        · have hT' : decide (16384 < T) = true := by simpa using hT
          go_wp2_with fail
          go_ret
          exact ⟨⟨true, rfl, fun h => by cases h⟩, HbelA.out⟩
        · have hT' : decide (16384 < T) = false := by simpa using hT
          by_cases hk : 4096 < (x.keep.length : Int)
          · have hk' : decide (4096 < (x.keep.length : Int)) = true := by simp only [decide_eq_true_eq]; exact hk
            obtain ⟨kl, hkl⟩ : ∃ kl : Int, kl = (x.keep.length : Int) := ⟨_, rfl⟩
            rw [← hkl] at hk'
            go_wp2_with fail
            go_ret
            exact ⟨⟨true, rfl, fun h => by cases h⟩, HbelA.out⟩
          · have hk' : decide (4096 < (x.keep.length : Int)) = false := by simp only [decide_eq_false_iff_not]; exact hk
            go_wp2_with fail
            go_roundw
            case rel =>
              have hTE := HTe.out
              refine ⟨i + 1, T, by simp, rfl, by omega, by omega, by omega, fun y hy => ?_, HbelA.out⟩
              rw [List.take_succ_eq_append_getElem (by have := Hn.out; omega)] at hy
              rcases List.mem_append.1 hy with hy | hy
              · exact Hli.out y hy
              · obtain rfl : y = x := by rw [Hx.out]; simpa using hy
                exact ⟨by omega, by omega⟩
            case measure => simp [intOf]; omega
      · have h0' : (x.kind == 0) = false := by simpa using h0
        obtain ⟨T, hTe⟩ : ∃ T : Int, t + t1 = T := ⟨_, rfl⟩
        rw [hTe] at hw1
        have hw3 : IntKind.i64.wrap (t + t1) = T := by rw [hTe]; exact hw1
        have HTe := hid (show t + t1 ≤ T ∧ 0 ≤ T ∧ min (x.s.length : Int) 65536 = t1 from ⟨by omega, by omega, e1⟩)
        clear h0 hTe hw1
        by_cases hT : 16384 < T
        · have hT' : decide (16384 < T) = true := by simpa using hT
          go_wp2_with fail
          go_ret
          exact ⟨⟨true, rfl, fun h => by cases h⟩, HbelA.out⟩
        · have hT' : decide (16384 < T) = false := by simpa using hT
          by_cases hk : 4096 < (x.keep.length : Int)
          · have hk' : decide (4096 < (x.keep.length : Int)) = true := by simp only [decide_eq_true_eq]; exact hk
            obtain ⟨kl, hkl⟩ : ∃ kl : Int, kl = (x.keep.length : Int) := ⟨_, rfl⟩
            rw [← hkl] at hk'
            go_wp2_with fail
            go_ret
            exact ⟨⟨true, rfl, fun h => by cases h⟩, HbelA.out⟩
          · have hk' : decide (4096 < (x.keep.length : Int)) = false := by simp only [decide_eq_false_iff_not]; exact hk
            go_wp2_with fail
            go_roundw
            case rel =>
              have hTE := HTe.out
              refine ⟨i + 1, T, by simp, rfl, by omega, by omega, by omega, fun y hy => ?_, HbelA.out⟩
              rw [List.take_succ_eq_append_getElem (by have := Hn.out; omega)] at hy
              rcases List.mem_append.1 hy with hy | hy
              · exact Hli.out y hy
              · obtain rfl : y = x := by rw [Hx.out]; simpa using hy
                exact ⟨by omega, by omega⟩
            case measure => simp [intOf]; omega
    · obtain rfl : i = n := by omega
      have hlt' : decide ((i : Int) < (i : Int)) = false := by simp
      by_cases h2 : 200 < (i : Int)
      · have h2' : decide (200 < (i : Int)) = true := by simp only [decide_eq_true_eq]; exact h2
        go_wp2_with fail
        go_ret
        exact ⟨⟨true, rfl, fun h => by cases h⟩, Hbel.out⟩
      · have h2' : decide (200 < (i : Int)) = false := by simp only [decide_eq_false_iff_not]; exact h2
        go_wp2_with fail
        go_ret
        exact ⟨⟨false, rfl, fun _ => ⟨by have := Hn.out; omega, fun x hx => Hli.out x (by rw [List.take_of_length_le (by have := Hn.out; omega)]; exact hx)⟩⟩, Hbel.out⟩
set_option maxHeartbeats 1000000 in
set_option maxRecDepth 20000 in
theorem far_any (h : OpsAt S w v l) (hS : ∀ k, S k → k < w.heap.size) (hL : l.length ≤ 200) : Calls Try.prog 11 #[v] w fun e w' => BoolSaid e True ∧ Below w.heap.size w w' := by
  obtain ⟨ao, cap, rfl, hval⟩ := h.val
  have H := hid h
  have HS := hid hS
  obtain ⟨n, hn⟩ : ∃ n, n = l.length := ⟨_, rfl⟩
  rw [← hn]
  have hn63 : (n : Int) ≤ 9223372036854775807 := by have := h.len; omega
  have Hn := hid hn
  have hL' : n ≤ 200 := by omega
  have Hval := hid hval
  clear h hS hn hval hL
  go_enter Try.func11, Try.ntmps11
  go_wp2_with fail
  go_loopw [8, 3] (fun v8 v3 wr => ∃ (i : Nat) (t : Int), v8 = .int .i64 (i : Int) ∧ v3 = .int .i64 t ∧ i ≤ n ∧ 0 ≤ t ∧ t ≤ i ∧ Below w.heap.size w wr) (fun v8 _ _ => n - (intOf v8).toNat)
  case atStart => exact ⟨0, 0, rfl, rfl, Nat.zero_le _, by omega, by omega, Below.refl _ _⟩
  case round =>
    obtain ⟨i, t, rfl, rfl, hin, ht0, ht1, hbel⟩ := hrel
    have Hbel := hid hbel
    clear hbel
    by_cases hlt : i < n
    · have hil : i < l.length := by have := Hn.out; omega
      obtain ⟨x, hx⟩ : ∃ x, x = l[i] := ⟨_, rfl⟩
      have hget : l[i]? = some x := by rw [List.getElem?_eq_getElem hil, hx]
      have Hx := hid hx
      have Hok := hid (H.out.ok x (List.mem_of_getElem? hget))
      obtain ⟨g, o, rfl, hSg, hrng⟩ := Hval.out.resolve_left (fun e => by rw [e] at hil; simp at hil)
      have Hrange := hid (rangeAt_move (hrng i x hget) (Hbel.out.block g (HS.out g hSg)))
      have hlt2 : decide ((i : Int) < (n : Int)) = true := by simp; omega
      clear hx hget
      go_upto_region 4 with fail
      refine wp_region_lit ?_
      refine wpList_value (w' := wr) rfl (.pointer (some ⟨g, o + i * 7, none⟩)) (by go_simp) ?_
      simp only [Act.put, List.setIfInBounds_toArray, List.set_cons_zero, List.set_cons_succ]
      refine wpList_value rfl (opV x) (exec_load rfl (by rfl) (run_loadAt_mid wr _ _ _ _ _ Hrange.out Try.underlying34 rfl (by kernel_rfl))) ?_
      simp only [Act.put, List.setIfInBounds_toArray, List.set_cons_zero, List.set_cons_succ]
      refine wpList_value rfl (.pointer (some ⟨wr.heap.size, 0, none⟩)) (w' := wr.alloc (.cells (opCells ⟨0, 0, 0, 0, 0, [], none, 0, []⟩).toArray 34)) (by kernel_rfl) ?_
      simp only [Act.put, List.setIfInBounds_toArray, List.set_cons_zero, List.set_cons_succ]
      refine wpList_skip rfl (exec_store rfl rfl rfl (run_storeAt_new wr 34 _ _ (by kernel_rfl) (by rfl) (all_oneCell_toArray (opCells_one x)))) ?_
      refine wpList_nil ?_
      simp only [Act.put, List.setIfInBounds_toArray, List.set_cons_zero, List.set_cons_succ]
      obtain ⟨B, hB⟩ : ∃ B, B = wr.heap.size := ⟨_, rfl⟩
      rw [← hB]
      have hBn := heap_alloc_new wr (.cells (opCells x).toArray 34)
      rw [← hB] at hBn
      have hbelA := Hbel.out.alloc Hbel.out.size (.cells (opCells x).toArray 34)
      obtain ⟨wa, hwa⟩ : ∃ wa, wa = wr.alloc (.cells (opCells x).toArray 34) := ⟨_, rfl⟩
      rw [← hwa] at hBn hbelA ⊢
      have q := fun o => cell_of_block hBn o
      have q0 : wa.cell? ⟨B, 0, none⟩ = some (.int .i64 x.kind) := (q 0).trans rfl
      have q2 : wa.cell? ⟨B, 2, none⟩ = some (.int .i64 x.at_) := (q 2).trans rfl
      have HbelA := hid hbelA
      clear hBn hbelA hwa hB Hbel q
      have hw1 : IntKind.i64.wrap (t + 1) = t + 1 := IntWalk.i64_in _ (by omega)
      by_cases h1 : 200 < x.at_
      · have h1' : decide (200 < x.at_) = true := by simpa using h1
        by_cases h2 : x.kind < 1
        · have h2' : decide (x.kind < 1) = true := by simpa using h2
          go_wp2_with fail
          go_roundw
          case rel => exact ⟨i + 1, t + 1, by simp, rfl, by omega, by omega, by omega, HbelA.out⟩
          case measure => simp [intOf]; omega
        · have h2' : decide (x.kind < 1) = false := by simpa using h2
          by_cases h3 : 7 < x.kind
          · have h3' : decide (7 < x.kind) = true := by simpa using h3
            go_wp2_with fail
            go_roundw
            case rel => exact ⟨i + 1, t + 1, by simp, rfl, by omega, by omega, by omega, HbelA.out⟩
            case measure => simp [intOf]; omega
          · have h3' : decide (7 < x.kind) = false := by simpa using h3
            go_wp2_with fail
            go_roundw
            case rel => exact ⟨i + 1, t, by simp, rfl, by omega, by omega, by omega, HbelA.out⟩
            case measure => simp [intOf]; omega
      · have h1' : decide (200 < x.at_) = false := by simpa using h1
        go_wp2_with fail
        go_roundw
        case rel => exact ⟨i + 1, t, by simp, rfl, by omega, by omega, by omega, HbelA.out⟩
        case measure => simp [intOf]; omega
    · obtain rfl : i = n := by omega
      have hlt' : decide ((i : Int) < (i : Int)) = false := by simp
      go_wp2_with fail
      go_ret
      exact ⟨⟨_, rfl, fun _ => trivial⟩, Hbel.out⟩
end
end Go.Proofs.Ytifgnhbbcpmaiaa
