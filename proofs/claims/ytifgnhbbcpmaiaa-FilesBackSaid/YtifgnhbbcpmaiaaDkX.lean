/- Law FilesSure, walked. -/
import Derived.Test.YtifgnhbbcpmaiaaDkU
import Derived.Test.YtifgnhbbcpmaiaaDkW
import Derived.Test.YtifgnhbbcpmaiaaDkV
namespace Go.Proofs.Ytifgnhbbcpmaiaa
open Go.RowKit Go.Maps
set_option linter.unusedVariables false
set_option linter.unusedSimpArgs false

/-- A slice of one call that was just made. -/
theorem one_op {S : Nat → Prop} {w : World} {x : OpM} (h : OpOk S w x) (hS : ∀ k, S k → k < w.heap.size) : OpsAt (fun k => S k ∨ k = w.heap.size) (w.alloc (.cells (opCells x).toArray 34)) (.slice (some ⟨w.heap.size, 0, none⟩) 1 1) [x] := by
  refine ⟨⟨_, _, rfl, .inr ⟨_, 0, rfl, .inr rfl, fun i y hi => ?_⟩⟩, fun y hy => ?_, by simp⟩
  · cases i with
    | zero =>
      obtain rfl : x = y := by simpa using hi
      exact range_whole (heap_alloc_new w _)
    | succ i => simp at hi
  · rw [List.mem_singleton.1 hy]
    exact (h.move (fun k hk => Below.heap_alloc w _ k (hS k hk))).mono (fun k hk => .inl hk)

section
variable {v v2 : Value} {l more : List OpM} {ka : Option Addr} {kcap : Nat} {ks : List Bool}
set_option maxHeartbeats 4000000 in
set_option maxRecDepth 20000 in
theorem sure_out (w : World) (h : OpsAt (alive w) w v l) (g : OpsAt (alive w) w v2 more) (f : Int) (hf : f < 0 ∨ 8 ≤ f ∨ 4096 < (ks.length : Int)) :
    Calls Try.prog 3 #[v, v2, .int .i64 f, .slice ka ks.length kcap] w fun e w' => e = .returned (.bool true) ∧ Below w.heap.size w w' := by
  have H := hid h
  have G := hid g
  clear h g
  obtain ⟨kl, hkl⟩ : ∃ kl : Nat, kl = ks.length := ⟨_, rfl⟩
  rw [← hkl] at hf ⊢
  clear hkl
  by_cases h1 : f < 0
  · have h1' : decide (f < 0) = true := by simpa using h1
    clear hf h1
    go_enter Try.func3, Try.ntmps3
    go_wp2_with (first
      | (go_at_call 9; refine (works_any w).mono ?_; rintro e w1 ⟨rfl, hb⟩; have B1 := hid hb; clear hb)
      | (go_at_call 10; refine (heavy_any (H.out.move (all_lt (fun k hk => hk) B1.out)) (fun k hk => Nat.lt_of_lt_of_le hk B1.out.size)).mono ?_; rintro e wxB2 ⟨he, hb⟩; have B2 := hid (then_below B1.out hb); rcases bool_said he with rfl | ⟨rfl, hl⟩ <;> clear hb he B1)
      | (go_at_call 10; refine (heavy_any (G.out.move (all_lt (fun k hk => hk) B2.out)) (fun k hk => Nat.lt_of_lt_of_le hk B2.out.size)).mono ?_; rintro e wxB3 ⟨he, hb⟩; have B3 := hid (then_below B2.out hb); rcases bool_said he with rfl | ⟨rfl, hg⟩ <;> clear hb he B2)
      | (go_at_call 11; refine (far_any (H.out.move (all_lt (fun k hk => hk) B3.out)) (fun k hk => Nat.lt_of_lt_of_le hk B3.out.size) hl.len).mono ?_; rintro e wxB4 ⟨he, hb⟩; have B4 := hid (then_below B3.out hb); rcases bool_said he with rfl | ⟨rfl, -⟩ <;> clear hb he B3)
      | (go_at_call 11; refine (far_any (G.out.move (all_lt (fun k hk => hk) B4.out)) (fun k hk => Nat.lt_of_lt_of_le hk B4.out.size) hg.len).mono ?_; rintro e wxB5 ⟨he, hb⟩; have B5 := hid (then_below B4.out hb); rcases bool_said he with rfl | ⟨rfl, -⟩ <;> clear hb he B4)
      | go_in)
    all_goals
      go_ret
      first | exact ⟨rfl, B2.out⟩ | exact ⟨rfl, B3.out⟩ | exact ⟨rfl, B4.out⟩ | exact ⟨rfl, B5.out⟩
  · have h1' : decide (f < 0) = false := by simpa using h1
    by_cases h2 : 8 ≤ f
    · have h2' : decide (8 ≤ f) = true := by simp only [decide_eq_true_eq]; omega
      clear hf h1 h2
      go_enter Try.func3, Try.ntmps3
      go_wp2_with (first
      | (go_at_call 9; refine (works_any w).mono ?_; rintro e w1 ⟨rfl, hb⟩; have B1 := hid hb; clear hb)
      | (go_at_call 10; refine (heavy_any (H.out.move (all_lt (fun k hk => hk) B1.out)) (fun k hk => Nat.lt_of_lt_of_le hk B1.out.size)).mono ?_; rintro e wxB2 ⟨he, hb⟩; have B2 := hid (then_below B1.out hb); rcases bool_said he with rfl | ⟨rfl, hl⟩ <;> clear hb he B1)
      | (go_at_call 10; refine (heavy_any (G.out.move (all_lt (fun k hk => hk) B2.out)) (fun k hk => Nat.lt_of_lt_of_le hk B2.out.size)).mono ?_; rintro e wxB3 ⟨he, hb⟩; have B3 := hid (then_below B2.out hb); rcases bool_said he with rfl | ⟨rfl, hg⟩ <;> clear hb he B2)
      | (go_at_call 11; refine (far_any (H.out.move (all_lt (fun k hk => hk) B3.out)) (fun k hk => Nat.lt_of_lt_of_le hk B3.out.size) hl.len).mono ?_; rintro e wxB4 ⟨he, hb⟩; have B4 := hid (then_below B3.out hb); rcases bool_said he with rfl | ⟨rfl, -⟩ <;> clear hb he B3)
      | (go_at_call 11; refine (far_any (G.out.move (all_lt (fun k hk => hk) B4.out)) (fun k hk => Nat.lt_of_lt_of_le hk B4.out.size) hg.len).mono ?_; rintro e wxB5 ⟨he, hb⟩; have B5 := hid (then_below B4.out hb); rcases bool_said he with rfl | ⟨rfl, -⟩ <;> clear hb he B4)
      | go_in)
      all_goals
        go_ret
        first | exact ⟨rfl, B2.out⟩ | exact ⟨rfl, B3.out⟩ | exact ⟨rfl, B4.out⟩ | exact ⟨rfl, B5.out⟩
    · have h2' : decide (8 ≤ f) = false := by simp only [decide_eq_false_iff_not]; omega
      obtain ⟨kz, hkz⟩ : ∃ kz : Int, (kl : Int) = kz := ⟨_, rfl⟩
      have h3' : decide (4096 < kz) = true := by simp only [decide_eq_true_eq]; omega
      clear hf h1 h2
      go_enter Try.func3, Try.ntmps3
      go_wp2_with (first
      | (go_at_call 9; refine (works_any w).mono ?_; rintro e w1 ⟨rfl, hb⟩; have B1 := hid hb; clear hb)
      | (go_at_call 10; refine (heavy_any (H.out.move (all_lt (fun k hk => hk) B1.out)) (fun k hk => Nat.lt_of_lt_of_le hk B1.out.size)).mono ?_; rintro e wxB2 ⟨he, hb⟩; have B2 := hid (then_below B1.out hb); rcases bool_said he with rfl | ⟨rfl, hl⟩ <;> clear hb he B1)
      | (go_at_call 10; refine (heavy_any (G.out.move (all_lt (fun k hk => hk) B2.out)) (fun k hk => Nat.lt_of_lt_of_le hk B2.out.size)).mono ?_; rintro e wxB3 ⟨he, hb⟩; have B3 := hid (then_below B2.out hb); rcases bool_said he with rfl | ⟨rfl, hg⟩ <;> clear hb he B2)
      | (go_at_call 11; refine (far_any (H.out.move (all_lt (fun k hk => hk) B3.out)) (fun k hk => Nat.lt_of_lt_of_le hk B3.out.size) hl.len).mono ?_; rintro e wxB4 ⟨he, hb⟩; have B4 := hid (then_below B3.out hb); rcases bool_said he with rfl | ⟨rfl, -⟩ <;> clear hb he B3)
      | (go_at_call 11; refine (far_any (G.out.move (all_lt (fun k hk => hk) B4.out)) (fun k hk => Nat.lt_of_lt_of_le hk B4.out.size) hg.len).mono ?_; rintro e wxB5 ⟨he, hb⟩; have B5 := hid (then_below B4.out hb); rcases bool_said he with rfl | ⟨rfl, -⟩ <;> clear hb he B4)
      | go_in)
      all_goals
        go_ret
        first | exact ⟨rfl, B2.out⟩ | exact ⟨rfl, B3.out⟩ | exact ⟨rfl, B4.out⟩ | exact ⟨rfl, B5.out⟩

set_option maxHeartbeats 4000000 in
set_option maxRecDepth 20000 in
theorem sure_in (w : World) (h : OpsAt (alive w) w v l) (g : OpsAt (alive w) w v2 more) (k : Nat) (hk : k < 8) (hka : KeepAt w (.slice ka ks.length kcap) ks) (hkb : ∀ g, keepBlk (.slice ka ks.length kcap) ks = some g → g < w.heap.size) (hkl : (ks.length : Int) ≤ 4096) :
    Calls Try.prog 3 #[v, v2, .int .i64 (k : Int), .slice ka ks.length kcap] w fun e w' => e = .returned (.bool true) ∧ Below w.heap.size w w' := by
  have H := hid h
  have G := hid g
  have Hka := hid hka
  have Hkb := hid hkb
  have Hkl := hid hkl
  have h1' : decide ((k : Int) < 0) = false := by simp
  have h2' : decide (8 ≤ (k : Int)) = false := by simp only [decide_eq_false_iff_not]; omega
  obtain ⟨kz, hkz⟩ : ∃ kz : Int, (ks.length : Int) = kz := ⟨_, rfl⟩
  have h3' : decide (4096 < kz) = false := by simp only [decide_eq_false_iff_not]; omega
  clear h g hka hkb hkl
  go_enter Try.func3, Try.ntmps3
  go_upto_region 7 with (first
    | (go_at_call 9; refine (works_any w).mono ?_; rintro e w1 ⟨rfl, hb⟩; have B1 := hid hb; clear hb)
    | (go_at_call 10; refine (heavy_any (H.out.move (all_lt (fun k hk => hk) B1.out)) (fun k hk => Nat.lt_of_lt_of_le hk B1.out.size)).mono ?_; rintro e wxB2 ⟨he, hb⟩; have B2 := hid (then_below B1.out hb); rcases bool_said he with rfl | ⟨rfl, hl⟩ <;> clear hb he B1)
    | (go_at_call 10; refine (heavy_any (G.out.move (all_lt (fun k hk => hk) B2.out)) (fun k hk => Nat.lt_of_lt_of_le hk B2.out.size)).mono ?_; rintro e wxB3 ⟨he, hb⟩; have B3 := hid (then_below B2.out hb); rcases bool_said he with rfl | ⟨rfl, hg⟩ <;> clear hb he B2)
    | (go_at_call 11; refine (far_any (H.out.move (all_lt (fun k hk => hk) B3.out)) (fun k hk => Nat.lt_of_lt_of_le hk B3.out.size) hl.len).mono ?_; rintro e wxB4 ⟨he, hb⟩; have B4 := hid (then_below B3.out hb); rcases bool_said he with rfl | ⟨rfl, -⟩ <;> clear hb he B3)
    | (go_at_call 11; refine (far_any (G.out.move (all_lt (fun k hk => hk) B4.out)) (fun k hk => Nat.lt_of_lt_of_le hk B4.out.size) hg.len).mono ?_; rintro e wxB5 ⟨he, hb⟩; have B5 := hid (then_below B4.out hb); rcases bool_said he with rfl | ⟨rfl, -⟩ <;> clear hb he B4)
    | (go_at_call 12; refine (new_any wxB5).mono ?_; rintro e w4 ⟨b, F, rfl, hd, hb, ho, -⟩; have M4 := hid (Made.new B5.out hd hb ho); clear hd hb ho)
    | (go_at_call 13; refine (run_any M4.out.disk (H.out.move (all_lt (fun k hk => hk) M4.out.below)) (fun k hk => ⟨Nat.lt_of_lt_of_le hk M4.out.below.size, fun ho => absurd (M4.out.fresh k ho) (Nat.not_le.2 hk)⟩) hl.ok hl.len (newM_small.mono (by omega))).mono ?_; rintro e w5 ⟨rfl, hd⟩; obtain ⟨F5, hm⟩ := M4.out.did hd; have HSd := hid ((run_small l newM newM_small hl.ok).mono (M := 102400) (by have := hl.len; omega)); obtain ⟨D, hD⟩ : ∃ D, D = runM newM l := ⟨_, rfl⟩; rw [← hD] at hm HSd; have M5 := hid hm; clear hd hm hD M4)
    | go_in)
  all_goals first | (go_ret; first | exact ⟨rfl, B2.out⟩ | exact ⟨rfl, B3.out⟩ | exact ⟨rfl, B4.out⟩ | exact ⟨rfl, B5.out⟩) | skip
  obtain ⟨r, hr⟩ : ∃ r, (syncM D (k : Int)).1 = r := ⟨_, rfl⟩
  have SY := hid (sync_any M5.out.disk (k : Int) (HSd.out.mono (by omega)))
  rw [hr] at SY
  by_cases hr0 : r = 0
  · subst hr0
    obtain ⟨hkept, hnow, hoff⟩ := sync_kept hk hr
    obtain ⟨d2, hd2⟩ : ∃ d2, d2 = (syncM D (k : Int)).2 := ⟨_, rfl⟩
    have HS6 := hid (sync_small (f := (k : Int)) HSd.out)
    rw [← hd2] at SY hkept hnow hoff HS6
    obtain ⟨L, hL⟩ : ∃ L, L = D.now k := ⟨_, rfl⟩
    rw [← hL] at hkept hnow
    have hall : allM d2 (k : Int) = (L.take 300).flatten := by rw [allM_on hk hoff, hnow]
    have Hall := hid hall
    have Hkept := hid hkept
    have Hnow := hid hnow
    obtain ⟨A, hA⟩ : ∃ A, A = (L.take 300).flatten := ⟨_, rfl⟩
    have HA := hid hA
    obtain ⟨z, hz⟩ : ∃ z : Int, z = (L.length : Int) := ⟨_, rfl⟩
    have Hz := hid hz
    rw [← hA] at Hall
    clear hr hkept hnow hoff hd2 hL hall hA hz
    go_upto_region 10 with (first
      | (go_at_call 14; refine (SY.out).mono ?_; rintro e w6 ⟨rfl, hd⟩; obtain ⟨F6, hm⟩ := M5.out.did hd; have M6 := hid hm; clear hd hm SY M5)
      | (go_at_call 15; refine (all_any M6.out.disk (k : Int)).mono ?_; rintro e w7 ⟨rfl, hb⟩; rw [Hall.out]; have M7 := hid (M6.out.under hb); clear hb M6)
      | (go_at_call 16; refine (size_any M7.out.disk (k : Int)).mono ?_; rintro e w8 ⟨rfl, rfl⟩; rw [if_pos (by omega), Int.toNat_natCast, Hnow.out, ← Hz.out])
      | go_in)
    obtain ⟨⟨ao, cap, rfl, hval⟩, hok, hlen⟩ := id G.out
    obtain ⟨n, hn⟩ : ∃ n, n = more.length := ⟨_, rfl⟩
    have Hn := hid hn
    have Hval := hid hval
    rw [← hn]
    have hn200 : n ≤ 200 := by have := hg.len; omega
    have Hg := hid hg
    have Hl := hid hl
    clear hval hok hlen hn hg hl
    go_wp2_with fail
    go_loopw [59] (fun v59 wr => ∃ (i : Nat) (F8 : Foot) (d : Dsk), v59 = .int .i64 (i : Int) ∧ i ≤ n ∧ Made w wr b F8 d ∧ Kept k L d ∧ d.Small (102401 + 512 * i)) (fun v59 _ => n - (intOf v59).toNat)
    case atStart => exact ⟨0, F6, d2, rfl, Nat.zero_le _, M7.out, Hkept.out, HS6.out.mono (by omega)⟩
    case round =>
      obtain ⟨i, F8, d, rfl, hin, hmade, hkeptd, hsmall⟩ := hrel
      have M8 := hid hmade
      have Kd := hid hkeptd
      have Sd := hid hsmall
      clear hmade hkeptd hsmall
      by_cases hlt : i < n
      · have hil : i < more.length := by have := Hn.out; omega
        obtain ⟨x, hx⟩ : ∃ x, x = more[i] := ⟨_, rfl⟩
        have hget : more[i]? = some x := by rw [List.getElem?_eq_getElem hil, hx]
        have Hok := hid (G.out.ok x (List.mem_of_getElem? hget))
        have Hlx := hid (Hg.out.ok x (List.mem_of_getElem? hget))
        obtain ⟨g, o, rfl, hSg, hrng⟩ := Hval.out.resolve_left (fun e => by rw [e] at hil; simp at hil)
        have Hrange := hid (rangeAt_move (hrng i x hget) (M8.out.below.block g hSg))
        have hlt2 : decide ((i : Int) < (n : Int)) = true := by simp; omega
        clear hx hget
        go_upto_region 12 with fail
        refine wp_region_lit ?_
        refine wpList_value (w' := wr) rfl (.pointer (some ⟨g, o + i * 7, none⟩)) (by go_simp) ?_
        simp only [Act.put, List.setIfInBounds_toArray, List.set_cons_zero, List.set_cons_succ]
        refine wpList_value rfl (opV x) (exec_load rfl (by rfl) (run_loadAt_mid wr _ _ _ _ _ Hrange.out Try.underlying34 rfl (by kernel_rfl))) ?_
        simp only [Act.put, List.setIfInBounds_toArray, List.set_cons_zero, List.set_cons_succ]
        refine wpList_value rfl (.pointer (some ⟨wr.heap.size, 0, none⟩)) (w' := wr.alloc (.cells (opCells ⟨0, 0, 0, 0, 0, [], none, 0, []⟩).toArray 34)) (by kernel_rfl) ?_
        simp only [Act.put, List.setIfInBounds_toArray, List.set_cons_zero, List.set_cons_succ]
        refine wpList_skip rfl (exec_store rfl rfl rfl (run_storeAt_new wr 34 _ _ (by kernel_rfl) (by rfl) (all_oneCell_toArray (opCells_one x)))) ?_
        refine wpList_nil ?_
        simp only [Act.put, List.setIfInBounds_toArray, List.set_cons_zero, List.set_cons_succ]
        obtain ⟨B, hB⟩ : ∃ B, B = wr.heap.size := ⟨_, rfl⟩
        rw [← hB]
        have hBn := heap_alloc_new wr (.cells (opCells x).toArray 34)
        rw [← hB] at hBn
        have hbelA := (Below.refl wr.heap.size wr).alloc (Nat.le_refl _) (.cells (opCells x).toArray 34)
        obtain ⟨wa, hwa⟩ : ∃ wa, wa = wr.alloc (.cells (opCells x).toArray 34) := ⟨_, rfl⟩
        rw [← hwa] at hBn hbelA ⊢
        have q := fun o => cell_of_block hBn o
        have q1 : wa.cell? ⟨B, 1, none⟩ = some (.int .i64 x.file) := (q 1).trans rfl
        have HBn := hid hBn
        have M9 := hid (M8.out.under hbelA)
        clear hBn hbelA hwa hB q M8
        by_cases hf : x.file = (k : Int)
        · have hf' : (x.file != (k : Int)) = false := by simpa using hf
          clear hf
          go_wp2_with fail
          go_roundw
          case rel => exact ⟨i + 1, F8, d, by simp, by omega, M9.out, Kd.out, Sd.out.mono (by omega)⟩
          case measure => simp [intOf]; omega
        · have hf' : (x.file != (k : Int)) = true := by simpa using hf
          have Hf := hid hf
          clear hf
          go_upto_region 14 with fail
          refine wp_region_lit ?_
          refine wpList_value (w' := wa) rfl (.pointer (some ⟨b, 0, none⟩)) (by go_simp) ?_
          simp only [Act.put, List.setIfInBounds_toArray, List.set_cons_zero, List.set_cons_succ]
          refine wpList_value (w' := wa) rfl (opV x) (exec_load rfl (by rfl) (run_loadAt_mid wa _ _ _ _ _ (range_whole HBn.out) Try.underlying34 rfl (by kernel_rfl))) ?_
          simp only [Act.put, List.setIfInBounds_toArray, List.set_cons_zero, List.set_cons_succ]
          refine wpList_value rfl (.slice (some ⟨wa.heap.size, 0, none⟩) 1 1) (w' := wa.alloc (.cells (opCells x).toArray 34)) (exec_buildSlice (vs := #[(0, .agg (opCells x).toArray)]) rfl (by simp [Act.eval, opV]) (run_buildSlice_one _ 22 34 _ (opV ⟨0, 0, 0, 0, 0, [], none, 0, []⟩) 7 Try.underlying22 (by kernel_rfl) rfl rfl (by omega) (by omega))) ?_
          simp only [Act.put, List.setIfInBounds_toArray, List.set_cons_zero, List.set_cons_succ]
          have M10 := hid (M9.out.under ((Below.refl wa.heap.size wa).alloc (Nat.le_refl _) (.cells (opCells x).toArray 34)))
          have hone := one_op (w := wa) (Hok.out.move (fun j hj => M9.out.below.block j hj)) (fun j hj => Nat.lt_of_lt_of_le hj M9.out.below.size)
          have Hone := hid hone
          have Hap := hid (show ∀ j, (alive w j ∨ j = wa.heap.size) → j < (wa.alloc (.cells (opCells x).toArray 34)).heap.size ∧ ¬ F8.own j from fun j hj => by
            rcases hj with hj | rfl
            · exact ⟨Nat.lt_of_lt_of_le hj M10.out.below.size, fun ho => absurd (M10.out.fresh j ho) (Nat.not_le.2 hj)⟩
            · exact ⟨by simp, fun ho => absurd (M9.out.disk.olt _ ho) (Nat.lt_irrefl _)⟩)
          clear hone
          go_wp2_with (first
            | (go_at_call 13; refine (run_any M10.out.disk Hone.out Hap.out (fun y hy => by rw [List.mem_singleton.1 hy]; exact Hlx.out) (by simp) (Sd.out.mono (by omega))).mono ?_; rintro e w11 ⟨rfl, hd⟩; obtain ⟨F11, hm⟩ := M10.out.did hd; have M11 := hid hm; clear hd hm M10)
            | go_in)
          go_roundw
          case rel => exact ⟨i + 1, F11, stepM d x, by simp, by omega, M11.out, Kd.out.step Hf.out, (step_small Sd.out Hlx.out).mono (by omega)⟩
          case measure => simp [intOf]; omega
      · obtain rfl : i = n := by omega
        have hlt' : decide ((i : Int) < (i : Int)) = false := by simp
        obtain ⟨c1, c2, c3⟩ := kept_crash Kd.out ks
        have hall2 : allM (crashM d ks) (k : Int) = A := by rw [allM_on hk c2, c1, HA.out]
        have HC2 := hid hall2
        have hz2 : (((crashM d ks).now k).length : Int) = z := by rw [c1, Hz.out]
        have HZ2 := hid hz2
        have C2 := hid c2
        have C3 := hid (show ((crashM d ks).loose.length : Int) = 0 by rw [c3]; rfl)
        clear c1 c2 c3 hall2 hz2
        have CR := hid (crash_any M8.out.disk (.slice ka ks.length kcap) ks (Hka.out.keep (fun j hj => M8.out.below.block j (Hkb.out j hj))) (fun j hj => ⟨fun ho => absurd (M8.out.fresh j ho) (Nat.not_le.2 (Hkb.out j hj)), Nat.lt_of_lt_of_le (Hkb.out j hj) M8.out.below.size⟩) (Sd.out.mono (by omega)) (by have := Hkl.out; omega))
        go_wp2_with (first
          | (go_at_call 17; refine (CR.out).mono ?_; rintro e w12 ⟨rfl, hd⟩; obtain ⟨F12, hm⟩ := M8.out.did hd; have M12 := hid hm; clear hd hm M8 CR)
          | (go_at_call 15; refine (all_any M12.out.disk (k : Int)).mono ?_; rintro e w13 ⟨rfl, hb⟩; rw [HC2.out]; have M13 := hid (M12.out.under hb); clear hb M12)
          | (go_at_call 16; refine (size_any M13.out.disk (k : Int)).mono ?_; rintro e w14 ⟨rfl, rfl⟩; rw [if_pos (by omega), Int.toNat_natCast, HZ2.out])
          | (go_at_call 18; refine (loose_any M13.out.disk).mono ?_; rintro e w15 ⟨rfl, rfl⟩; rw [C3.out])
          | (go_at_call 19; refine (on_any M13.out.disk).mono ?_; rintro e w16 ⟨rfl, rfl⟩; rw [C2.out])
          | go_in)
        go_ret
        exact ⟨rfl, M13.out.below⟩
  · have hrne : (r != 0) = true := by simpa using hr0
    clear hr hr0
    go_wp2_with (first
      | (go_at_call 14; refine (SY.out).mono ?_; rintro e w6 ⟨rfl, hd⟩; obtain ⟨F6, hm⟩ := M5.out.did hd; have M6 := hid hm; clear hd hm SY M5)
      | go_in)
    go_ret
    exact ⟨rfl, M6.out.below⟩

theorem sure_any (w : World) (h : OpsAt (alive w) w v l) (g : OpsAt (alive w) w v2 more) (f : Int) {v3 : Value} (hka : KeepAt w v3 ks) (hkb : ∀ g, keepBlk v3 ks = some g → g < w.heap.size) :
    Calls Try.prog 3 #[v, v2, .int .i64 f, v3] w fun e w' => e = .returned (.bool true) ∧ Below w.heap.size w w' := by
  obtain ⟨ka, kcap, rfl, -⟩ := id hka
  by_cases hf : f < 0 ∨ 8 ≤ f ∨ 4096 < (ks.length : Int)
  · exact sure_out w h g f hf
  · obtain ⟨k, rfl⟩ : ∃ k : Nat, f = k := ⟨f.toNat, by omega⟩
    exact sure_in w h g k (by omega) hka hkb (by omega)
end
end Go.Proofs.Ytifgnhbbcpmaiaa
