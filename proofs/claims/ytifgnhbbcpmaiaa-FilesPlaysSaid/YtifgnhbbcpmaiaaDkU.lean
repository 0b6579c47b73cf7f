/- Law FilesCuts, walked. -/
import Derived.Test.YtifgnhbbcpmaiaaDkT
import Derived.Test.YtifgnhbbcpmaiaaDkS
namespace Go.Proofs.Ytifgnhbbcpmaiaa
open Go.RowKit Go.Maps
set_option linter.unusedVariables false
set_option linter.unusedSimpArgs false

theorem Made.beside {w0 w w' : World} {b2 : Nat} {F F' F2 : Foot} {d2 : Dsk} (h : Made w0 w b2 F2 d2) (hX : ∀ i, F.own i → ¬ F2.own i ∧ ¬ F2.sh i) (hF : ∀ k, F.own k → w0.heap.size ≤ k) (hst : FootStep F F' w w') : Made w0 w' b2 F2 d2 :=
  ⟨h.disk.other (b2 := 0) hst hX, below_step h.below hF hst, h.fresh⟩
theorem bool_said {p : Prop} {e : Ending} (h : BoolSaid e p) : e = .returned (.bool true) ∨ (e = .returned (.bool false) ∧ p) := by
  obtain ⟨r, rfl, h⟩ := h
  cases r
  · exact .inr ⟨rfl, h rfl⟩
  · exact .inl rfl

section
variable {v : Value} {l : List OpM}
set_option maxHeartbeats 4000000 in
set_option maxRecDepth 20000 in
theorem cuts_out (w : World) (h : OpsAt (fun k => k < w.heap.size) w v l) (f n : Int) (hf : ¬ (0 ≤ f ∧ f < 8)) :
    Calls Try.prog 8 #[v, .int .i64 f, .int .i64 n] w fun e w' => e = .returned (.bool true) ∧ Below w.heap.size w w' := by
  have H := hid h
  clear h
  by_cases h1 : f < 0
  · have h1' : decide (f < 0) = true := by simpa using h1
    clear hf h1
    go_enter Try.func8, Try.ntmps8
    go_wp2_with (first
      | (go_at_call 9; refine (works_any w).mono ?_; rintro e w1 ⟨rfl, hb⟩; have B1 := hid hb; clear hb)
      | (go_at_call 10; refine (heavy_any (H.out.move (all_lt (fun k hk => hk) B1.out)) (fun k hk => Nat.lt_of_lt_of_le hk B1.out.size)).mono ?_; rintro e w2 ⟨he, hb⟩; have B2 := hid (then_below B1.out hb); rcases bool_said he with rfl | ⟨rfl, hl⟩ <;> clear hb he)
      | (go_at_call 11; refine (far_any (H.out.move (all_lt (fun k hk => hk) B2.out)) (fun k hk => Nat.lt_of_lt_of_le hk B2.out.size) hl.len).mono ?_; rintro e w3 ⟨he, hb⟩; have B3 := hid (then_below B2.out hb); rcases bool_said he with rfl | ⟨rfl, -⟩ <;> clear hb he)
      | go_in)
    all_goals
      go_ret
      first | exact ⟨rfl, B3.out⟩ | exact ⟨rfl, B2.out⟩
  · have h1' : decide (f < 0) = false := by simpa using h1
    have h2' : decide (8 ≤ f) = true := by simp only [decide_eq_true_eq]; omega
    clear hf h1
    go_enter Try.func8, Try.ntmps8
    go_wp2_with (first
      | (go_at_call 9; refine (works_any w).mono ?_; rintro e w1 ⟨rfl, hb⟩; have B1 := hid hb; clear hb)
      | (go_at_call 10; refine (heavy_any (H.out.move (all_lt (fun k hk => hk) B1.out)) (fun k hk => Nat.lt_of_lt_of_le hk B1.out.size)).mono ?_; rintro e w2 ⟨he, hb⟩; have B2 := hid (then_below B1.out hb); rcases bool_said he with rfl | ⟨rfl, hl⟩ <;> clear hb he)
      | (go_at_call 11; refine (far_any (H.out.move (all_lt (fun k hk => hk) B2.out)) (fun k hk => Nat.lt_of_lt_of_le hk B2.out.size) hl.len).mono ?_; rintro e w3 ⟨he, hb⟩; have B3 := hid (then_below B2.out hb); rcases bool_said he with rfl | ⟨rfl, -⟩ <;> clear hb he)
      | go_in)
    all_goals
      go_ret
      first | exact ⟨rfl, B3.out⟩ | exact ⟨rfl, B2.out⟩

set_option maxHeartbeats 4000000 in
set_option maxRecDepth 20000 in
theorem cuts_in (w : World) (h : OpsAt (fun k => k < w.heap.size) w v l) (k : Nat) (n : Int) (hk : k < 8) (hn : in64 n) :
    Calls Try.prog 8 #[v, .int .i64 (k : Int), .int .i64 n] w fun e w' => e = .returned (.bool true) ∧ Below w.heap.size w w' := by
  have H := hid h
  have h1' : decide ((k : Int) < 0) = false := by simp
  have h2' : decide (8 ≤ (k : Int)) = false := by simp only [decide_eq_false_iff_not]; omega
  clear h
  go_enter Try.func8, Try.ntmps8
  go_upto_region 9 with (first
    | (go_at_call 9; refine (works_any w).mono ?_; rintro e w1 ⟨rfl, hb⟩; have B1 := hid hb; clear hb)
    | (go_at_call 10; refine (heavy_any (H.out.move (all_lt (fun k hk => hk) B1.out)) (fun k hk => Nat.lt_of_lt_of_le hk B1.out.size)).mono ?_; rintro e w2 ⟨he, hb⟩; have B2 := hid (then_below B1.out hb); rcases bool_said he with rfl | ⟨rfl, hl⟩ <;> clear hb he)
    | (go_at_call 11; refine (far_any (H.out.move (all_lt (fun k hk => hk) B2.out)) (fun k hk => Nat.lt_of_lt_of_le hk B2.out.size) hl.len).mono ?_; rintro e w3 ⟨he, hb⟩; have B3 := hid (then_below B2.out hb); rcases bool_said he with rfl | ⟨rfl, -⟩ <;> clear hb he)
    | (go_at_call 12; refine (new_any w3).mono ?_; rintro e w4 ⟨b, F, rfl, hd, hb, ho, -⟩; have M4 := hid (Made.new B3.out hd hb ho); clear hd hb ho)
    | (go_at_call 13; refine (run_any M4.out.disk (H.out.move (all_lt (fun k hk => hk) M4.out.below)) (fun k hk => ⟨Nat.lt_of_lt_of_le hk M4.out.below.size, fun ho => absurd (M4.out.fresh k ho) (Nat.not_le.2 hk)⟩) hl.ok hl.len (newM_small.mono (by omega))).mono ?_; rintro e w5 ⟨rfl, hd⟩; obtain ⟨F5, hm⟩ := M4.out.did hd; have HSd := hid ((run_small l newM newM_small hl.ok).mono (M := 1000000) (by have := hl.len; omega)); have Hd0 := hid M4.out.disk.ok; obtain ⟨D, hD⟩ : ∃ D, D = runM newM l := ⟨_, rfl⟩; rw [← hD] at hm HSd; have M5 := hid hm; clear hd hm hD M4)
    | (go_at_call 17; refine (crash_nil M5.out.disk (HSd.out.mono (by omega))).mono ?_; rintro e w6 ⟨rfl, hd⟩; obtain ⟨F6, hm⟩ := M5.out.did (d' := calm D) hd; have HS6 := hid (show (calm D).Small 1000000 from crash_small HSd.out); have H0 := hid M5.out.disk.ok.op0; have M6 := hid hm; clear hd hm M5)
    | (go_at_call 15; refine (all_any M6.out.disk (k : Int)).mono ?_; rintro e w7 ⟨rfl, hb⟩; have M7 := hid (M6.out.under hb); clear hb M6)
    | go_in)
  all_goals first | (go_ret; first | exact ⟨rfl, B3.out⟩ | exact ⟨rfl, B2.out⟩) | skip
  obtain ⟨z, hz⟩ : ∃ z : Int, (((calm D).now k).length : Int) = z := ⟨_, rfl⟩
  have SZ := hid (fun (W : World) (hd : DiskAt W b F6 (calm D)) => show Calls Try.prog 16 #[.pointer (some ⟨b, 0, none⟩), .int .i64 (k : Int)] W fun e w' => e = .returned (.int .i64 z) ∧ w' = W by
    have h := size_any hd (k : Int)
    rw [if_pos (by omega), Int.toNat_natCast, hz] at h
    exact h)
  have Hz := hid hz
  clear hz
  by_cases hbad : n < 0 ∨ z < n
  · have hcut := cut_bad (D := D) hk (n := n) (by rw [Hz.out]; exact hbad)
    have Hcut := hid hcut
    clear hcut
    by_cases hb1 : n < 0
    · have hb1' : decide (n < 0) = true := by simpa using hb1
      clear hbad hb1
      go_wp2_with (first
        | (go_at_call 15; refine (all_any M6.out.disk (k : Int)).mono ?_; rintro e w7 ⟨rfl, hb⟩; have M7 := hid (M6.out.under hb); clear hb M6)
        | (go_at_call 16; refine (SZ.out w7 M7.out.disk).mono ?_; rintro e w8 ⟨rfl, rfl⟩)
        | (go_at_call 24; have C := cut_any M7.out.disk (k : Int) n (HS6.out.mono (by omega)); rw [Hcut.out] at C; refine C.mono ?_; clear C; rintro e w9 ⟨rfl, hd⟩; obtain ⟨F9, hm⟩ := M7.out.did hd; have M9 := hid hm; clear hd hm M7)
        | (go_at_call 16; refine (size_any M9.out.disk (k : Int)).mono ?_; rintro e w10 ⟨rfl, rfl⟩; rw [if_pos (by omega), Int.toNat_natCast, Hz.out])
        | go_in)
      go_ret
      exact ⟨rfl, M9.out.below⟩
    · have hb1' : decide (n < 0) = false := by simpa using hb1
      have hb2' : decide (z < n) = true := by simp only [decide_eq_true_eq]; omega
      clear hbad hb1
      go_wp2_with (first
        | (go_at_call 15; refine (all_any M6.out.disk (k : Int)).mono ?_; rintro e w7 ⟨rfl, hb⟩; have M7 := hid (M6.out.under hb); clear hb M6)
        | (go_at_call 16; refine (SZ.out w7 M7.out.disk).mono ?_; rintro e w8 ⟨rfl, rfl⟩)
        | (go_at_call 24; have C := cut_any M7.out.disk (k : Int) n (HS6.out.mono (by omega)); rw [Hcut.out] at C; refine C.mono ?_; clear C; rintro e w9 ⟨rfl, hd⟩; obtain ⟨F9, hm⟩ := M7.out.did hd; have M9 := hid hm; clear hd hm M7)
        | (go_at_call 16; refine (size_any M9.out.disk (k : Int)).mono ?_; rintro e w10 ⟨rfl, rfl⟩; rw [if_pos (by omega), Int.toNat_natCast, Hz.out])
        | go_in)
      go_ret
      exact ⟨rfl, M9.out.below⟩
  · obtain ⟨j, rfl⟩ : ∃ j : Nat, n = j := ⟨n.toNat, by omega⟩
    have hj : j ≤ ((calm D).now k).length := by have := Hz.out; omega
    have hcut := cut_good (D := D) hk H0.out hj
    have Hj := hid hj
    have Hcut := hid hcut
    have hb1' : decide ((j : Int) < 0) = false := by simp
    have hb2' : decide (z < (j : Int)) = false := by simp only [decide_eq_false_iff_not]; omega
    have HS8 := hid (show (cutD D k j).Small 1000002 by have h := cut_small (f := (k : Int)) (n := (j : Int)) HS6.out; rw [hcut] at h; exact h)
    clear hbad hcut hj
    go_upto_region 13 with (first
        | (go_at_call 15; refine (all_any M6.out.disk (k : Int)).mono ?_; rintro e w7 ⟨rfl, hb⟩; have M7 := hid (M6.out.under hb); clear hb M6)
        | (go_at_call 16; refine (SZ.out w7 M7.out.disk).mono ?_; rintro e w8 ⟨rfl, rfl⟩)
        | (go_at_call 24; have C := cut_any M7.out.disk (k : Int) (j : Int) (HS6.out.mono (by omega)); rw [Hcut.out] at C; refine C.mono ?_; clear C; rintro e w9 ⟨rfl, hd⟩; obtain ⟨F9, hm⟩ := M7.out.did hd; have M9 := hid hm; clear hd hm M7)
        | go_in)
    refine wp_region_held_drew (S := fun W => Below w9.heap.size w9 W) (by kernel_rfl) ((Below.refl _ _).drew) (fun hHeld => ?_)
    have Hnl := hid (show (((cutD D k j).now k).length : Int) = (j : Int) by rw [cutD_now, List.length_take]; have := Hj.out; omega)
    have Hnl2 := hid (show (j : Int) = ((((calm D).now k).take j).length : Int) by rw [List.length_take]; have := Hj.out; omega)
    have hlost : allM (crashM (cutD D k j) []) (k : Int) = allM (calm D) (k : Int) := by
      rw [allM_on hk (by rw [crash_nil_eq]), allM_on hk calm_off, cutD_lost]
    obtain ⟨q, hq⟩ : ∃ q : Nat, q = min j 300 := ⟨_, rfl⟩
    have hq1 : min (j : Int) 300 = (q : Int) := by omega
    have hq2 : IntKind.i64.wrap ((q : Int) * 64) = ((q * 64 : Nat) : Int) := by rw [Int.natCast_mul]; exact IntWalk.i64_in _ (by omega)
    have hq4 : ((q : Int) * 64).toNat = q * 64 := by omega
    have Hsec := hid (show ∀ s ∈ (calm D).now k, s.length = 64 from by have h := M9.out.disk.ok.ss k hk; rw [cutD_sure] at h; exact h)
    obtain ⟨A, hA⟩ : ∃ A, A = allM (calm D) (k : Int) := ⟨_, rfl⟩
    have hAl : q * 64 ≤ A.length := by
      rw [hA, allM_on hk calm_off, flat_len (fun s hs => Hsec.out s (List.mem_of_mem_take hs)), List.length_take]
      have := Hj.out
      omega
    have hA2 : allM (cutD D k j) (k : Int) = A.take (q * 64) := by rw [hA, hq]; exact cut_read hk H0.out Hsec.out Hj.out
    have hq3 : 0 ≤ (q : Int) * 64 ∧ (q : Int) * 64 ≤ (A.length : Int) := by omega
    have HA2 := hid hA2
    have HA := hid hA
    rw [← hA] at hlost
    have Hlost := hid hlost
    simp only [← hA]
    clear hA2 hA hq hlost
    refine held_take (v := ?pv0) 0 rfl (by kernel_rfl) (by kernel_rfl) (by kernel_rfl) (fun _ _ _ h => h) (by rfl) hHeld ?py0 ?pr0
    case py0 => (intro W hSw; go_simp; with_reducible rfl)
    simp only [Act.put, List.setIfInBounds_toArray, List.set_cons_zero, List.set_cons_succ]
    refine held_take (v := ?pv1) 1 rfl (by kernel_rfl) (by kernel_rfl) (by kernel_rfl) (fun _ _ _ h => h) (by rfl) hHeld ?py1 ?pr1
    case py1 => (intro W hSw; go_simp; with_reducible rfl)
    simp only [Act.put, List.setIfInBounds_toArray, List.set_cons_zero, List.set_cons_succ]
    refine held_take (v := ?pv2) 2 rfl (by kernel_rfl) (by kernel_rfl) (by kernel_rfl) (fun _ _ _ h => h) (by rfl) hHeld ?py2 ?pr2
    case py2 => (intro W hSw; go_simp; with_reducible rfl)
    simp only [Act.put, List.setIfInBounds_toArray, List.set_cons_zero, List.set_cons_succ]
    refine held_take (v := ?pv3) 3 rfl (by kernel_rfl) (by kernel_rfl) (by kernel_rfl) (fun _ _ _ h => h) (by rfl) hHeld ?py3 ?pr3
    case py3 => (intro W hSw; go_simp; with_reducible rfl)
    simp only [Act.put, List.setIfInBounds_toArray, List.set_cons_zero, List.set_cons_succ]
    refine held_take (v := ?pv4) 4 rfl (by kernel_rfl) (by kernel_rfl) (by kernel_rfl) (fun _ _ _ h => h) (by rfl) hHeld ?py4 ?pr4
    case py4 => (intro W hSw; go_simp; with_reducible rfl)
    simp only [Act.put, List.setIfInBounds_toArray, List.set_cons_zero, List.set_cons_succ]
    refine held_take (v := ?pv6) 6 rfl (by kernel_rfl) (by kernel_rfl) (by kernel_rfl) (fun _ _ _ h => h) (by rfl) hHeld ?py6 ?pr6
    case py6 => (intro W hSw; go_simp; with_reducible rfl)
    simp only [Act.put, List.setIfInBounds_toArray, List.set_cons_zero, List.set_cons_succ]
    refine held_one 5 (by kernel_rfl) rfl (fun K hK => ?_)
    go_simp
    refine (size_any (M9.out.disk.below (Below.refl _ _).drew) (k : Int)).mono ?_
    rintro e w10 ⟨rfl, rfl⟩
    try dsimp only
    rw [if_pos (by omega), Int.toNat_natCast, Hnl.out]
    refine hK.out _ _ ((Below.refl _ _).drew) (fun hHeld => ?_)
    clear hK K
    try simp only [Act.put, List.setIfInBounds_toArray, List.set_cons_zero, List.set_cons_succ]
    refine held_take (v := ?pv7) 7 rfl (by kernel_rfl) (by kernel_rfl) (by kernel_rfl) (fun _ _ _ h => h) (by rfl) hHeld ?py7 ?pr7
    case py7 => (intro W hSw; go_simp; with_reducible rfl)
    simp only [Act.put, List.setIfInBounds_toArray, List.set_cons_zero, List.set_cons_succ]
    refine held_take (v := ?pv8) 8 rfl (by kernel_rfl) (by kernel_rfl) (by kernel_rfl) (fun _ _ _ h => h) (by rfl) hHeld ?py8 ?pr8
    case py8 => (intro W hSw; go_simp; with_reducible rfl)
    simp only [Act.put, List.setIfInBounds_toArray, List.set_cons_zero, List.set_cons_succ]
    refine held_take (v := ?pv9) 9 rfl (by kernel_rfl) (by kernel_rfl) (by kernel_rfl) (fun _ _ _ h => h) (by rfl) hHeld ?py9 ?pr9
    case py9 => (intro W hSw; go_simp; with_reducible rfl)
    simp only [Act.put, List.setIfInBounds_toArray, List.set_cons_zero, List.set_cons_succ]
    refine held_take (v := ?pv10) 10 rfl (by kernel_rfl) (by kernel_rfl) (by kernel_rfl) (fun _ _ _ h => h) (by rfl) hHeld ?py10 ?pr10
    case py10 => (intro W hSw; go_simp; with_reducible rfl)
    simp only [Act.put, List.setIfInBounds_toArray, List.set_cons_zero, List.set_cons_succ]
    refine held_take (v := ?pv11) 11 rfl (by kernel_rfl) (by kernel_rfl) (by kernel_rfl) (fun _ _ _ h => h) (by rfl) hHeld ?py11 ?pr11
    case py11 => (intro W hSw; go_simp; with_reducible rfl)
    simp only [Act.put, List.setIfInBounds_toArray, List.set_cons_zero, List.set_cons_succ]
    refine held_take (v := ?pv13) 13 rfl (by kernel_rfl) (by kernel_rfl) (by kernel_rfl) (fun _ _ _ h => h) (by rfl) hHeld ?py13 ?pr13
    case py13 => (intro W hSw; go_simp; with_reducible rfl)
    simp only [Act.put, List.setIfInBounds_toArray, List.set_cons_zero, List.set_cons_succ]
    refine held_take (v := ?pv14) 14 rfl (by kernel_rfl) (by kernel_rfl) (by kernel_rfl) (fun _ _ _ h => h) (by rfl) hHeld ?py14 ?pr14
    case py14 => (intro W hSw; go_simp; with_reducible rfl)
    simp only [Act.put, List.setIfInBounds_toArray, List.set_cons_zero, List.set_cons_succ]
    refine held_take (v := ?pv15) 15 rfl (by kernel_rfl) (by kernel_rfl) (by kernel_rfl) (fun _ _ _ h => h) (by rfl) hHeld ?py15 ?pr15
    case py15 => (intro W hSw; go_simp; with_reducible rfl)
    simp only [Act.put, List.setIfInBounds_toArray, List.set_cons_zero, List.set_cons_succ]
    refine held_take (v := ?pv16) 16 rfl (by kernel_rfl) (by kernel_rfl) (by kernel_rfl) (fun _ _ _ h => h) (by rfl) hHeld ?py16 ?pr16
    case py16 => (intro W hSw; go_simp; with_reducible rfl)
    simp only [Act.put, List.setIfInBounds_toArray, List.set_cons_zero, List.set_cons_succ]
    refine held_take (v := ?pv17) 17 rfl (by kernel_rfl) (by kernel_rfl) (by kernel_rfl) (fun _ _ _ h => h) (by rfl) hHeld ?py17 ?pr17
    case py17 => (intro W hSw; go_simp; with_reducible rfl)
    simp only [Act.put, List.setIfInBounds_toArray, List.set_cons_zero, List.set_cons_succ]
    refine held_one 12 (by kernel_rfl) rfl (fun K hK => ?_)
    go_simp
    refine (all_any (M9.out.disk.below (Below.refl _ _).drew) (k : Int)).mono ?_
    rintro e w11 ⟨rfl, hb⟩
    try dsimp only
    rw [HA2.out]
    have M11 := hid (M9.out.under (below_undrew hb))
    refine hK.out _ _ (below_undrew hb) (fun hHeld => ?_)
    clear hK K hb
    try simp only [Act.put, List.setIfInBounds_toArray, List.set_cons_zero, List.set_cons_succ]
    refine held_take (v := ?pv18) 18 rfl (by kernel_rfl) (by kernel_rfl) (by kernel_rfl) (fun _ _ _ h => h) (by rfl) hHeld ?py18 ?pr18
    case py18 => (intro W hSw; go_simp; with_reducible rfl)
    simp only [Act.put, List.setIfInBounds_toArray, List.set_cons_zero, List.set_cons_succ]
    refine held_take (v := ?pv19) 19 rfl (by kernel_rfl) (by kernel_rfl) (by kernel_rfl) (fun _ _ _ h => h) (by rfl) hHeld ?py19 ?pr19
    case py19 => (intro W hSw; go_simp; with_reducible rfl)
    simp only [Act.put, List.setIfInBounds_toArray, List.set_cons_zero, List.set_cons_succ]
    refine wpAnyH_done (by kernel_rfl) ?_ _
    clear hHeld
    go_wp2_with (first
        | (go_at_call 28; refine (copy_any M11.out.disk (HS8.out.mono (by omega))).mono ?_; rintro e w12 ⟨b2, F2, rfl, hd, hb, ho, hsh⟩; have HX := hid (show ∀ i, F9.own i → ¬ F2.own i ∧ ¬ F2.sh i from fun i hi => ⟨fun h2 => absurd (M11.out.disk.olt i hi) (Nat.not_lt.2 (ho i h2)), fun h2 => M11.out.disk.apart i hi (hsh i h2)⟩); have O12 := hid (show Made w w12 b2 F2 _ from ⟨hd, M11.out.below.trans (hb.mono M11.out.below.size), fun i hi => Nat.le_trans M11.out.below.size (ho i hi)⟩); have M12 := hid (M11.out.under hb); clear hd hb ho hsh M11)
        | (go_at_call 17; refine (crash_new M12.out.disk (HS8.out.mono (by omega)) [true] (by simp)).mono ?_; rintro e w13 ⟨rfl, hd⟩; obtain ⟨F13, hd1, hst⟩ := hd; have O13 := hid ((O12.out.under ((Below.refl _ _).alloc (Nat.le_refl _) (.cells (bools [true]) 4))).beside HX.out M12.out.fresh hst); have D13 := hid hd1; clear hst hd1 M12 O12)
        | (go_at_call 16; refine (size_any D13.out (k : Int)).mono ?_; rintro e w14 ⟨rfl, rfl⟩; rw [if_pos (by omega), Int.toNat_natCast, cutD_keep, ← Hnl2.out]; clear D13)
        | (go_at_call 17; refine (crash_nil O13.out.disk (HS8.out.mono (by omega))).mono ?_; rintro e w15 ⟨rfl, hd⟩; obtain ⟨F15, hm⟩ := O13.out.did hd; have O15 := hid hm; clear hd hm O13)
        | (go_at_call 16; refine (size_any O15.out.disk (k : Int)).mono ?_; rintro e w16 ⟨rfl, rfl⟩; rw [if_pos (by omega), Int.toNat_natCast, cutD_lost, Hz.out])
        | (go_at_call 15; refine (all_any O15.out.disk (k : Int)).mono ?_; rintro e w17 ⟨rfl, hb⟩; rw [Hlost.out]; have O17 := hid (O15.out.under hb); clear hb O15)
        | go_in)
    go_ret
    exact ⟨rfl, O17.out.below⟩
theorem cuts_any {v : Value} {l : List OpM} (w : World) (h : OpsAt (fun k => k < w.heap.size) w v l) (f n : Int) (hn : in64 n) :
    Calls Try.prog 8 #[v, .int .i64 f, .int .i64 n] w fun e w' => e = .returned (.bool true) ∧ Below w.heap.size w w' := by
  by_cases hf : 0 ≤ f ∧ f < 8
  · obtain ⟨k, rfl⟩ : ∃ k : Nat, f = k := ⟨f.toNat, by omega⟩
    exact cuts_in w h k n (by omega) hn
  · exact cuts_out w h f n hf
end
end Go.Proofs.Ytifgnhbbcpmaiaa
