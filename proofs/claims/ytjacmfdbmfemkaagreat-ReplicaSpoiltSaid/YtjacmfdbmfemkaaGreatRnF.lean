/- Replica's laws: works, the walk. -/
import Derived.Test.YtjacmfdbmfemkaaGreatRnE
set_option linter.unusedVariables false
set_option linter.unusedSimpArgs false
namespace Go.Proofs.YtjacmfdbmfemkaaGreat
open Go.RowKit Go.Maps
set_option maxRecDepth 20000
section
variable {w W : World} {a c : PgD} {X : Nat → Prop}
theorem two_new (h : Two w W a c X) (o : Obj) : Two w (W.alloc o) a c (fun k => X k ∨ k = W.heap.size) ∧ (W.alloc o).heap[W.heap.size]? = some o ∧ (∀ k, X k → (W.alloc o).heap[k]? = W.heap[k]?) ∧ w.heap.size ≤ W.heap.size ∧ ¬ X W.heap.size := by
 have hb := (Below.refl W.heap.size W).alloc (Nat.le_refl _) o
 refine ⟨h.add hb (fun k hk => hk.imp id (fun e => by rw [e]; exact Nat.le_refl _)) (fun k hk => hk.elim (fun e => Nat.lt_of_lt_of_le (h.xlt k e) hb.size) (fun e => by rw [e]; simp)), heap_alloc_new _ _, fun k hk => hb.block k (h.xlt k hk), h.bel.size, fun hk => Nat.lt_irrefl _ (h.xlt _ hk)⟩
theorem lead_two (h : Two w W a c X) (ep : Int) : Calls Tryz.prog 6 #[.int .u64 ep] W fun e w' => ∃ L, e = .returned (.pointer (some ⟨L, 0, none⟩)) ∧ Two w w' a c (fun k => X k ∨ k = L) ∧ w'.heap[L]? = some (ldObj ⟨ep, 0, 0, 0⟩) ∧ (∀ k, X k → w'.heap[k]? = W.heap[k]?) ∧ w.heap.size ≤ L ∧ ¬ X L := by
 refine (lead_any ep W).mono ?_
 rintro e w' ⟨rfl, rfl⟩
 exact ⟨_, rfl, two_new h _⟩
theorem trail_two (h : Two w W a c X) (pb : Nat) : Calls Tryz.prog 14 #[.pointer (some ⟨pb, 0, none⟩)] W fun e w' => ∃ T, e = .returned (.pointer (some ⟨T, 0, none⟩)) ∧ Two w w' a c (fun k => X k ∨ k = T) ∧ w'.heap[T]? = some (tlObj pb 0) ∧ (∀ k, X k → w'.heap[k]? = W.heap[k]?) ∧ w.heap.size ≤ T ∧ ¬ X T := by
 refine (trail_any pb W).mono ?_
 rintro e w' ⟨rfl, rfl⟩
 exact ⟨_, rfl, two_new h _⟩
theorem wk_has {L : Nat} (hb : W.heap[L]? = some (ldObj ⟨3, 0, 1, 0⟩)) : Calls Tryz.prog 19 #[.pointer (some ⟨L, 0, none⟩), .int .i64 1] W fun e w' => e = .returned (.int .u64 1) ∧ w' = W := lhas_any hb 1
end
set_option maxHeartbeats 16000000 in
set_option maxRecDepth 20000 in
theorem rworks_any (w : World) : Calls Tryz.prog 5 #[] w fun e w' => e = .returned (.bool true) ∧ Below w.heap.size w w' := by
 have FR := hid (fun W => fresh_any W)
 go_enter Tryz.func5, Tryz.ntmps5
 go_upto_region 2 with (first
  | (go_at_call 12; refine (FR.out _).mono ?_; rintro e w1 ⟨pa, la, ba, rfl, hp1⟩; have HP1 := hid (hp1.to (X' := fun _ => False) (fun k hk => hk.elim)); clear hp1)
  | go_in)
 go_upto_region 3 with (first
  | (go_at_call 12; refine (FR.out _).mono ?_; rintro e w2 ⟨pb, l, b, rfl, hp2⟩; have HP2 := hid (PgX.two (a := ⟨pa, la, ba, p0, exG0, newM⟩) (c := uC0 pb l b) HP1.out hp2); clear hp2)
  | go_in)
 clear FR HP1
 go_upto_region 5 with (first
  | (go_at_call 13; refine (wk_turn HP2.out).mono ?_; rintro e w3 ⟨rfl, hp3⟩; have HP3 := hid hp3; clear hp3 HP2)
  | go_in)
 go_upto_region 6 with (first
  | (go_at_call 6; refine (lead_two HP3.out 3).mono ?_; rintro e w4 ⟨L, rfl, hp4, hl4, -, hwL, -⟩; have HP4 := hid hp4; have HL4 := hid hl4; have HwL := hid hwL; clear hp4 hl4 hwL HP3)
  | (go_at_call 14; refine (trail_two HP4.out pb).mono ?_; rintro e w5 ⟨T, rfl, hp5, ht5, hk5, hwT, hnT⟩; have HP5 := hid hp5; have HT5 := hid ht5; have HL5 := hid ((hk5 L (.inr rfl)).trans HL4.out); have HwT := hid hwT; have HLT := hid (show L ≠ T from fun e => hnT (.inr e.symm)); clear hp5 ht5 hk5 hwT hnT HP4 HL4)
  | go_in)
 go_upto_region 7 with (first
  | (go_at_call 27; refine (wk_tick1 HP5.out HL5.out (.inl (.inr rfl))).mono ?_; rintro e w6 ⟨pv, rfl, hr6, hp6, hk6⟩; have HR6 := hid hr6; have HP6 := hid hp6; have HL6 := hid ((hk6 L (.inl (.inr rfl))).trans HL5.out); have HT6 := hid ((hk6 T (.inr rfl)).trans HT5.out); clear hr6 hp6 hk6 HP5 HL5 HT5)
  | go_in)
 obtain ⟨ao6, cap6, rfl, hc6⟩ := HR6.out.shape
 obtain ⟨q6, rfl, -, -, y0, y1⟩ := hc6 0 (by decide)
 have y0 : w6.cell? ⟨q6, 0, none⟩ = some (.int .i64 1) := y0
 have y1 : w6.cell? ⟨q6, 1, none⟩ = some (.string (bs sN)) := y1
 clear hc6
 have hl2 : ([(1, sN), (2, sN)] : List (Int × List UInt8)).length = 2 := rfl
 rw [hl2]
 clear hl2
 go_upto_region 10 with (first
  | (go_at_call 16; refine (wk_get HP6.out HT6.out (.inl (.inr rfl)) HwT.out).mono ?_; rintro e w7 ⟨pv7, rfl, hg7⟩; have HG7 := hid hg7; clear hg7)
  | go_in)
 obtain ⟨ao7, cap7, rfl, hc7⟩ := HG7.out.row.shape
 obtain ⟨q7, rfl, -, -, y0, y1⟩ := hc7 0 (Nat.zero_lt_one)
 have y0 : w7.cell? ⟨q7, 0, none⟩ = some (.int .i64 0) := y0
 have y1 : w7.cell? ⟨q7, 1, none⟩ = some (.string (bs aK)) := y1
 clear hc7
 have hl1 : ([(0, aK)] : List (Int × List UInt8)).length = 1 := rfl
 have HG := HG7.out
 dsimp only at HG
 rw [hl1] at HG ⊢
 have hL7 := (HG.keep L (.inl (.inl (.inr rfl))) HLT.out).trans HL6.out
 have hp7 := HG.two
 have ht7 := HG.blk
 have hq7 := HG.apart q7 rfl
 dsimp only at hp7 ht7
 have HP7 := hid hp7
 have HL7 := hid hL7
 have HT7 := hid ht7
 have HY0 := hid y0
 have HY1 := hid y1
 have HqL := hid (show q7 ≠ L from fun e => hq7 (by rw [e]; exact .inl (.inl (.inr rfl))))
 have hqlt : q7 < w7.heap.size := hp7.xlt q7 (.inr rfl)
 have Hqlt := hid hqlt
 clear hl1 HG hL7 hp7 ht7 hq7 hqlt HG7
 have AK := fun W => ack_any (W := W) 3 1 ⟨by decide, by decide⟩ ⟨by decide, by decide⟩
 have AK := hid (show ∀ W, Calls Tryz.prog 35 #[.int .u64 3, .int .u64 1] W fun e w' => e = .returned (.string (bs aK)) ∧ Below W.heap.size W w' from AK)
 refine wp_region_held_drew (S := fun W2 => W2.cell? ⟨q7, 0, none⟩ = some (.int .i64 0) ∧ W2.cell? ⟨q7, 1, none⟩ = some (.string (bs aK))) (by kernel_rfl) ⟨y0, y1⟩ (fun hHeld => ?_)
 clear y0 y1
 refine held_take (v := ?av0) 0 rfl (by kernel_rfl) (by kernel_rfl) (by kernel_rfl) (fun _ _ _ h => h) (by rfl) hHeld ?ay0 ?ar0
 case ay0 => (intro W hSw; obtain ⟨y0, y1⟩ := hSw; go_simp; with_reducible rfl)
 simp only [Act.put, List.setIfInBounds_toArray, List.set_cons_zero, List.set_cons_succ]
 refine held_take (v := ?av1) 1 rfl (by kernel_rfl) (by kernel_rfl) (by kernel_rfl) (fun _ _ _ h => h) (by rfl) hHeld ?ay1 ?ar1
 case ay1 => (intro W hSw; obtain ⟨y0, y1⟩ := hSw; go_simp; with_reducible rfl)
 simp only [Act.put, List.setIfInBounds_toArray, List.set_cons_zero, List.set_cons_succ]
 refine held_take (v := ?av2) 2 rfl (by kernel_rfl) (by kernel_rfl) (by kernel_rfl) (fun _ _ _ h => h) (by rfl) hHeld ?ay2 ?ar2
 case ay2 => (intro W hSw; obtain ⟨y0, y1⟩ := hSw; go_simp; with_reducible rfl)
 simp only [Act.put, List.setIfInBounds_toArray, List.set_cons_zero, List.set_cons_succ]
 refine held_take (v := ?av3) 3 rfl (by kernel_rfl) (by kernel_rfl) (by kernel_rfl) (fun _ _ _ h => h) (by rfl) hHeld ?ay3 ?ar3
 case ay3 => (intro W hSw; obtain ⟨y0, y1⟩ := hSw; go_simp; with_reducible rfl)
 simp only [Act.put, List.setIfInBounds_toArray, List.set_cons_zero, List.set_cons_succ]
 refine held_take (v := ?av4) 4 rfl (by kernel_rfl) (by kernel_rfl) (by kernel_rfl) (fun _ _ _ h => h) (by rfl) hHeld ?ay4 ?ar4
 case ay4 => (intro W hSw; obtain ⟨y0, y1⟩ := hSw; go_simp; with_reducible rfl)
 simp only [Act.put, List.setIfInBounds_toArray, List.set_cons_zero, List.set_cons_succ]
 refine held_take (v := ?av5) 5 rfl (by kernel_rfl) (by kernel_rfl) (by kernel_rfl) (fun _ _ _ h => h) (by rfl) hHeld ?ay5 ?ar5
 case ay5 => (intro W hSw; obtain ⟨y0, y1⟩ := hSw; go_simp; with_reducible rfl)
 simp only [Act.put, List.setIfInBounds_toArray, List.set_cons_zero, List.set_cons_succ]
 refine held_take (v := ?av6) 6 rfl (by kernel_rfl) (by kernel_rfl) (by kernel_rfl) (fun _ _ _ h => h) (by rfl) hHeld ?ay6 ?ar6
 case ay6 => (intro W hSw; obtain ⟨y0, y1⟩ := hSw; go_simp; with_reducible rfl)
 simp only [Act.put, List.setIfInBounds_toArray, List.set_cons_zero, List.set_cons_succ]
 refine held_take (v := ?av7) 7 rfl (by kernel_rfl) (by kernel_rfl) (by kernel_rfl) (fun _ _ _ h => h) (by rfl) hHeld ?ay7 ?ar7
 case ay7 => (intro W hSw; obtain ⟨y0, y1⟩ := hSw; go_simp; with_reducible rfl)
 simp only [Act.put, List.setIfInBounds_toArray, List.set_cons_zero, List.set_cons_succ]
 refine held_take (v := ?av8) 8 rfl (by kernel_rfl) (by kernel_rfl) (by kernel_rfl) (fun _ _ _ h => h) (by rfl) hHeld ?ay8 ?ar8
 case ay8 => (intro W hSw; obtain ⟨y0, y1⟩ := hSw; go_simp; with_reducible rfl)
 simp only [Act.put, List.setIfInBounds_toArray, List.set_cons_zero, List.set_cons_succ]
 refine held_take (v := ?av9) 9 rfl (by kernel_rfl) (by kernel_rfl) (by kernel_rfl) (fun _ _ _ h => h) (by rfl) hHeld ?ay9 ?ar9
 case ay9 => (intro W hSw; obtain ⟨y0, y1⟩ := hSw; go_simp; with_reducible rfl)
 simp only [Act.put, List.setIfInBounds_toArray, List.set_cons_zero, List.set_cons_succ]
 refine held_take (v := ?av10) 10 rfl (by kernel_rfl) (by kernel_rfl) (by kernel_rfl) (fun _ _ _ h => h) (by rfl) hHeld ?ay10 ?ar10
 case ay10 => (intro W hSw; obtain ⟨y0, y1⟩ := hSw; go_simp; with_reducible rfl)
 simp only [Act.put, List.setIfInBounds_toArray, List.set_cons_zero, List.set_cons_succ]
 refine held_one 11 (by kernel_rfl) rfl (fun K hK => ?_)
 go_simp
 refine (AK.out _).mono ?_
 rintro e w8 ⟨rfl, hb8⟩
 have hb8 : Below w7.heap.size w7 w8 := (Below.refl w7.heap.size w7).drew.trans hb8
 have hk8 := hb8.block q7 Hqlt.out
 have HK8 := hid hk8
 have HP8 := hid (HP7.out.below hb8)
 have HL8 := hid ((hb8.block L (lt_of_block HL7.out)).trans HL7.out)
 have HT8 := hid ((hb8.block T (lt_of_block HT7.out)).trans HT7.out)
 have hc8 : ∀ o, w8.cell? ⟨q7, o, none⟩ = w7.cell? ⟨q7, o, none⟩ := fun o => World.cell?_of_block (a := ⟨q7, o, none⟩) hk8
 have HC8 := hid hc8
 clear hb8 hk8 hc8
 try dsimp only
 refine hK.out _ _ (⟨(HC8.out 0).trans HY0.out, (HC8.out 1).trans HY1.out⟩) (fun hHeld => ?_)
 clear hK K
 try simp only [Act.put, List.setIfInBounds_toArray, List.set_cons_zero, List.set_cons_succ]
 refine held_take (v := ?bv12) 12 rfl (by kernel_rfl) (by kernel_rfl) (by kernel_rfl) (fun _ _ _ h => h) (by rfl) hHeld ?by12 ?br12
 case by12 => (intro W hSw; obtain ⟨y0, y1⟩ := hSw; go_simp; with_reducible rfl)
 simp only [Act.put, List.setIfInBounds_toArray, List.set_cons_zero, List.set_cons_succ]
 refine held_take (v := ?bv13) 13 rfl (by kernel_rfl) (by kernel_rfl) (by kernel_rfl) (fun _ _ _ h => h) (by rfl) hHeld ?by13 ?br13
 case by13 => (intro W hSw; obtain ⟨y0, y1⟩ := hSw; go_simp; with_reducible rfl)
 simp only [Act.put, List.setIfInBounds_toArray, List.set_cons_zero, List.set_cons_succ]
 refine held_take (v := ?bv14) 14 rfl (by kernel_rfl) (by kernel_rfl) (by kernel_rfl) (fun _ _ _ h => h) (by rfl) hHeld ?by14 ?br14
 case by14 => (intro W hSw; obtain ⟨y0, y1⟩ := hSw; go_simp; with_reducible rfl)
 simp only [Act.put, List.setIfInBounds_toArray, List.set_cons_zero, List.set_cons_succ]
 refine held_take (v := ?bv15) 15 rfl (by kernel_rfl) (by kernel_rfl) (by kernel_rfl) (fun _ _ _ h => h) (by rfl) hHeld ?by15 ?br15
 case by15 => (intro W hSw; obtain ⟨y0, y1⟩ := hSw; go_simp; with_reducible rfl)
 simp only [Act.put, List.setIfInBounds_toArray, List.set_cons_zero, List.set_cons_succ]
 refine held_take (v := ?bv16) 16 rfl (by kernel_rfl) (by kernel_rfl) (by kernel_rfl) (fun _ _ _ h => h) (by rfl) hHeld ?by16 ?br16
 case by16 => (intro W hSw; obtain ⟨y0, y1⟩ := hSw; go_simp; with_reducible rfl)
 simp only [Act.put, List.setIfInBounds_toArray, List.set_cons_zero, List.set_cons_succ]
 refine held_take (v := ?bv17) 17 rfl (by kernel_rfl) (by kernel_rfl) (by kernel_rfl) (fun _ _ _ h => h) (by rfl) hHeld ?by17 ?br17
 case by17 => (intro W hSw; obtain ⟨y0, y1⟩ := hSw; go_simp; with_reducible rfl)
 simp only [Act.put, List.setIfInBounds_toArray, List.set_cons_zero, List.set_cons_succ]
 refine held_take (v := ?bv18) 18 rfl (by kernel_rfl) (by kernel_rfl) (by kernel_rfl) (fun _ _ _ h => h) (by rfl) hHeld ?by18 ?br18
 case by18 => (intro W hSw; obtain ⟨y0, y1⟩ := hSw; go_simp; with_reducible rfl)
 simp only [Act.put, List.setIfInBounds_toArray, List.set_cons_zero, List.set_cons_succ]
 refine held_take (v := ?bv19) 19 rfl (by kernel_rfl) (by kernel_rfl) (by kernel_rfl) (fun _ _ _ h => h) (by rfl) hHeld ?by19 ?br19
 case by19 => (intro W hSw; obtain ⟨y0, y1⟩ := hSw; go_simp; with_reducible rfl)
 simp only [Act.put, List.setIfInBounds_toArray, List.set_cons_zero, List.set_cons_succ]
 refine held_take (v := ?bv20) 20 rfl (by kernel_rfl) (by kernel_rfl) (by kernel_rfl) (fun _ _ _ h => h) (by rfl) hHeld ?by20 ?br20
 case by20 => (intro W hSw; obtain ⟨y0, y1⟩ := hSw; go_simp; with_reducible rfl)
 simp only [Act.put, List.setIfInBounds_toArray, List.set_cons_zero, List.set_cons_succ]
 refine held_one 21 (by kernel_rfl) rfl (fun K hK => ?_)
 go_simp
 refine (wk_lget HL8.out).mono ?_
 rintro e w9 ⟨rfl, hl9, hf9⟩
 have hk9 := hf9.block q7 (HP8.out.xlt q7 (.inr rfl)) HqL.out
 have hc9 : ∀ o, w9.cell? ⟨q7, o, none⟩ = w8.cell? ⟨q7, o, none⟩ := fun o => World.cell?_of_block (a := ⟨q7, o, none⟩) hk9
 have HC9 := hid hc9
 have HP9 := hid (HP8.out.turned (.inl (.inl (.inl (.inr rfl)))) HwL.out hf9)
 have HL9 := hid hl9
 have HT9 := hid ((hf9.block T (lt_of_block HT8.out) (fun e => HLT.out e.symm)).trans HT8.out)
 clear hl9 hf9 hk9 hc9
 try dsimp only
 have z0 := (HC9.out 0).trans ((HC8.out 0).trans HY0.out)
 have z1 := (HC9.out 1).trans ((HC8.out 1).trans HY1.out)
 refine hK.out _ _ (⟨z0, z1⟩) (fun hHeld => ?_)
 clear hK K
 try simp only [Act.put, List.setIfInBounds_toArray, List.set_cons_zero, List.set_cons_succ]
 have HZ := hid (And.intro z0 z1)
 clear z0 z1
 refine held_take (v := ?cv22) 22 rfl (by kernel_rfl) (by kernel_rfl) (by kernel_rfl) (fun _ _ _ h => h) (by rfl) hHeld ?cy22 ?cr22
 case cy22 => (intro W hSw; obtain ⟨y0, y1⟩ := hSw; go_simp; with_reducible rfl)
 simp only [Act.put, List.setIfInBounds_toArray, List.set_cons_zero, List.set_cons_succ]
 refine held_take (v := ?cv23) 23 rfl (by kernel_rfl) (by kernel_rfl) (by kernel_rfl) (fun _ _ _ h => h) (by rfl) hHeld ?cy23 ?cr23
 case cy23 => (intro W hSw; obtain ⟨y0, y1⟩ := hSw; go_simp; with_reducible rfl)
 simp only [Act.put, List.setIfInBounds_toArray, List.set_cons_zero, List.set_cons_succ]
 refine held_take (v := ?cv24) 24 rfl (by kernel_rfl) (by kernel_rfl) (by kernel_rfl) (fun _ _ _ h => h) (by rfl) hHeld ?cy24 ?cr24
 case cy24 => (intro W hSw; obtain ⟨y0, y1⟩ := hSw; go_simp; with_reducible rfl)
 simp only [Act.put, List.setIfInBounds_toArray, List.set_cons_zero, List.set_cons_succ]
 refine held_take (v := ?cv25) 25 rfl (by kernel_rfl) (by kernel_rfl) (by kernel_rfl) (fun _ _ _ h => h) (by rfl) hHeld ?cy25 ?cr25
 case cy25 => (intro W hSw; obtain ⟨y0, y1⟩ := hSw; go_simp; with_reducible rfl)
 simp only [Act.put, List.setIfInBounds_toArray, List.set_cons_zero, List.set_cons_succ]
 refine held_one 26 (by kernel_rfl) rfl (fun K hK => ?_)
 go_simp
 refine (wk_has HL9.out).mono ?_
 rintro e w10 ⟨rfl, hw⟩
 subst hw
 try dsimp only
 refine hK.out _ _ (HZ.out) (fun hHeld => ?_)
 clear hK K
 try simp only [Act.put, List.setIfInBounds_toArray, List.set_cons_zero, List.set_cons_succ]
 refine held_take (v := ?dv27) 27 rfl (by kernel_rfl) (by kernel_rfl) (by kernel_rfl) (fun _ _ _ h => h) (by rfl) hHeld ?dy27 ?dr27
 case dy27 => (intro W hSw; obtain ⟨y0, y1⟩ := hSw; go_simp; with_reducible rfl)
 simp only [Act.put, List.setIfInBounds_toArray, List.set_cons_zero, List.set_cons_succ]
 refine held_take (v := ?dv28) 28 rfl (by kernel_rfl) (by kernel_rfl) (by kernel_rfl) (fun _ _ _ h => h) (by rfl) hHeld ?dy28 ?dr28
 case dy28 => (intro W hSw; obtain ⟨y0, y1⟩ := hSw; go_simp; with_reducible rfl)
 simp only [Act.put, List.setIfInBounds_toArray, List.set_cons_zero, List.set_cons_succ]
 refine held_take (v := ?dv29) 29 rfl (by kernel_rfl) (by kernel_rfl) (by kernel_rfl) (fun _ _ _ h => h) (by rfl) hHeld ?dy29 ?dr29
 case dy29 => (intro W hSw; obtain ⟨y0, y1⟩ := hSw; go_simp; with_reducible rfl)
 simp only [Act.put, List.setIfInBounds_toArray, List.set_cons_zero, List.set_cons_succ]
 refine held_take (v := ?dv30) 30 rfl (by kernel_rfl) (by kernel_rfl) (by kernel_rfl) (fun _ _ _ h => h) (by rfl) hHeld ?dy30 ?dr30
 case dy30 => (intro W hSw; obtain ⟨y0, y1⟩ := hSw; go_simp; with_reducible rfl)
 simp only [Act.put, List.setIfInBounds_toArray, List.set_cons_zero, List.set_cons_succ]
 refine held_take (v := ?dv31) 31 rfl (by kernel_rfl) (by kernel_rfl) (by kernel_rfl) (fun _ _ _ h => h) (by rfl) hHeld ?dy31 ?dr31
 case dy31 => (intro W hSw; obtain ⟨y0, y1⟩ := hSw; go_simp; with_reducible rfl)
 simp only [Act.put, List.setIfInBounds_toArray, List.set_cons_zero, List.set_cons_succ]
 refine held_one 32 (by kernel_rfl) rfl (fun K hK => ?_)
 go_simp
 refine (wk_tick2 HP9.out HL9.out (.inl (.inl (.inl (.inr rfl))))).mono ?_
 rintro e w11 ⟨pv2, rfl, hr11, hp11, hk11⟩
 obtain ⟨ao11, cap11, rfl, -⟩ := hr11.shape
 have hl1 : ([(2, sN)] : List (Int × List UInt8)).length = 1 := rfl
 rw [hl1] at hp11 ⊢
 have hk12 := hk11 q7 (.inr rfl)
 have hc11 : ∀ o, w11.cell? ⟨q7, o, none⟩ = w10.cell? ⟨q7, o, none⟩ := fun o => World.cell?_of_block (a := ⟨q7, o, none⟩) hk12
 have HT11 := hid ((hk11 T (.inl (.inl (.inr rfl)))).trans HT9.out)
 have HP11 := hid hp11
 have HZ2 := hid (And.intro ((hc11 0).trans HZ.out.1) ((hc11 1).trans HZ.out.2))
 clear hr11 hl1 hp11 hk11 hk12 hc11
 try dsimp only
 refine hK.out _ _ (HZ2.out) (fun hHeld => ?_)
 clear hK K
 try simp only [Act.put, List.setIfInBounds_toArray, List.set_cons_zero, List.set_cons_succ]
 refine held_take (v := ?ev33) 33 rfl (by kernel_rfl) (by kernel_rfl) (by kernel_rfl) (fun _ _ _ h => h) (by rfl) hHeld ?ey33 ?er33
 case ey33 => (intro W hSw; obtain ⟨y0, y1⟩ := hSw; go_simp; with_reducible rfl)
 simp only [Act.put, List.setIfInBounds_toArray, List.set_cons_zero, List.set_cons_succ]
 refine held_take (v := ?ev34) 34 rfl (by kernel_rfl) (by kernel_rfl) (by kernel_rfl) (fun _ _ _ h => h) (by rfl) hHeld ?ey34 ?er34
 case ey34 => (intro W hSw; obtain ⟨y0, y1⟩ := hSw; go_simp; with_reducible rfl)
 simp only [Act.put, List.setIfInBounds_toArray, List.set_cons_zero, List.set_cons_succ]
 refine held_take (v := ?ev35) 35 rfl (by kernel_rfl) (by kernel_rfl) (by kernel_rfl) (fun _ _ _ h => h) (by rfl) hHeld ?ey35 ?er35
 case ey35 => (intro W hSw; obtain ⟨y0, y1⟩ := hSw; go_simp; with_reducible rfl)
 simp only [Act.put, List.setIfInBounds_toArray, List.set_cons_zero, List.set_cons_succ]
 refine held_take (v := ?ev36) 36 rfl (by kernel_rfl) (by kernel_rfl) (by kernel_rfl) (fun _ _ _ h => h) (by rfl) hHeld ?ey36 ?er36
 case ey36 => (intro W hSw; obtain ⟨y0, y1⟩ := hSw; go_simp; with_reducible rfl)
 simp only [Act.put, List.setIfInBounds_toArray, List.set_cons_zero, List.set_cons_succ]
 refine held_take (v := ?ev37) 37 rfl (by kernel_rfl) (by kernel_rfl) (by kernel_rfl) (fun _ _ _ h => h) (by rfl) hHeld ?ey37 ?er37
 case ey37 => (intro W hSw; obtain ⟨y0, y1⟩ := hSw; go_simp; with_reducible rfl)
 simp only [Act.put, List.setIfInBounds_toArray, List.set_cons_zero, List.set_cons_succ]
 refine held_one 38 (by kernel_rfl) rfl (fun K hK => ?_)
 go_simp
 refine (epoch_any HT11.out).mono ?_
 rintro e w12 ⟨rfl, hw⟩
 subst hw
 try dsimp only
 refine hK.out _ _ (HZ2.out) (fun hHeld => ?_)
 clear hK K
 try simp only [Act.put, List.setIfInBounds_toArray, List.set_cons_zero, List.set_cons_succ]
 refine held_take (v := ?fv39) 39 rfl (by kernel_rfl) (by kernel_rfl) (by kernel_rfl) (fun _ _ _ h => h) (by rfl) hHeld ?fy39 ?fr39
 case fy39 => (intro W hSw; obtain ⟨y0, y1⟩ := hSw; go_simp; with_reducible rfl)
 simp only [Act.put, List.setIfInBounds_toArray, List.set_cons_zero, List.set_cons_succ]
 refine held_take (v := ?fv40) 40 rfl (by kernel_rfl) (by kernel_rfl) (by kernel_rfl) (fun _ _ _ h => h) (by rfl) hHeld ?fy40 ?fr40
 case fy40 => (intro W hSw; obtain ⟨y0, y1⟩ := hSw; go_simp; with_reducible rfl)
 simp only [Act.put, List.setIfInBounds_toArray, List.set_cons_zero, List.set_cons_succ]
 refine held_take (v := ?fv41) 41 rfl (by kernel_rfl) (by kernel_rfl) (by kernel_rfl) (fun _ _ _ h => h) (by rfl) hHeld ?fy41 ?fr41
 case fy41 => (intro W hSw; obtain ⟨y0, y1⟩ := hSw; go_simp; with_reducible rfl)
 simp only [Act.put, List.setIfInBounds_toArray, List.set_cons_zero, List.set_cons_succ]
 clear hHeld
 refine wpAnyH_done (by kernel_rfl) ?_ _
 go_wp2_with fail
 go_ret
 exact ⟨rfl, HP11.out.bel⟩
end Go.Proofs.YtjacmfdbmfemkaaGreat
