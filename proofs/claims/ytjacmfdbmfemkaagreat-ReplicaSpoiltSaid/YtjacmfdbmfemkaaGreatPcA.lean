/- Replica in memory: one that leads: Lead, Has, Get, and the document's answer. -/
import Derived.Test.YtjacmfdbmfemkaaGreatRmA
import Derived.Test.YtjacmfdbmfemkaaGreatLast
import Derived.Test.YtjacmfdbmfemkaaGreatPgO
set_option linter.unusedVariables false
set_option linter.unusedSimpArgs false
namespace Go.Proofs.YtjacmfdbmfemkaaGreat
open Go.RowKit Go.Maps
set_option maxRecDepth 20000
structure Ld where
 ep : Int
 h0 : Int
 h1 : Int
 h2 : Int
def ldCells (l : Ld) : Array Value := #[.int .u64 l.ep, .int .u64 l.h0, .int .u64 l.h1, .int .u64 l.h2]
def ldObj (l : Ld) : Obj := .cells (ldCells l) 92 (0, 0)
def ldHas (l : Ld) (n : Int) : Int := if n = 1 then l.h1 else if n = 2 then l.h2 else 0
def ldSet (l : Ld) (n k : Int) : Ld := if n = 1 then { l with h1 := max l.h1 k } else { l with h2 := max l.h2 k }
def lgetM (l : Ld) (n : Int) (s : List UInt8) : Int × Ld :=
 if n < 1 ∨ 2 < n then (2, l) else if (Rf.takeM s).2 ≠ 0 then ((Rf.takeM s).2, l) else if (Rf.takeM s).1.kind ≠ 2 then (2, l) else if l.ep < (Rf.takeM s).1.epoch then (9, l) else (0, ldSet l n (Rf.takeM s).1.k)
theorem trails_any (n : Int) (w : World) : Calls Tryz.prog 51 #[.int .i64 n] w fun e w' => e = .returned (.bool (decide (1 ≤ n) && decide (n ≤ 2))) ∧ w' = w := by
 by_cases h1 : 1 ≤ n
 ·have b1 : decide (1 ≤ n) = true := by simpa using h1
  go_enter Tryz.func51, Tryz.ntmps51
  go_wp2_with fail
  go_ret
  refine ⟨?_, rfl⟩
  simp [h1]
 ·have b1 : decide (1 ≤ n) = false := by simpa using h1
  go_enter Tryz.func51, Tryz.ntmps51
  go_wp2_with fail
  go_ret
  refine ⟨?_, rfl⟩
  simp [h1]
theorem lead_any (ep : Int) (w : World) : Calls Tryz.prog 6 #[.int .u64 ep] w fun e w' => e = .returned (.pointer (some ⟨w.heap.size, 0, none⟩)) ∧ w' = w.alloc (ldObj ⟨ep, 0, 0, 0⟩) := by
 go_enter Tryz.func6, Tryz.ntmps6
 go_wp2_with fail
 go_ret
 exact ⟨rfl, rfl⟩
section
variable {W : World} {b : Nat} {l : Ld}
theorem ld_cells {T : TypeId} (h : W.heap[b]? = some (.cells (ldCells l) T (0, 0))) : W.cell? ⟨b, 0, none⟩ = some (.int .u64 l.ep) ∧ W.cell? ⟨b, 1, none⟩ = some (.int .u64 l.h0) ∧ W.cell? ⟨b, 2, none⟩ = some (.int .u64 l.h1) ∧ W.cell? ⟨b, 3, none⟩ = some (.int .u64 l.h2) ∧ ∀ o, W.frozen? ⟨b, o, none⟩ = false := by
 refine ⟨?_, ?_, ?_, ?_, fun o => by simp [World.frozen?, h]⟩ <;> simp [World.cell?, h, ldCells]
theorem lhas_any (hb : W.heap[b]? = some (ldObj l)) (n : Int) : Calls Tryz.prog 19 #[.pointer (some ⟨b, 0, none⟩), .int .i64 n] W fun e w' => e = .returned (.int .u64 (ldHas l n)) ∧ w' = W := by
 obtain ⟨x0, x1, x2, x3, -⟩ := ld_cells hb
 have TR := fun w => trails_any n w
 unfold ldHas
 by_cases h1 : n = 1
 ·subst h1
  have TR := hid TR
  go_enter Tryz.func19, Tryz.ntmps19
  go_wp2_with (first
   | (go_at_call 51; refine (TR.out _).mono ?_; rintro e w1 ⟨rfl, hw⟩; obtain rfl := hw.symm)
   | go_in)
  go_ret
  exact ⟨rfl, rfl⟩
 by_cases h2 : n = 2
 ·subst h2
  have TR := hid TR
  go_enter Tryz.func19, Tryz.ntmps19
  go_wp2_with (first
   | (go_at_call 51; refine (TR.out _).mono ?_; rintro e w1 ⟨rfl, hw⟩; obtain rfl := hw.symm)
   | go_in)
  go_ret
  exact ⟨rfl, rfl⟩
 rw [if_neg h1, if_neg h2]
 have e : (decide (1 ≤ n) && decide (n ≤ 2)) = false := by
  by_cases h3 : 1 ≤ n
  ·have : ¬ n ≤ 2 := by omega
   simp [this]
  ·simp [h3]
 rw [e] at TR
 have TR := hid TR
 clear h1 h2 e
 go_enter Tryz.func19, Tryz.ntmps19
 go_wp2_with (first
  | (go_at_call 51; refine (TR.out _).mono ?_; rintro e w1 ⟨rfl, hw⟩; obtain rfl := hw.symm)
  | go_in)
 go_ret
 exact ⟨rfl, rfl⟩
set_option maxHeartbeats 4000000 in
set_option maxRecDepth 20000 in
theorem lget_any (hb : W.heap[b]? = some (ldObj l)) (n : Int) (s : List UInt8) (hs : s.length ≤ 1099511627776) : Calls Tryz.prog 17 #[.pointer (some ⟨b, 0, none⟩), .int .i64 n, .string (bs s)] W fun e w' => e = .returned (.int .i64 (lgetM l n s).1) ∧ w'.heap[b]? = some (ldObj (lgetM l n s).2) ∧ Frm (fun k => k = b) W w' := by
 have TR := fun w => trails_any n w
 unfold lgetM
 by_cases h1 : n < 1 ∨ 2 < n
 ·rw [if_pos h1]
  have e : (decide (1 ≤ n) && decide (n ≤ 2)) = false := by
   by_cases h3 : 1 ≤ n
   ·have : ¬ n ≤ 2 := by omega
    simp [this]
   ·simp [h3]
  rw [e] at TR
  have TR := hid TR
  have HB := hid hb
  clear h1 e hb
  go_enter Tryz.func17, Tryz.ntmps17
  go_wp2_with (first
   | (go_at_call 51; refine (TR.out _).mono ?_; rintro e w1 ⟨rfl, hw⟩; obtain rfl := hw.symm)
   | go_in)
  go_ret
  exact ⟨rfl, HB.out, Frm.refl _ _⟩
 rw [if_neg h1]
 have e : (decide (1 ≤ n) && decide (n ≤ 2)) = true := by
  have h2 : 1 ≤ n := by omega
  have h3 : n ≤ 2 := by omega
  simp [h2, h3]
 rw [e] at TR
 have RT := Rf.take_any s W hs
 obtain ⟨⟨⟨kd, ep, kk, fl, pg, im⟩, e0⟩, hM⟩ : ∃ R, R = Rf.takeM s := ⟨_, rfl⟩
 rw [← hM] at RT ⊢
 unfold shipV at RT
 dsimp only at RT ⊢
 obtain ⟨R, hR⟩ : ∃ R : Int × Ld, R = (if e0 ≠ 0 then (e0, l) else if kd ≠ 2 then (2, l) else if l.ep < ep then (9, l) else (0, ldSet l n kk)) := ⟨_, rfl⟩
 rw [← hR]
 have TR := hid TR
 have RT := hid RT
 have HB := hid hb
 have H1 := hid h1
 clear h1 e hb hM
 go_enter Tryz.func17, Tryz.ntmps17
 go_upto_region 6 with (first
  | (go_at_call 51; refine (TR.out _).mono ?_; rintro e w1 ⟨rfl, hw⟩; obtain rfl := hw.symm)
  | (go_at_call 49; refine (RT.out).mono ?_; rintro e w2 ⟨v, rfl, hv, -, hb2⟩; obtain ⟨ao, cap, rfl⟩ := imgs_shape hv; have HB2 := hid hb2; clear hv hb2)
  | go_in)
 have hb3 := HB2.out.trans ((Below.refl w2.heap.size w2).alloc (Nat.le_refl _) (.cells #[.int .u8 kd, .int .u64 ep, .int .u64 kk, .bool fl, .int .i64 pg, .slice ao im.length cap] 25) |>.mono HB2.out.size)
 have hz3 := heap_alloc_new w2 (.cells #[.int .u8 kd, .int .u64 ep, .int .u64 kk, .bool fl, .int .i64 pg, .slice ao im.length cap] 25)
 obtain ⟨M, hM⟩ : ∃ M, M = w2.heap.size := ⟨_, rfl⟩
 obtain ⟨w3, hw3⟩ : ∃ w3, w3 = w2.alloc (.cells #[.int .u8 kd, .int .u64 ep, .int .u64 kk, .bool fl, .int .i64 pg, .slice ao im.length cap] 25) := ⟨_, rfl⟩
 rw [← hw3] at hb3 hz3 ⊢
 rw [← hM] at hz3 ⊢
 obtain ⟨m0, m1, m2, -, -, -, -⟩ := cells6 hz3
 have hb4 : w3.heap[b]? = some (ldObj l) := (hb3.block b (lt_of_block HB.out)).trans HB.out
 obtain ⟨x0, x1, x2, x3, xf⟩ := ld_cells hb4
 have hMb : M ≠ b := by
  have h1 := lt_of_block HB.out
  have h2 := HB2.out.size
  omega
 have HMb := hid hMb
 have HB3 := hid hb3
 have HB4 := hid hb4
 clear hb3 hz3 hb4 hw3 hM hMb
 by_cases he : e0 = 0
 rotate_left
 ·rw [if_pos he] at hR
  have HR := hid hR
  have c1 : (e0 != 0) = true := by simp [he]
  clear he hR
  go_wp2_with fail
  go_ret
  rw [HR.out]
  exact ⟨rfl, HB4.out, Frm.of_below HB3.out⟩
 rw [if_neg (by simp [he])] at hR
 have c1 : (e0 != 0) = false := by simp [he]
 clear he
 by_cases hk : kd = 2
 rotate_left
 ·rw [if_pos hk] at hR
  have HR := hid hR
  have c2 : (kd != 2) = true := by simp [hk]
  clear hk hR
  go_wp2_with fail
  go_ret
  rw [HR.out]
  exact ⟨rfl, HB4.out, Frm.of_below HB3.out⟩
 rw [if_neg (by simp [hk])] at hR
 have c2 : (kd != 2) = false := by simp [hk]
 clear hk
 by_cases hep : l.ep < ep
 ·rw [if_pos hep] at hR
  have HR := hid hR
  clear hR
  go_upto_region 10 with fail
  go_quiet (fail)
  go_wp2_with fail
  go_ret
  rw [HR.out]
  exact ⟨rfl, HB4.out, (Frm.of_below HB3.out).drewN _⟩
 rw [if_neg hep] at hR
 have HR := hid hR
 clear hR
 go_upto_region 10 with fail
 go_quiet (fail)
 go_upto_region 12 with fail
 have hn : n = 1 ∨ n = 2 := by have := H1.out; omega
 rcases hn with rfl | rfl
 ·refine wp_region_last 14 (fun W2 => W2.cell? ⟨b, 2, none⟩ = some (.int .u64 l.h1) ∧ W2.cell? ⟨M, 2, none⟩ = some (.int .u64 kk)) (by kernel_rfl) ⟨x2, m2⟩ (fun hHeld => ?_)
  refine last_take (v := ?av0) 0 rfl (by kernel_rfl) (by kernel_rfl) (by kernel_rfl) (by kernel_rfl) (fun _ _ _ h => h) (by rfl) hHeld ?ay0 ?ar0
  case ay0 => (intro W hSw; obtain ⟨y0, y1⟩ := hSw; go_simp; with_reducible rfl)
  simp only [Act.put, List.setIfInBounds_toArray, List.set_cons_zero, List.set_cons_succ]
  refine last_take (v := ?av1) 1 rfl (by kernel_rfl) (by kernel_rfl) (by kernel_rfl) (by kernel_rfl) (fun _ _ _ h => h) (by rfl) hHeld ?ay1 ?ar1
  case ay1 => (intro W hSw; obtain ⟨y0, y1⟩ := hSw; go_simp; with_reducible rfl)
  simp only [Act.put, List.setIfInBounds_toArray, List.set_cons_zero, List.set_cons_succ]
  refine last_take (v := ?av2) 2 rfl (by kernel_rfl) (by kernel_rfl) (by kernel_rfl) (by kernel_rfl) (fun _ _ _ h => h) (by rfl) hHeld ?ay2 ?ar2
  case ay2 => (intro W hSw; obtain ⟨y0, y1⟩ := hSw; go_simp; with_reducible rfl)
  simp only [Act.put, List.setIfInBounds_toArray, List.set_cons_zero, List.set_cons_succ]
  refine last_take (v := ?av3) 3 rfl (by kernel_rfl) (by kernel_rfl) (by kernel_rfl) (by kernel_rfl) (fun _ _ _ h => h) (by rfl) hHeld ?ay3 ?ar3
  case ay3 => (intro W hSw; obtain ⟨y0, y1⟩ := hSw; go_simp; with_reducible rfl)
  simp only [Act.put, List.setIfInBounds_toArray, List.set_cons_zero, List.set_cons_succ]
  refine last_take (v := ?av4) 4 rfl (by kernel_rfl) (by kernel_rfl) (by kernel_rfl) (by kernel_rfl) (fun _ _ _ h => h) (by rfl) hHeld ?ay4 ?ar4
  case ay4 => (intro W hSw; obtain ⟨y0, y1⟩ := hSw; go_simp; with_reducible rfl)
  simp only [Act.put, List.setIfInBounds_toArray, List.set_cons_zero, List.set_cons_succ]
  refine last_take (v := ?av5) 5 rfl (by kernel_rfl) (by kernel_rfl) (by kernel_rfl) (by kernel_rfl) (fun _ _ _ h => h) (by rfl) hHeld ?ay5 ?ar5
  case ay5 => (intro W hSw; obtain ⟨y0, y1⟩ := hSw; go_simp; with_reducible rfl)
  simp only [Act.put, List.setIfInBounds_toArray, List.set_cons_zero, List.set_cons_succ]
  refine last_take (v := ?av6) 6 rfl (by kernel_rfl) (by kernel_rfl) (by kernel_rfl) (by kernel_rfl) (fun _ _ _ h => h) (by rfl) hHeld ?ay6 ?ar6
  case ay6 => (intro W hSw; obtain ⟨y0, y1⟩ := hSw; go_simp; with_reducible rfl)
  simp only [Act.put, List.setIfInBounds_toArray, List.set_cons_zero, List.set_cons_succ]
  refine last_take (v := ?av7) 7 rfl (by kernel_rfl) (by kernel_rfl) (by kernel_rfl) (by kernel_rfl) (fun _ _ _ h => h) (by rfl) hHeld ?ay7 ?ar7
  case ay7 => (intro W hSw; obtain ⟨y0, y1⟩ := hSw; go_simp; with_reducible rfl)
  simp only [Act.put, List.setIfInBounds_toArray, List.set_cons_zero, List.set_cons_succ]
  refine last_take (v := ?av8) 8 rfl (by kernel_rfl) (by kernel_rfl) (by kernel_rfl) (by kernel_rfl) (fun _ _ _ h => h) (by rfl) hHeld ?ay8 ?ar8
  case ay8 => (intro W hSw; obtain ⟨y0, y1⟩ := hSw; go_simp; with_reducible rfl)
  simp only [Act.put, List.setIfInBounds_toArray, List.set_cons_zero, List.set_cons_succ]
  refine last_take (v := ?av9) 9 rfl (by kernel_rfl) (by kernel_rfl) (by kernel_rfl) (by kernel_rfl) (fun _ _ _ h => h) (by rfl) hHeld ?ay9 ?ar9
  case ay9 => (intro W hSw; obtain ⟨y0, y1⟩ := hSw; go_simp; with_reducible rfl)
  simp only [Act.put, List.setIfInBounds_toArray, List.set_cons_zero, List.set_cons_succ]
  refine last_take (v := ?av10) 10 rfl (by kernel_rfl) (by kernel_rfl) (by kernel_rfl) (by kernel_rfl) (fun _ _ _ h => h) (by rfl) hHeld ?ay10 ?ar10
  case ay10 => (intro W hSw; obtain ⟨y0, y1⟩ := hSw; go_simp; with_reducible rfl)
  simp only [Act.put, List.setIfInBounds_toArray, List.set_cons_zero, List.set_cons_succ]
  refine last_one 11 (by kernel_rfl) rfl (fun K hK => ?_)
  go_simp
  refine hK.out _ _ (fun _ => ⟨x2, m2⟩) (fun hHeld => ?_)
  have hHeld := hHeld (by decide)
  clear hK K
  try simp only [Act.put, List.setIfInBounds_toArray, List.set_cons_zero, List.set_cons_succ]
  refine last_one 12 (by kernel_rfl) rfl (fun K hK => ?_)
  go_simp
  refine hK.out _ _ (fun _ => ⟨x2, m2⟩) (fun hHeld => ?_)
  have hHeld := hHeld (by decide)
  clear hK K
  try simp only [Act.put, List.setIfInBounds_toArray, List.set_cons_zero, List.set_cons_succ]
  refine last_one 13 (by kernel_rfl) rfl (fun K hK => ?_)
  go_simp
  refine hK.out _ _ (fun _ => ⟨x2, m2⟩) (fun hHeld => ?_)
  have hHeld := hHeld (by decide)
  clear hK K
  try simp only [Act.put, List.setIfInBounds_toArray, List.set_cons_zero, List.set_cons_succ]
  refine last_one 14 (by kernel_rfl) rfl (fun K hK => ?_)
  go_simp
  refine hK.out _ _ (fun e => absurd rfl e) (fun _ => ?_)
  clear hK K hHeld
  try simp only [Act.put, List.setIfInBounds_toArray, List.set_cons_zero, List.set_cons_succ]
  refine wpAnyL_done (by kernel_rfl) ?_ _
  go_wp2_with fail
  go_ret
  rw [HR.out]
  refine ⟨rfl, ?_, ((Frm.of_below (S := fun k => k = b) HB3.out).drewN _).setCell (p := ⟨b, 2, none⟩) (.inl rfl) _⟩
  exact (heap_setCell_same (b := b) (show (w3.drewN nq).drew.heap[b]? = some (ldObj l) from HB4.out) 2 _).trans rfl
 ·refine wp_region_last 14 (fun W2 => W2.cell? ⟨b, 3, none⟩ = some (.int .u64 l.h2) ∧ W2.cell? ⟨M, 2, none⟩ = some (.int .u64 kk)) (by kernel_rfl) ⟨x3, m2⟩ (fun hHeld => ?_)
  refine last_take (v := ?bv0) 0 rfl (by kernel_rfl) (by kernel_rfl) (by kernel_rfl) (by kernel_rfl) (fun _ _ _ h => h) (by rfl) hHeld ?by0 ?br0
  case by0 => (intro W hSw; obtain ⟨y0, y1⟩ := hSw; go_simp; with_reducible rfl)
  simp only [Act.put, List.setIfInBounds_toArray, List.set_cons_zero, List.set_cons_succ]
  refine last_take (v := ?bv1) 1 rfl (by kernel_rfl) (by kernel_rfl) (by kernel_rfl) (by kernel_rfl) (fun _ _ _ h => h) (by rfl) hHeld ?by1 ?br1
  case by1 => (intro W hSw; obtain ⟨y0, y1⟩ := hSw; go_simp; with_reducible rfl)
  simp only [Act.put, List.setIfInBounds_toArray, List.set_cons_zero, List.set_cons_succ]
  refine last_take (v := ?bv2) 2 rfl (by kernel_rfl) (by kernel_rfl) (by kernel_rfl) (by kernel_rfl) (fun _ _ _ h => h) (by rfl) hHeld ?by2 ?br2
  case by2 => (intro W hSw; obtain ⟨y0, y1⟩ := hSw; go_simp; with_reducible rfl)
  simp only [Act.put, List.setIfInBounds_toArray, List.set_cons_zero, List.set_cons_succ]
  refine last_take (v := ?bv3) 3 rfl (by kernel_rfl) (by kernel_rfl) (by kernel_rfl) (by kernel_rfl) (fun _ _ _ h => h) (by rfl) hHeld ?by3 ?br3
  case by3 => (intro W hSw; obtain ⟨y0, y1⟩ := hSw; go_simp; with_reducible rfl)
  simp only [Act.put, List.setIfInBounds_toArray, List.set_cons_zero, List.set_cons_succ]
  refine last_take (v := ?bv4) 4 rfl (by kernel_rfl) (by kernel_rfl) (by kernel_rfl) (by kernel_rfl) (fun _ _ _ h => h) (by rfl) hHeld ?by4 ?br4
  case by4 => (intro W hSw; obtain ⟨y0, y1⟩ := hSw; go_simp; with_reducible rfl)
  simp only [Act.put, List.setIfInBounds_toArray, List.set_cons_zero, List.set_cons_succ]
  refine last_take (v := ?bv5) 5 rfl (by kernel_rfl) (by kernel_rfl) (by kernel_rfl) (by kernel_rfl) (fun _ _ _ h => h) (by rfl) hHeld ?by5 ?br5
  case by5 => (intro W hSw; obtain ⟨y0, y1⟩ := hSw; go_simp; with_reducible rfl)
  simp only [Act.put, List.setIfInBounds_toArray, List.set_cons_zero, List.set_cons_succ]
  refine last_take (v := ?bv6) 6 rfl (by kernel_rfl) (by kernel_rfl) (by kernel_rfl) (by kernel_rfl) (fun _ _ _ h => h) (by rfl) hHeld ?by6 ?br6
  case by6 => (intro W hSw; obtain ⟨y0, y1⟩ := hSw; go_simp; with_reducible rfl)
  simp only [Act.put, List.setIfInBounds_toArray, List.set_cons_zero, List.set_cons_succ]
  refine last_take (v := ?bv7) 7 rfl (by kernel_rfl) (by kernel_rfl) (by kernel_rfl) (by kernel_rfl) (fun _ _ _ h => h) (by rfl) hHeld ?by7 ?br7
  case by7 => (intro W hSw; obtain ⟨y0, y1⟩ := hSw; go_simp; with_reducible rfl)
  simp only [Act.put, List.setIfInBounds_toArray, List.set_cons_zero, List.set_cons_succ]
  refine last_take (v := ?bv8) 8 rfl (by kernel_rfl) (by kernel_rfl) (by kernel_rfl) (by kernel_rfl) (fun _ _ _ h => h) (by rfl) hHeld ?by8 ?br8
  case by8 => (intro W hSw; obtain ⟨y0, y1⟩ := hSw; go_simp; with_reducible rfl)
  simp only [Act.put, List.setIfInBounds_toArray, List.set_cons_zero, List.set_cons_succ]
  refine last_take (v := ?bv9) 9 rfl (by kernel_rfl) (by kernel_rfl) (by kernel_rfl) (by kernel_rfl) (fun _ _ _ h => h) (by rfl) hHeld ?by9 ?br9
  case by9 => (intro W hSw; obtain ⟨y0, y1⟩ := hSw; go_simp; with_reducible rfl)
  simp only [Act.put, List.setIfInBounds_toArray, List.set_cons_zero, List.set_cons_succ]
  refine last_take (v := ?bv10) 10 rfl (by kernel_rfl) (by kernel_rfl) (by kernel_rfl) (by kernel_rfl) (fun _ _ _ h => h) (by rfl) hHeld ?by10 ?br10
  case by10 => (intro W hSw; obtain ⟨y0, y1⟩ := hSw; go_simp; with_reducible rfl)
  simp only [Act.put, List.setIfInBounds_toArray, List.set_cons_zero, List.set_cons_succ]
  refine last_one 11 (by kernel_rfl) rfl (fun K hK => ?_)
  go_simp
  refine hK.out _ _ (fun _ => ⟨x3, m2⟩) (fun hHeld => ?_)
  have hHeld := hHeld (by decide)
  clear hK K
  try simp only [Act.put, List.setIfInBounds_toArray, List.set_cons_zero, List.set_cons_succ]
  refine last_one 12 (by kernel_rfl) rfl (fun K hK => ?_)
  go_simp
  refine hK.out _ _ (fun _ => ⟨x3, m2⟩) (fun hHeld => ?_)
  have hHeld := hHeld (by decide)
  clear hK K
  try simp only [Act.put, List.setIfInBounds_toArray, List.set_cons_zero, List.set_cons_succ]
  refine last_one 13 (by kernel_rfl) rfl (fun K hK => ?_)
  go_simp
  refine hK.out _ _ (fun _ => ⟨x3, m2⟩) (fun hHeld => ?_)
  have hHeld := hHeld (by decide)
  clear hK K
  try simp only [Act.put, List.setIfInBounds_toArray, List.set_cons_zero, List.set_cons_succ]
  refine last_one 14 (by kernel_rfl) rfl (fun K hK => ?_)
  go_simp
  refine hK.out _ _ (fun e => absurd rfl e) (fun _ => ?_)
  clear hK K hHeld
  try simp only [Act.put, List.setIfInBounds_toArray, List.set_cons_zero, List.set_cons_succ]
  refine wpAnyL_done (by kernel_rfl) ?_ _
  go_wp2_with fail
  go_ret
  rw [HR.out]
  refine ⟨rfl, ?_, ((Frm.of_below (S := fun k => k = b) HB3.out).drewN _).setCell (p := ⟨b, 3, none⟩) (.inl rfl) _⟩
  exact (heap_setCell_same (b := b) (show (w3.drewN nq).drew.heap[b]? = some (ldObj l) from HB4.out) 3 _).trans rfl
end
end Go.Proofs.YtjacmfdbmfemkaaGreat
/- For laws over pagers: rows of strings; plain laws of appends and commits on a calm disk; pages that can be read. -/
namespace Go.Proofs.YtjacmfdbmfemkaaGreat
open Go.RowKit Go.Maps
set_option maxRecDepth 20000
def in64 (n : Int) : Prop := -9223372036854775808 ≤ n ∧ n ≤ 9223372036854775807
def strV (l : List (List UInt8)) : List Value := l.map fun s => .string (bs s)
theorem strV_append (a b : List (List UInt8)) : strV (a ++ b) = strV a ++ strV b := by simp [strV]
abbrev StrRow (w : World) (base : Nat) (v : Value) (l : List (List UInt8)) : Prop := w.ownsRow base 9 1 v l.length (strV l)
def p0 : Pg := ⟨none, [], 0⟩
section
variable {w W W' : World} {pb l b : Nat} {p p' : Pg} {g g' : Lg} {d d' : Dsk} {X X' : Nat → Prop}
theorem PgX.to (h : PgX w W pb l b p g d X) (hx : ∀ k, X' k → X k) : PgX w W pb l b p g d X' := px_add h (Below.refl _ _) (fun k hk => .inl (hx k hk)) (fun k hk => h.xlt k (hx k hk))
theorem ppages_range (h : PgX w W pb l b p g d X) : 0 ≤ ppagesM p g ∧ ppagesM p g ≤ 256 := by
 have h1 := h.ok
 have h2 := h.oks.1.pages
 unfold ppagesM
 cases hp : p.now with
 | none => exact h2
 | some t => exact (h1.now t hp).pages
theorem px_fresh (h : MkD w W b newM) : Calls Tryz.prog 40 #[.pointer (some ⟨b, 0, none⟩)] W fun e w' => ∃ pb l, e = .returned (.tuple #[.pointer (some ⟨pb, 0, none⟩), .int .i64 0]) ∧ PgX w w' pb l b p0 exG0 newM (fun k => k < w.heap.size) := px_open h ex_open
theorem StrRow.cell {base g cap : Nat} {l : List (List UInt8)} (h : StrRow W base (.slice (some ⟨g, 0, none⟩) l.length cap) l) {i : Nat} (hi : i < l.length) : W.cell? ⟨g, i, none⟩ = some (.string (bs l[i])) := by
 have := World.ownsRow.cellAt h i (by omega)
 rw [this]
 simp [strV, hi]
end
section
variable {p : Pg} {g : Lg} {d : Dsk}
end
end Go.Proofs.YtjacmfdbmfemkaaGreat
