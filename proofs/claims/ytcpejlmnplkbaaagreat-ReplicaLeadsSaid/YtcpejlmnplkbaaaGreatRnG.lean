/- Replica: the document's answer for one that leads: Get. -/
import Derived.Test.YtcpejlmnplkbaaaGreatRnF
set_option linter.unusedVariables false
set_option linter.unusedSimpArgs false
namespace Go.Proofs.YtcpejlmnplkbaaaGreat
open Go.RowKit Go.Maps
set_option maxRecDepth 20000
section
variable {W : World} {b : Nat} {l : Ld}
set_option maxHeartbeats 4000000 in
set_option maxRecDepth 20000 in
theorem rlget_any (hb : W.heap[b]? = some (rldObj l)) (n : Int) (s : List UInt8) (hs : s.length ≤ 1099511627776) : Calls Tryz.prog 10 #[.pointer (some ⟨b, 0, none⟩), .int .i64 n, .string (bs s)] W fun e w' => e = .returned (.int .i64 (lgetM l n s).1) ∧ w'.heap[b]? = some (rldObj (lgetM l n s).2) ∧ Frm (fun k => k = b) W w' := by
 unfold lgetM
 by_cases h1 : n < 1 ∨ 2 < n
 ·rw [if_pos h1]
  have HB := hid hb
  clear hb
  rcases h1 with h1 | h1
  case' inl => have b1 : decide (n < 1) = true := by simpa using h1
  case' inr =>
   have b1 : decide (n < 1) = false := by simp; omega
   have b2 : decide (2 < n) = true := by simpa using h1
  all_goals
   clear h1
   go_enter Tryz.func10, Tryz.ntmps10
   go_wp2_with fail
   go_ret
   exact ⟨rfl, HB.out, Frm.refl _ _⟩
 rw [if_neg h1]
 have b1 : decide (n < 1) = false := by simp; omega
 have b2 : decide (2 < n) = false := by simp; omega
 have RT := Rf.refTake_any s W hs
 obtain ⟨⟨⟨kd, ep, kk, fl, pg, im⟩, e0⟩, hM⟩ : ∃ R, R = Rf.takeM s := ⟨_, rfl⟩
 rw [← hM] at RT ⊢
 unfold shipV at RT
 dsimp only at RT ⊢
 obtain ⟨R, hR⟩ : ∃ R : Int × Ld, R = (if e0 ≠ 0 then (e0, l) else if kd ≠ 2 then (2, l) else if l.ep < ep then (9, l) else (0, ldSet l n kk)) := ⟨_, rfl⟩
 rw [← hR]
 have RT := hid RT
 have HB := hid hb
 have H1 := hid h1
 clear h1 hb hM
 go_enter Tryz.func10, Tryz.ntmps10
 go_upto_region 4 with (first
  | (go_at_call 34; refine (RT.out).mono ?_; rintro e w2 ⟨v, rfl, hv, hb2⟩; obtain ⟨ao, cap, rfl⟩ := imgs_shape hv; have HB2 := hid hb2; clear hv hb2)
  | go_in)
 have hb3 := HB2.out.trans ((Below.refl w2.heap.size w2).alloc (Nat.le_refl _) (.cells #[.int .u8 kd, .int .u64 ep, .int .u64 kk, .bool fl, .int .i64 pg, .slice ao im.length cap] 52) |>.mono HB2.out.size)
 have hz3 := heap_alloc_new w2 (.cells #[.int .u8 kd, .int .u64 ep, .int .u64 kk, .bool fl, .int .i64 pg, .slice ao im.length cap] 52)
 obtain ⟨M, hM⟩ : ∃ M, M = w2.heap.size := ⟨_, rfl⟩
 obtain ⟨w3, hw3⟩ : ∃ w3, w3 = w2.alloc (.cells #[.int .u8 kd, .int .u64 ep, .int .u64 kk, .bool fl, .int .i64 pg, .slice ao im.length cap] 52) := ⟨_, rfl⟩
 rw [← hw3] at hb3 hz3 ⊢
 rw [← hM] at hz3 ⊢
 obtain ⟨m0, m1, m2, -, -, -, -⟩ := cells6 hz3
 have hb4 : w3.heap[b]? = some (rldObj l) := (hb3.block b (lt_of_block HB.out)).trans HB.out
 obtain ⟨x0, x1, x2, x3, xf⟩ := ld_cells hb4
 have hMb : M ≠ b := by
  have h1 := lt_of_block HB.out
  have h2 := HB2.out.size
  omega
 have HMb := hid hMb
 have HB3 := hid hb3
 have HB4 := hid hb4
 clear hb3 hz3 hb4 hw3 hM hMb
 by_cases he : e0 = 0
 rotate_left
 ·rw [if_pos he] at hR
  have HR := hid hR
  have c1 : (e0 != 0) = true := by simp [he]
  clear he hR
  go_wp2_with fail
  go_ret
  rw [HR.out]
  exact ⟨rfl, HB4.out, Frm.of_below HB3.out⟩
 rw [if_neg (by simp [he])] at hR
 have c1 : (e0 != 0) = false := by simp [he]
 clear he
 by_cases hk : kd = 2
 rotate_left
 ·rw [if_pos hk] at hR
  have HR := hid hR
  have c2 : (kd != 2) = true := by simp [hk]
  clear hk hR
  go_wp2_with fail
  go_ret
  rw [HR.out]
  exact ⟨rfl, HB4.out, Frm.of_below HB3.out⟩
 rw [if_neg (by simp [hk])] at hR
 have c2 : (kd != 2) = false := by simp [hk]
 clear hk
 by_cases hep : l.ep < ep
 ·rw [if_pos hep] at hR
  have HR := hid hR
  clear hR
  go_upto_region 8 with fail
  go_quiet (fail)
  go_wp2_with fail
  go_ret
  rw [HR.out]
  exact ⟨rfl, HB4.out, (Frm.of_below HB3.out).drewN _⟩
 rw [if_neg hep] at hR
 have HR := hid hR
 clear hR
 go_upto_region 8 with fail
 go_quiet (fail)
 have hn : n = 1 ∨ n = 2 := by have := H1.out; omega
 go_upto_region 10 with fail
 rcases hn with rfl | rfl
 ·by_cases hkk : l.h1 < kk
  ·go_quiet (fail)
   go_upto_region 11 with fail
   refine wp_region_last 7 (fun W2 => W2.cell? ⟨M, 2, none⟩ = some (.int .u64 kk)) (by kernel_rfl) m2 (fun hHeld => ?_)
   refine last_take (v := ?av0) 0 rfl (by kernel_rfl) (by kernel_rfl) (by kernel_rfl) (by kernel_rfl) (fun _ _ _ h => h) (by rfl) hHeld ?ay0 ?ar0
   case ay0 => (intro W hSw; go_simp; with_reducible rfl)
   simp only [Act.put, List.setIfInBounds_toArray, List.set_cons_zero, List.set_cons_succ]
   refine last_take (v := ?av1) 1 rfl (by kernel_rfl) (by kernel_rfl) (by kernel_rfl) (by kernel_rfl) (fun _ _ _ h => h) (by rfl) hHeld ?ay1 ?ar1
   case ay1 => (intro W hSw; go_simp; with_reducible rfl)
   simp only [Act.put, List.setIfInBounds_toArray, List.set_cons_zero, List.set_cons_succ]
   refine last_take (v := ?av2) 2 rfl (by kernel_rfl) (by kernel_rfl) (by kernel_rfl) (by kernel_rfl) (fun _ _ _ h => h) (by rfl) hHeld ?ay2 ?ar2
   case ay2 => (intro W hSw; go_simp; with_reducible rfl)
   simp only [Act.put, List.setIfInBounds_toArray, List.set_cons_zero, List.set_cons_succ]
   refine last_take (v := ?av3) 3 rfl (by kernel_rfl) (by kernel_rfl) (by kernel_rfl) (by kernel_rfl) (fun _ _ _ h => h) (by rfl) hHeld ?ay3 ?ar3
   case ay3 => (intro W hSw; go_simp; with_reducible rfl)
   simp only [Act.put, List.setIfInBounds_toArray, List.set_cons_zero, List.set_cons_succ]
   refine last_one 4 (by kernel_rfl) rfl (fun K hK => ?_)
   go_simp
   refine hK.out _ _ (fun _ => m2) (fun hHeld => ?_)
   have hHeld := hHeld (by decide)
   clear hK K
   try simp only [Act.put, List.setIfInBounds_toArray, List.set_cons_zero, List.set_cons_succ]
   refine last_one 5 (by kernel_rfl) rfl (fun K hK => ?_)
   go_simp
   refine hK.out _ _ (fun _ => m2) (fun hHeld => ?_)
   have hHeld := hHeld (by decide)
   clear hK K
   try simp only [Act.put, List.setIfInBounds_toArray, List.set_cons_zero, List.set_cons_succ]
   refine last_one 6 (by kernel_rfl) rfl (fun K hK => ?_)
   go_simp
   refine hK.out _ _ (fun _ => m2) (fun hHeld => ?_)
   have hHeld := hHeld (by decide)
   clear hK K
   try simp only [Act.put, List.setIfInBounds_toArray, List.set_cons_zero, List.set_cons_succ]
   refine last_one 7 (by kernel_rfl) rfl (fun K hK => ?_)
   go_simp
   refine hK.out _ _ (fun e => absurd rfl e) (fun _ => ?_)
   clear hK K hHeld
   try simp only [Act.put, List.setIfInBounds_toArray, List.set_cons_zero, List.set_cons_succ]
   refine wpAnyL_done (by kernel_rfl) ?_ _
   go_wp2_with fail
   go_ret
   rw [HR.out]
   have hmx : max l.h1 kk = kk := by omega
   refine ⟨rfl, ?_, Frm.setCell (S := fun k => k = b) (p := ⟨b, 2, none⟩) ((Frm.of_below HB3.out).drewN _) (.inl rfl) _⟩
   unfold ldSet
   simp only [hmx]
   exact (heap_setCell_same (b := b) (show (w3.drewN _).heap[b]? = some (rldObj l) from HB4.out) 2 _).trans rfl
  ·go_quiet (fail)
   go_wp2_with fail
   go_ret
   rw [HR.out]
   have hmx : max l.h1 kk = l.h1 := by omega
   refine ⟨rfl, ?_, (Frm.of_below (S := fun k => k = b) HB3.out).drewN _⟩
   unfold ldSet
   simp only [hmx]
   exact HB4.out
 ·by_cases hkk : l.h2 < kk
  ·go_quiet (fail)
   go_upto_region 11 with fail
   refine wp_region_last 7 (fun W2 => W2.cell? ⟨M, 2, none⟩ = some (.int .u64 kk)) (by kernel_rfl) m2 (fun hHeld => ?_)
   refine last_take (v := ?bv0) 0 rfl (by kernel_rfl) (by kernel_rfl) (by kernel_rfl) (by kernel_rfl) (fun _ _ _ h => h) (by rfl) hHeld ?by0 ?br0
   case by0 => (intro W hSw; go_simp; with_reducible rfl)
   simp only [Act.put, List.setIfInBounds_toArray, List.set_cons_zero, List.set_cons_succ]
   refine last_take (v := ?bv1) 1 rfl (by kernel_rfl) (by kernel_rfl) (by kernel_rfl) (by kernel_rfl) (fun _ _ _ h => h) (by rfl) hHeld ?by1 ?br1
   case by1 => (intro W hSw; go_simp; with_reducible rfl)
   simp only [Act.put, List.setIfInBounds_toArray, List.set_cons_zero, List.set_cons_succ]
   refine last_take (v := ?bv2) 2 rfl (by kernel_rfl) (by kernel_rfl) (by kernel_rfl) (by kernel_rfl) (fun _ _ _ h => h) (by rfl) hHeld ?by2 ?br2
   case by2 => (intro W hSw; go_simp; with_reducible rfl)
   simp only [Act.put, List.setIfInBounds_toArray, List.set_cons_zero, List.set_cons_succ]
   refine last_take (v := ?bv3) 3 rfl (by kernel_rfl) (by kernel_rfl) (by kernel_rfl) (by kernel_rfl) (fun _ _ _ h => h) (by rfl) hHeld ?by3 ?br3
   case by3 => (intro W hSw; go_simp; with_reducible rfl)
   simp only [Act.put, List.setIfInBounds_toArray, List.set_cons_zero, List.set_cons_succ]
   refine last_one 4 (by kernel_rfl) rfl (fun K hK => ?_)
   go_simp
   refine hK.out _ _ (fun _ => m2) (fun hHeld => ?_)
   have hHeld := hHeld (by decide)
   clear hK K
   try simp only [Act.put, List.setIfInBounds_toArray, List.set_cons_zero, List.set_cons_succ]
   refine last_one 5 (by kernel_rfl) rfl (fun K hK => ?_)
   go_simp
   refine hK.out _ _ (fun _ => m2) (fun hHeld => ?_)
   have hHeld := hHeld (by decide)
   clear hK K
   try simp only [Act.put, List.setIfInBounds_toArray, List.set_cons_zero, List.set_cons_succ]
   refine last_one 6 (by kernel_rfl) rfl (fun K hK => ?_)
   go_simp
   refine hK.out _ _ (fun _ => m2) (fun hHeld => ?_)
   have hHeld := hHeld (by decide)
   clear hK K
   try simp only [Act.put, List.setIfInBounds_toArray, List.set_cons_zero, List.set_cons_succ]
   refine last_one 7 (by kernel_rfl) rfl (fun K hK => ?_)
   go_simp
   refine hK.out _ _ (fun e => absurd rfl e) (fun _ => ?_)
   clear hK K hHeld
   try simp only [Act.put, List.setIfInBounds_toArray, List.set_cons_zero, List.set_cons_succ]
   refine wpAnyL_done (by kernel_rfl) ?_ _
   go_wp2_with fail
   go_ret
   rw [HR.out]
   have hmx : max l.h2 kk = kk := by omega
   refine ⟨rfl, ?_, Frm.setCell (S := fun k => k = b) (p := ⟨b, 3, none⟩) ((Frm.of_below HB3.out).drewN _) (.inl rfl) _⟩
   unfold ldSet
   simp only [hmx]
   exact (heap_setCell_same (b := b) (show (w3.drewN _).heap[b]? = some (rldObj l) from HB4.out) 3 _).trans rfl
  ·go_quiet (fail)
   go_wp2_with fail
   go_ret
   rw [HR.out]
   have hmx : max l.h2 kk = l.h2 := by omega
   refine ⟨rfl, ?_, (Frm.of_below (S := fun k => k = b) HB3.out).drewN _⟩
   unfold ldSet
   simp only [hmx]
   exact HB4.out
end
end Go.Proofs.YtcpejlmnplkbaaaGreat
