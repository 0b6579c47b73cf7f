/- The law ReplicaLeads: its walk. -/
import Derived.Test.YtcpejlmnplkbaaaGreatRnG
import Derived.Deep.CutBlock
set_option linter.unusedVariables false
set_option linter.unusedSimpArgs false
namespace Go.Proofs.YtcpejlmnplkbaaaGreat
open Go.RowKit Go.Maps
set_option maxRecDepth 20000
structure Cm where
 frm : Int
 s : List UInt8
def ComesAt (w : World) (B : Nat) (v : Value) (l : List Cm) : Prop :=
 ∃ ao cap, v = .slice ao l.length cap ∧ ∀ k (hk : k < l.length), ∃ q o, ao = some ⟨q, o, none⟩ ∧ q < B ∧ q < w.heap.size ∧ w.cell? ⟨q, o + k * 2, none⟩ = some (.int .i64 l[k].frm) ∧ w.cell? ⟨q, o + k * 2 + 1, none⟩ = some (.string (bs l[k].s))
structure ComesIn (w : World) (v : Value) (l : List Cm) : Prop where
 at' : ComesAt w w.heap.size v l
 len : l.length ≤ 9223372036854775807
 big : ∀ x ∈ l, x.s.length ≤ 9223372036854775807
theorem below_frm {w W W' : World} {L : Nat} (hb : Below w.heap.size w W) (hf : Frm (fun k => k = L) W W') (hL : w.heap.size ≤ L) : Below w.heap.size w W' :=
 ⟨hf.os.trans hb.os, hf.tape.trans hb.tape, hf.output.trans hb.output, Nat.le_trans hb.size hf.size, fun k hk => (hf.block k (Nat.lt_of_lt_of_le hk hb.size) (by omega)).trans (hb.block k hk)⟩
section
variable {W : World} {b : Nat} {l : Ld}
theorem has_m (hb : W.heap[b]? = some (ldObj l)) : Calls Tryz.prog 11 #[.pointer (some ⟨b, 0, none⟩), .int .i64 (-1)] W fun e w' => e = .returned (.int .u64 0) ∧ w' = W := lhas_any hb (-1)
theorem has_0 (hb : W.heap[b]? = some (ldObj l)) : Calls Tryz.prog 11 #[.pointer (some ⟨b, 0, none⟩), .int .i64 0] W fun e w' => e = .returned (.int .u64 0) ∧ w' = W := lhas_any hb 0
theorem has_3 (hb : W.heap[b]? = some (ldObj l)) : Calls Tryz.prog 11 #[.pointer (some ⟨b, 0, none⟩), .int .i64 3] W fun e w' => e = .returned (.int .u64 0) ∧ w' = W := lhas_any hb 3
end
set_option maxHeartbeats 16000000 in
set_option maxRecDepth 20000 in
theorem rleads_any (w : World) (ep : Int) (v : Value) (lst : List Cm) (h : ComesIn w v lst) : Calls Tryz.prog 3 #[.int .u64 ep, v] w fun e w' => e = .returned (.bool true) ∧ Below w.heap.size w w' := by
 obtain ⟨ao, cap, rfl, hc⟩ := h.at'
 have hlen := h.len
 have hbig := h.big
 obtain ⟨n, hn⟩ : ∃ n, n = lst.length := ⟨_, rfl⟩
 rw [← hn] at hlen ⊢
 have WK := hid (rworks_any w)
 have HC := hid hc
 have Hn := hid hn
 have HBig := hid hbig
 clear h hc hn hbig
 by_cases h60 : 60 < n
 ·have b1 : decide (60 < n) = true := by simpa using h60
  go_enter Tryz.func3, Tryz.ntmps3
  go_wp2_with (first
   | (go_at_call 7; refine (WK.out).mono ?_; rintro e w1 ⟨rfl, hb1⟩; have HB1 := hid hb1; clear hb1)
   | go_in)
  go_ret
  exact ⟨rfl, HB1.out⟩
 have b1 : decide (60 < n) = false := by simpa using h60
 have hn60 : n ≤ 60 := by omega
 clear h60
 go_enter Tryz.func3, Tryz.ntmps3
 go_upto_region 7 with (first
  | (go_at_call 7; refine (WK.out).mono ?_; rintro e w1 ⟨rfl, hb1⟩; have HB1 := hid hb1; clear hb1)
  | (go_at_call 8; refine (lead_any ep _).mono ?_; rintro e w2 ⟨rfl, hw2⟩; have HW2 := hid hw2; clear hw2)
  | go_in)
 have hb3 := (Below.refl w2.heap.size w2).alloc (Nat.le_refl _) (.cells #[.int .u64 ep, .int .u64 0, .int .u64 0, .int .u64 0] 30)
 have hR3 : (w2.alloc (.cells #[.int .u64 ep, .int .u64 0, .int .u64 0, .int .u64 0] 30)).heap[w2.heap.size]? = some (rldObj ⟨ep, 0, 0, 0⟩) := heap_alloc_new _ _
 have hL2 : w2.heap[w1.heap.size]? = some (ldObj ⟨ep, 0, 0, 0⟩) := by rw [HW2.out]; exact heap_alloc_new _ _
 have hb2 : Below w1.heap.size w1 w2 := by rw [HW2.out]; exact (Below.refl _ _).alloc (Nat.le_refl _) _
 have hLlt := lt_of_block hL2
 have hbw := (HB1.out.trans (hb2.mono HB1.out.size)).trans (hb3.mono (Nat.le_trans HB1.out.size hb2.size))
 have hL3 := (hb3.block _ hLlt).trans hL2
 obtain ⟨L, hL⟩ : ∃ L, L = w1.heap.size := ⟨_, rfl⟩
 obtain ⟨R, hR⟩ : ∃ R, R = w2.heap.size := ⟨_, rfl⟩
 obtain ⟨w3, hw3⟩ : ∃ w3, w3 = w2.alloc (.cells #[.int .u64 ep, .int .u64 0, .int .u64 0, .int .u64 0] 30) := ⟨_, rfl⟩
 rw [← hw3] at hbw hL3 hR3
 rw [← hw3, ← hL, ← hR]
 rw [← hL] at hL3 hLlt
 rw [← hR] at hR3
 have HwL := hid (show w.heap.size ≤ L by rw [hL]; exact HB1.out.size)
 have HwR := hid (show w.heap.size ≤ R by rw [hR]; exact Nat.le_trans HB1.out.size hb2.size)
 have HLR := hid (show L ≠ R by omega)
 have HB3 := hid hbw
 have HL3 := hid hL3
 have HR3 := hid hR3
 clear hb3 hR3 hL2 hb2 hLlt hbw hL3 hL hR hw3 HW2 HB1 WK
 go_loopw [22] (fun v22 wr => ∃ (i : Nat) (l : Ld), i ≤ n ∧ v22 = .int .i64 (i : Int) ∧ wr.heap[L]? = some (ldObj l) ∧ wr.heap[R]? = some (rldObj l) ∧ Below w.heap.size w wr) (fun v22 _ => n - (intOf v22).toNat)
 case atStart => exact ⟨0, _, Nat.zero_le _, rfl, HL3.out, HR3.out, HB3.out⟩
 case round =>
  obtain ⟨i, l, hi, rfl, hl, hr, hbw⟩ := hrel
  have HL := hid hl
  have HR := hid hr
  have HBw := hid hbw
  by_cases hlt : i < n
  ·have hil : i < lst.length := by have := Hn.out; omega
   obtain ⟨q, o, hao, -, hq, hc0, hc1⟩ := HC.out i hil
   subst hao
   have hsl := HBig.out lst[i] (List.getElem_mem hil)
   have c0 := (hbw.cell (p := ⟨q, o + i * 2, none⟩) hq).trans hc0
   have c1 := (hbw.cell (p := ⟨q, o + i * 2 + 1, none⟩) hq).trans hc1
   obtain ⟨x, hx⟩ : ∃ x, x = lst[i] := ⟨_, rfl⟩
   rw [← hx] at c0 c1 hsl
   obtain ⟨fr, s⟩ := x
   dsimp only at c0 c1 hsl
   have hi9 : (i : Int) < 9223372036854775807 := by omega
   have hiN : (i : Int) < (n : Int) := by omega
   have hw : IntKind.i64.wrap ((i : Int) + 1) = (i : Int) + 1 := IntWalk.i64_in _ (by omega)
   obtain ⟨sz, hsz⟩ : ∃ sz : Int, ((s.length : Nat) : Int) = sz := ⟨_, rfl⟩
   have Hsz := hid hsz
   clear hl hr hbw hc0 hc1 hx hsl
   go_upto_region 9 with fail
   have hz4 := heap_alloc_new wr (.cells #[.int .i64 fr, .string (bs s)] 32)
   have hl4 : (wr.alloc (.cells #[.int .i64 fr, .string (bs s)] 32)).heap[L]? = some (ldObj l) := heap_alloc_old HL.out
   have hr4 : (wr.alloc (.cells #[.int .i64 fr, .string (bs s)] 32)).heap[R]? = some (rldObj l) := heap_alloc_old HR.out
   have hb4 := HBw.out.alloc HBw.out.size (.cells #[.int .i64 fr, .string (bs s)] 32)
   have hMlt := lt_of_block hl4
   have hML : wr.heap.size ≠ L := by have := lt_of_block HL.out; omega
   have hMR : wr.heap.size ≠ R := by have := lt_of_block HR.out; omega
   obtain ⟨M, hM⟩ : ∃ M, M = wr.heap.size := ⟨_, rfl⟩
   obtain ⟨w4, hw4⟩ : ∃ w4, w4 = wr.alloc (.cells #[.int .i64 fr, .string (bs s)] 32) := ⟨_, rfl⟩
   rw [← hw4, ← hM]
   rw [← hw4] at hz4 hl4 hr4 hb4
   rw [← hM] at hz4 hML hMR
   have m0 : w4.cell? ⟨M, 0, none⟩ = some (.int .i64 fr) := (cell_of_block hz4 0).trans rfl
   have m1 : w4.cell? ⟨M, 1, none⟩ = some (.string (bs s)) := (cell_of_block hz4 1).trans rfl
   have HZ4 := hid hz4
   have HL4 := hid hl4
   have HR4 := hid hr4
   have HB4 := hid hb4
   have HML := hid hML
   have HMR := hid hMR
   have HM0 := hid m0
   have HM1 := hid m1
   clear hz4 hl4 hr4 hb4 hML hMR hMlt hM hw4 c0 c1
   by_cases h8 : 8192 < sz
   ·have b5 : decide (8192 < sz) = true := by simpa using h8
    clear h8
    go_wp2_with fail
    go_ret
    exact ⟨rfl, HB4.out⟩
   have b5 : decide (8192 < sz) = false := by simpa using h8
   have hs8 : s.length ≤ 1099511627776 := by have := Hsz.out; omega
   clear h8
   have HI := hid (And.intro hi hlt)
   have Hw := hid hw
   clear hi hlt hi9 hiN hw
   go_upto_region 11 with fail
   obtain ⟨G, hG⟩ : ∃ G, G = lgetM l fr s := ⟨_, rfl⟩
   have LG := fun (W2 : World) (h : W2.heap[L]? = some (ldObj l)) => lget_any h fr s hs8
   have RG := fun (W2 : World) (h : W2.heap[R]? = some (rldObj l)) => rlget_any h fr s hs8
   simp only [← hG] at LG RG
   obtain ⟨g0, l2⟩ := G
   dsimp only at LG RG
   have LG := hid LG
   have RG := hid RG
   clear hG hsz hs8
   refine wp_region_held_drew (S := fun W2 => W2.cell? ⟨M, 0, none⟩ = some (.int .i64 fr) ∧ W2.cell? ⟨M, 1, none⟩ = some (.string (bs s))) (by kernel_rfl) ⟨m0, m1⟩ (fun hHeld => ?_)
   clear m0 m1
   refine held_take (v := ?av0) 0 rfl (by kernel_rfl) (by kernel_rfl) (by kernel_rfl) (fun _ _ _ h => h) (by rfl) hHeld ?ay0 ?ar0
   case ay0 => (intro W hSw; obtain ⟨y0, y1⟩ := hSw; go_simp; with_reducible rfl)
   simp only [Act.put, List.setIfInBounds_toArray, List.set_cons_zero, List.set_cons_succ]
   refine held_take (v := ?av1) 1 rfl (by kernel_rfl) (by kernel_rfl) (by kernel_rfl) (fun _ _ _ h => h) (by rfl) hHeld ?ay1 ?ar1
   case ay1 => (intro W hSw; obtain ⟨y0, y1⟩ := hSw; go_simp; with_reducible rfl)
   simp only [Act.put, List.setIfInBounds_toArray, List.set_cons_zero, List.set_cons_succ]
   refine held_take (v := ?av2) 2 rfl (by kernel_rfl) (by kernel_rfl) (by kernel_rfl) (fun _ _ _ h => h) (by rfl) hHeld ?ay2 ?ar2
   case ay2 => (intro W hSw; obtain ⟨y0, y1⟩ := hSw; go_simp; with_reducible rfl)
   simp only [Act.put, List.setIfInBounds_toArray, List.set_cons_zero, List.set_cons_succ]
   refine held_take (v := ?av3) 3 rfl (by kernel_rfl) (by kernel_rfl) (by kernel_rfl) (fun _ _ _ h => h) (by rfl) hHeld ?ay3 ?ar3
   case ay3 => (intro W hSw; obtain ⟨y0, y1⟩ := hSw; go_simp; with_reducible rfl)
   simp only [Act.put, List.setIfInBounds_toArray, List.set_cons_zero, List.set_cons_succ]
   refine held_take (v := ?av4) 4 rfl (by kernel_rfl) (by kernel_rfl) (by kernel_rfl) (fun _ _ _ h => h) (by rfl) hHeld ?ay4 ?ar4
   case ay4 => (intro W hSw; obtain ⟨y0, y1⟩ := hSw; go_simp; with_reducible rfl)
   simp only [Act.put, List.setIfInBounds_toArray, List.set_cons_zero, List.set_cons_succ]
   refine held_take (v := ?av6) 6 rfl (by kernel_rfl) (by kernel_rfl) (by kernel_rfl) (fun _ _ _ h => h) (by rfl) hHeld ?ay6 ?ar6
   case ay6 => (intro W hSw; obtain ⟨y0, y1⟩ := hSw; go_simp; with_reducible rfl)
   simp only [Act.put, List.setIfInBounds_toArray, List.set_cons_zero, List.set_cons_succ]
   refine held_take (v := ?av7) 7 rfl (by kernel_rfl) (by kernel_rfl) (by kernel_rfl) (fun _ _ _ h => h) (by rfl) hHeld ?ay7 ?ar7
   case ay7 => (intro W hSw; obtain ⟨y0, y1⟩ := hSw; go_simp; with_reducible rfl)
   simp only [Act.put, List.setIfInBounds_toArray, List.set_cons_zero, List.set_cons_succ]
   refine held_take (v := ?av8) 8 rfl (by kernel_rfl) (by kernel_rfl) (by kernel_rfl) (fun _ _ _ h => h) (by rfl) hHeld ?ay8 ?ar8
   case ay8 => (intro W hSw; obtain ⟨y0, y1⟩ := hSw; go_simp; with_reducible rfl)
   simp only [Act.put, List.setIfInBounds_toArray, List.set_cons_zero, List.set_cons_succ]
   refine held_take (v := ?av9) 9 rfl (by kernel_rfl) (by kernel_rfl) (by kernel_rfl) (fun _ _ _ h => h) (by rfl) hHeld ?ay9 ?ar9
   case ay9 => (intro W hSw; obtain ⟨y0, y1⟩ := hSw; go_simp; with_reducible rfl)
   simp only [Act.put, List.setIfInBounds_toArray, List.set_cons_zero, List.set_cons_succ]
   refine held_take (v := ?av10) 10 rfl (by kernel_rfl) (by kernel_rfl) (by kernel_rfl) (fun _ _ _ h => h) (by rfl) hHeld ?ay10 ?ar10
   case ay10 => (intro W hSw; obtain ⟨y0, y1⟩ := hSw; go_simp; with_reducible rfl)
   simp only [Act.put, List.setIfInBounds_toArray, List.set_cons_zero, List.set_cons_succ]
   refine held_one 5 (by kernel_rfl) rfl (fun K hK => ?_)
   go_simp
   refine (LG.out w4.drew HL4.out).mono ?_
   rintro e w5 ⟨rfl, hl5, hf5⟩
   have hf5 : Frm (fun k => k = L) w4 w5 := Frm.trans ((Frm.refl _ w4).drew) hf5
   have hk5 := hf5.block M (lt_of_block HZ4.out) HML.out
   have hc5 : ∀ o, w5.cell? ⟨M, o, none⟩ = w4.cell? ⟨M, o, none⟩ := fun o => World.cell?_of_block (a := ⟨M, o, none⟩) hk5
   have HZ5 := hid (hk5.trans HZ4.out)
   have HL5 := hid hl5
   have HR5 := hid ((hf5.block R (lt_of_block HR4.out) (fun e => HLR.out e.symm)).trans HR4.out)
   have HB5 := hid (below_frm HB4.out hf5 HwL.out)
   have HC5 := hid (And.intro ((hc5 0).trans HM0.out) ((hc5 1).trans HM1.out))
   clear hl5 hf5 hk5 hc5
   try dsimp only
   refine hK.out _ _ (HC5.out) (fun hHeld => ?_)
   clear hK K
   try simp only [Act.put, List.setIfInBounds_toArray, List.set_cons_zero, List.set_cons_succ]
   refine held_one 11 (by kernel_rfl) rfl (fun K hK => ?_)
   go_simp
   refine (RG.out _ HR5.out).mono ?_
   rintro e w6 ⟨rfl, hr6, hf6⟩
   have hk6 := hf6.block M (lt_of_block HZ5.out) HMR.out
   have hc6 : ∀ o, w6.cell? ⟨M, o, none⟩ = w5.cell? ⟨M, o, none⟩ := fun o => World.cell?_of_block (a := ⟨M, o, none⟩) hk6
   have HR6 := hid hr6
   have HL6 := hid ((hf6.block L (lt_of_block HL5.out) HLR.out).trans HL5.out)
   have HB6 := hid (below_frm HB5.out hf6 HwR.out)
   have HC6 := hid (And.intro ((hc6 0).trans HC5.out.1) ((hc6 1).trans HC5.out.2))
   clear hr6 hf6 hk6 hc6
   try dsimp only
   refine hK.out _ _ (HC6.out) (fun hHeld => ?_)
   clear hK K
   try simp only [Act.put, List.setIfInBounds_toArray, List.set_cons_zero, List.set_cons_succ]
   refine held_take (v := ?bv12) 12 rfl (by kernel_rfl) (by kernel_rfl) (by kernel_rfl) (fun _ _ _ h => h) (by rfl) hHeld ?by12 ?br12
   case by12 => (intro W hSw; obtain ⟨y0, y1⟩ := hSw; go_simp; with_reducible rfl)
   simp only [Act.put, List.setIfInBounds_toArray, List.set_cons_zero, List.set_cons_succ]
   refine held_take (v := ?bv13) 13 rfl (by kernel_rfl) (by kernel_rfl) (by kernel_rfl) (fun _ _ _ h => h) (by rfl) hHeld ?by13 ?br13
   case by13 => (intro W hSw; obtain ⟨y0, y1⟩ := hSw; go_simp; with_reducible rfl)
   simp only [Act.put, List.setIfInBounds_toArray, List.set_cons_zero, List.set_cons_succ]
   refine held_take (v := ?bv14) 14 rfl (by kernel_rfl) (by kernel_rfl) (by kernel_rfl) (fun _ _ _ h => h) (by rfl) hHeld ?by14 ?br14
   case by14 => (intro W hSw; obtain ⟨y0, y1⟩ := hSw; go_simp; with_reducible rfl)
   simp only [Act.put, List.setIfInBounds_toArray, List.set_cons_zero, List.set_cons_succ]
   refine held_take (v := ?bv16) 16 rfl (by kernel_rfl) (by kernel_rfl) (by kernel_rfl) (fun _ _ _ h => h) (by rfl) hHeld ?by16 ?br16
   case by16 => (intro W hSw; obtain ⟨y0, y1⟩ := hSw; go_simp; with_reducible rfl)
   simp only [Act.put, List.setIfInBounds_toArray, List.set_cons_zero, List.set_cons_succ]
   refine held_take (v := ?bv19) 19 rfl (by kernel_rfl) (by kernel_rfl) (by kernel_rfl) (fun _ _ _ h => h) (by rfl) hHeld ?by19 ?br19
   case by19 => (intro W hSw; obtain ⟨y0, y1⟩ := hSw; go_simp; with_reducible rfl)
   simp only [Act.put, List.setIfInBounds_toArray, List.set_cons_zero, List.set_cons_succ]
   refine held_one 15 (by kernel_rfl) rfl (fun K hK => ?_)
   go_simp
   refine (has_m HL6.out).mono ?_
   rintro e w7 ⟨rfl, hw7⟩
   subst hw7
   try dsimp only
   refine hK.out _ _ (HC6.out) (fun hHeld => ?_)
   clear hK K
   try simp only [Act.put, List.setIfInBounds_toArray, List.set_cons_zero, List.set_cons_succ]
   refine held_one 17 (by kernel_rfl) rfl (fun K hK => ?_)
   go_simp
   refine (has_0 HL6.out).mono ?_
   rintro e w8 ⟨rfl, hw8⟩
   subst hw8
   try dsimp only
   refine hK.out _ _ (HC6.out) (fun hHeld => ?_)
   clear hK K
   try simp only [Act.put, List.setIfInBounds_toArray, List.set_cons_zero, List.set_cons_succ]
   refine held_take (v := ?dv18) 18 rfl (by kernel_rfl) (by kernel_rfl) (by kernel_rfl) (fun _ _ _ h => h) (by rfl) hHeld ?dy18 ?dr18
   case dy18 => (intro W hSw; obtain ⟨y0, y1⟩ := hSw; go_simp; with_reducible rfl)
   simp only [Act.put, List.setIfInBounds_toArray, List.set_cons_zero, List.set_cons_succ]
   refine held_one 20 (by kernel_rfl) rfl (fun K hK => ?_)
   go_simp
   refine (has_3 HL6.out).mono ?_
   rintro e w9 ⟨rfl, hw9⟩
   subst hw9
   try dsimp only
   refine hK.out _ _ (HC6.out) (fun hHeld => ?_)
   clear hK K
   try simp only [Act.put, List.setIfInBounds_toArray, List.set_cons_zero, List.set_cons_succ]
   refine held_take (v := ?ev21) 21 rfl (by kernel_rfl) (by kernel_rfl) (by kernel_rfl) (fun _ _ _ h => h) (by rfl) hHeld ?ey21 ?er21
   case ey21 => (intro W hSw; obtain ⟨y0, y1⟩ := hSw; go_simp; with_reducible rfl)
   simp only [Act.put, List.setIfInBounds_toArray, List.set_cons_zero, List.set_cons_succ]
   refine held_take (v := ?ev22) 22 rfl (by kernel_rfl) (by kernel_rfl) (by kernel_rfl) (fun _ _ _ h => h) (by rfl) hHeld ?ey22 ?er22
   case ey22 => (intro W hSw; obtain ⟨y0, y1⟩ := hSw; go_simp; with_reducible rfl)
   simp only [Act.put, List.setIfInBounds_toArray, List.set_cons_zero, List.set_cons_succ]
   refine held_take (v := ?ev23) 23 rfl (by kernel_rfl) (by kernel_rfl) (by kernel_rfl) (fun _ _ _ h => h) (by rfl) hHeld ?ey23 ?er23
   case ey23 => (intro W hSw; obtain ⟨y0, y1⟩ := hSw; go_simp; with_reducible rfl)
   simp only [Act.put, List.setIfInBounds_toArray, List.set_cons_zero, List.set_cons_succ]
   clear hHeld
   refine wpAnyH_done (by kernel_rfl) ?_ _
   clear HC6 HC5 HZ5 HZ4 HM0 HM1 HL4 HR4 HB4 HL5 HR5 HB5 LG RG HL HR HBw
   go_wp2_with fail
   go_loopw [9] (fun v9 wq => ∃ j : Nat, 1 ≤ j ∧ j ≤ 3 ∧ v9 = .int .i64 (j : Int) ∧ wq.heap[L]? = some (ldObj l2) ∧ wq.heap[R]? = some (rldObj l2) ∧ Below w.heap.size w wq) (fun v9 _ => 3 - (intOf v9).toNat)
   case atStart => exact ⟨1, by omega, by omega, rfl, HL6.out, HR6.out, HB6.out⟩
   case round =>
    obtain ⟨j, hj1, hj3, rfl, hl7, hr7, hb7⟩ := hrel
    have HL7 := hid hl7
    have HR7 := hid hr7
    have HB7 := hid hb7
    clear hl7 hr7 hb7
    by_cases hj2 : j ≤ 2
    ·have hjI : (j : Int) ≤ 2 := by omega
     have hj3i : (j : Int) < 3 := by omega
     have hj9 : IntKind.i64.wrap ((j : Int) + 1) = (j : Int) + 1 := IntWalk.i64_in _ (by omega)
     have x0 := ld_cell_at HR7.out hj1 (by omega)
     have HS := hid (fun nq => lhas_any (W := wr.drewN nq) (b := L) (l := l2) HL7.out (j : Int))
     have Hj := hid (And.intro hj1 hj2)
     obtain ⟨hh, hhh⟩ : ∃ hh, hh = ldHas l2 (j : Int) := ⟨_, rfl⟩
     have HS := HS.out
     simp only [← hhh] at HS
     rw [← hhh] at x0
     have HS := hid HS
     clear hj1 hj2 hj3 hhh
     go_upto_region 16 with fail
     go_quiet (first
      | (go_at_call 11; refine Calls.quiet_of_same (HS.out _)))
     go_wp2_with fail
     go_roundw
     case rel => exact ⟨j + 1, by omega, by have := Hj.out; omega, by simp, HL7.out, HR7.out, below_drewN2 HB7.out _⟩
     case measure => (have := Hj.out; (simp [intOf]) <;> omega)
    ·have hjI : ¬ (j : Int) ≤ 2 := by omega
     have hjN : ¬ j ≤ 2 := hj2
     have hw := Hw.out
     clear hj1 hj3 hj2
     go_wp2_with fail
     go_roundw
     case rel => exact ⟨i + 1, l2, by have := HI.out; omega, by simp, HL7.out, HR7.out, HB7.out⟩
     case measure => (have := HI.out; (simp [intOf]) <;> omega)
  ·obtain rfl : n = i := by omega
   have hgo : ¬ n < n := Nat.lt_irrefl n
   clear hl hr hbw
   go_wp2_with fail
   go_ret
   exact ⟨rfl, HBw.out⟩
end Go.Proofs.YtcpejlmnplkbaaaGreat
