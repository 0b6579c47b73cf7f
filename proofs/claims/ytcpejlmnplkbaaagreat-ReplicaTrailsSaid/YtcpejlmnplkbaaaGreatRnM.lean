/- Replica: the document's answer for one that leads: Get. -/
import Derived.Test.YtcpejlmnplkbaaaGreatRnF
import Derived.Test.YtcpejlmnplkbaaaGreatRnK
set_option linter.unusedVariables false
set_option linter.unusedSimpArgs false
namespace Go.Proofs.YtcpejlmnplkbaaaGreat
open Go.RowKit Go.Maps
set_option maxRecDepth 20000
section
variable {W : World} {b : Nat} {l : Ld}
end
end Go.Proofs.YtcpejlmnplkbaaaGreat
/- Replica: nobody; one that leads without a pager; posts compared. -/
namespace Go.Proofs.YtcpejlmnplkbaaaGreat
open Go.RowKit Go.Maps
set_option maxRecDepth 20000
section
variable {w W : World}
theorem ready_nil (W : World) : Calls Tryz.prog 65 #[.pointer none] W fun e w' => e = .returned (.tuple #[.agg #[.int .i64 0, .int .i64 0, .int .u64 0, .int .i64 0, .int .i64 0, .int .i64 0, .int .i64 0, .int .i64 0, .int .i64 0, .int .i64 0, .int .i64 0], .int .i64 1]) ∧ Below W.heap.size W w' := by
 have hz := heap_alloc_new W (.cells #[.int .i64 0, .int .i64 0, .int .u64 0, .int .i64 0, .int .i64 0, .int .i64 0, .int .i64 0, .int .i64 0, .int .i64 0, .int .i64 0, .int .i64 0] 143)
 have hb := (Below.refl W.heap.size W).alloc (Nat.le_refl _) (.cells #[.int .i64 0, .int .i64 0, .int .u64 0, .int .i64 0, .int .i64 0, .int .i64 0, .int .i64 0, .int .i64 0, .int .i64 0, .int .i64 0, .int .i64 0] 143)
 have HB := hid hb
 obtain ⟨⟨z0, z1, z2⟩, ⟨z3, z4, z5, z6, z7, z8, z9, z10⟩, zf⟩ := cells11 hz
 clear hz hb
 go_enter Tryz.func65, Tryz.ntmps65
 go_wp2_with fail
 exact bodyPost_ret (v := .tuple #[.agg #[.int .i64 0, .int .i64 0, .int .u64 0, .int .i64 0, .int .i64 0, .int .i64 0, .int .i64 0, .int .i64 0, .int .i64 0, .int .i64 0, .int .i64 0], .int .i64 1]) (by simp [results, Tryz.results65, go_sem, z0, z1, z2, z3, z4, z5, z6, z7, z8, z9, z10, zf]) rfl ⟨rfl, HB.out⟩
theorem have_nil (W : World) : Calls Tryz.prog 37 #[.pointer none] W fun e w' => e = .returned (.tuple #[.int .u64 0, .int .i64 1]) ∧ Below W.heap.size W w' := by
 have RN := hid (ready_nil W)
 go_enter Tryz.func37, Tryz.ntmps37
 go_wp2_with (first
  | (go_at_call 65; refine (RN.out).mono ?_; rintro e w1 ⟨rfl, hb⟩; have HB := hid hb; clear hb)
  | go_in)
 go_ret2
 exact ⟨rfl, HB.out.alloc HB.out.size _⟩
theorem next_nil (W : World) (ep k : Int) : Calls Tryz.prog 44 #[.pointer none, .int .u64 ep, .int .u64 k] W fun e w' => (e = .returned (.tuple #[.agg #[.int .u8 0, .int .u64 0, .int .u64 0, .bool false, .int .i64 0, .slice none 0 0], .int .i64 1])) ∧ Below W.heap.size W w' := by
 have hz := heap_alloc_new W (.cells #[.int .u8 0, .int .u64 0, .int .u64 0, .bool false, .int .i64 0, .slice none 0 0] 52)
 have hb0 := (Below.refl W.heap.size W).alloc (Nat.le_refl _) (.cells #[.int .u8 0, .int .u64 0, .int .u64 0, .bool false, .int .i64 0, .slice none 0 0] 52)
 have hzl := lt_of_block hz
 have Hz := hid hz
 have HB0 := hid hb0
 have Hzl := hid hzl
 have RN := hid (fun W => ready_nil W)
 clear hz hb0 hzl
 go_enter Tryz.func44, Tryz.ntmps44
 go_wp2_with (first
  | (go_at_call 65; refine (RN.out _).mono ?_; rintro e w1 ⟨rfl, hb⟩; have HB := hid hb; have hsz : W.heap.size < w1.heap.size := Nat.lt_of_lt_of_le Hzl.out hb.size; obtain ⟨z0, z1, z2, z3, z4, z5, zf⟩ := cells6 ((hb.block W.heap.size Hzl.out).trans Hz.out); clear hb)
  | go_in)
 have h6 := heap_alloc_old (o := .cells #[.int .i64 0, .int .i64 0, .int .u64 0, .int .i64 0, .int .i64 0, .int .i64 0, .int .i64 0, .int .i64 0, .int .i64 0, .int .i64 0, .int .i64 0] 143) (heap_set6 ((HB.out.block W.heap.size Hzl.out).trans Hz.out) (.int .u8 0) (.int .u64 0) (.int .u64 0) (.bool false) (.int .i64 0) (.slice none 0 0))
 clear z0 z1 z2 z3 z4 z5 zf
 obtain ⟨z0, z1, z2, z3, z4, z5, zf⟩ := cells6 h6
 refine bodyPost_ret (v := .tuple #[.agg #[.int .u8 0, .int .u64 0, .int .u64 0, .bool false, .int .i64 0, .slice none 0 0], .int .i64 1]) (by simp [results, Tryz.results44, go_sem, z0, z1, z2, z3, z4, z5, zf]) rfl ⟨rfl, ?_⟩
 have hb6 : Below W.heap.size W ((((((w1.setCell ⟨W.heap.size, 0, none⟩ (.int .u8 0)).setCell ⟨W.heap.size, 1, none⟩ (.int .u64 0)).setCell ⟨W.heap.size, 2, none⟩ (.int .u64 0)).setCell ⟨W.heap.size, 3, none⟩ (.bool false)).setCell ⟨W.heap.size, 4, none⟩ (.int .i64 0)).setCell ⟨W.heap.size, 5, none⟩ (.slice none 0 0)) := by
  iterate 6 refine Below.setCell ?_ (by exact Nat.le_refl _) _
  exact HB0.out.trans (HB.out.mono HB0.out.size)
 exact hb6.alloc hb6.size _
theorem lget_nil (W : World) (n : Int) (s : ByteArray) : Calls Tryz.prog 9 #[.pointer none, .int .i64 n, .string s] W fun e w' => e = .returned (.int .i64 1) ∧ w' = W := by
 go_enter Tryz.func9, Tryz.ntmps9
 go_wp2_with fail
 go_ret
 exact ⟨rfl, rfl⟩
theorem lhas_nil (W : World) (n : Int) : Calls Tryz.prog 11 #[.pointer none, .int .i64 n] W fun e w' => e = .returned (.int .u64 0) ∧ w' = W := by
 go_enter Tryz.func11, Tryz.ntmps11
 go_wp2_with fail
 go_ret
 exact ⟨rfl, rfl⟩
theorem ltick_nil (W : World) (v : Value) : Calls Tryz.prog 19 #[.pointer none, v] W fun e w' => e = .returned (.slice none 0 0) ∧ w' = W := by
 go_enter Tryz.func19, Tryz.ntmps19
 go_wp2_with fail
 go_ret
 exact ⟨rfl, rfl⟩
theorem tget_nil (W : World) (s : ByteArray) : Calls Tryz.prog 18 #[.pointer none, .string s] W fun e w' => e = .returned (.tuple #[.slice none 0 0, .int .i64 1]) ∧ w' = W := by
 go_enter Tryz.func18, Tryz.ntmps18
 go_wp2_with fail
 go_ret2
 exact ⟨rfl, rfl⟩
theorem ttick_nil (W : World) : Calls Tryz.prog 16 #[.pointer none] W fun e w' => e = .returned (.slice none 0 0) ∧ w' = W := by
 go_enter Tryz.func16, Tryz.ntmps16
 go_wp2_with fail
 go_ret
 exact ⟨rfl, rfl⟩
theorem epoch_nil (W : World) : Calls Tryz.prog 20 #[.pointer none] W fun e w' => e = .returned (.int .u64 0) ∧ w' = W := by
 go_enter Tryz.func20, Tryz.ntmps20
 go_wp2_with fail
 go_ret
 exact ⟨rfl, rfl⟩
theorem trail_nil (W : World) : Calls Tryz.prog 13 #[.pointer none] W fun e w' => e = .returned (.pointer (some ⟨W.heap.size, 0, none⟩)) ∧ w' = W.alloc (.cells #[.pointer none, .int .u64 0] 92) := by
 go_enter Tryz.func13, Tryz.ntmps13
 go_wp2_with fail
 go_ret
 exact ⟨rfl, rfl⟩
theorem ttick_np {t : Nat} (ht : W.heap[t]? = some (.cells #[.pointer none, .int .u64 0] 92 (0, 0))) : Calls Tryz.prog 16 #[.pointer (some ⟨t, 0, none⟩)] W fun e w' => e = .returned (.slice none 0 0) ∧ Below W.heap.size W w' := by
 have x0 : W.cell? ⟨t, 0, none⟩ = some (.pointer none) := (cell_of_block ht 0).trans rfl
 have HN := hid (have_nil W)
 clear ht
 go_enter Tryz.func16, Tryz.ntmps16
 go_wp2_with (first
  | (go_at_call 37; refine (HN.out).mono ?_; rintro e w2 ⟨rfl, hb2⟩; have HB2 := hid hb2; clear hb2)
  | go_in)
 go_ret
 exact ⟨rfl, HB2.out⟩
end
theorem guard_post : Tryz.prog.eqGuardType Tryz.prog.depth 46 = false := by kernel_rfl
theorem neq_post (a b : Int) (s t : List UInt8) (w : World) :
  (binOp .neq 46 (.agg #[.int .i64 a, .string (bs s)]) (.agg #[.int .i64 b, .string (bs t)])).run Tryz.prog w = .ok (.bool (!(a == b && s == t))) w := by
 have hS : Tryz.prog.underlying 46 = some (.struct (Tryz.prog.fieldsOf 46)) := by kernel_rfl
 have hp : Tryz.prog.stoodInHeld 46 = false := by kernel_rfl
 rw [run_neq_struct, show (10000 : Nat) = 9999 + 1 from rfl, run_equalIn_agg w 9999 46 _ _ hS hp]
 simp only [Program.fieldsOf, Tryz.underlying46]
 go_simp
 by_cases h1 : a = b <;> by_cases h2 : s = t <;> simp [h1, h2]
set_option maxHeartbeats 1000000 in
theorem posts_equal {w : World} {b1 b2 : Nat} {v1 v2 : Value} {l : List (Int × List UInt8)} (h1 : PostRow w b1 v1 l) (h2 : PostRow w b2 v2 l) (n1 : l.length ≤ 1000) :
  Calls Tryz.prog 15 #[v1, v2] w fun e w' => e = .returned (.bool true) ∧ Below w.heap.size w w' := by
 obtain ⟨ao1, cap1, rfl, hc1⟩ := h1.shape
 obtain ⟨ao2, cap2, rfl, hc2⟩ := h2.shape
 clear h1 h2
 obtain ⟨n, hn⟩ : ∃ n, n = l.length := ⟨_, rfl⟩
 rw [← hn] at n1 ⊢
 have H1 := hid hc1
 have H2 := hid hc2
 have Hn := hid hn
 clear hc1 hc2 hn
 have hneq := neq_post
 have hguard := guard_post
 have hln : ((n : Int) != (n : Int)) = false := by simp
 go_enter Tryz.func15, Tryz.ntmps15
 go_wp2_with fail
 go_loopw [13] (fun v13 wr => ∃ k : Nat, k ≤ n ∧ v13 = .int .i64 (k : Int) ∧ Below w.heap.size w wr) (fun v13 _ => n - (intOf v13).toNat)
 case atStart => exact ⟨0, Nat.zero_le _, rfl, Below.refl _ _⟩
 case round =>
  obtain ⟨k, hk, rfl, hb⟩ := hrel
  by_cases hlt : k < n
  ·have hkl : k < l.length := by have := Hn.out; omega
   obtain ⟨q1, rfl, -, hq1, c1, d1⟩ := H1.out k hkl
   obtain ⟨q2, rfl, -, hq2, c2, d2⟩ := H2.out k hkl
   have c1 := (hb.cell (p := ⟨q1, k * 2, none⟩) hq1).trans c1
   have d1 := (hb.cell (p := ⟨q1, k * 2 + 1, none⟩) hq1).trans d1
   have c2 := (hb.cell (p := ⟨q2, k * 2, none⟩) hq2).trans c2
   have d2 := (hb.cell (p := ⟨q2, k * 2 + 1, none⟩) hq2).trans d2
   obtain ⟨x, hx⟩ : ∃ x, x = l[k] := ⟨_, rfl⟩
   rw [← hx] at c1 d1 c2 d2
   obtain ⟨p1, s1⟩ := x
   dsimp only at c1 d1 c2 d2
   have he' : (p1 == p1 && s1 == s1) = true := by simp
   have hiN : (k : Int) < (n : Int) := by omega
   have hw : IntKind.i64.wrap ((k : Int) + 1) = (k : Int) + 1 := IntWalk.i64_in _ (by omega)
   clear hx
   go_wp2_with fail
   go_quiet (fail)
   go_wp2_with fail
   go_roundw
   case rel => exact ⟨k + 1, hlt, by simp, below_drewN2 hb _⟩
   case measure => (simp [intOf]) <;> omega
  ·obtain rfl : n = k := by omega
   have hgo : ¬ n < n := Nat.lt_irrefl n
   go_wp2_with fail
   go_ret
   exact ⟨rfl, hb⟩
theorem post_lit (W : World) (base : Nat) (hb : base ≤ W.heap.size) (a : Int) (s : List UInt8) : PostRow (W.alloc (.cells #[.int .i64 a, .string (bs s)] 46)) base (.slice (some ⟨W.heap.size, 0, none⟩) 1 1) [(a, s)] :=
 ⟨rfl, .inr ⟨W.heap.size, 1, _, rfl, hb, heap_alloc_new _ _, Nat.le_refl _, by decide, rfl, rfl⟩⟩
end Go.Proofs.YtcpejlmnplkbaaaGreat
/- Replica: one that leads ticks without a pager. -/
namespace Go.Proofs.YtcpejlmnplkbaaaGreat
open Go.RowKit Go.Maps
set_option maxRecDepth 20000
section
variable {W : World} {b : Nat} {l : Ld}
set_option maxHeartbeats 8000000 in
set_option maxRecDepth 20000 in
theorem ltick_np (hb : W.heap[b]? = some (ldObj l)) : Calls Tryz.prog 19 #[.pointer (some ⟨b, 0, none⟩), .pointer none] W fun e w' => e = .returned (.slice none 0 0) ∧ Below W.heap.size W w' := by
 have Hb := hid hb
 have NX := hid (fun W ep k => next_nil W ep k)
 have hW0 := Below.refl W.heap.size W
 clear hb
 go_enter Tryz.func19, Tryz.ntmps19
 go_wp2_with fail
 go_loopw [5, 6] (fun v5 v6 wr => ∃ k : Nat, k ≤ 2 ∧ v6 = .int .i64 ((k : Int) + 1) ∧ v5 = .slice none 0 0 ∧ Below W.heap.size W wr) (fun _ v6 _ => 3 - (intOf v6).toNat)
 case atStart => exact ⟨0, by omega, rfl, rfl, hW0⟩
 case round =>
  obtain ⟨k, hk, rfl, rfl, hbw⟩ := hrel
  have HBw := hid hbw
  clear hW0
  by_cases hk2 : k = 2
  ·subst hk2
   clear hbw
   go_wp2_with fail
   go_ret
   exact ⟨rfl, HBw.out⟩
  ·obtain ⟨j, hj⟩ : ∃ j : Nat, j = k + 1 := ⟨_, rfl⟩
   have hj3 : j < 3 := by omega
   have hj1 : 1 ≤ j := by omega
   have hjI : (k : Int) + 1 = (j : Int) := by omega
   have hle : (j : Int) ≤ 2 := by omega
   have hj3i : (j : Int) < 3 := by omega
   rw [hjI]
   have hbk : wr.heap[b]? = some (ldObj l) := (hbw.block b (lt_of_block Hb.out)).trans Hb.out
   have x0 := (ld_cells hbk).1
   have xj := ld_cell_at hbk hj1 hj3
   obtain ⟨hh, hhh⟩ : ∃ hh, hh = ldHas l (j : Int) := ⟨_, rfl⟩
   rw [← hhh] at xj
   have Hj := hid hj
   have Hbk := hid hbk
   have HHh := hid hhh
   have Hj1 := hid hj1
   have Hj3 := hid hj3
   clear hj hjI hbk hk hk2 hbw hhh
   go_upto_region 7 with fail
   go_cut [7, 8] (fun v7 v8 wx => v8 = .int .i64 1 ∧ Below W.heap.size W wx)
   case first =>
    refine wp_region_held_drew (S := fun W2 => W2.cell? ⟨b, 0, none⟩ = some (.int .u64 l.ep) ∧ W2.cell? ⟨b, 1 + j, none⟩ = some (.int .u64 hh)) (by kernel_rfl) ⟨x0, xj⟩ (fun hHeld => ?_)
    clear x0 xj
    refine ht 0 hHeld ?_
    refine ht 1 hHeld ?_
    refine ht 2 hHeld ?_
    refine ht 3 hHeld ?_
    refine ht 4 hHeld ?_
    refine ht 5 hHeld ?_
    refine ht 6 hHeld ?_
    refine ht 7 hHeld ?_
    refine ht 8 hHeld ?_
    refine ht 9 hHeld ?_
    refine ht 10 hHeld ?_
    refine held_both 11 15 (by kernel_rfl) rfl rfl (fun K hK => ?_) (fun K hK => ?_)
    ·go_simp
     refine (NX.out _ _ _).mono ?_
     rintro e w2 ⟨rfl, hb2⟩
     have hb2 : Below wr.heap.size wr w2 := (Below.refl wr.heap.size wr).drew.trans hb2
     have hk2 := (hb2.block b (lt_of_block Hbk.out)).trans Hbk.out
     have HB2 := hid hb2
     have HK2 := hid hk2
     clear hb2 hk2
     try dsimp only
     refine hK.out _ _ (⟨(ld_cells HK2.out).1, by rw [HHh.out]; exact ld_cell_at HK2.out Hj1.out Hj3.out⟩) (fun hHeld => ?_)
     clear hK K
     try simp only [Act.put, zl0, zl1, zl2]
     refine ht 12 hHeld ?_
     refine ht 13 hHeld ?_
     refine ht 14 hHeld ?_
     refine held_one 15 (by kernel_rfl) rfl (fun K hK => ?_)
     go_simp
     refine hK.out _ _ (⟨(ld_cells (heap_alloc_old HK2.out)).1, by rw [HHh.out]; exact ld_cell_at (heap_alloc_old HK2.out) Hj1.out Hj3.out⟩) (fun hHeld => ?_)
     clear hK K
     try simp only [Act.put, zl0, zl1, zl2]
     refine held_one 16 (by kernel_rfl) rfl (fun K hK => ?_)
     go_simp
     refine hK.out _ _ (⟨(ld_cells (heap_alloc_old HK2.out)).1, by rw [HHh.out]; exact ld_cell_at (heap_alloc_old HK2.out) Hj1.out Hj3.out⟩) (fun hHeld => ?_)
     clear hK K
     try simp only [Act.put, zl0, zl1, zl2]
     refine ht 17 hHeld ?_
     clear hHeld
     refine wpAnyH_done (by kernel_rfl) ?_ _
     go_wp2_with fail
     go_meet
     exact ⟨rfl, (HBw.out.trans (HB2.out.mono HBw.out.size)).alloc (HBw.out.trans (HB2.out.mono HBw.out.size)).size _⟩
    ·go_simp
     have hz1 := heap_alloc_new wr (.cells #[.int .u8 0, .int .u64 0, .int .u64 0, .bool false, .int .i64 0, .slice none 0 0] 52)
     have hbe1 := (Below.refl wr.heap.size wr).alloc (Nat.le_refl _) (.cells #[.int .u8 0, .int .u64 0, .int .u64 0, .bool false, .int .i64 0, .slice none 0 0] 52)
     obtain ⟨M, hM⟩ : ∃ M, M = wr.heap.size := ⟨_, rfl⟩
     obtain ⟨w1, hw1⟩ : ∃ w1, w1 = wr.alloc (.cells #[.int .u8 0, .int .u64 0, .int .u64 0, .bool false, .int .i64 0, .slice none 0 0] 52) := ⟨_, rfl⟩
     rw [← hw1, ← hM]
     rw [← hw1] at hz1 hbe1
     rw [← hM] at hz1
     have hb1 : w1.heap[b]? = some (ldObj l) := (hbe1.block b (lt_of_block Hbk.out)).trans Hbk.out
     have hMb : b ≠ M := fun e => by have := lt_of_block Hbk.out; omega
     have hWM : W.heap.size ≤ M := by rw [hM]; exact HBw.out.size
     have HB1 := hid hb1
     have HZ1 := hid hz1
     have HBE1 := hid (HBw.out.trans (hbe1.mono HBw.out.size))
     have HMb := hid hMb
     have HWM := hid hWM
     clear hb1 hz1 hbe1 hMb hWM hM hw1
     refine hK.out _ _ (⟨(ld_cells HB1.out).1, by rw [HHh.out]; exact ld_cell_at HB1.out Hj1.out Hj3.out⟩) (fun hHeld => ?_)
     clear hK K
     try simp only [Act.put, zl0, zl1, zl2]
     refine held_one 11 (by kernel_rfl) rfl (fun K hK => ?_)
     go_simp
     refine (NX.out _ _ _).mono ?_
     rintro e w2 ⟨rfl, hb2⟩
     have hb2 : Below w1.heap.size w1 w2 := (Below.refl w1.heap.size w1).drew.trans hb2
     have hk2 := (hb2.block b (lt_of_block HB1.out)).trans HB1.out
     have hz2 := (hb2.block M (lt_of_block HZ1.out)).trans HZ1.out
     have f2 : ∀ o, w2.frozen? ⟨M, o, none⟩ = false := fun o => by simp [World.frozen?, hz2]
     obtain ⟨s0, s1, s2, s3, s4, s5, -⟩ := cells6 hz2
     have HB2 := hid (HBE1.out.trans (hb2.mono HBE1.out.size))
     have HK2 := hid hk2
     have HZ2 := hid hz2
     clear hb2 hk2 hz2
     try dsimp only
     refine hK.out _ _ (⟨(ld_cells HK2.out).1, by rw [HHh.out]; exact ld_cell_at HK2.out Hj1.out Hj3.out⟩) (fun hHeld => ?_)
     clear hK K
     try simp only [Act.put, zl0, zl1, zl2]
     refine ht 12 hHeld ?_
     refine ht 13 hHeld ?_
     refine ht 14 hHeld ?_
     refine held_one 16 (by kernel_rfl) rfl (fun K hK => ?_)
     go_simp
     have hf := six_set w2 M (.int .u8 0) (.int .u64 0) (.int .u64 0) (.bool false) (.int .i64 0) (.slice none 0 0) (fun k => k = M) w2 (Frm.refl _ _) (.inl rfl)
     have hb4 := (hf.block b (lt_of_block HK2.out) HMb.out).trans HK2.out
     have HF := hid hf
     have HB4 := hid hb4
     clear hf hb4 s0 s1 s2 s3 s4 s5 f2
     refine hK.out _ _ (⟨(ld_cells HB4.out).1, by rw [HHh.out]; exact ld_cell_at HB4.out Hj1.out Hj3.out⟩) (fun hHeld => ?_)
     clear hK K
     try simp only [Act.put, zl0, zl1, zl2]
     refine ht 17 hHeld ?_
     clear hHeld
     refine wpAnyH_done (by kernel_rfl) ?_ _
     go_wp2_with fail
     go_meet
     have hf := HF.out
     exact ⟨rfl, ⟨hf.os.trans HB2.out.os, hf.tape.trans HB2.out.tape, hf.output.trans HB2.out.output, Nat.le_trans HB2.out.size hf.size, fun y hy => (hf.block y (Nat.lt_of_lt_of_le hy HB2.out.size) (by have := HWM.out; omega)).trans (HB2.out.block y hy)⟩⟩
   case rest =>
    obtain ⟨rfl, hbx⟩ := hcut
    have HBx := hid hbx
    clear hbx x0 xj
    go_wp2_with fail
    go_roundw
    case rel => exact ⟨j, by have := Hj3.out; omega, rfl, rfl, HBx.out⟩
    case measure => (have := Hj.out; (simp [intOf]) <;> omega)
end
end Go.Proofs.YtcpejlmnplkbaaaGreat
