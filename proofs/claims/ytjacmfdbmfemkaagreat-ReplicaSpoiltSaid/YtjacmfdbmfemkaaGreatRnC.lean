/- Replica in memory: Tick of one that leads. -/
import Derived.Test.YtjacmfdbmfemkaaGreatRnB
set_option linter.unusedVariables false
set_option linter.unusedSimpArgs false
namespace Go.Proofs.YtjacmfdbmfemkaaGreat
open Go.RowKit Go.Maps
set_option maxRecDepth 20000
def tickM1 (l : Ld) (p : Pg) (g : Lg) (d : Dsk) (n : Int) : List (Int × List UInt8) := if (nextM p g d l.ep (ldHas l n)).2 = 0 then postsM n (nextM p g d l.ep (ldHas l n)).1 else []
def tickM (l : Ld) (p : Pg) (g : Lg) (d : Dsk) : List (Int × List UInt8) := tickM1 l p g d 1 ++ tickM1 l p g d 2
structure NextOk (l : Ld) (a : PgD) (n : Int) : Prop where
 wf : ShWf (nextM a.p a.g a.d l.ep (ldHas l n)).1
 len : (nextM a.p a.g a.d l.ep (ldHas l n)).1.imgs.length ≤ 1000
 big : ∀ x ∈ (nextM a.p a.g a.d l.ep (ldHas l n)).1.imgs, x.2.length ≤ 1000
theorem below_step {wc w5 : World} {o : Obj} (h : Below (wc.alloc o).heap.size (wc.alloc o) w5) : Below wc.heap.size wc w5 := ((Below.refl wc.heap.size wc).alloc (Nat.le_refl _) o).trans (h.mono (by simp))
theorem ld_cell_at {W : World} {b : Nat} {l : Ld} {T : TypeId} (h : W.heap[b]? = some (.cells (ldCells l) T (0, 0))) {j : Nat} (h1 : 1 ≤ j) (h3 : j < 3) : W.cell? ⟨b, 1 + j, none⟩ = some (.int .u64 (ldHas l (j : Int))) := by
 obtain ⟨-, -, x2, x3, -⟩ := ld_cells h
 rcases (by omega : j = 1 ∨ j = 2) with e | e
 ·subst e; exact x2
 ·subst e; exact x3
section
variable {w W W' : World} {a c : PgD} {X X' : Nat → Prop}
theorem Two.grow {row : Option Nat} (h : Two w W a c X) (hg : W.grownBy W' row) (hr : ∀ k, row = some k → X k) (hw : ∀ k, row = some k → w.heap.size ≤ k) (hx : ∀ k, X' k → X k ∨ W.heap.size ≤ k) (hlt : ∀ k, X' k → k < W'.heap.size) : Two w W' a c X' := by
 obtain ⟨⟨S, T, h1, h2, h3, h4⟩, hb1, hx1⟩ := h
 refine ⟨⟨S, T, h1.keep (fun k hk => hg.block k (h1.lt k hk) (fun e => (h3 k hk).2 (hr k e.symm))), h2.keep (fun k hk => hg.block k (h2.lt k hk) (fun e => h4 k hk (hr k e.symm))), fun k hk => ⟨(h3 k hk).1, fun e => ?_⟩, fun k hk e => ?_⟩, ⟨hg.os.trans hb1.os, hg.tape.trans hb1.tape, hg.output.trans hb1.output, Nat.le_trans hb1.size hg.size, fun k hk => (hg.block k (Nat.lt_of_lt_of_le hk hb1.size) (fun e => by have := hw k e.symm; omega)).trans (hb1.block k hk)⟩, hlt⟩
 ·rcases hx k e with e | e
  ·exact (h3 k hk).2 e
  ·have := h1.lt k hk; omega
 ·rcases hx k e with e | e
  ·exact h4 k hk e
  ·have := h2.lt k hk; omega
theorem Two.turned (h : Two w W a c X) {M : Nat} (hM : X M) (hw : w.heap.size ≤ M) (hf : Frm (fun k => k = M) W W') : Two w W' a c X :=
 h.grow (row := some M) ⟨hf.os, hf.tape, hf.output, hf.size, fun k hk hne => hf.block k hk (fun e => hne (by rw [e]))⟩ (fun k e => by cases e; exact hM) (fun k e => by cases e; exact hw) (fun k hk => .inl hk) (fun k hk => Nat.lt_of_lt_of_le (h.xlt k hk) hf.size)
end
section
variable {w W : World} {a c : PgD} {X : Nat → Prop} {b : Nat} {l : Ld}
set_option maxHeartbeats 16000000 in
set_option maxRecDepth 20000 in
theorem ltick_any (h : Two w W a c X) (hb : W.heap[b]? = some (ldObj l)) (xb : X b) (hok : stOk a.p a.g a.d) (n1 : NextOk l a 1) (n2 : NextOk l a 2) :
  Calls Tryz.prog 27 #[.pointer (some ⟨b, 0, none⟩), .pointer (some ⟨a.pb, 0, none⟩)] W fun e w' => ∃ pv, e = .returned pv ∧ PostRow w' w.heap.size pv (tickM l a.p a.g a.d) ∧ Two w w' a c (fun k => X k ∨ pv.ownBlock = some k) ∧ ∀ k, X k → w'.heap[k]? = W.heap[k]? := by
 obtain ⟨i1, hi1, hy0, hy1, hy2⟩ := info_parts (P := Tryz.prog) (e := 89) (z := .agg #[.int .i64 0, .string ⟨#[]⟩]) (size := 2) (bytes := 24) (by kernel_rfl)
 have N1 := hid n1
 have N2 := hid n2
 have Hok := hid hok
 have XB := hid xb
 have HX := hid (fun k (hk : X k) => h.xlt k hk)
 have Hb := hid hb
 have HWb := hid h.bel
 have h0 : Two w W a c (fun k => X k ∨ (Value.slice none 0 0).ownBlock = some k) := h.add (Below.refl _ _) (fun k hk => hk.elim .inl (fun e => by cases e)) (fun k hk => hk.elim (h.xlt k) (fun e => by cases e))
 have H0 := hid h0
 clear h hb xb hok n1 n2 h0
 go_enter Tryz.func27, Tryz.ntmps27
 go_wp2_with fail
 go_loopw [5, 6] (fun v5 v6 wr => ∃ k : Nat, k ≤ 2 ∧ v6 = .int .i64 ((k : Int) + 1) ∧ PostRow wr w.heap.size v5 (if k = 0 then [] else if k = 1 then tickM1 l a.p a.g a.d 1 else tickM l a.p a.g a.d) ∧ Two w wr a c (fun k => X k ∨ v5.ownBlock = some k) ∧ (∀ k, X k → wr.heap[k]? = W.heap[k]?) ∧ ∀ k, v5.ownBlock = some k → ¬ X k) (fun _ v6 _ => 3 - (intOf v6).toNat)
 case atStart => exact ⟨0, by omega, rfl, by rw [if_pos rfl]; exact World.ownsRow_nil _ _ _ _, H0.out, fun _ _ => rfl, fun k e => by cases e⟩
 case round =>
  obtain ⟨k, hk, rfl, hrow, htw, hkeep, hnX⟩ := hrel
  obtain ⟨R0, hR0⟩ : ∃ R0, R0 = (if k = 0 then [] else if k = 1 then tickM1 l a.p a.g a.d 1 else tickM l a.p a.g a.d) := ⟨_, rfl⟩
  rw [← hR0] at hrow
  obtain ⟨ao5, cap5, rfl, -⟩ := hrow.shape
  by_cases hk2 : k = 2
  ·subst hk2
   have HRow := hid hrow
   have HTw := hid htw
   have HKeep := hid hkeep
   have HR0 := hid hR0
   clear hrow htw hkeep hR0 hnX
   go_wp2_with fail
   go_ret
   have e := HR0.out
   rw [if_neg (by decide), if_neg (by decide)] at e
   rw [← e]
   exact ⟨_, rfl, HRow.out, HTw.out, HKeep.out⟩
  ·obtain ⟨j, hj⟩ : ∃ j : Nat, j = k + 1 := ⟨_, rfl⟩
   have hj3 : j < 3 := by omega
   have hj1 : 1 ≤ j := by omega
   have hjI : (k : Int) + 1 = (j : Int) := by omega
   have hle : (j : Int) ≤ 2 := by omega
   have hj3i : (j : Int) < 3 := by omega
   rw [hjI]
   have hbk : wr.heap[b]? = some (ldObj l) := (hkeep b XB.out).trans Hb.out
   have x0 := (ld_cells hbk).1
   have xj : wr.cell? ⟨b, 1 + j, none⟩ = some (.int .u64 (ldHas l (j : Int))) := by
    obtain ⟨-, -, x2, x3, -⟩ := ld_cells hbk
    rcases (by omega : j = 1 ∨ j = 2) with e | e
    ·subst e; exact x2
    ·subst e; exact x3
   have Hj := hid hj
   have Hjk := hid hjI
   have HRow := hid hrow
   have HTw := hid htw
   have HKeep := hid hkeep
   have HnX := hid hnX
   have HR0 := hid hR0
   have Hbk := hid hbk
   clear hj hjI hrow htw hkeep hR0 hbk hk hk2 hnX
   have NX := fun (W2 : World) (X2 : Nat → Prop) (h2 : Two w W2 a c X2) => tw_next h2 Hok.out l.ep (ldHas l (j : Int))
   obtain ⟨RN, hRN⟩ : ∃ RN, RN = nextM a.p a.g a.d l.ep (ldHas l (j : Int)) := ⟨_, rfl⟩
   simp only [← hRN] at NX
   obtain ⟨⟨kd, ep, kk, fl, pg, im⟩, e0⟩ := RN
   unfold TwGave shipV at NX
   dsimp only at NX
   have NX := hid NX
   have HRN := hid hRN
   clear hRN
   go_upto_region 7 with fail
   obtain ⟨n5, hn5⟩ : ∃ n5, n5 = R0.length := ⟨_, rfl⟩
   have HTw := HTw.out
   have HRow := HRow.out
   have HnX := HnX.out
   rw [← hn5] at HTw HRow HnX ⊢
   have HnX := hid HnX
   have HTw := hid HTw
   have HRow := hid HRow
   have Hn5 := hid hn5
   clear hn5
   go_cut [7, 8] (fun v7 v8 wx => ∃ (M : Nat) (ao2 : Option Addr) (cap2 : Nat), v7 = .pointer (some ⟨M, 0, none⟩) ∧ v8 = .int .i64 e0 ∧ wx.heap[M]? = some (.cells #[.int .u8 kd, .int .u64 ep, .int .u64 kk, .bool fl, .int .i64 pg, .slice ao2 im.length cap2] 25 (0, 0)) ∧ ImgRow wx wr.heap.size (.slice ao2 im.length cap2) im ∧ Two w wx a c (fun k => ((X k ∨ (Value.slice ao5 n5 cap5).ownBlock = some k) ∨ (Value.slice ao2 im.length cap2).ownBlock = some k) ∨ k = M) ∧ (∀ k, X k ∨ (Value.slice ao5 n5 cap5).ownBlock = some k → wx.heap[k]? = wr.heap[k]?))
   case first =>
    refine wp_region_held_drew (S := fun W2 => W2.cell? ⟨b, 0, none⟩ = some (.int .u64 l.ep) ∧ W2.cell? ⟨b, 1 + j, none⟩ = some (.int .u64 (ldHas l (j : Int)))) (by kernel_rfl) ⟨x0, xj⟩ (fun hHeld => ?_)
    clear x0 xj
    have Hj1 := hid hj1
    have Hj3 := hid hj3
    refine held_take (v := ?av0) 0 rfl (by kernel_rfl) (by kernel_rfl) (by kernel_rfl) (fun _ _ _ h => h) (by rfl) hHeld ?ay0 ?ar0
    case ay0 => (intro W hSw; obtain ⟨y0, y1⟩ := hSw; go_simp; with_reducible rfl)
    simp only [Act.put, List.setIfInBounds_toArray, List.set_cons_zero, List.set_cons_succ]
    refine held_take (v := ?av1) 1 rfl (by kernel_rfl) (by kernel_rfl) (by kernel_rfl) (fun _ _ _ h => h) (by rfl) hHeld ?ay1 ?ar1
    case ay1 => (intro W hSw; obtain ⟨y0, y1⟩ := hSw; go_simp; with_reducible rfl)
    simp only [Act.put, List.setIfInBounds_toArray, List.set_cons_zero, List.set_cons_succ]
    refine held_take (v := ?av2) 2 rfl (by kernel_rfl) (by kernel_rfl) (by kernel_rfl) (fun _ _ _ h => h) (by rfl) hHeld ?ay2 ?ar2
    case ay2 => (intro W hSw; obtain ⟨y0, y1⟩ := hSw; go_simp; with_reducible rfl)
    simp only [Act.put, List.setIfInBounds_toArray, List.set_cons_zero, List.set_cons_succ]
    refine held_take (v := ?av3) 3 rfl (by kernel_rfl) (by kernel_rfl) (by kernel_rfl) (fun _ _ _ h => h) (by rfl) hHeld ?ay3 ?ar3
    case ay3 => (intro W hSw; obtain ⟨y0, y1⟩ := hSw; go_simp; with_reducible rfl)
    simp only [Act.put, List.setIfInBounds_toArray, List.set_cons_zero, List.set_cons_succ]
    refine held_take (v := ?av4) 4 rfl (by kernel_rfl) (by kernel_rfl) (by kernel_rfl) (fun _ _ _ h => h) (by rfl) hHeld ?ay4 ?ar4
    case ay4 => (intro W hSw; obtain ⟨y0, y1⟩ := hSw; go_simp; with_reducible rfl)
    simp only [Act.put, List.setIfInBounds_toArray, List.set_cons_zero, List.set_cons_succ]
    refine held_take (v := ?av5) 5 rfl (by kernel_rfl) (by kernel_rfl) (by kernel_rfl) (fun _ _ _ h => h) (by rfl) hHeld ?ay5 ?ar5
    case ay5 => (intro W hSw; obtain ⟨y0, y1⟩ := hSw; go_simp; with_reducible rfl)
    simp only [Act.put, List.setIfInBounds_toArray, List.set_cons_zero, List.set_cons_succ]
    refine held_take (v := ?av6) 6 rfl (by kernel_rfl) (by kernel_rfl) (by kernel_rfl) (fun _ _ _ h => h) (by rfl) hHeld ?ay6 ?ar6
    case ay6 => (intro W hSw; obtain ⟨y0, y1⟩ := hSw; go_simp; with_reducible rfl)
    simp only [Act.put, List.setIfInBounds_toArray, List.set_cons_zero, List.set_cons_succ]
    refine held_take (v := ?av7) 7 rfl (by kernel_rfl) (by kernel_rfl) (by kernel_rfl) (fun _ _ _ h => h) (by rfl) hHeld ?ay7 ?ar7
    case ay7 => (intro W hSw; obtain ⟨y0, y1⟩ := hSw; go_simp; with_reducible rfl)
    simp only [Act.put, List.setIfInBounds_toArray, List.set_cons_zero, List.set_cons_succ]
    refine held_take (v := ?av8) 8 rfl (by kernel_rfl) (by kernel_rfl) (by kernel_rfl) (fun _ _ _ h => h) (by rfl) hHeld ?ay8 ?ar8
    case ay8 => (intro W hSw; obtain ⟨y0, y1⟩ := hSw; go_simp; with_reducible rfl)
    simp only [Act.put, List.setIfInBounds_toArray, List.set_cons_zero, List.set_cons_succ]
    refine held_take (v := ?av9) 9 rfl (by kernel_rfl) (by kernel_rfl) (by kernel_rfl) (fun _ _ _ h => h) (by rfl) hHeld ?ay9 ?ar9
    case ay9 => (intro W hSw; obtain ⟨y0, y1⟩ := hSw; go_simp; with_reducible rfl)
    simp only [Act.put, List.setIfInBounds_toArray, List.set_cons_zero, List.set_cons_succ]
    refine held_take (v := ?av10) 10 rfl (by kernel_rfl) (by kernel_rfl) (by kernel_rfl) (fun _ _ _ h => h) (by rfl) hHeld ?ay10 ?ar10
    case ay10 => (intro W hSw; obtain ⟨y0, y1⟩ := hSw; go_simp; with_reducible rfl)
    simp only [Act.put, List.setIfInBounds_toArray, List.set_cons_zero, List.set_cons_succ]
    refine held_both 11 15 (by kernel_rfl) rfl rfl (fun K hK => ?_) (fun K hK => ?_)
    ·go_simp
     refine (NX.out _ _ (HTw.out.below (Below.refl _ wr).drew)).mono ?_
     rintro e w2 ⟨v, rfl, hr2, ht2, hk2⟩
     obtain ⟨ao2, cap2, rfl, -⟩ := hr2.get
     have hb2 : w2.heap[b]? = some (ldObj l) := (hk2 b (.inl XB.out)).trans Hbk.out
     have HR2 := hid hr2
     have HT2 := hid ht2
     have HK2 := hid hk2
     have HB2 := hid hb2
     clear hr2 ht2 hk2 hb2
     try dsimp only
     refine hK.out _ _ (⟨(ld_cells HB2.out).1, ld_cell_at HB2.out Hj1.out Hj3.out⟩) (fun hHeld => ?_)
     clear hK K
     try simp only [Act.put, List.setIfInBounds_toArray, List.set_cons_zero, List.set_cons_succ]
     refine held_take (v := ?bv12) 12 rfl (by kernel_rfl) (by kernel_rfl) (by kernel_rfl) (fun _ _ _ h => h) (by rfl) hHeld ?by12 ?br12
     case by12 => (intro W hSw; obtain ⟨y0, y1⟩ := hSw; go_simp; with_reducible rfl)
     simp only [Act.put, List.setIfInBounds_toArray, List.set_cons_zero, List.set_cons_succ]
     refine held_take (v := ?bv13) 13 rfl (by kernel_rfl) (by kernel_rfl) (by kernel_rfl) (fun _ _ _ h => h) (by rfl) hHeld ?by13 ?br13
     case by13 => (intro W hSw; obtain ⟨y0, y1⟩ := hSw; go_simp; with_reducible rfl)
     simp only [Act.put, List.setIfInBounds_toArray, List.set_cons_zero, List.set_cons_succ]
     refine held_take (v := ?bv14) 14 rfl (by kernel_rfl) (by kernel_rfl) (by kernel_rfl) (fun _ _ _ h => h) (by rfl) hHeld ?by14 ?br14
     case by14 => (intro W hSw; obtain ⟨y0, y1⟩ := hSw; go_simp; with_reducible rfl)
     simp only [Act.put, List.setIfInBounds_toArray, List.set_cons_zero, List.set_cons_succ]
     refine held_one 15 (by kernel_rfl) rfl (fun K hK => ?_)
     go_simp
     refine hK.out _ _ (⟨(ld_cells (heap_alloc_old HB2.out)).1, ld_cell_at (heap_alloc_old HB2.out) Hj1.out Hj3.out⟩) (fun hHeld => ?_)
     clear hK K
     try simp only [Act.put, List.setIfInBounds_toArray, List.set_cons_zero, List.set_cons_succ]
     refine held_one 16 (by kernel_rfl) rfl (fun K hK => ?_)
     go_simp
     refine hK.out _ _ (⟨(ld_cells (heap_alloc_old HB2.out)).1, ld_cell_at (heap_alloc_old HB2.out) Hj1.out Hj3.out⟩) (fun hHeld => ?_)
     clear hK K
     try simp only [Act.put, List.setIfInBounds_toArray, List.set_cons_zero, List.set_cons_succ]
     refine held_take (v := ?cv17) 17 rfl (by kernel_rfl) (by kernel_rfl) (by kernel_rfl) (fun _ _ _ h => h) (by rfl) hHeld ?cy17 ?cr17
     case cy17 => (intro W hSw; obtain ⟨y0, y1⟩ := hSw; go_simp; with_reducible rfl)
     simp only [Act.put, List.setIfInBounds_toArray, List.set_cons_zero, List.set_cons_succ]
     clear hHeld
     refine wpAnyH_done (by kernel_rfl) ?_ _
     go_wp2_with fail
     go_meet
     have hb3 := (Below.refl w2.heap.size w2).alloc (Nat.le_refl _) (.cells #[.int .u8 kd, .int .u64 ep, .int .u64 kk, .bool fl, .int .i64 pg, .slice ao2 im.length cap2] 25)
     refine ⟨w2.heap.size, ao2, cap2, rfl, rfl, heap_alloc_new _ _, row_keep HR2.out (fun y hy => hb3.block y (row_base HR2.out hy).2), HT2.out.add hb3 (fun y hy => hy.imp id (fun e => Nat.le_of_eq e.symm)) (fun y hy => hy.elim (fun e => Nat.lt_of_lt_of_le (HT2.out.xlt y e) hb3.size) (fun e => by rw [e]; simp)), fun y hy => (hb3.block y (HT2.out.xlt y (.inl hy))).trans (HK2.out y hy)⟩
    ·go_simp
     have hz1 := heap_alloc_new wr (.cells #[.int .u8 0, .int .u64 0, .int .u64 0, .bool false, .int .i64 0, .slice none 0 0] 25)
     have hbe1 := (Below.refl wr.heap.size wr).alloc (Nat.le_refl _) (.cells #[.int .u8 0, .int .u64 0, .int .u64 0, .bool false, .int .i64 0, .slice none 0 0] 25)
     obtain ⟨M, hM⟩ : ∃ M, M = wr.heap.size := ⟨_, rfl⟩
     obtain ⟨w1, hw1⟩ : ∃ w1, w1 = wr.alloc (.cells #[.int .u8 0, .int .u64 0, .int .u64 0, .bool false, .int .i64 0, .slice none 0 0] 25) := ⟨_, rfl⟩
     rw [← hw1, ← hM]
     rw [← hw1] at hz1 hbe1
     rw [← hM] at hz1
     have hb1 : w1.heap[b]? = some (ldObj l) := (hbe1.block b (lt_of_block Hbk.out)).trans Hbk.out
     have ht1 : Two w w1 a c (fun k => (X k ∨ (Value.slice ao5 n5 cap5).ownBlock = some k) ∨ k = M) := HTw.out.add hbe1 (fun y hy => hy.imp id (fun e => by rw [e, hM]; exact Nat.le_refl _)) (fun y hy => hy.elim (fun e => Nat.lt_of_lt_of_le (HTw.out.xlt y e) hbe1.size) (fun e => by rw [e]; exact lt_of_block hz1))
     have hMb : b ≠ M := fun e => by have := lt_of_block Hbk.out; omega
     have hwM : w.heap.size ≤ M := by rw [hM]; exact HTw.out.bel.size
     have HB1 := hid hb1
     have HT1 := hid ht1
     have HZ1 := hid hz1
     have HBE1 := hid hbe1
     have HMb := hid hMb
     have HwM := hid hwM
     have HMe := hid hM
     clear hb1 ht1 hz1 hbe1 hMb hwM hM hw1
     refine hK.out _ _ (⟨(ld_cells HB1.out).1, ld_cell_at HB1.out Hj1.out Hj3.out⟩) (fun hHeld => ?_)
     clear hK K
     try simp only [Act.put, List.setIfInBounds_toArray, List.set_cons_zero, List.set_cons_succ]
     refine held_one 11 (by kernel_rfl) rfl (fun K hK => ?_)
     go_simp
     refine (NX.out _ _ (HT1.out.below (Below.refl _ w1).drew)).mono ?_
     rintro e w2 ⟨v, rfl, hr2, ht2, hk2⟩
     obtain ⟨ao2, cap2, rfl, -⟩ := hr2.get
     have hb2 : w2.heap[b]? = some (ldObj l) := (hk2 b (.inl (.inl XB.out))).trans HB1.out
     have hz2 : w2.heap[M]? = some (.cells #[.int .u8 0, .int .u64 0, .int .u64 0, .bool false, .int .i64 0, .slice none 0 0] 25) := (hk2 M (.inr rfl)).trans HZ1.out
     have f2 : ∀ o, w2.frozen? ⟨M, o, none⟩ = false := fun o => by simp [World.frozen?, hz2]
     obtain ⟨s0, s1, s2, s3, s4, s5, -⟩ := cells6 hz2
     have HR2 := hid hr2
     have HT2 := hid ht2
     have HK2 := hid hk2
     have HB2 := hid hb2
     have HZ2 := hid hz2
     clear hr2 ht2 hk2 hb2 hz2
     try dsimp only
     refine hK.out _ _ (⟨(ld_cells HB2.out).1, ld_cell_at HB2.out Hj1.out Hj3.out⟩) (fun hHeld => ?_)
     clear hK K
     try simp only [Act.put, List.setIfInBounds_toArray, List.set_cons_zero, List.set_cons_succ]
     refine held_take (v := ?dv12) 12 rfl (by kernel_rfl) (by kernel_rfl) (by kernel_rfl) (fun _ _ _ h => h) (by rfl) hHeld ?dy12 ?dr12
     case dy12 => (intro W hSw; obtain ⟨y0, y1⟩ := hSw; go_simp; with_reducible rfl)
     simp only [Act.put, List.setIfInBounds_toArray, List.set_cons_zero, List.set_cons_succ]
     refine held_take (v := ?dv13) 13 rfl (by kernel_rfl) (by kernel_rfl) (by kernel_rfl) (fun _ _ _ h => h) (by rfl) hHeld ?dy13 ?dr13
     case dy13 => (intro W hSw; obtain ⟨y0, y1⟩ := hSw; go_simp; with_reducible rfl)
     simp only [Act.put, List.setIfInBounds_toArray, List.set_cons_zero, List.set_cons_succ]
     refine held_take (v := ?dv14) 14 rfl (by kernel_rfl) (by kernel_rfl) (by kernel_rfl) (fun _ _ _ h => h) (by rfl) hHeld ?dy14 ?dr14
     case dy14 => (intro W hSw; obtain ⟨y0, y1⟩ := hSw; go_simp; with_reducible rfl)
     simp only [Act.put, List.setIfInBounds_toArray, List.set_cons_zero, List.set_cons_succ]
     refine held_one 16 (by kernel_rfl) rfl (fun K hK => ?_)
     go_simp
     have hf := six_set w2 M (.int .u8 kd) (.int .u64 ep) (.int .u64 kk) (.bool fl) (.int .i64 pg) (.slice ao2 im.length cap2) (fun k => k = M) w2 (Frm.refl _ _) (.inl rfl)
     have hm4 := heap_set6 HZ2.out (.int .u8 kd) (.int .u64 ep) (.int .u64 kk) (.bool fl) (.int .i64 pg) (.slice ao2 im.length cap2)
     have hb4 := (hf.block b (lt_of_block HB2.out) HMb.out).trans HB2.out
     have HF := hid hf
     have HM4 := hid hm4
     have HB4 := hid hb4
     clear hf hm4 hb4 s0 s1 s2 s3 s4 s5 f2
     refine hK.out _ _ (⟨(ld_cells HB4.out).1, ld_cell_at HB4.out Hj1.out Hj3.out⟩) (fun hHeld => ?_)
     clear hK K
     try simp only [Act.put, List.setIfInBounds_toArray, List.set_cons_zero, List.set_cons_succ]
     refine held_take (v := ?ev17) 17 rfl (by kernel_rfl) (by kernel_rfl) (by kernel_rfl) (fun _ _ _ h => h) (by rfl) hHeld ?ey17 ?er17
     case ey17 => (intro W hSw; obtain ⟨y0, y1⟩ := hSw; go_simp; with_reducible rfl)
     simp only [Act.put, List.setIfInBounds_toArray, List.set_cons_zero, List.set_cons_succ]
     clear hHeld
     refine wpAnyH_done (by kernel_rfl) ?_ _
     go_wp2_with fail
     go_meet
     have hlt : ∀ y, X y ∨ (Value.slice ao5 n5 cap5).ownBlock = some y → y < wr.heap.size := fun y hy => HTw.out.xlt y hy
     have hMe := HMe.out
     have h1 := HBE1.out.size
     refine ⟨M, ao2, cap2, rfl, rfl, HM4.out, row_keep (HR2.out.lower h1) (fun y hy => HF.out.block y (row_base HR2.out hy).2 (fun e => ?_)), (HT2.out.turned (.inl (.inr rfl)) HwM.out HF.out).add (Below.refl _ _) (fun y hy => ?_) (fun y hy => ?_), fun y hy => ?_⟩
     ·have h2 := (row_base HR2.out hy).1
      have h3 : w1.drew.heap.size = w1.heap.size := rfl
      have h4 := lt_of_block HZ1.out
      omega
     ·rcases hy with (hy | hy) | hy
      ·exact .inl (.inl (.inl hy))
      ·exact .inl (.inr hy)
      ·exact .inl (.inl (.inr hy))
     ·refine (HT2.out.turned (.inl (.inr rfl)) HwM.out HF.out).xlt y ?_
      rcases hy with (hy | hy) | hy
      ·exact .inl (.inl hy)
      ·exact .inr hy
      ·exact .inl (.inr hy)
     ·have h2 := hlt y hy
      have h3 := HK2.out y (.inl hy)
      have h4 : w2.heap[y]? = w1.heap[y]? := h3
      have h5 := HT2.out.xlt y (.inl (.inl hy))
      exact (HF.out.block y h5 (by omega)).trans (h4.trans (HBE1.out.block y h2))
   case rest =>
    obtain ⟨M, ao2, cap2, rfl, rfl, hm, hr, ht, hkk⟩ := hcut
    have HM := hid hm
    have HR := hid hr
    have HT := hid ht
    have HKK := hid hkk
    clear hm hr ht hkk x0 xj
    have hstep : (if j = 0 then [] else if j = 1 then tickM1 l a.p a.g a.d 1 else tickM l a.p a.g a.d) = R0 ++ tickM1 l a.p a.g a.d (j : Int) := by
     have e := HR0.out
     have e1 := Hj.out
     rw [e]
     rcases (by omega : k = 0 ∨ k = 1) with e2 | e2
     ·subst e2 e1; rfl
     ·subst e2 e1; rfl
    have hnx : tickM1 l a.p a.g a.d (j : Int) = if e0 = 0 then postsM j ⟨kd, ep, kk, fl, pg, im⟩ else [] := by
     unfold tickM1
     rw [← HRN.out]
    have hN : NextOk l a (j : Int) := by
     rcases (by omega : j = 1 ∨ j = 2) with e2 | e2
     ·subst e2; exact N1.out
     ·subst e2; exact N2.out
    have hN1 := hN.wf
    have hN2 := hN.len
    have hN3 := hN.big
    rw [← HRN.out] at hN1 hN2 hN3
    dsimp only at hN1 hN2 hN3
    have Hstep := hid hstep
    have HN1 := hid hN1
    have HN2 := hid hN2
    have HN3 := hid hN3
    clear hstep hN hN1 hN2 hN3
    by_cases he : e0 = 0
    ·rw [if_pos he] at hnx
     have Hnx := hid hnx
     subst he
     clear hnx
     have PO := fun (W2 : World) (q : Nat) (hi : ShIn W2 ⟨kd, ep, kk, fl, pg, im⟩ (.slice ao2 im.length cap2)) (hq : W2.heap[q]? = some (.cells #[.int .u8 kd, .int .u64 ep, .int .u64 kk, .bool fl, .int .i64 pg, .slice ao2 im.length cap2] 25 (0, 0))) => posts_any (j : Int) ⟨kd, ep, kk, fl, pg, im⟩ _ hi hq
     have PO := hid PO
     obtain ⟨s0, s1, s2, s3, s4, s5, -⟩ := cells6 HM.out
     have hsh : ∀ obj, ShIn (wc.alloc obj) ⟨kd, ep, kk, fl, pg, im⟩ (.slice ao2 im.length cap2) := fun obj => (ShOk.made (m := ⟨kd, ep, kk, fl, pg, im⟩) (w := w) (X := fun k => (Value.slice ao2 im.length cap2).ownBlock = some k) (row_keep HR.out (fun y hy => Below.heap_alloc wc obj y (row_base HR.out hy).2)) (fun y hy => hy) HN2.out HN3.out HN1.out).in'
     have hrw : ∀ w5 : World, Below (wc.heap.size) wc w5 → PostRow w5 w.heap.size (.slice ao5 n5 cap5) R0 := fun w5 hb => row_keep HRow.out (fun y hy => (hb.block y (HT.out.xlt y (.inl (.inl (.inr hy))))).trans (HKK.out y (.inr hy)))
     have HSH := hid hsh
     have HRW := hid hrw
     have hwc := HT.out.bel.size
     have hn5 : n5 ≤ 2 := by
      have e := HR0.out
      have e1 := Hj.out
      rw [Hn5.out, e]
      rcases (by omega : k = 0 ∨ k = 1) with e2 | e2
      ·subst e2; simp
      ·subst e2
       rw [if_neg (by decide), if_pos rfl]
       unfold tickM1 postsM
       split
       ·split <;> simp
       ·simp
     have hpm : (postsM (j : Int) ⟨kd, ep, kk, fl, pg, im⟩).length ≤ 1 := by unfold postsM; split <;> simp
     obtain ⟨PM, hPM⟩ : ∃ PM, PM = postsM (j : Int) ⟨kd, ep, kk, fl, pg, im⟩ := ⟨_, rfl⟩
     rw [← hPM] at hpm
     have HPM := hid hPM
     clear hsh hrw hPM
     go_wp2_with (first
      | (go_at_call 56; refine (PO.out _ _ (HSH.out _) (heap_alloc_new _ _)).mono ?_; rintro e w5 ⟨pv, rfl, hp5, hb5⟩; have HP5 := hid hp5; have HB5 := hid hb5; clear hp5 hb5)
      | (at_builtin; refine wpList_append_rows_at rfl _ _ 50 rfl w.heap.size (wc.heap.size + 1) 89 i1 _ 2 24 Tryz.underlying50 hi1 hy0 hy1 hy2 rfl (by omega) (.slice ao5 n5 cap5) n5 (postsC R0) rfl (by have := HRW.out w5 (below_step HB5.out); unfold PostRow at this; rw [← Hn5.out] at this; exact this) pv PM.length (postsC PM) rfl (by have := HP5.out; rw [← HPM.out] at this; unfold PostRow at this; simpa using this) (postsC_one _) (by unfold maxLen; omega) (by omega) (by have := HB5.out.size; simp at this; omega) ?_; intro v7' w10 hown hgrow hat; have HOwn10 := hid hown; have HGrow10 := hid hgrow; have HAt10 := hid hat; clear hown hgrow hat)
      | go_in)
     go_roundw
     case rel =>
      have hb5 := below_step HB5.out
      have ht5 := HT.out.below hb5
      have hg := HGrow10.out
      have hw5 : ∀ y, X y → y < w5.heap.size := fun y hy => ht5.xlt y (.inl (.inl (.inl hy)))
      refine ⟨j, by omega, rfl, ?_, ht5.grow hg (fun y e => .inl (.inl (.inr e))) (fun y e => (row_base HRow.out e).1) (fun y hy => ?_) (fun y hy => ?_), fun y hy => ?_, fun y hy hX => ?_⟩
      ·rw [Hstep.out, Hnx.out, ← HPM.out]
       unfold PostRow
       rw [List.length_append, postsC_app, ← Hn5.out]
       exact HOwn10.out
      ·rcases hy with hy | hy
       ·exact .inl (.inl (.inl (.inl hy)))
       ·rcases HAt10.out with e | e
        ·exact .inl (.inl (.inl (.inr (e ▸ hy))))
        ·rw [e] at hy
         cases hy
         exact .inr (Nat.le_refl _)
      ·rcases hy with hy | hy
       ·exact Nat.lt_of_lt_of_le (hw5 y hy) hg.size
       ·exact (row_base HOwn10.out hy).2
      ·refine (hg.block y (hw5 y hy) (fun e => HnX.out y e.symm hy)).trans ?_
       exact (hb5.block y (HT.out.xlt y (.inl (.inl (.inl hy))))).trans ((HKK.out y (.inl hy)).trans (HKeep.out y hy))
      ·rcases HAt10.out with e | e
       ·exact HnX.out y (e ▸ hy) hX
       ·rw [e] at hy
        cases hy
        exact Nat.lt_irrefl _ (hw5 _ hX)
     case measure => (have := Hjk.out; (simp [intOf]) <;> omega)
    ·rw [if_neg he] at hnx
     have Hnx := hid hnx
     have c1 : (e0 == 0) = false := by simp [he]
     clear he hnx
     go_wp2_with fail
     go_roundw
     case rel =>
      refine ⟨j, by omega, rfl, ?_, HT.out.add (Below.refl _ _) (fun y hy => .inl (.inl (.inl hy))) (fun y hy => HT.out.xlt y (.inl (.inl hy))), fun y hy => (HKK.out y (.inl hy)).trans (HKeep.out y hy), fun y hy => HnX.out y hy⟩
      rw [Hstep.out, Hnx.out, List.append_nil]
      exact row_keep HRow.out (fun y hy => HKK.out y (.inr hy))
     case measure => (have := Hjk.out; (simp [intOf]) <;> omega)
end
end Go.Proofs.YtjacmfdbmfemkaaGreat
