/- The reference's Cut. -/
import Derived.Test.YtfkcmgbpgefnnaaGreatRgF
set_option linter.unusedVariables false
set_option linter.unusedSimpArgs false
namespace Go.Proofs.YtfkcmgbpgefnnaaGreat.Rf
open Go.RowKit Go.Maps
set_option maxRecDepth 20000
section
variable {w w' : World} {b : Nat} {F : Foot} {d d' : Dsk} {nv sv : Nat → Value} {lv av : Value}
theorem RefMem.file_now (h : RefMem w b F d nv sv lv av) {k : Nat} (hk : k < 8) : w.cell? ⟨b, k, none⟩ = some (nv k) := (h.cell k).trans (rnow_cell d nv sv lv av hk)
theorem RefMem.file_sure (h : RefMem w b F d nv sv lv av) {k : Nat} (hk : k < 8) : w.cell? ⟨b, 8 + k, none⟩ = some (sv k) := (h.cell (8 + k)).trans (rsure_cell d nv sv lv av hk)
theorem RefMem.form_now (h : RefMem w b F d nv sv lv av) {k : Nat} (hk : k < 8) : ∃ g n c, nv k = .slice g n c := by
 rcases row_form (h.now k hk) with ⟨h1, _⟩ | ⟨g, cap, h1⟩ <;> exact ⟨_, _, _, h1⟩
theorem RefMem.form_sure (h : RefMem w b F d nv sv lv av) {k : Nat} (hk : k < 8) : ∃ g n c, sv k = .slice g n c := by
 rcases row_form (h.sure k hk) with ⟨h1, _⟩ | ⟨g, cap, h1⟩ <;> exact ⟨_, _, _, h1⟩
theorem RefMem.row_ne (h : RefMem w b F d nv sv lv av) : lv.ownBlock ≠ some b := fun e => by
 obtain ⟨cur, hc⟩ := row_type h.row e
 rw [h.blk] at hc
 simp at hc
theorem RefMem.arm_ne (h : RefMem w b F d nv sv lv av) : av.ownBlock ≠ some b := fun e => by
 obtain ⟨ra, hr, -⟩ := h.arm
 obtain ⟨cur, hc⟩ := row_type hr e
 rw [h.blk] at hc
 simp at hc
theorem RefMem.write_now (h : RefMem w b F d nv sv lv av) {k : Nat} (hk : k < 8) (hb : Below w.heap.size w w') {v : Value} {l : List Sec} (hr : FileR w' w.heap.size v l) (h1 : l.length ≤ 8192) (h2 : ∀ s ∈ l, s.length = 64) :
  ∃ F', RefMem (w'.setCell ⟨b, k, none⟩ v) b F' { d with now := put d.now k l } (put nv k v) sv lv av ∧ FootStep F F' w (w'.setCell ⟨b, k, none⟩ v) := by
 have hblk := zd ((hb.block b (zc h.blk)).trans h.blk) k v
 rw [rset_now d nv sv lv av hk] at hblk
 refine h.update (d' := { d with now := put d.now k l }) hb (cell_frm (w := w') (b := b) (o := k) v) hblk (fun f hf => ?_) (fun f hf => .inl ⟨rfl, rfl⟩) (.inl ⟨rfl, rfl⟩) (.inl ⟨rfl, rfl, Nat.le_refl _⟩) ⟨fun f hf => ?_, h.ok.sl, fun f hf => ?_, h.ok.ss, h.ok.lo, h.ok.op0⟩
 ·by_cases e : f = k
  ·subst e; simp only [put_same]; exact .inr (.inr hr)
  ·simp only [put_other _ _ e]; exact .inl ⟨trivial, trivial⟩
 ·by_cases e : f = k
  ·subst e; simp only [put_same]; exact h1
  ·simp only [put_other _ _ e]; exact h.ok.nl f hf
 ·by_cases e : f = k
  ·subst e; simp only [put_same]; exact h2
  ·simp only [put_other _ _ e]; exact h.ok.ns f hf
theorem RefMem.write_sure (h : RefMem w b F d nv sv lv av) {k : Nat} (hk : k < 8) (hb : Below w.heap.size w w') {v : Value} {l : List Sec} (hr : FileR w' w.heap.size v l) (h1 : l.length ≤ 8192) (h2 : ∀ s ∈ l, s.length = 64) :
  ∃ F', RefMem (w'.setCell ⟨b, 8 + k, none⟩ v) b F' { d with sure := put d.sure k l } nv (put sv k v) lv av ∧ FootStep F F' w (w'.setCell ⟨b, 8 + k, none⟩ v) := by
 have hblk := zd ((hb.block b (zc h.blk)).trans h.blk) (8 + k) v
 rw [rset_sure d nv sv lv av hk] at hblk
 refine h.update (d' := { d with sure := put d.sure k l }) hb (cell_frm (w := w') (b := b) (o := 8 + k) v) hblk (fun f hf => .inl ⟨rfl, rfl⟩) (fun f hf => ?_) (.inl ⟨rfl, rfl⟩) (.inl ⟨rfl, rfl, Nat.le_refl _⟩) ⟨h.ok.nl, fun f hf => ?_, h.ok.ns, fun f hf => ?_, h.ok.lo, h.ok.op0⟩
 ·by_cases e : f = k
  ·subst e; simp only [put_same]; exact .inr (.inr hr)
  ·simp only [put_other _ _ e]; exact .inl ⟨trivial, trivial⟩
 ·by_cases e : f = k
  ·subst e; simp only [put_same]; exact h1
  ·simp only [put_other _ _ e]; exact h.ok.sl f hf
 ·by_cases e : f = k
  ·subst e; simp only [put_same]; exact h2
  ·simp only [put_other _ _ e]; exact h.ok.ss f hf
theorem RefMem.push (h : RefMem w b F d nv sv lv av) {w2 w3 : World} {c : Chg} {g cap : Nat} (hb : Below w.heap.size w w2) (hrow : w3.ownsRow 0 106 4 (.slice (some ⟨g, 0, none⟩) (d.loose.length + 1) cap) (d.loose.length + 1) (rchgs d.loose ++ rchgCells c))
  (hg : w2.grownBy w3 lv.ownBlock) (hat : lv.ownBlock = some g ∨ g = w2.heap.size) (hlt : g < w3.heap.size) (hc : c.file < 8 ∧ c.at_ ≤ 8192 ∧ c.bytes.length = 64 ∧ (c.cut = false → c.at_ < 8192)) :
  RefMem (w3.setCell ⟨b, 16, none⟩ (.slice (some ⟨g, 0, none⟩) (d.loose.length + 1) cap)) b (F.row g) { d with loose := d.loose ++ [c] } nv sv (.slice (some ⟨g, 0, none⟩) (d.loose.length + 1) cap) av ∧
   FootStep F (F.row g) w (w3.setCell ⟨b, 16, none⟩ (.slice (some ⟨g, 0, none⟩) (d.loose.length + 1) cap)) := by
 have old2 : ∀ k, k < w.heap.size → lv.ownBlock ≠ some k → w3.heap[k]? = w.heap[k]? := fun k hk hne => (hg.block k (Nat.lt_of_lt_of_le hk hb.size) (fun e => hne e.symm)).trans (hb.block k hk)
 have old : ∀ k, k < w.heap.size → k ≠ b → lv.ownBlock ≠ some k → (w3.setCell ⟨b, 16, none⟩ (.slice (some ⟨g, 0, none⟩) (d.loose.length + 1) cap)).heap[k]? = w.heap[k]? := fun k hk hnb hne => by
  rw [Below.heap_setCell _ ⟨b, 16, none⟩ _ k hnb, old2 k hk hne]
 have hz : (w3.setCell ⟨b, 16, none⟩ (.slice (some ⟨g, 0, none⟩) (d.loose.length + 1) cap)).heap.size = w3.heap.size := by simp
 have hsz : w.heap.size ≤ w3.heap.size := Nat.le_trans hb.size hg.size
 have hblt := zc h.blk
 have lvb := h.row_ne
 have lvs : ∀ k, F.sh k → lv.ownBlock ≠ some k := fun k hk e => h.apart k (h.rown k e) hk
 have nb : ∀ k, F.sh k → k ≠ b := fun k hs e => h.apart k (e ▸ h.bown) hs
 have lva : ∀ k, av.ownBlock = some k → lv.ownBlock ≠ some k := fun k e1 e2 => by
  obtain ⟨ra, hr, -⟩ := h.arm
  exact rows_apart h.row hr (by decide) e2 e1
 have gown : F.own g ∨ w.heap.size ≤ g := hat.elim (fun e => .inl (h.rown g e)) (fun e => .inr (by rw [e]; exact hb.size))
 have hblk := zd ((old2 b hblt lvb).trans h.blk) 16 (.slice (some ⟨g, 0, none⟩) (d.loose.length + 1) cap)
 have gb : g ≠ b := by
  obtain ⟨cur, hcur⟩ := row_type hrow (g := g) rfl
  intro e
  rw [e, (old2 b hblt lvb).trans h.blk] at hcur
  simp at hcur
 refine ⟨⟨hblk, fun i hi => row_keep (h.now i hi) fun x hx => old x (h.slt x (h.nsh i hi x hx)) (nb x (h.nsh i hi x hx)) (lvs x (h.nsh i hi x hx)),
  fun i hi => row_keep (h.sure i hi) fun x hx => old x (h.slt x (h.ssh i hi x hx)) (nb x (h.ssh i hi x hx)) (lvs x (h.ssh i hi x hx)), h.nsh, h.ssh, ?_, fun k hk => ?_, h.arm.keep (fun x hx => old x (h.olt x (h.aown x hx)) (fun e => h.arm_ne (e ▸ hx)) (lva x hx)), fun x hx => .inl (h.aown x hx), .inl h.bown, ?_, ?_, fun k hk => by rw [hz]; exact Nat.lt_of_lt_of_le (h.slt k hk) hsz, ?_⟩, ?_, ?_, fun k hk => .inl hk⟩
 ·simp only [List.length_append, List.length_cons, List.length_nil, Nat.zero_add, rchgs_snoc]
  exact row_keep hrow fun k hk => by cases hk; exact Below.heap_setCell _ ⟨b, 16, none⟩ _ g gb
 ·cases hk
  exact .inr rfl
 ·rintro k (h1 | rfl) h2
  ·exact h.apart k h1 h2
  ·rcases gown with h3 | h3
   ·exact h.apart k h3 h2
   ·have := h.slt k h2
    omega
 ·rintro k (h1 | rfl)
  ·rw [hz]; exact Nat.lt_of_lt_of_le (h.olt k h1) hsz
  ·rw [hz]; exact hlt
 ·refine ⟨h.ok.nl, h.ok.sl, h.ok.ns, h.ok.ss, fun x hx => ?_, h.ok.op0⟩
  rcases List.mem_append.1 hx with hx | hx
  ·exact h.ok.lo x hx
  ·obtain rfl : x = c := by simpa using hx
   exact hc
 ·have f1 : Frm F.own w w3 := ⟨hg.os.trans hb.os, hg.tape.trans hb.tape, hg.output.trans hb.output, hsz, fun k hk hne => old2 k hk (fun e => hne (h.rown k e))⟩
  exact f1.setCell (p := ⟨b, 16, none⟩) (.inl h.bown) _
 ·rintro k (h1 | rfl)
  ·exact .inl h1
  ·exact gown
end
section
variable {w : World} {b : Nat} {F : Foot} {d : Dsk}
set_option maxHeartbeats 2000000 in
set_option maxRecDepth 100000 in
theorem rcut_main (h : RefAt w b F d) (k n : Nat) (hs : d.Small 1099511627776) (hk : k < 8) (ho : d.off = false) (hn : n ≤ (d.now k).length) (hm : (meetsM d).1 = 0) :
  Calls Tryz.prog 53 #[.pointer (some ⟨b, 0, none⟩), .int .i64 (k : Int), .int .i64 (n : Int)] w fun e w' => e = .returned (.int .i64 0) ∧ RDid w b F (applyM (meetsM d).2 ⟨k, n, true, nought⟩) w' := by
 have M := rmeets_any h hs
 rw [hm] at M
 obtain ⟨d2, hd2⟩ : ∃ d2, d2 = (meetsM d).2 := ⟨_, rfl⟩
 rw [← hd2] at M ⊢
 have e1 : d2.loose = d.loose := by rw [hd2]; rfl
 have HS2 := hid (show d2.loose.length ≤ 1099511627776 by rw [e1]; exact hs.loose)
 have M := hid M
 obtain ⟨nv0, sv0, lv0, av0, h0⟩ := h
 have c20 := h0.five.2.2.2.2
 rw [ho] at c20
 obtain ⟨ga, cap, -, cn, -⟩ := h0.file hk
 have hlen := h0.ok.nl k hk
 have hn8 : n ≤ 8192 := by omega
 have hin := in_any (k : Int)
 rw [in_true ⟨by omega, by omega⟩] at hin
 have IN := hid hin
 have hk8' : (k : Int) < 8 := by omega
 obtain ⟨zn, hzn⟩ : ∃ zn, zn = (d.now k).length := ⟨_, rfl⟩
 rw [← hzn] at cn hn
 obtain ⟨z, hz⟩ : ∃ z : Int, (zn : Int) = z := ⟨_, rfl⟩
 have t1 : decide ((n : Int) < 0) = false := by simp
 have t2 : decide (z < (n : Int)) = false := by simp only [decide_eq_false_iff_not]; omega
 clear hd2 hm e1 hs h0 hin hzn hn hlen
 go_enter Tryz.func53, Tryz.ntmps53
 go_upto_region 10 with (first | (go_at_call 83; refine (IN.out _).mono ?_; rintro e w1 ⟨rfl, rfl⟩) | (go_at_call 84; refine (M.out).mono ?_; rintro e w1' ⟨rfl, hd2⟩) | go_in)
 obtain ⟨F2, ⟨nv, sv, lv, av, hmem⟩, hst⟩ := hd2
 have HM0 := hid hmem
 have HST0 := hid hst
 clear hmem hst
 go_upto_region 11 with fail
 obtain ⟨c, hc⟩ : ∃ c : Chg, c = ⟨k, n, true, nought⟩ := ⟨_, rfl⟩
 obtain ⟨w2, hw2⟩ : ∃ w2, w2 = w1'.alloc (.cells (rchgCells c).toArray 106) := ⟨_, rfl⟩
 have hw2' : w2 = w1'.alloc (.cells #[.int .i64 (k : Int), .int .i64 (n : Int), .bool true, .string ⟨#[]⟩] 106) := by rw [hw2, hc]; rfl
 obtain ⟨B, hB⟩ : ∃ B, B = w1'.heap.size := ⟨_, rfl⟩
 rw [← hw2', ← hB]
 have hb2 : Below w1'.heap.size w1' w2 := by rw [hw2]; exact (Below.refl _ _).alloc (Nat.le_refl _) _
 have HM := hid (HM0.out.keep (w' := w2) (fun x hx => hb2.block x (hx.elim (HM0.out.olt x) (HM0.out.slt x))) hb2.size)
 have HST := hid (HST0.out.trans (footstep_below (F := F2) hb2))
 have HB := hid (show w2.heap[B]? = some (.cells (rchgCells c).toArray 106 (0, 0)) by rw [hw2, hB]; exact ze _ _)
 have HBb := hid (show B ≠ b by have := zc HM0.out.blk; omega)
 have HLB := hid (show ∀ g, lv.ownBlock = some g → g ≠ B from fun g hg => by have := HM0.out.olt g (HM0.out.rown g hg); omega)
 have HC := hid (show c.file = k ∧ c.at_ ≤ 8192 ∧ c.bytes.length = 64 ∧ (c.cut = false → c.at_ < 8192) by rw [hc]; exact ⟨rfl, hn8, rfl, fun h => by cases h⟩)
 have Hc := hid hc
 clear hc hw2 hw2' hB hb2
 have n0 := HM.out.file_now hk
 obtain ⟨gk, nk, ck, hnk⟩ := HM.out.form_now hk
 have hdoes := rdoes_any (nv k) (d2.now k) c w2.drew (HM.out.now k hk) (HM.out.ok.nl k hk) HC.out.2.1 HC.out.2.2.2
 rw [hnk] at n0 hdoes
 have Hdoes := hid hdoes
 have hk8 : (k : Int) < 8 := by omega
 clear hnk hdoes
 refine wp_region_held_drew (S := fun W => W.heap[B]? = some (.cells (rchgCells c).toArray 106 (0, 0))) (by kernel_rfl) (show w2.drew.heap[B]? = _ from HB.out) (fun hHeld => ?_)
 refine ht 0 hHeld ?_
 refine ht 1 hHeld ?_
 refine ht 2 hHeld ?_
 refine ht 3 hHeld ?_
 refine ht 4 hHeld ?_
 refine ht 5 hHeld ?_
 refine ht 6 hHeld ?_
 refine held_take (v := .agg (rchgCells c).toArray) 8 rfl (by kernel_rfl) (by kernel_rfl) (by kernel_rfl) (fun _ _ _ h => h) (by rfl) hHeld (fun W hSw => exec_load rfl rfl (run_loadAt_mid W _ _ _ _ _ (range_whole hSw) Tryz.underlying106 rfl (by kernel_rfl))) ?_
 simp only [Act.put, zl0, zl1, zl2]
 refine ht 10 hHeld ?_
 refine ht 11 hHeld ?_
 refine held_one 7 (by kernel_rfl) rfl (fun K hK => ?_)
 go_simp
 refine hK.out _ _ (show w2.drew.heap[B]? = _ from HB.out) (fun hHeld => ?_)
 clear hK K
 try simp only [Act.put, zl0, zl1, zl2]
 clear n0
 refine held_one 9 (by kernel_rfl) rfl (fun K hK => ?_)
 go_simp
 refine (Hdoes.out).mono ?_
 rintro e w4 ⟨v4, rfl, hf4, hb4⟩
 have Hb4 := hid (below_undrew hb4)
 have Hf4 := hid (show FileR w4 w2.heap.size v4 (doesM (d2.now k) c) from hf4)
 have HB4 := hid ((Hb4.out.block B (zc HB.out)).trans HB.out)
 obtain ⟨g4, n4, c4, rfl⟩ : ∃ g n cc, v4 = .slice g n cc := (by rcases row_form hf4 with ⟨h1, _⟩ | ⟨g, cap, h1⟩ <;> exact ⟨_, _, _, h1⟩)
 clear hf4 hb4 Hdoes
 try dsimp only
 refine hK.out _ _ (HB4.out) (fun hHeld => ?_)
 clear hK K
 try simp only [Act.put, zl0, zl1, zl2]
 refine ht 12 hHeld ?_
 have hm4 := HM.out.keep (w' := w4) (fun x hx => Hb4.out.block x (hx.elim (HM.out.olt x) (HM.out.slt x))) Hb4.out.size
 have a0 := hm4.file_now hk
 have af0 := hm4.free k
 obtain ⟨ga0, na0, ca0, hna0⟩ := hm4.form_now hk
 rw [hna0] at a0
 clear hm4 hna0
 obtain ⟨F5, hm5, hst5⟩ := HM.out.write_now hk Hb4.out Hf4.out (does_len (HM.out.ok.nl k hk) HC.out.2.2.2) (does_sec (HM.out.ok.ns k hk) HC.out.2.2.1)
 have hB5 := one_other (w := w4) HB4.out (b := b) HBb.out k (.slice g4 n4 c4)
 have HM5 := hid hm5
 have HST5 := hid hst5
 have HB5 := hid hB5
 clear hm5 hst5 hB5
 refine held_one 13 (by kernel_rfl) rfl (fun K hK => ?_)
 go_simp
 refine hK.out _ _ (HB5.out) (fun hHeld => ?_)
 clear hK K
 try simp only [Act.put, zl0, zl1, zl2]
 refine wpAnyH_done (by kernel_rfl) ?_ _
 clear a0 af0
 obtain ⟨w5, hw5⟩ : ∃ w5, w5 = w4.setCell ⟨b, k, none⟩ (.slice g4 n4 c4) := ⟨_, rfl⟩
 rw [← hw5] at HM5 HST5 HB5 ⊢
 clear hw5 hHeld
 go_upto_region 12 with fail
 obtain ⟨a16, -, -, -, -⟩ := HM5.out.five
 have af := HM5.out.free 16
 refine wp_region_held_drew (S := fun W => W.heap[B]? = some (.cells (rchgCells c).toArray 106 (0, 0))) (by kernel_rfl) (show w5.drew.heap[B]? = _ from HB5.out) (fun hHeld => ?_)
 refine ht 0 hHeld ?_
 refine ht 1 hHeld ?_
 refine ht 2 hHeld ?_
 refine ht 3 hHeld ?_
 refine held_take (v := .agg (rchgCells c).toArray) 5 rfl (by kernel_rfl) (by kernel_rfl) (by kernel_rfl) (fun _ _ _ h => h) (by rfl) hHeld (fun W hSw => exec_load rfl rfl (run_loadAt_mid W _ _ _ _ _ (range_whole hSw) Tryz.underlying106 rfl (by kernel_rfl))) ?_
 simp only [Act.put, zl0, zl1, zl2]
 have a16a : (w5.drew.alloc (.cells (rchgCells c).toArray 106)).cell? ⟨b, 16, none⟩ = some lv := (za (zh (w := w5.drew) HM5.out.blk) 16).trans rfl
 have a16b : (w5.alloc (.cells (rchgCells c).toArray 106)).cell? ⟨b, 16, none⟩ = some lv := (za (zh (w := w5) HM5.out.blk) 16).trans rfl
 refine held_two (vi := lv) (vj := .slice (some ⟨w5.heap.size, 0, none⟩) 1 1) (w' := w5.drew.alloc (.cells (rchgCells c).toArray 106)) 4 6 (by decide) (by kernel_rfl) (by kernel_rfl) (by kernel_rfl) rfl rfl (by rfl) (by rfl) (by rfl) (by rfl) (by go_simp) (exec_buildSlice (vs := #[(0, .agg (rchgCells c).toArray)]) rfl (by simp [Act.eval, Act.put]) (build_rchg _ c)) (by go_simp) (exec_buildSlice (vs := #[(0, .agg (rchgCells c).toArray)]) rfl (by simp [Act.eval, Act.put]) (build_rchg _ c)) rfl (show w5.drew.heap[B]? = _ from HB5.out) (zh (w := w5.drew) HB5.out) ?_
 have hHeld := zh (w := w5.drew) (o := .cells (rchgCells c).toArray 106) HB5.out
 try simp only [Act.put, zl0, zl1, zl2]
 clear a16a a16b
 obtain ⟨i0, hi, hz0, hz1, hz2⟩ := info_parts (P := Tryz.prog) (e := 106) (z := .agg (rchgCells ⟨0, 0, false, []⟩).toArray) (size := 4) (bytes := 40) (by kernel_rfl)
 refine held_one 7 (by kernel_rfl) rfl (fun K hK => ?_)
 refine step_append_lies _ (by rfl) _ _ 59 (by rfl) 0 106 i0 _ 4 40 Tryz.underlying59 hi hz0 hz1 hz2 rfl (by omega) lv d2.loose.length (rchgs d2.loose) (by rfl) (row_keep HM5.out.row (fun x hx => Below.heap_alloc w5.drew _ x (row_base HM5.out.row hx).2)) ⟨w5.heap.size, 0, none⟩ 1 1 (rchgCells c) (by rfl) (by rfl) (World.news_of_block (cs := (rchgCells c).toArray) (t := 106) (fr := (0, 0)) (ze w5.drew _)) (rchg_one c) (by omega) (by unfold maxLen; have := HS2.out; omega) (by have := HS2.out; omega) (Nat.zero_le _) (w5.drew.heap.size + 1) (by simp) ?_
 intro g cap w7 hown7 hgrow7 hat7 hlt7
 have HB7 := hid ((hgrow7.block B (by simp; exact Nat.lt_succ_of_lt (zc HB5.out)) (fun e => HLB.out B e.symm rfl)).trans (zh (w := w5.drew) HB5.out))
 have hbl7 := (hgrow7.block b (by simp; exact Nat.lt_succ_of_lt (zc HM5.out.blk)) (fun e => HM5.out.row_ne e.symm)).trans (zh (w := w5.drew) HM5.out.blk)
 have b16 : w7.cell? ⟨b, 16, none⟩ = some lv := (za hbl7 16).trans rfl
 have bf := zg hbl7 16
 obtain ⟨hm8, hst8⟩ := HM5.out.push (c := c) ((Below.refl _ w5).drew.alloc (Nat.le_refl _) _) hown7 hgrow7 (hat7.imp id (fun e => by rw [e]; simp)) hlt7 ⟨by rw [HC.out.1]; exact hk, HC.out.2.1, HC.out.2.2.1, HC.out.2.2.2⟩
 have HM8 := hid hm8
 have HST8 := hid hst8
 clear hm8 hst8 hown7 hgrow7 hat7 hlt7 a16 af hbl7
 refine hK.out _ _ (HB7.out) (fun hHeld => ?_)
 clear hK K
 try simp only [Act.put, zl0, zl1, zl2]
 refine ht 8 hHeld ?_
 refine ht 9 hHeld ?_
 refine held_one 10 (by kernel_rfl) rfl (fun K hK => ?_)
 go_simp
 refine hK.out _ _ (one_other HB7.out HBb.out _ _) (fun hHeld => ?_)
 clear hK K
 try simp only [Act.put, zl0, zl1, zl2]
 refine wpAnyH_done (by kernel_rfl) ?_ _
 clear b16 bf hHeld
 go_wp2_with fail
 go_ret
 have e : applyM d2 c = { now := put d2.now k (doesM (d2.now k) c), sure := d2.sure, loose := d2.loose ++ [c], armed := d2.armed, ops := d2.ops, goes := d2.goes, off := d2.off, narm := d2.narm } := by
  unfold applyM
  rw [HC.out.1]
 rw [← Hc.out, e]
 exact ⟨rfl, _, ⟨_, _, _, _, HM8.out⟩, HST.out.trans (HST5.out.trans HST8.out)⟩
theorem rcut_any (h : RefAt w b F d) (f n : Int) (hs : d.Small 1099511627776) :
  Calls Tryz.prog 53 #[.pointer (some ⟨b, 0, none⟩), .int .i64 f, .int .i64 n] w fun e w' => e = .returned (.int .i64 (cutM d f n).1) ∧ RDid w b F (cutM d f n).2 w' := by
 obtain ⟨nv, sv, lv, av, h0⟩ := id h
 have c20 := h0.five.2.2.2.2
 cases ho : d.off with
 | true =>
  rw [ho] at c20
  have e : cutM d f n = (32, d) := by unfold cutM; rw [ready_off ho, if_pos (by decide)]
  rw [e]
  have H := hid h
  clear h h0 hs e ho
  go_enter Tryz.func53, Tryz.ntmps53
  go_wp2_with fail
  go_ret
  exact ⟨rfl, RDid.same H.out⟩
 | false =>
  rw [ho] at c20
  by_cases hf : 0 ≤ f ∧ f < 8
  ·obtain ⟨k, rfl⟩ : ∃ k : Nat, f = k := ⟨f.toNat, by omega⟩
   have hk : k < 8 := by omega
   have hin := in_any (k : Int)
   rw [in_true hf] at hin
   have IN := hid hin
   have hk8 : (k : Int) < 8 := by omega
   obtain ⟨ga, cap, -, ck, -⟩ := h0.file hk
   obtain ⟨zn, hzn⟩ : ∃ zn, zn = (d.now k).length := ⟨_, rfl⟩
   rw [← hzn] at ck
   obtain ⟨z, hz⟩ : ∃ z : Int, (zn : Int) = z := ⟨_, rfl⟩
   by_cases hb : n < 0 ∨ z < n
   ·have e : cutM d k n = (5, d) := by unfold cutM; rw [if_neg (by simpa using ready_on hk ho), Int.toNat_natCast, ← hzn, hz, if_pos hb]
    rw [e]
    have H := hid h
    clear h h0 hs e ho hin hzn
    by_cases h1 : n < 0
    ·have h1' : decide (n < 0) = true := by simpa using h1
     clear hb
     go_enter Tryz.func53, Tryz.ntmps53
     go_wp2_with (first | (go_at_call 83; refine (IN.out _).mono ?_; rintro e w1 ⟨rfl, rfl⟩) | go_in)
     go_ret
     exact ⟨rfl, RDid.same H.out⟩
    ·have h1' : decide (n < 0) = false := by simpa using h1
     have h2' : decide (z < n) = true := by simp only [decide_eq_true_eq]; omega
     clear hb
     go_enter Tryz.func53, Tryz.ntmps53
     go_wp2_with (first | (go_at_call 83; refine (IN.out _).mono ?_; rintro e w1 ⟨rfl, rfl⟩) | go_in)
     go_ret
     exact ⟨rfl, RDid.same H.out⟩
   ·obtain ⟨j, rfl⟩ : ∃ j : Nat, n = j := ⟨n.toNat, by omega⟩
    by_cases hm : (meetsM d).1 = 0
    ·have e : cutM d k j = (0, applyM (meetsM d).2 ⟨k, j, true, nought⟩) := by
      unfold cutM
      rw [if_neg (by simpa using ready_on hk ho), Int.toNat_natCast, ← hzn, hz, if_neg hb, if_neg (by simpa using hm), Int.toNat_natCast]
     rw [e]
     exact rcut_main h k j hs hk ho (by omega) hm
    ·have e : cutM d k j = meetsM d := by
      unfold cutM
      rw [if_neg (by simpa using ready_on hk ho), Int.toNat_natCast, ← hzn, hz, if_neg hb, if_pos hm]
     rw [e]
     have M := rmeets_any h hs
     obtain ⟨r, hr2⟩ : ∃ r, r = (meetsM d).1 := ⟨_, rfl⟩
     obtain ⟨d1, hd1⟩ : ∃ d1, d1 = (meetsM d).2 := ⟨_, rfl⟩
     rw [← hr2, ← hd1] at M ⊢
     rw [← hr2] at hm
     have hrne : (r != 0) = true := by simpa using hm
     have t1 : decide ((j : Int) < 0) = false := by simp
     have t2 : decide (z < (j : Int)) = false := by simp only [decide_eq_false_iff_not]; omega
     have M := hid M
     clear e h h0 hs hr2 hd1 hm hin ho hzn hb
     go_enter Tryz.func53, Tryz.ntmps53
     go_wp2_with (first | (go_at_call 83; refine (IN.out _).mono ?_; rintro e w1 ⟨rfl, rfl⟩) | (go_at_call 84; refine (M.out).mono ?_; rintro e w2 ⟨rfl, hd2⟩) | go_in)
     go_ret
     exact ⟨rfl, hd2⟩
  ·have e : cutM d f n = (2, d) := by unfold cutM; rw [ready_out ho hf, if_pos (by decide)]
   rw [e]
   have hin := in_any f
   rw [in_false hf] at hin
   have IN := hid hin
   have H := hid h
   clear h h0 hs e ho hin hf
   go_enter Tryz.func53, Tryz.ntmps53
   go_wp2_with (first | (go_at_call 83; refine (IN.out _).mono ?_; rintro e w1 ⟨rfl, rfl⟩) | go_in)
   go_ret
   exact ⟨rfl, RDid.same H.out⟩
end
end Go.Proofs.YtfkcmgbpgefnnaaGreat.Rf
