/- A disk's file and its row of changes are written: Cut. -/
import Derived.Test.YtlkkclooihjpiaaGreatDkE
import Derived.Test.YtlkkclooihjpiaaGreatHeld
import Derived.Deep.RegionHeld3
set_option linter.unusedVariables false
set_option linter.unusedSimpArgs false
namespace Go.Proofs.YtlkkclooihjpiaaGreat
open Go.RowKit Go.Maps
set_option maxRecDepth 20000
section
variable {w w' : World} {b : Nat} {F : Foot} {d d' : Dsk} {nm sm : Nat → Option Nat} {lv : Value} {am : Nat}
def Foot.more (F : Foot) (k : Nat) : Foot := ⟨F.own, fun i => F.sh i ∨ i = k⟩
def Foot.row (F : Foot) (k : Nat) : Foot := ⟨fun i => F.own i ∨ i = k, F.sh⟩
theorem DiskMem.write_now (h : DiskMem w b F d nm sm lv am) {f m : Nat} (hf : f < 8) (hb : Below w.heap.size w w') (hm : w.heap.size ≤ m) {l : List Sec} (hl : FileAt w' (some m) l) (h1 : l.length ≤ 8192) (h2 : ∀ s ∈ l, s.length = 64) :
  DiskMem ((w'.setCell ⟨b, f * 2, none⟩ (.int .i64 l.length)).setCell ⟨b, f * 2 + 1, none⟩ (.map (some m))) b (F.more m) { d with now := put d.now f l } (put nm f (some m)) sm lv am ∧
   FootStep F (F.more m) w ((w'.setCell ⟨b, f * 2, none⟩ (.int .i64 l.length)).setCell ⟨b, f * 2 + 1, none⟩ (.map (some m))) := by
 have hk := h.keep (w' := w') (fun k hk => hb.block k (hk.elim (h.olt k) (h.slt k))) hb.size
 have hblt := lt_of_block h.blk
 have hne : m ≠ b := by omega
 have old : ∀ k, k ≠ b → ((w'.setCell ⟨b, f * 2, none⟩ (.int .i64 l.length)).setCell ⟨b, f * 2 + 1, none⟩ (.map (some m))).heap[k]? = w'.heap[k]? := fun k hk => by
  rw [Below.heap_setCell _ ⟨b, _, none⟩ _ k hk, Below.heap_setCell _ ⟨b, _, none⟩ _ k hk]
 have hz : ((w'.setCell ⟨b, f * 2, none⟩ (.int .i64 l.length)).setCell ⟨b, f * 2 + 1, none⟩ (.map (some m))).heap.size = w'.heap.size := by simp
 have nb : ∀ k, F.sh k → k ≠ b := fun k hs e => h.apart k (e ▸ h.bown) hs
 have hmlt := hl.lt
 refine ⟨⟨?_, fun i hi => ?_, fun i hi => (hk.sure i hi).keep fun x hx => old x (nb x (h.ssh i hi x hx)), fun i hi x hx => ?_, fun i hi x hx => .inl (h.ssh i hi x hx), row_keep hk.row fun g hg => old g (h.ne_row hg).1, h.rown, hk.arm.keep (old am h.ne_arm), h.aown, h.bown, ?_, fun k hk2 => by rw [hz]; exact Nat.lt_of_lt_of_le (h.olt k hk2) hb.size, ?_, ?_⟩, ?_, fun k hk => .inl hk, ?_⟩
 ·rw [heap_setCell_same (heap_setCell_same hk.blk (f * 2) _) (f * 2 + 1) _, set_now d nm sm lv am hf]
 ·by_cases e : i = f
  ·subst e
   simp only [put_same]
   exact hl.keep fun x hx => old x (by cases hx; exact hne)
  ·simp only [put_other _ _ e]
   exact (hk.now i hi).keep fun x hx => old x (nb x (h.nsh i hi x hx))
 ·by_cases e : i = f
  ·subst e
   rw [put_same] at hx
   exact .inr (Option.some.inj hx).symm
  ·rw [put_other _ _ e] at hx
   exact .inl (h.nsh i hi x hx)
 ·rintro k h1 (h2 | rfl)
  ·exact h.apart k h1 h2
  ·have := h.olt k h1
   omega
 ·rintro k (h2 | rfl)
  ·rw [hz]; exact Nat.lt_of_lt_of_le (h.slt k h2) hb.size
  ·rw [hz]; exact hmlt
 ·refine ⟨fun i hi => ?_, h.ok.sl, fun i hi => ?_, h.ok.ss, h.ok.lo, h.ok.op0⟩
  ·by_cases e : i = f
   ·subst e; simp only [put_same]; exact h1
   ·simp only [put_other _ _ e]; exact h.ok.nl i hi
  ·by_cases e : i = f
   ·subst e; simp only [put_same]; exact h2
   ·simp only [put_other _ _ e]; exact h.ok.ns i hi
 ·exact (Frm.of_below hb).trans (((Frm.refl _ _).setCell (p := ⟨b, f * 2, none⟩) (.inl h.bown) _).setCell (p := ⟨b, f * 2 + 1, none⟩) (.inl h.bown) _)
 ·rintro k (h2 | rfl)
  ·exact .inl h2
  ·exact .inr hm
theorem DiskMem.push (h : DiskMem w b F d nm sm lv am) {w2 w3 : World} {c : Chg} {g cap : Nat} (hb : Below w.heap.size w w2) (hrow : w3.ownsRow 0 75 67 (.slice (some ⟨g, 0, none⟩) (d.loose.length + 1) cap) (d.loose.length + 1) (chgsCells d.loose ++ chgCells c))
  (hg : w2.grownBy w3 lv.ownBlock) (hat : lv.ownBlock = some g ∨ g = w2.heap.size) (hlt : g < w3.heap.size) (hc : c.file < 8 ∧ c.at_ ≤ 8192 ∧ c.bytes.length = 64 ∧ (c.cut = false → c.at_ < 8192)) :
  DiskMem (w3.setCell ⟨b, 32, none⟩ (.slice (some ⟨g, 0, none⟩) (d.loose.length + 1) cap)) b (F.row g) { d with loose := d.loose ++ [c] } nm sm (.slice (some ⟨g, 0, none⟩) (d.loose.length + 1) cap) am ∧
   FootStep F (F.row g) w (w3.setCell ⟨b, 32, none⟩ (.slice (some ⟨g, 0, none⟩) (d.loose.length + 1) cap)) := by
 have old2 : ∀ k, k < w.heap.size → lv.ownBlock ≠ some k → w3.heap[k]? = w.heap[k]? := fun k hk hne => (hg.block k (Nat.lt_of_lt_of_le hk hb.size) (fun e => hne e.symm)).trans (hb.block k hk)
 have old : ∀ k, k < w.heap.size → k ≠ b → lv.ownBlock ≠ some k → (w3.setCell ⟨b, 32, none⟩ (.slice (some ⟨g, 0, none⟩) (d.loose.length + 1) cap)).heap[k]? = w.heap[k]? := fun k hk hnb hne => by
  rw [Below.heap_setCell _ ⟨b, 32, none⟩ _ k hnb, old2 k hk hne]
 have hz : (w3.setCell ⟨b, 32, none⟩ (.slice (some ⟨g, 0, none⟩) (d.loose.length + 1) cap)).heap.size = w3.heap.size := by simp
 have hsz : w.heap.size ≤ w3.heap.size := Nat.le_trans hb.size hg.size
 have hblt := lt_of_block h.blk
 have lvb : lv.ownBlock ≠ some b := fun e => (h.ne_row e).1 rfl
 have lva : lv.ownBlock ≠ some am := fun e => (h.ne_row e).2 rfl
 have lvs : ∀ k, F.sh k → lv.ownBlock ≠ some k := fun k hk e => h.apart k (h.rown k e) hk
 have nb : ∀ k, F.sh k → k ≠ b := fun k hs e => h.apart k (e ▸ h.bown) hs
 have gown : F.own g ∨ w.heap.size ≤ g := hat.elim (fun e => .inl (h.rown g e)) (fun e => .inr (by rw [e]; exact hb.size))
 have hblk := heap_setCell_same ((old2 b hblt lvb).trans h.blk) 32 (.slice (some ⟨g, 0, none⟩) (d.loose.length + 1) cap)
 have gb : g ≠ b := by
  obtain ⟨cur, hcur⟩ : ∃ cur, w3.heap[g]? = some (.cells cur 75 (0, 0)) := by
   rcases hrow.2 with ⟨e, _⟩ | ⟨g', cap', cur, e, _, hh, _⟩
   ·cases e
   ·cases e; exact ⟨cur, hh⟩
  intro e
  rw [e, (old2 b hblt lvb).trans h.blk] at hcur
  cases hcur
 refine ⟨⟨hblk, fun i hi => (h.now i hi).keep fun x hx => old x (h.slt x (h.nsh i hi x hx)) (nb x (h.nsh i hi x hx)) (lvs x (h.nsh i hi x hx)),
  fun i hi => (h.sure i hi).keep fun x hx => old x (h.slt x (h.ssh i hi x hx)) (nb x (h.ssh i hi x hx)) (lvs x (h.ssh i hi x hx)), h.nsh, h.ssh, ?_, fun k hk => ?_, h.arm.keep (old am (h.olt am h.aown) h.ne_arm lva), .inl h.aown, .inl h.bown, ?_, ?_, fun k hk => by rw [hz]; exact Nat.lt_of_lt_of_le (h.slt k hk) hsz, ?_⟩, ?_, ?_, fun k hk => .inl hk⟩
 ·simp only [List.length_append, List.length_cons, List.length_nil, Nat.zero_add, chgsCells_snoc]
  exact row_keep hrow fun k hk => by cases hk; exact Below.heap_setCell _ ⟨b, 32, none⟩ _ g gb
 ·cases hk
  exact .inr rfl
 ·rintro k (h1 | rfl) h2
  ·exact h.apart k h1 h2
  ·rcases gown with h3 | h3
   ·exact h.apart k h3 h2
   ·have := h.slt k h2
    omega
 ·rintro k (h1 | rfl)
  ·rw [hz]; exact Nat.lt_of_lt_of_le (h.olt k h1) hsz
  ·rw [hz]; exact hlt
 ·refine ⟨h.ok.nl, h.ok.sl, h.ok.ns, h.ok.ss, fun x hx => ?_, h.ok.op0⟩
  rcases List.mem_append.1 hx with hx | hx
  ·exact h.ok.lo x hx
  ·obtain rfl : x = c := by simpa using hx
   exact hc
 ·have f1 : Frm F.own w w3 := ⟨hg.os.trans hb.os, hg.tape.trans hb.tape, hg.output.trans hb.output, hsz, fun k hk hne => old2 k hk (fun e => hne (h.rown k e))⟩
  exact f1.setCell (p := ⟨b, 32, none⟩) (.inl h.bown) _
 ·rintro k (h1 | rfl)
  ·exact .inl h1
  ·exact gown
theorem range_whole {w : World} {B : Nat} {cs : List Value} {T : TypeId} {fr : Nat × Nat} (h : w.heap[B]? = some (.cells cs.toArray T fr)) : w.rangeAt B 0 cs := fun j v hv => by
 rw [cell_of_row w B (0 + j) _ T fr h]
 simpa using hv
theorem now_here {w : World} {b : Nat} {F : Foot} {d : Dsk} {nm sm : Nat → Option Nat} {lv : Value} {am : Nat} (h : DiskMem w b F d nm sm lv am) {k : Nat} (hk : k < 8) :
  w.cell? ⟨b, k * 2, none⟩ = some (.int .i64 (d.now k).length) ∧ w.cell? ⟨b, k * 2 + 1, none⟩ = some (.map (nm k)) ∧ w.frozen? ⟨b, k * 2, none⟩ = false ∧ w.frozen? ⟨b, k * 2 + 1, none⟩ = false :=
 ⟨(h.cell _).trans (now_cells d nm sm lv am hk).1, (h.cell _).trans (now_cells d nm sm lv am hk).2, h.free _, h.free _⟩
theorem sure_here {w : World} {b : Nat} {F : Foot} {d : Dsk} {nm sm : Nat → Option Nat} {lv : Value} {am : Nat} (h : DiskMem w b F d nm sm lv am) {k : Nat} (hk : k < 8) :
  w.cell? ⟨b, 16 + k * 2, none⟩ = some (.int .i64 (d.sure k).length) ∧ w.cell? ⟨b, 16 + k * 2 + 1, none⟩ = some (.map (sm k)) ∧ w.frozen? ⟨b, 16 + k * 2, none⟩ = false ∧ w.frozen? ⟨b, 16 + k * 2 + 1, none⟩ = false :=
 ⟨(h.cell _).trans (sure_cells d nm sm lv am hk).1, (h.cell _).trans (sure_cells d nm sm lv am hk).2, h.free _, h.free _⟩
theorem below_undrew {w w' : World} (h : Below w.drew.heap.size w.drew w') : Below w.heap.size w w' := ⟨h.os, h.tape, h.output, h.size, h.block⟩
theorem one_other {w : World} {B b : Nat} {o : Obj} (h : w.heap[B]? = some o) (hne : B ≠ b) (i : Nat) (u : Value) : (w.setCell ⟨b, i, none⟩ u).heap[B]? = some o := by
 rw [Below.heap_setCell _ ⟨b, _, none⟩ _ B hne, h]
theorem two_other {w : World} {B b : Nat} {o : Obj} (h : w.heap[B]? = some o) (i j : Nat) (u v : Value) (hne : B ≠ b) : ((w.setCell ⟨b, i, none⟩ u).setCell ⟨b, j, none⟩ v).heap[B]? = some o :=
 one_other (one_other h hne i u) hne j v
theorem row_alloc {w : World} {b : Nat} {F : Foot} {d : Dsk} {nm sm : Nat → Option Nat} {lv : Value} {am : Nat} (h : DiskMem w b F d nm sm lv am) (o : Obj) : (w.drew.alloc o).ownsRow 0 75 67 lv d.loose.length (chgsCells d.loose) :=
 row_keep h.row fun g hg => Below.heap_alloc w.drew o g (h.olt g (h.rown g hg))
theorem after_append {w w7 : World} {b : Nat} {F : Foot} {d : Dsk} {nm sm : Nat → Option Nat} {lv : Value} {am : Nat} {o : Obj} (h : DiskMem w b F d nm sm lv am) (hg : (w.drew.alloc o).grownBy w7 lv.ownBlock) : w7.cell? ⟨b, 32, none⟩ = some lv ∧ w7.frozen? ⟨b, 32, none⟩ = false := by
 have hb := (hg.block b (by simp; have := lt_of_block h.blk; omega) (fun e => (h.ne_row e.symm).1 rfl)).trans (heap_alloc_old (w := w.drew) h.blk)
 exact ⟨(cell_of_block hb 32).trans rfl, free_of_block hb 32⟩
def applyM (d : Dsk) (c : Chg) : Dsk := { d with now := put d.now c.file (doesM (d.now c.file) c), loose := d.loose ++ [c] }
def cutM (d : Dsk) (f n : Int) : Int × Dsk :=
 if readyM d f ≠ 0 then (readyM d f, d) else if n < 0 ∨ (d.now f.toNat).length < n then (5, d)
 else if (meetsM d).1 ≠ 0 then meetsM d else (0, applyM (meetsM d).2 ⟨f.toNat, n.toNat, true, nought⟩)
end
section
variable {w : World} {b : Nat} {F : Foot} {d : Dsk}
set_option maxHeartbeats 1000000 in
set_option maxRecDepth 100000 in
theorem cut_main (h : DiskAt w b F d) (k n : Nat) (hs : d.Small 1099511627776) (hk : k < 8) (ho : d.off = false) (hn : n ≤ (d.now k).length) (hm : (meetsM d).1 = 0) :
  Calls Tryz.prog 103 #[.pointer (some ⟨b, 0, none⟩), .int .i64 (k : Int), .int .i64 (n : Int)] w fun e w' => e = .returned (.int .i64 0) ∧ Did w b F (applyM (meetsM d).2 ⟨k, n, true, nought⟩) w' := by
 have R := ready_any h (k : Int)
 have hr0 : readyM d (k : Int) = 0 := by unfold readyM; rw [ho, if_neg (by simp), if_pos (by omega)]
 rw [hr0] at R
 have M := meets_any h hs
 rw [hm] at M
 obtain ⟨d1, hd1⟩ : ∃ d1, d1 = (meetsM d).2 := ⟨_, rfl⟩
 rw [← hd1] at M ⊢
 obtain ⟨c, hc⟩ : ∃ c : Chg, c = ⟨k, n, true, nought⟩ := ⟨_, rfl⟩
 rw [← hc]
 have e1 : d1.now = d.now := by rw [hd1]; rfl
 have e2 : d1.loose = d.loose := by rw [hd1]; rfl
 obtain ⟨nm0, sm0, lv0, am0, h0⟩ := id h
 have c0 := (h0.cell (k * 2)).trans (now_cells d nm0 sm0 lv0 am0 hk).1
 have hn' : (n : Int) ≤ ((d.now k).length : Int) := by omega
 have hn2 : decide (((d.now k).length : Int) < (n : Int)) = false := by simp; omega
 have hk8 : (k : Int) < 8 := by omega
 have hn8 : n ≤ 8192 := Nat.le_trans hn (h0.ok.nl k hk)
 have R := hid R
 have M := hid M
 have E1 := hid e1
 have E2 := hid e2
 have HS := hid hs
 obtain ⟨z, hz⟩ : ∃ z : Int, z = (d.now k).length := ⟨_, rfl⟩
 rw [← hz] at c0 hn' hn2
 clear hd1 h0 hn hm hr0 e1 e2 hs hz
 go_enter Tryz.func103, Tryz.ntmps103
 go_upto_region 9 with (first | (go_at_call 23; refine (R.out).mono ?_; rintro e w1 ⟨rfl, rfl⟩) | (go_at_call 24; refine (M.out).mono ?_; rintro e w2 ⟨rfl, hd2⟩) | go_in)
 obtain ⟨F2, ⟨nm, sm, lv, am, h2⟩, hst2⟩ := hd2
 have hbuild : ∀ w, (Instr.build 75 #[(0, .int .i64 (k : Int)), (1, .int .i64 (n : Int)), (2, .bool true)]).run Tryz.prog w = .ok (.agg (chgCells c).toArray) w := by rw [hc]; intro w; kernel_rfl
 have HC := hid (show c.file = k ∧ c.at_ ≤ 8192 ∧ c.bytes.length = 64 ∧ (c.cut = false → c.at_ < 8192) by rw [hc]; exact ⟨rfl, hn8, rfl, fun h => (by cases h)⟩)
 refine wp_region_lit ?_
 refine wpList_value rfl (.int .i64 (k : Int)) rfl ?_
 simp only [Act.put, List.setIfInBounds_toArray, List.set_cons_zero, List.set_cons_succ]
 refine wpList_value rfl (.int .i64 (n : Int)) rfl ?_
 simp only [Act.put, List.setIfInBounds_toArray, List.set_cons_zero, List.set_cons_succ]
 refine wpList_value rfl (.agg (chgCells c).toArray) (exec_build (vs := #[(0, .int .i64 (k : Int)), (1, .int .i64 (n : Int)), (2, .bool true)]) rfl (by simp [Act.eval]) (hbuild _)) ?_
 refine wpList_value rfl (.pointer (some ⟨w2.heap.size, 0, none⟩)) (w' := w2.alloc (.cells (chgCells ⟨0, 0, false, nought⟩).toArray 75)) (by kernel_rfl) ?_
 refine wpList_skip rfl (exec_store rfl rfl rfl (run_storeAt_new w2 75 _ _ (by rw [List.size_toArray, chgCells_length HC.out.2.2.1]; kernel_rfl) (by rw [List.size_toArray, List.size_toArray, chgCells_length HC.out.2.2.1]; rfl) (all_oneCell_toArray (chgCells_one c)))) ?_
 refine wpList_nil ?_
 simp only [Act.put, List.setIfInBounds_toArray, List.set_cons_zero, List.set_cons_succ]
 obtain ⟨B, hB⟩ : ∃ B, B = w2.heap.size := ⟨_, rfl⟩
 rw [← hB]
 have hBn := heap_alloc_new w2 (.cells (chgCells c).toArray 75)
 rw [← hB] at hBn
 have HBo := hid (show ∀ k, F2.own k → k < B by rw [hB]; exact h2.olt)
 have HBb := hid (show B ≠ b by have := lt_of_block h2.blk; omega)
 have hbel := (Below.refl w2.heap.size w2).alloc (Nat.le_refl _) (.cells (chgCells c).toArray 75)
 have hm3 := h2.keep (w' := w2.alloc (.cells (chgCells c).toArray 75)) (fun k hk => hbel.block k (hk.elim (h2.olt k) (h2.slt k))) hbel.size
 have HST3 := hid (hst2.trans (footstep_below (F := F2) hbel))
 obtain ⟨w3, hw3⟩ : ∃ w3, w3 = w2.alloc (.cells (chgCells c).toArray 75) := ⟨_, rfl⟩
 rw [← hw3] at hBn hm3 HST3 ⊢
 have HB := hid hBn
 have HM := hid hm3
 have HS2 := hid (show d1.loose.length ≤ 1099511627776 by rw [E2.out]; exact HS.out.loose)
 clear hB hBn hbel hm3 hw3 h2 hst2 w2 hbuild hc
 obtain ⟨w2, hw2⟩ : ∃ w2, w2 = w3 := ⟨_, rfl⟩
 subst hw2
 obtain ⟨d2, hd2⟩ : ∃ d2, d2 = d1 := ⟨_, rfl⟩
 subst hd2
 go_upto_region 10 with fail
 have Hi74 := hid (show (Tryz.prog.info? 75).map (·.size) = some (chgCells c).length by rw [chgCells_length HC.out.2.2.1]; kernel_rfl)
 obtain ⟨a0, a1, af0, af1⟩ := now_here HM.out hk
 have hk8 : (k : Int) < 8 := by omega
 refine wp_region_held_drew (S := fun W => W.rangeAt B 0 (chgCells c)) (by kernel_rfl) (range_whole (w := w2.drew) HB.out) (fun hHeld => ?_)
 refine held_take (v := ?pv0) 0 rfl (by kernel_rfl) (by kernel_rfl) (by kernel_rfl) (fun _ _ _ h => h) (by rfl) hHeld ?py0 ?pr0
 case py0 => (intro W hSw; go_simp; with_reducible rfl)
 simp only [Act.put, List.setIfInBounds_toArray, List.set_cons_zero, List.set_cons_succ]
 refine held_take (v := ?pv1) 1 rfl (by kernel_rfl) (by kernel_rfl) (by kernel_rfl) (fun _ _ _ h => h) (by rfl) hHeld ?py1 ?pr1
 case py1 => (intro W hSw; go_simp; with_reducible rfl)
 simp only [Act.put, List.setIfInBounds_toArray, List.set_cons_zero, List.set_cons_succ]
 refine held_take (v := ?pv2) 2 rfl (by kernel_rfl) (by kernel_rfl) (by kernel_rfl) (fun _ _ _ h => h) (by rfl) hHeld ?py2 ?pr2
 case py2 => (intro W hSw; go_simp; with_reducible rfl)
 simp only [Act.put, List.setIfInBounds_toArray, List.set_cons_zero, List.set_cons_succ]
 refine held_take (v := ?pv3) 3 rfl (by kernel_rfl) (by kernel_rfl) (by kernel_rfl) (fun _ _ _ h => h) (by rfl) hHeld ?py3 ?pr3
 case py3 => (intro W hSw; go_simp; with_reducible rfl)
 simp only [Act.put, List.setIfInBounds_toArray, List.set_cons_zero, List.set_cons_succ]
 refine held_take (v := ?pv4) 4 rfl (by kernel_rfl) (by kernel_rfl) (by kernel_rfl) (fun _ _ _ h => h) (by rfl) hHeld ?py4 ?pr4
 case py4 => (intro W hSw; go_simp; with_reducible rfl)
 simp only [Act.put, List.setIfInBounds_toArray, List.set_cons_zero, List.set_cons_succ]
 refine held_take (v := ?pv5) 5 rfl (by kernel_rfl) (by kernel_rfl) (by kernel_rfl) (fun _ _ _ h => h) (by rfl) hHeld ?py5 ?pr5
 case py5 => (intro W hSw; go_simp; with_reducible rfl)
 simp only [Act.put, List.setIfInBounds_toArray, List.set_cons_zero, List.set_cons_succ]
 refine held_take (v := ?pv6) 6 rfl (by kernel_rfl) (by kernel_rfl) (by kernel_rfl) (fun _ _ _ h => h) (by rfl) hHeld ?py6 ?pr6
 case py6 => (intro W hSw; go_simp; with_reducible rfl)
 simp only [Act.put, List.setIfInBounds_toArray, List.set_cons_zero, List.set_cons_succ]
 refine held_take (v := .agg (chgCells c).toArray) 8 rfl (by kernel_rfl) (by kernel_rfl) (by kernel_rfl) (fun _ _ _ h => h) (by rfl) hHeld (fun W hSw => exec_load rfl rfl (run_loadAt_mid W _ _ _ _ _ hSw Tryz.underlying75 rfl Hi74.out)) ?_
 simp only [Act.put, List.setIfInBounds_toArray, List.set_cons_zero, List.set_cons_succ]
 refine held_take (v := ?pv10) 10 rfl (by kernel_rfl) (by kernel_rfl) (by kernel_rfl) (fun _ _ _ h => h) (by rfl) hHeld ?py10 ?pr10
 case py10 => (intro W hSw; go_simp; with_reducible rfl)
 simp only [Act.put, List.setIfInBounds_toArray, List.set_cons_zero, List.set_cons_succ]
 refine held_take (v := ?pv11) 11 rfl (by kernel_rfl) (by kernel_rfl) (by kernel_rfl) (fun _ _ _ h => h) (by rfl) hHeld ?py11 ?pr11
 case py11 => (intro W hSw; go_simp; with_reducible rfl)
 simp only [Act.put, List.setIfInBounds_toArray, List.set_cons_zero, List.set_cons_succ]
 refine held_one 7 (by kernel_rfl) rfl (fun K hK => ?_)
 go_simp
 refine hK.out _ _ (range_whole (w := w2.drew) HB.out) (fun hHeld => ?_)
 clear hK K
 try simp only [Act.put, List.setIfInBounds_toArray, List.set_cons_zero, List.set_cons_succ]
 have hdoes := does_any (nm k) (d2.now k) c w2.drew (HM.out.now k hk) HC.out.2.2.1 (HM.out.ok.nl k hk) HC.out.2.1
 unfold chgV at hdoes
 have Hdoes := hid hdoes
 clear hdoes a0 a1 af0 af1
 refine held_one 9 (by kernel_rfl) rfl (fun K hK => ?_)
 go_simp
 refine (Hdoes.out).mono ?_
 rintro e w4 ⟨m4, rfl, hm4, hf4, hb4⟩
 have Hb4 := hid (below_undrew hb4)
 have Hm4 := hid (show w2.heap.size ≤ m4 from hm4)
 have Hf4 := hid hf4
 have HB4 := hid ((Hb4.out.block B (lt_of_block HB.out)).trans HB.out)
 clear hm4 hf4 hb4 Hdoes
 try dsimp only
 refine hK.out _ _ (range_whole HB4.out) (fun hHeld => ?_)
 clear hK K
 try simp only [Act.put, List.setIfInBounds_toArray, List.set_cons_zero, List.set_cons_succ]
 refine held_take (v := ?pv12) 12 rfl (by kernel_rfl) (by kernel_rfl) (by kernel_rfl) (fun _ _ _ h => h) (by rfl) hHeld ?py12 ?pr12
 case py12 => (intro W hSw; go_simp; with_reducible rfl)
 simp only [Act.put, List.setIfInBounds_toArray, List.set_cons_zero, List.set_cons_succ]
 obtain ⟨a0, a1, af0, af1⟩ := now_here (HM.out.keep (w' := w4) (fun k hk => Hb4.out.block k (hk.elim (HM.out.olt k) (HM.out.slt k))) Hb4.out.size) hk
 obtain ⟨hm5, hst5⟩ := HM.out.write_now hk Hb4.out Hm4.out Hf4.out (does_len (HM.out.ok.nl k hk) HC.out.2.2.2) (does_sec (HM.out.ok.ns k hk) HC.out.2.2.1)
 have hB5 := two_other (w := w4) HB4.out (b := b) (k * 2) (k * 2 + 1) (.int .i64 (doesM (d2.now k) c).length) (.map (some m4)) HBb.out
 have HM5 := hid hm5
 have HST5 := hid hst5
 have HB5 := hid hB5
 clear hm5 hst5 hB5
 obtain ⟨z5, hz5⟩ : ∃ z : Int, z = (doesM (d2.now k) c).length := ⟨_, rfl⟩
 simp only [← hz5] at HM5 HST5 HB5 ⊢
 clear hz5
 refine held_one 13 (by kernel_rfl) rfl (fun K hK => ?_)
 go_simp
 refine hK.out _ _ (range_whole HB5.out) (fun hHeld => ?_)
 clear hK K
 try simp only [Act.put, List.setIfInBounds_toArray, List.set_cons_zero, List.set_cons_succ]
 refine wpAnyH_done (by kernel_rfl) ?_ _
 clear a0 a1 af0 af1
 obtain ⟨w5, hw5⟩ : ∃ w5, w5 = (w4.setCell ⟨b, k * 2, none⟩ (.int .i64 z5)).setCell ⟨b, k * 2 + 1, none⟩ (.map (some m4)) := ⟨_, rfl⟩
 rw [← hw5] at HM5 HST5 HB5 ⊢
 clear hw5 hHeld
 go_upto_region 11 with fail
 obtain ⟨a32, -, -, -, -⟩ := HM5.out.five
 have af := HM5.out.free 32
 refine wp_region_held_drew (S := fun W => W.rangeAt B 0 (chgCells c)) (by kernel_rfl) (range_whole (w := w5.drew) HB5.out) (fun hHeld => ?_)
 refine held_take (v := ?qv0) 0 rfl (by kernel_rfl) (by kernel_rfl) (by kernel_rfl) (fun _ _ _ h => h) (by rfl) hHeld ?qy0 ?qr0
 case qy0 => (intro W hSw; go_simp; with_reducible rfl)
 simp only [Act.put, List.setIfInBounds_toArray, List.set_cons_zero, List.set_cons_succ]
 refine held_take (v := ?qv1) 1 rfl (by kernel_rfl) (by kernel_rfl) (by kernel_rfl) (fun _ _ _ h => h) (by rfl) hHeld ?qy1 ?qr1
 case qy1 => (intro W hSw; go_simp; with_reducible rfl)
 simp only [Act.put, List.setIfInBounds_toArray, List.set_cons_zero, List.set_cons_succ]
 refine held_take (v := ?qv2) 2 rfl (by kernel_rfl) (by kernel_rfl) (by kernel_rfl) (fun _ _ _ h => h) (by rfl) hHeld ?qy2 ?qr2
 case qy2 => (intro W hSw; go_simp; with_reducible rfl)
 simp only [Act.put, List.setIfInBounds_toArray, List.set_cons_zero, List.set_cons_succ]
 refine held_take (v := ?qv3) 3 rfl (by kernel_rfl) (by kernel_rfl) (by kernel_rfl) (fun _ _ _ h => h) (by rfl) hHeld ?qy3 ?qr3
 case qy3 => (intro W hSw; go_simp; with_reducible rfl)
 simp only [Act.put, List.setIfInBounds_toArray, List.set_cons_zero, List.set_cons_succ]
 refine held_take (v := .agg (chgCells c).toArray) 5 rfl (by kernel_rfl) (by kernel_rfl) (by kernel_rfl) (fun _ _ _ h => h) (by rfl) hHeld (fun W hSw => exec_load rfl rfl (run_loadAt_mid W _ _ _ _ _ hSw Tryz.underlying75 rfl Hi74.out)) ?_
 simp only [Act.put, List.setIfInBounds_toArray, List.set_cons_zero, List.set_cons_succ]
 have hb5 := lt_of_block HM5.out.blk
 have a32a : (w5.drew.alloc (.cells (chgCells c).toArray 75)).cell? ⟨b, 32, none⟩ = some lv := (cell_of_block (heap_alloc_old (w := w5.drew) HM5.out.blk) 32).trans rfl
 refine held_two (vi := lv) (vj := .slice (some ⟨w5.heap.size, 0, none⟩) 1 1) (w' := w5.drew.alloc (.cells (chgCells c).toArray 75)) 4 6 (by decide) (by kernel_rfl) (by kernel_rfl) (by kernel_rfl) rfl rfl (by rfl) (by rfl) (by rfl) (by rfl) (by go_simp) (exec_buildSlice (vs := #[(0, .agg (chgCells c).toArray)]) rfl (by simp [Act.eval, Act.put]) (run_buildSlice_one _ 68 75 _ (chgV ⟨0, 0, false, nought⟩) 67 Tryz.underlying68 (by kernel_rfl) (by rfl) (by rw [List.size_toArray, chgCells_length HC.out.2.2.1]) (by omega) (by omega))) (by go_simp) (exec_buildSlice (vs := #[(0, .agg (chgCells c).toArray)]) rfl (by simp [Act.eval, Act.put]) (run_buildSlice_one _ 68 75 _ (chgV ⟨0, 0, false, nought⟩) 67 Tryz.underlying68 (by kernel_rfl) (by rfl) (by rw [List.size_toArray, chgCells_length HC.out.2.2.1]) (by omega) (by omega))) rfl (range_whole (w := w5.drew) HB5.out) (range_whole (heap_alloc_old (w := w5.drew) HB5.out)) ?_
 have hHeld := range_whole (heap_alloc_old (w := w5.drew) (o := .cells (chgCells c).toArray 75) HB5.out)
 try simp only [Act.put, List.setIfInBounds_toArray, List.set_cons_zero, List.set_cons_succ]
 clear a32a hb5
 obtain ⟨i0, hi, hz0, hz1, hz2⟩ := info_parts (P := Tryz.prog) (e := 75) (z := chgV ⟨0, 0, false, nought⟩) (size := 67) (bytes := 88) (by kernel_rfl)
 refine held_one 7 (by kernel_rfl) rfl (fun K hK => ?_)
 refine step_append_lies _ (by rfl) _ _ 68 (by rfl) 0 75 i0 _ 67 88 Tryz.underlying68 hi hz0 hz1 hz2 rfl (by omega) lv d2.loose.length (chgsCells d2.loose) (by rfl) (row_alloc HM5.out _) ⟨w5.heap.size, 0, none⟩ 1 1 (chgCells c) (by rfl) (by rw [chgCells_length HC.out.2.2.1]) (World.news_of_block (cs := (chgCells c).toArray) (t := 75) (fr := (0, 0)) (heap_alloc_new w5.drew _)) (chgCells_one c) (by omega) (by unfold maxLen; have := HS2.out; omega) (by have := HS2.out; omega) (Nat.zero_le _) (w5.drew.heap.size + 1) (by simp) ?_
 intro g cap w7 hown7 hgrow7 hat7 hlt7
 have HB7 := hid ((hgrow7.block B (by simp; exact Nat.lt_succ_of_lt (lt_of_block HB5.out)) (fun e => by have := HBo.out B (HM5.out.rown B e.symm); omega)).trans (heap_alloc_old (w := w5.drew) HB5.out))
 obtain ⟨b32, bf⟩ := after_append HM5.out hgrow7
 obtain ⟨hm8, hst8⟩ := HM5.out.push (c := c) ((Below.refl _ w5).drew.alloc (Nat.le_refl _) _) hown7 hgrow7 (hat7.imp id (fun e => by rw [e]; simp)) hlt7 ⟨by rw [HC.out.1]; exact hk, HC.out.2.1, HC.out.2.2.1, HC.out.2.2.2⟩
 have HM8 := hid hm8
 have HST8 := hid hst8
 clear hm8 hst8 hown7 hgrow7 hat7 hlt7 a32 af
 refine hK.out _ _ (range_whole HB7.out) (fun hHeld => ?_)
 clear hK K
 try simp only [Act.put, List.setIfInBounds_toArray, List.set_cons_zero, List.set_cons_succ]
 refine held_take (v := ?qv8) 8 rfl (by kernel_rfl) (by kernel_rfl) (by kernel_rfl) (fun _ _ _ h => h) (by rfl) hHeld ?qy8 ?qr8
 case qy8 => (intro W hSw; go_simp; with_reducible rfl)
 simp only [Act.put, List.setIfInBounds_toArray, List.set_cons_zero, List.set_cons_succ]
 refine held_take (v := ?qv9) 9 rfl (by kernel_rfl) (by kernel_rfl) (by kernel_rfl) (fun _ _ _ h => h) (by rfl) hHeld ?qy9 ?qr9
 case qy9 => (intro W hSw; go_simp; with_reducible rfl)
 simp only [Act.put, List.setIfInBounds_toArray, List.set_cons_zero, List.set_cons_succ]
 refine held_one 10 (by kernel_rfl) rfl (fun K hK => ?_)
 go_simp
 refine hK.out _ _ (range_whole (one_other HB7.out HBb.out _ _)) (fun hHeld => ?_)
 clear hK K
 try simp only [Act.put, List.setIfInBounds_toArray, List.set_cons_zero, List.set_cons_succ]
 refine wpAnyH_done (by kernel_rfl) ?_ _
 clear b32 bf hHeld
 go_wp2_with fail
 go_ret
 have e : applyM d2 c = { now := put d2.now k (doesM (d2.now k) c), sure := d2.sure, loose := d2.loose ++ [c], armed := d2.armed, ops := d2.ops, goes := d2.goes, off := d2.off, narm := d2.narm } := by
  unfold applyM
  rw [HC.out.1]
 rw [e]
 exact ⟨rfl, _, ⟨_, _, _, _, HM8.out⟩, HST3.out.trans (HST5.out.trans HST8.out)⟩
end
end Go.Proofs.YtlkkclooihjpiaaGreat
