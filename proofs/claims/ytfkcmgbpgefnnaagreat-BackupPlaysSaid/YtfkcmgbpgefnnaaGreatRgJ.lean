/- The reference's Write. -/
import Derived.Test.YtfkcmgbpgefnnaaGreatRgG
set_option linter.unusedVariables false
set_option linter.unusedSimpArgs false
namespace Go.Proofs.YtfkcmgbpgefnnaaGreat.Rf
open Go.RowKit Go.Maps
set_option maxRecDepth 20000
theorem toNat_c (q : Nat) : ((q : Int) * 64).toNat = q * 64 := by omega
theorem toNat_d (q : Nat) : (((q : Int) + 1) * 64).toNat = q * 64 + 64 := by omega
theorem slice_L {q n : Nat} {L : Int} (h : q < n) (hl : L = 64 * (n : Int)) : 0 ≤ (q : Int) * 64 ∧ (q : Int) * 64 ≤ ((q : Int) + 1) * 64 ∧ ((q : Int) + 1) * 64 ≤ L := ⟨by omega, by omega, by omega⟩
section
variable {w : World} {b : Nat} {F : Foot} {d : Dsk}
set_option maxHeartbeats 2000000 in
set_option maxRecDepth 100000 in
theorem rwrite_main (h : RefAt w b F d) (k a : Nat) (s : List UInt8) (hs : d.Small 1099511527776) (hk : k < 8) (ho : d.off = false) (hn0 : s.length / 64 ≠ 0) (hn1 : s.length % 64 = 0) (hn2 : a + s.length / 64 ≤ 8192) (hm : (meetsM d).1 = 0) :
  Calls Tryz.prog 49 #[.pointer (some ⟨b, 0, none⟩), .int .i64 (k : Int), .int .i64 (a : Int), .string (bs s)] w fun e w' => e = .returned (.int .i64 0) ∧ RDid w b F (wrN (meetsM d).2 k a s (s.length / 64)) w' := by
 have M := rmeets_any h (hs.mono (by omega))
 rw [hm] at M
 obtain ⟨d1, hd1⟩ : ∃ d1, d1 = (meetsM d).2 := ⟨_, rfl⟩
 rw [← hd1] at M ⊢
 have e1 : d1.loose = d.loose := by rw [hd1]; rfl
 have HS := hid (show d1.loose.length ≤ 1099511527776 by rw [e1]; exact hs.loose)
 have M := hid M
 obtain ⟨nv0, sv0, lv0, av0, h0⟩ := h
 have c20 := h0.five.2.2.2.2
 rw [ho] at c20
 have hin := in_any (k : Int)
 rw [in_true ⟨by omega, by omega⟩] at hin
 have IN := hid hin
 have hk8' : (k : Int) < 8 := by omega
 obtain ⟨n, hn⟩ : ∃ n, n = s.length / 64 := ⟨_, rfl⟩
 rw [← hn] at hn0 hn2 ⊢
 obtain ⟨L, hL⟩ : ∃ L : Int, (s.length : Int) = L := ⟨_, rfl⟩
 have HLn := hid (show L = 64 * (n : Int) by omega)
 have t1 : decide (L < 64) = false := by simp only [decide_eq_false_iff_not]; omega
 have t2 : (L.tmod 64 != 0) = false := by rw [Int.tmod_eq_emod_of_nonneg (by omega)]; simp; omega
 have t3 : L.tdiv 64 = (n : Int) := by rw [Int.tdiv_eq_ediv_of_nonneg (by omega)]; omega
 have t4 : wrap64 (n : Int) = (n : Int) := IntWalk.wrap64_in _ (by omega)
 have t5 : decide ((a : Int) < 0) = false := by simp
 have t6 : decide (8192 < (n : Int)) = false := by simp only [decide_eq_false_iff_not]; omega
 have t7 : IntKind.i64.wrap (8192 - (n : Int)) = 8192 - (n : Int) := IntWalk.i64_in _ (by omega)
 have t8 : decide (8192 - (n : Int) < (a : Int)) = false := by simp only [decide_eq_false_iff_not]; omega
 have Hn2 := hid hn2
 clear hd1 hm e1 hs h0 hin hn
 go_enter Tryz.func49, Tryz.ntmps49
 go_upto_region 10 with (first | (go_at_call 83; refine (IN.out _).mono ?_; rintro e w1 ⟨rfl, rfl⟩) | (go_at_call 84; refine (M.out).mono ?_; rintro e w1' ⟨rfl, hd2⟩) | go_in)
 obtain ⟨F1, hat1, hst1⟩ := hd2
 have HA1 := hid hat1
 have HST1 := hid hst1
 clear hat1 hst1 c20
 go_wp2_with fail
 go_loopw [10] (fun v10 wr => ∃ (i : Nat) (F2 : Foot), v10 = .int .i64 (i : Int) ∧ i ≤ n ∧ RefAt wr b F2 (wrN d1 k a s i) ∧ FootStep F F2 w1 wr) (fun v10 _ => n - (intOf v10).toNat)
 case atStart => exact ⟨0, F1, rfl, Nat.zero_le _, HA1.out, HST1.out⟩
 case round =>
  obtain ⟨i, F2, rfl, hin, hat, hst⟩ := hrel
  by_cases hlt : i < n
  ·obtain ⟨d2, hd2⟩ : ∃ d2, d2 = wrN d1 k a s i := ⟨_, rfl⟩
   rw [← hd2] at hat
   have Hd2 := hid hd2
   have HS2 := hid (show d2.loose.length ≤ 1099511627776 by rw [hd2, wrN_loose]; have := HS.out; have := Hn2.out; omega)
   obtain ⟨nv, sv, lv, av, hmem⟩ := hat
   have HM0 := hid hmem
   have HST0 := hid hst
   clear hmem hst hd2
   have u1 := slice_L hlt HLn.out
   have u2 := toNat_c i
   have u3 := toNat_d i
   have u4 : IntKind.i64.wrap ((a : Int) + (i : Int)) = (a : Int) + (i : Int) := IntWalk.i64_in _ (by have := Hn2.out; omega)
   have u5 : decide ((i : Int) < (n : Int)) = true := decide_eq_true (Int.ofNat_lt.2 hlt)
   go_upto_region 14 with fail
   obtain ⟨c, hc⟩ : ∃ c : Chg, c = wrChg k a s i := ⟨_, rfl⟩
   obtain ⟨w2, hw2⟩ : ∃ w2, w2 = wr.alloc (.cells (rchgCells c).toArray 106) := ⟨_, rfl⟩
   have hw2' : w2 = wr.alloc (.cells #[.int .i64 (k : Int), .int .i64 ((a : Int) + (i : Int)), .bool false, .string (bs (List.take 64 (List.drop (i * 64) s)))] 106) := by rw [hw2, hc]; unfold rchgCells wrChg secOf; rw [Int.natCast_add]; rfl
   obtain ⟨B, hB⟩ : ∃ B, B = wr.heap.size := ⟨_, rfl⟩
   rw [← hw2', ← hB]
   have hb2 : Below wr.heap.size wr w2 := by rw [hw2]; exact (Below.refl _ _).alloc (Nat.le_refl _) _
   have HM := hid (HM0.out.keep (w' := w2) (fun x hx => hb2.block x (hx.elim (HM0.out.olt x) (HM0.out.slt x))) hb2.size)
   have HST := hid (HST0.out.trans (footstep_below (F := F2) hb2))
   have HB := hid (show w2.heap[B]? = some (.cells (rchgCells c).toArray 106 (0, 0)) by rw [hw2, hB]; exact ze _ _)
   have HBb := hid (show B ≠ b by have := zc HM0.out.blk; omega)
   have HLB := hid (show ∀ g, lv.ownBlock = some g → g ≠ B from fun g hg => by have := HM0.out.olt g (HM0.out.rown g hg); omega)
   have HC := hid (show c.file = k ∧ c.at_ ≤ 8192 ∧ c.bytes.length = 64 ∧ (c.cut = false → c.at_ < 8192) by rw [hc]; exact ⟨rfl, by show a + i ≤ 8192; have := Hn2.out; omega, by
    have h1 := HLn.out
    exact secOf_length (by omega), fun _ => by show a + i < 8192; have := Hn2.out; omega⟩)
   have Hc := hid hc
   clear hc hw2 hw2' hB hb2
   have n0 := HM.out.file_now hk
   obtain ⟨gk, nk, ck, hnk⟩ := HM.out.form_now hk
   have hdoes := rdoes_any (nv k) (d2.now k) c w2.drew (HM.out.now k hk) (HM.out.ok.nl k hk) HC.out.2.1 HC.out.2.2.2
   rw [hnk] at n0 hdoes
   have Hdoes := hid hdoes
   have hk8 : (k : Int) < 8 := by omega
   clear hnk hdoes
   refine wp_region_held_drew (S := fun W => W.heap[B]? = some (.cells (rchgCells c).toArray 106 (0, 0))) (by kernel_rfl) (show w2.drew.heap[B]? = _ from HB.out) (fun hHeld => ?_)
   refine ht 0 hHeld ?_
   refine ht 1 hHeld ?_
   refine ht 2 hHeld ?_
   refine ht 3 hHeld ?_
   refine ht 4 hHeld ?_
   refine ht 5 hHeld ?_
   refine ht 6 hHeld ?_
   refine held_take (v := .agg (rchgCells c).toArray) 8 rfl (by kernel_rfl) (by kernel_rfl) (by kernel_rfl) (fun _ _ _ h => h) (by rfl) hHeld (fun W hSw => exec_load rfl rfl (run_loadAt_mid W _ _ _ _ _ (range_whole hSw) Tryz.underlying106 rfl (by kernel_rfl))) ?_
   simp only [Act.put, zl0, zl1, zl2]
   refine ht 10 hHeld ?_
   refine ht 11 hHeld ?_
   refine held_one 7 (by kernel_rfl) rfl (fun K hK => ?_)
   go_simp
   refine hK.out _ _ (show w2.drew.heap[B]? = _ from HB.out) (fun hHeld => ?_)
   clear hK K
   try simp only [Act.put, zl0, zl1, zl2]
   clear n0
   refine held_one 9 (by kernel_rfl) rfl (fun K hK => ?_)
   go_simp
   refine (Hdoes.out).mono ?_
   rintro e w4 ⟨v4, rfl, hf4, hb4⟩
   have Hb4 := hid (below_undrew hb4)
   have Hf4 := hid (show FileR w4 w2.heap.size v4 (doesM (d2.now k) c) from hf4)
   have HB4 := hid ((Hb4.out.block B (zc HB.out)).trans HB.out)
   obtain ⟨g4, n4, c4, rfl⟩ : ∃ g n cc, v4 = .slice g n cc := (by rcases row_form hf4 with ⟨h1, _⟩ | ⟨g, cap, h1⟩ <;> exact ⟨_, _, _, h1⟩)
   clear hf4 hb4 Hdoes
   try dsimp only
   refine hK.out _ _ (HB4.out) (fun hHeld => ?_)
   clear hK K
   try simp only [Act.put, zl0, zl1, zl2]
   refine ht 12 hHeld ?_
   have hm4 := HM.out.keep (w' := w4) (fun x hx => Hb4.out.block x (hx.elim (HM.out.olt x) (HM.out.slt x))) Hb4.out.size
   have a0 := hm4.file_now hk
   have af0 := hm4.free k
   obtain ⟨ga0, na0, ca0, hna0⟩ := hm4.form_now hk
   rw [hna0] at a0
   clear hm4 hna0
   obtain ⟨F5, hm5, hst5⟩ := HM.out.write_now hk Hb4.out Hf4.out (does_len (HM.out.ok.nl k hk) HC.out.2.2.2) (does_sec (HM.out.ok.ns k hk) HC.out.2.2.1)
   have hB5 := one_other (w := w4) HB4.out (b := b) HBb.out k (.slice g4 n4 c4)
   have HM5 := hid hm5
   have HST5 := hid hst5
   have HB5 := hid hB5
   clear hm5 hst5 hB5
   refine held_one 13 (by kernel_rfl) rfl (fun K hK => ?_)
   go_simp
   refine hK.out _ _ (HB5.out) (fun hHeld => ?_)
   clear hK K
   try simp only [Act.put, zl0, zl1, zl2]
   refine wpAnyH_done (by kernel_rfl) ?_ _
   clear a0 af0
   obtain ⟨w5, hw5⟩ : ∃ w5, w5 = w4.setCell ⟨b, k, none⟩ (.slice g4 n4 c4) := ⟨_, rfl⟩
   rw [← hw5] at HM5 HST5 HB5 ⊢
   clear hw5 hHeld
   go_upto_region 15 with fail
   obtain ⟨a16, -, -, -, -⟩ := HM5.out.five
   have af := HM5.out.free 16
   refine wp_region_held_drew (S := fun W => W.heap[B]? = some (.cells (rchgCells c).toArray 106 (0, 0))) (by kernel_rfl) (show w5.drew.heap[B]? = _ from HB5.out) (fun hHeld => ?_)
   refine ht 0 hHeld ?_
   refine ht 1 hHeld ?_
   refine ht 2 hHeld ?_
   refine ht 3 hHeld ?_
   refine held_take (v := .agg (rchgCells c).toArray) 5 rfl (by kernel_rfl) (by kernel_rfl) (by kernel_rfl) (fun _ _ _ h => h) (by rfl) hHeld (fun W hSw => exec_load rfl rfl (run_loadAt_mid W _ _ _ _ _ (range_whole hSw) Tryz.underlying106 rfl (by kernel_rfl))) ?_
   simp only [Act.put, zl0, zl1, zl2]
   have a16a : (w5.drew.alloc (.cells (rchgCells c).toArray 106)).cell? ⟨b, 16, none⟩ = some lv := (za (zh (w := w5.drew) HM5.out.blk) 16).trans rfl
   have a16b : (w5.alloc (.cells (rchgCells c).toArray 106)).cell? ⟨b, 16, none⟩ = some lv := (za (zh (w := w5) HM5.out.blk) 16).trans rfl
   refine held_two (vi := lv) (vj := .slice (some ⟨w5.heap.size, 0, none⟩) 1 1) (w' := w5.drew.alloc (.cells (rchgCells c).toArray 106)) 4 6 (by decide) (by kernel_rfl) (by kernel_rfl) (by kernel_rfl) rfl rfl (by rfl) (by rfl) (by rfl) (by rfl) (by go_simp) (exec_buildSlice (vs := #[(0, .agg (rchgCells c).toArray)]) rfl (by simp [Act.eval, Act.put]) (build_rchg _ c)) (by go_simp) (exec_buildSlice (vs := #[(0, .agg (rchgCells c).toArray)]) rfl (by simp [Act.eval, Act.put]) (build_rchg _ c)) rfl (show w5.drew.heap[B]? = _ from HB5.out) (zh (w := w5.drew) HB5.out) ?_
   have hHeld := zh (w := w5.drew) (o := .cells (rchgCells c).toArray 106) HB5.out
   try simp only [Act.put, zl0, zl1, zl2]
   clear a16a a16b
   obtain ⟨i0, hi, hz0, hz1, hz2⟩ := info_parts (P := Tryz.prog) (e := 106) (z := .agg (rchgCells ⟨0, 0, false, []⟩).toArray) (size := 4) (bytes := 40) (by kernel_rfl)
   refine held_one 7 (by kernel_rfl) rfl (fun K hK => ?_)
   refine step_append_lies _ (by rfl) _ _ 59 (by rfl) 0 106 i0 _ 4 40 Tryz.underlying59 hi hz0 hz1 hz2 rfl (by omega) lv d2.loose.length (rchgs d2.loose) (by rfl) (row_keep HM5.out.row (fun x hx => Below.heap_alloc w5.drew _ x (row_base HM5.out.row hx).2)) ⟨w5.heap.size, 0, none⟩ 1 1 (rchgCells c) (by rfl) (by rfl) (World.news_of_block (cs := (rchgCells c).toArray) (t := 106) (fr := (0, 0)) (ze w5.drew _)) (rchg_one c) (by omega) (by unfold maxLen; have := HS2.out; omega) (by have := HS2.out; omega) (Nat.zero_le _) (w5.drew.heap.size + 1) (by simp) ?_
   intro g cap w7 hown7 hgrow7 hat7 hlt7
   have HB7 := hid ((hgrow7.block B (by simp; exact Nat.lt_succ_of_lt (zc HB5.out)) (fun e => HLB.out B e.symm rfl)).trans (zh (w := w5.drew) HB5.out))
   have hbl7 := (hgrow7.block b (by simp; exact Nat.lt_succ_of_lt (zc HM5.out.blk)) (fun e => HM5.out.row_ne e.symm)).trans (zh (w := w5.drew) HM5.out.blk)
   have b16 : w7.cell? ⟨b, 16, none⟩ = some lv := (za hbl7 16).trans rfl
   have bf := zg hbl7 16
   obtain ⟨hm8, hst8⟩ := HM5.out.push (c := c) ((Below.refl _ w5).drew.alloc (Nat.le_refl _) _) hown7 hgrow7 (hat7.imp id (fun e => by rw [e]; simp)) hlt7 ⟨by rw [HC.out.1]; exact hk, HC.out.2.1, HC.out.2.2.1, HC.out.2.2.2⟩
   have HM8 := hid hm8
   have HST8 := hid hst8
   clear hm8 hst8 hown7 hgrow7 hat7 hlt7 a16 af hbl7
   refine hK.out _ _ (HB7.out) (fun hHeld => ?_)
   clear hK K
   try simp only [Act.put, zl0, zl1, zl2]
   refine ht 8 hHeld ?_
   refine ht 9 hHeld ?_
   refine held_one 10 (by kernel_rfl) rfl (fun K hK => ?_)
   go_simp
   refine hK.out _ _ (one_other HB7.out HBb.out _ _) (fun hHeld => ?_)
   clear hK K
   try simp only [Act.put, zl0, zl1, zl2]
   refine wpAnyH_done (by kernel_rfl) ?_ _
   clear b16 bf hHeld
   go_wp2_with fail
   go_roundw
   case rel =>
    have e : wrN d1 k a s (i + 1) = { now := put d2.now k (doesM (d2.now k) c), sure := d2.sure, loose := d2.loose ++ [c], armed := d2.armed, ops := d2.ops, goes := d2.goes, off := d2.off, narm := d2.narm } := by
     show applyM (wrN d1 k a s i) (wrChg k a s i) = _
     rw [← Hd2.out, ← Hc.out]
     unfold applyM
     rw [HC.out.1]
    exact ⟨i + 1, _, by simp, by omega, by rw [e]; exact ⟨_, _, _, _, HM8.out⟩, HST.out.trans (HST5.out.trans HST8.out)⟩
   case measure => simp [intOf]; omega
  ·obtain rfl : i = n := by omega
   have u5 : decide ((i : Int) < (i : Int)) = false := by simp
   have Hat := hid hat
   have Hst := hid hst
   clear hat hst
   go_wp2_with fail
   go_ret
   exact ⟨rfl, F2, Hat.out, Hst.out⟩
end
end Go.Proofs.YtfkcmgbpgefnnaaGreat.Rf
/- The reference's Write whole. -/
namespace Go.Proofs.YtfkcmgbpgefnnaaGreat.Rf
open Go.RowKit Go.Maps
set_option maxRecDepth 20000
section
variable {w : World} {b : Nat} {F : Foot} {d : Dsk}
set_option maxHeartbeats 1000000 in
set_option maxRecDepth 20000 in
theorem rwrite_any (h : RefAt w b F d) (f a : Int) (s : List UInt8) (hs : d.Small 1099511527776) (hsl : s.length ≤ 1099511627776) :
  Calls Tryz.prog 49 #[.pointer (some ⟨b, 0, none⟩), .int .i64 f, .int .i64 a, .string (bs s)] w fun e w' => e = .returned (.int .i64 (writeM d f a s).1) ∧ RDid w b F (writeM d f a s).2 w' := by
 obtain ⟨nv, sv, lv, av, h0⟩ := id h
 have c20 := h0.five.2.2.2.2
 cases ho : d.off with
 | true =>
  rw [ho] at c20
  have e : writeM d f a s = (32, d) := by unfold writeM; rw [ready_off ho, if_pos (by decide)]
  rw [e]
  have H := hid h
  clear h h0 hs e ho
  go_enter Tryz.func49, Tryz.ntmps49
  go_wp2_with fail
  go_ret
  exact ⟨rfl, RDid.same H.out⟩
 | false =>
  rw [ho] at c20
  by_cases hf : 0 ≤ f ∧ f < 8
  ·obtain ⟨k, rfl⟩ : ∃ k : Nat, f = k := ⟨f.toNat, by omega⟩
   have hk : k < 8 := by omega
   have hin := in_any (k : Int)
   rw [in_true hf] at hin
   have IN := hid hin
   have hready := ready_on hk ho
   obtain ⟨n, hn⟩ : ∃ n, n = s.length / 64 := ⟨_, rfl⟩
   obtain ⟨L, hL⟩ : ∃ L : Int, (s.length : Int) = L := ⟨_, rfl⟩
   have t2e : L.tmod 64 = ((s.length % 64 : Nat) : Int) := by rw [Int.tmod_eq_emod_of_nonneg (by omega)]; omega
   have t3 : L.tdiv 64 = (n : Int) := by rw [Int.tdiv_eq_ediv_of_nonneg (by omega)]; omega
   have t4 : wrap64 (n : Int) = (n : Int) := IntWalk.wrap64_in _ (by omega)
   have t3b : L / 64 = (n : Int) := by omega
   by_cases h1 : s.length / 64 = 0 ∨ s.length % 64 ≠ 0
   ·have e : writeM d k a s = (2, d) := by unfold writeM; rw [if_neg (by simpa using hready), if_pos h1]
    rw [e]
    have H := hid h
    by_cases g1 : L < 64
    ·have t1 : decide (L < 64) = true := by simpa using g1
     clear h h0 hs e ho hin h1 t2e t3 t3b t4 hready g1 hn
     go_enter Tryz.func49, Tryz.ntmps49
     go_wp2_with (first | (go_at_call 83; refine (IN.out _).mono ?_; rintro e w1 ⟨rfl, rfl⟩) | go_in)
     go_ret
     exact ⟨rfl, RDid.same H.out⟩
    ·have t1 : decide (L < 64) = false := by simpa using g1
     have t2 : (L.tmod 64 != 0) = true := by rw [t2e]; simp; omega
     have t2b : (L % 64 != 0) = true := by simp; omega
     clear h h0 hs e ho hin h1 t2e t3 t3b t4 hready g1 hn
     go_enter Tryz.func49, Tryz.ntmps49
     go_wp2_with (first | (go_at_call 83; refine (IN.out _).mono ?_; rintro e w1 ⟨rfl, rfl⟩) | go_in)
     go_ret
     exact ⟨rfl, RDid.same H.out⟩
   ·have t1 : decide (L < 64) = false := by simp only [decide_eq_false_iff_not]; omega
    have t2 : (L.tmod 64 != 0) = false := by rw [t2e]; simp; omega
    have t2b : (L % 64 != 0) = false := by simp; omega
    clear t2e
    by_cases h2 : a < 0 ∨ (8192 : Int) < (s.length / 64 : Nat) ∨ (8192 : Int) - (s.length / 64 : Nat) < a
    ·have e : writeM d k a s = (5, d) := by unfold writeM; rw [if_neg (by simpa using hready), if_neg h1, if_pos h2]
     rw [e]
     rw [← hn] at h2
     have H := hid h
     have hn40 : n ≤ 1099511627776 := by omega
     obtain ⟨N, hN⟩ : ∃ N : Int, (n : Int) = N := ⟨_, rfl⟩
     rw [hN] at h2 t3 t3b t4
     have t7 : IntKind.i64.wrap (8192 - N) = 8192 - N := IntWalk.i64_in _ (by omega)
     by_cases g1 : a < 0
     ·have t5 : decide (a < 0) = true := by simpa using g1
      clear h h0 hs e ho hin h1 hready g1 hn h2
      go_enter Tryz.func49, Tryz.ntmps49
      go_wp2_with (first | (go_at_call 83; refine (IN.out _).mono ?_; rintro e w1 ⟨rfl, rfl⟩) | go_in)
      go_ret
      exact ⟨rfl, RDid.same H.out⟩
     ·have t5 : decide (a < 0) = false := by simpa using g1
      by_cases g2 : 8192 < N
      ·have t6 : decide (8192 < N) = true := by simpa using g2
       clear h h0 hs e ho hin h1 hready g1 g2 hn h2
       go_enter Tryz.func49, Tryz.ntmps49
       go_wp2_with (first | (go_at_call 83; refine (IN.out _).mono ?_; rintro e w1 ⟨rfl, rfl⟩) | go_in)
       go_ret
       exact ⟨rfl, RDid.same H.out⟩
      ·have t6 : decide (8192 < N) = false := by simpa using g2
       have t8 : decide (8192 - N < a) = true := by simp only [decide_eq_true_eq]; omega
       clear h h0 hs e ho hin h1 hready g1 g2 hn h2
       go_enter Tryz.func49, Tryz.ntmps49
       go_wp2_with (first | (go_at_call 83; refine (IN.out _).mono ?_; rintro e w1 ⟨rfl, rfl⟩) | go_in)
       go_ret
       exact ⟨rfl, RDid.same H.out⟩
    ·obtain ⟨a0, rfl⟩ : ∃ i : Nat, a = i := ⟨a.toNat, by omega⟩
     by_cases hm : (meetsM d).1 = 0
     ·have e : writeM d k a0 s = (0, wrN (meetsM d).2 k a0 s (s.length / 64)) := by
       unfold writeM
       rw [if_neg (by simpa using hready), if_neg h1, if_neg h2, if_neg (by simpa using hm), Int.toNat_natCast, Int.toNat_natCast]
      rw [e]
      exact rwrite_main h k a0 s hs hk ho (by omega) (by omega) (by omega) hm
     ·have e : writeM d k a0 s = meetsM d := by
       unfold writeM
       rw [if_neg (by simpa using hready), if_neg h1, if_neg h2, if_pos hm]
      rw [e]
      rw [← hn] at h2
      have M := rmeets_any h (hs.mono (by omega))
      obtain ⟨r, hr2⟩ : ∃ r, r = (meetsM d).1 := ⟨_, rfl⟩
      obtain ⟨d1, hd1⟩ : ∃ d1, d1 = (meetsM d).2 := ⟨_, rfl⟩
      rw [← hr2, ← hd1] at M ⊢
      rw [← hr2] at hm
      have hrne : (r != 0) = true := by simpa using hm
      have M := hid M
      obtain ⟨N, hN⟩ : ∃ N : Int, (n : Int) = N := ⟨_, rfl⟩
      rw [hN] at h2 t3 t3b t4
      have t5 : decide ((a0 : Int) < 0) = false := by simp
      have t6 : decide (8192 < N) = false := by simp only [decide_eq_false_iff_not]; omega
      have t7 : IntKind.i64.wrap (8192 - N) = 8192 - N := IntWalk.i64_in _ (by omega)
      have t8 : decide (8192 - N < (a0 : Int)) = false := by simp only [decide_eq_false_iff_not]; omega
      clear h h0 hs e ho hin h1 hready hn h2 hr2 hd1 hm
      go_enter Tryz.func49, Tryz.ntmps49
      go_wp2_with (first | (go_at_call 83; refine (IN.out _).mono ?_; rintro e w1 ⟨rfl, rfl⟩) | (go_at_call 84; refine (M.out).mono ?_; rintro e w2 ⟨rfl, hd2⟩) | go_in)
      go_ret
      exact ⟨rfl, hd2⟩
  ·have e : writeM d f a s = (2, d) := by unfold writeM; rw [ready_out ho hf, if_pos (by decide)]
   rw [e]
   have hin := in_any f
   rw [in_false hf] at hin
   have IN := hid hin
   have H := hid h
   clear h h0 hs e ho hin hf
   go_enter Tryz.func49, Tryz.ntmps49
   go_wp2_with (first | (go_at_call 83; refine (IN.out _).mono ?_; rintro e w1 ⟨rfl, rfl⟩) | go_in)
   go_ret
   exact ⟨rfl, RDid.same H.out⟩
end
end Go.Proofs.YtfkcmgbpgefnnaaGreat.Rf
