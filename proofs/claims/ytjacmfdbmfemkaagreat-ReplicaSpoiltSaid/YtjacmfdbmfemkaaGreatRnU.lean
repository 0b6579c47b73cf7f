/- The law ReplicaSpoilt: its walk. -/
import Derived.Test.YtjacmfdbmfemkaaGreatRnV
import Derived.Deep.CutBlock
set_option linter.unusedVariables false
set_option linter.unusedSimpArgs false
namespace Go.Proofs.YtjacmfdbmfemkaaGreat
open Go.RowKit Go.Maps
set_option maxRecDepth 20000
theorem lputM_len (m : Sh) (h : m.imgs.length ≤ 20) : (lputM m).length ≤ 10456 := by
 unfold lputM
 split
 ·rename_i hm
  rw [Rf.putL_length m hm]
  omega
 ·simp
def nt0 : Nt := ⟨fun _ => none, 0, 0⟩
def nt1 (s : List UInt8) : Nt := addT nt0 ⟨0, 1, 0, s, false⟩
theorem nt1_add (s : List UInt8) : addM nt0 ⟨0, 1, 0, s, false⟩ = (1, 0, nt1 s) := rfl
theorem nt1_f (s : List UInt8) : (nt1 s).f 1 = some ⟨1, 1, 0, s, false⟩ := rfl
def lt2 (s : List UInt8) (k : Nat) (b : UInt8) : Ltr := spoil ⟨1, 1, 0, s, false⟩ k b
def nt2 (s : List UInt8) (k : Nat) (b : UInt8) : Nt := spoilT (nt1 s) 1 (lt2 s k b)
theorem nt2_find (s : List UInt8) (k : Nat) (b : UInt8) : findM (nt2 s k b) 1 = (lt2 s k b, 0) := rfl
set_option maxHeartbeats 16000000 in
set_option maxRecDepth 20000 in
theorem rspoilt_any (w : World) (m : Sh) (v : Value) (frm at_ : Int) (by_ : UInt8) (hA : at_ ≤ 9223372036854775807) (h : ShIn w m v) : Calls Tryz.prog 3 #[shipV m v, .int .i64 frm, .int .i64 at_, .int .u8 by_.toNat] w fun e w' => e = .returned (.bool true) ∧ Below w.heap.size w w' := by
 obtain ⟨ao, cap, rfl⟩ := imgs_shape h.at'
 obtain ⟨n, hn⟩ : ∃ n, n = m.imgs.length := ⟨_, rfl⟩
 rw [← hn] at h ⊢
 have hb0 := (Below.refl w.heap.size w).alloc (Nat.le_refl _) (.cells (shCells m (.slice ao n cap)) 25)
 have hz0 := heap_alloc_new w (.cells (shCells m (.slice ao n cap)) 25)
 have HS0 := hid (h.kept hb0)
 have hl0 := h.n
 have hnI : (n : Int) ≤ 9223372036854775807 := by omega
 have HB0 := hid hb0
 have HZ0 := hid hz0
 have WK := hid (rworks_any (w.alloc (.cells (shCells m (.slice ao n cap)) 25)))
 have Hn := hid hn
 unfold shipV
 simp only [shCells] at HB0 HZ0 HS0 WK ⊢
 clear hb0 hz0 h hl0 hn
 go_enter Tryz.func3, Tryz.ntmps3
 go_upto_region 3 with (first
  | (go_at_call 5; refine (WK.out).mono ?_; rintro e w1 ⟨rfl, hb1⟩; have HB1 := hid hb1; clear hb1 WK)
  | go_in)
 obtain ⟨M, hM⟩ : ∃ M, M = w.heap.size := ⟨_, rfl⟩
 have hBw : Below w.heap.size w w1 := HB0.out.trans (HB1.out.mono HB0.out.size)
 have hz1 := (HB1.out.block w.heap.size (lt_of_block HZ0.out)).trans HZ0.out
 have hs1 := HS0.out.kept HB1.out
 rw [← hM] at hz1 ⊢
 obtain ⟨y0, y1, y2, y3, y4, y5, yf⟩ := cells6 hz1
 have HBw := hid hBw
 have HZ1 := hid hz1
 have HS1 := hid hs1
 have HS := hid hs1.wf
 have HM := hid (show w.heap.size ≤ M by omega)
 clear hBw hz1 hs1 hM HB0 HZ0 HS0 HB1
 by_cases g1 : 20 < n
 ·have b1 : decide (20 < (n : Int)) = true := by simp; omega
  clear g1
  go_wp2_with fail
  go_ret
  exact ⟨rfl, HBw.out⟩
 have b1 : decide (20 < (n : Int)) = false := by simp; omega
 by_cases g2 : by_ = 0
 ·have b2 : ((by_.toNat : Int) == 0) = true := by rw [g2]; rfl
  clear g1 g2
  go_wp2_with fail
  go_ret
  exact ⟨rfl, HBw.out⟩
 have b2 : ((by_.toNat : Int) == 0) = false := by
  have : by_.toNat ≠ 0 := fun e => g2 (UInt8.toNat_inj.1 e)
  simp; omega
 by_cases g3 : at_ < 0
 ·have b3 : decide (at_ < 0) = true := by simpa using g3
  clear g1 g2 g3
  go_wp2_with fail
  go_ret
  exact ⟨rfl, HBw.out⟩
 have b3 : decide (at_ < 0) = false := by simpa using g3
 obtain ⟨a, ha⟩ : ∃ a : Nat, at_ = (a : Int) := ⟨at_.toNat, by omega⟩
 subst ha
 obtain ⟨s, hs⟩ : ∃ s, s = lputM m := ⟨_, rfl⟩
 have hsl : s.length ≤ 262144 := by
  have := lputM_len m (by rw [← Hn.out]; omega)
  rw [hs]; omega
 have H2 := hid g2
 have Hs := hid hs
 have HSl := hid hsl
 clear g1 g2 g3 hs hsl
 go_upto_region 8 with (first
  | (go_at_call 6; refine (lead_any 7 _).mono ?_; rintro e w2 ⟨rfl, hw2⟩; have HW2 := hid hw2; clear hw2)
  | (go_at_call 7; refine (net_new w2).mono ?_; rintro e w3 ⟨nb, mb, rfl, hn3, hnb, hmb, hb3⟩; have HN3 := hid hn3; have HB3 := hid hb3; have HQ3 := hid (And.intro hnb hmb); have q0 := (cells6 ((hb3.block M (Nat.lt_of_lt_of_le (lt_of_block HZ1.out) (by rw [HW2.out]; simp))).trans (by rw [HW2.out]; exact heap_alloc_old HZ1.out))); clear hn3 hb3 hnb hmb; obtain ⟨u0, u1, u2, u3, u4, u5, uf⟩ := q0)
  | (go_at_call 8; refine (lput_any m (.slice ao n cap) w3 ((HS1.out.kept (by rw [HW2.out]; exact (Below.refl _ _).alloc (Nat.le_refl _) _)).kept HB3.out)).mono ?_; rintro e w4 ⟨rfl, hb4⟩; rw [← Hs.out]; have HB4 := hid hb4; clear hb4)
  | go_in)
 obtain ⟨L, hL⟩ : ∃ L, L = w1.heap.size := ⟨_, rfl⟩
 rw [← hL]
 have hl2 : w2.heap[L]? = some (ldObj ⟨7, 0, 0, 0⟩) := by rw [HW2.out, hL]; exact heap_alloc_new _ _
 have hb12 : Below w.heap.size w w2 := by rw [HW2.out]; exact HBw.out.alloc HBw.out.size _
 have hl3 := (HB3.out.block L (lt_of_block hl2)).trans hl2
 have hb13 := hb12.trans (HB3.out.mono hb12.size)
 have hl4 := (HB4.out.block L (lt_of_block hl3)).trans hl3
 have hb14 := hb13.trans (HB4.out.mono hb13.size)
 have hn4 : NtAt w4 nb mb nt0 := HN3.out.below HB4.out
 have hLn : L ≠ nb ∧ L ≠ mb := by have := lt_of_block hl2; have := HQ3.out; omega
 have hwn : w.heap.size ≤ nb ∧ w.heap.size ≤ mb := by have := hb12.size; have := HQ3.out; omega
 have HL4 := hid hl4
 have HN4 := hid hn4
 have HB14 := hid hb14
 have HLn := hid hLn
 have Hwn := hid hwn
 have hwL : w.heap.size ≤ L := by rw [hL]; exact HBw.out.size
 have HwL := hid hwL
 clear hl2 hb12 hl3 hb13 hl4 hb14 hn4 hLn hwn hL hwL HW2 HB3 HB4 HN3 HQ3 HBw HS1 HZ1 u0 u1 u2 u3 u4 u5 uf y0 y1 y2 y3 y4 y5 yf HM
 have SD := nsend_any HN4.out 1 0 s (by decide) (by decide) (by decide) HSl.out
 rw [nt1_add] at SD
 have SD := hid SD
 go_upto_region 9 with (first
  | (go_at_call 9; refine (SD.out).mono ?_; rintro e w5 ⟨rfl, hd5⟩; have HD5 := hid hd5; clear hd5)
  | go_in)
 have hd5 := HD5.out
 have hl5 := (hd5.frm.block L (lt_of_block HL4.out) (fun e => e.elim HLn.out.1 HLn.out.2)).trans HL4.out
 have hb5 : Below w.heap.size w w5 := ⟨hd5.frm.os.trans HB14.out.os, hd5.frm.tape.trans HB14.out.tape, hd5.frm.output.trans HB14.out.output, Nat.le_trans HB14.out.size hd5.frm.size, fun k hk => (hd5.frm.block k (Nat.lt_of_lt_of_le hk HB14.out.size) (fun e => e.elim (fun e => by have := Hwn.out; omega) (fun e => by have := Hwn.out; omega))).trans (HB14.out.block k hk)⟩
 have HN5 := hid hd5.at_
 have HL5 := hid hl5
 have HB5 := hid hb5
 clear hd5 hl5 hb5 HD5 SD HN4 HL4 HB14
 by_cases g4 : s = []
 ·have b4 : (s == []) = true := by rw [g4]; rfl
  have b5 : (bs s == ⟨#[]⟩) = true := by rw [g4]; rfl
  subst g4
  go_wp2_with fail
  go_ret
  exact ⟨rfl, HB5.out⟩
 have hmay : mayB m = true := by
  cases hm : mayB m with
  | true => rfl
  | false => exact absurd (by rw [Hs.out]; unfold lputM; rw [hm]; rfl) g4
 have hsp : s = putL m := by rw [Hs.out]; unfold lputM; rw [hmay]; rfl
 have hs0 : 0 < s.length := List.length_pos_iff.2 g4
 have b4 : s.isEmpty = false := by simpa using g4
 obtain ⟨k, hk⟩ : ∃ k, k = a % s.length := ⟨_, rfl⟩
 have hkl : k < s.length := by rw [hk]; exact Nat.mod_lt _ hs0
 have hsl := HSl.out
 have hr1 : ((a : Int)).tmod ((s.length : Nat) : Int) = (k : Int) := by rw [Int.tmod_eq_emod_of_nonneg (by omega), hk]; simp
 have hr2 : IntKind.i64.wrap ((k : Nat) : Int) = (k : Int) := IntWalk.i64_in _ (by omega)
 have hr3 : (((s.length : Nat) : Int) == 0) = false := by simpa using g4
 have SP := nspoil_good HN5.out 1 (by decide) (nt1_f s) rfl k hkl hsl by_ H2.out
 have SP := hid (show Calls Tryz.prog 10 #[.pointer (some ⟨nb, 0, none⟩), .int .i64 1, .int .i64 (k : Int), .int .u8 by_.toNat] w5 fun e w' => e = .returned (.int .i64 0) ∧ NtDid w5 nb mb (nt2 s k by_) w' from SP)
 have HK := hid hkl
 have HMay := hid (And.intro hmay hsp)
 clear hmay hs0 hk hkl hsl hsp SD
 go_upto_region 11 with (first
  | (go_at_call 10; refine (SP.out).mono ?_; rintro e w6 ⟨rfl, hd6⟩; have HD6 := hid hd6; clear hd6)
  | go_in)
 have hd6 := HD6.out
 have hl6 := (hd6.frm.block L (lt_of_block HL5.out) (fun e => e.elim HLn.out.1 HLn.out.2)).trans HL5.out
 have hb6 : Below w.heap.size w w6 := ⟨hd6.frm.os.trans HB5.out.os, hd6.frm.tape.trans HB5.out.tape, hd6.frm.output.trans HB5.out.output, Nat.le_trans HB5.out.size hd6.frm.size, fun k hk => (hd6.frm.block k (Nat.lt_of_lt_of_le hk HB5.out.size) (fun e => e.elim (fun e => by have := Hwn.out; omega) (fun e => by have := Hwn.out; omega))).trans (HB5.out.block k hk)⟩
 have HN6 := hid hd6.at_
 have HL6 := hid hl6
 have HB6 := hid hb6
 clear hd6 hl6 hb6 HD6 SP HN5 HL5 HB5
 have DV := ndeliver_any HN6.out 1 (by decide)
 rw [nt2_find] at DV
 have hbad : (Rf.takeM (lt2 s k by_).bytes).2 ≠ 0 := by
  have := spoilt_no m HMay.out.1 HS.out k (by rw [← HMay.out.2]; exact HK.out) by_ H2.out
  rw [← HMay.out.2] at this
  exact this
 have hlen2 : (lt2 s k by_).bytes.length ≤ 1099511627776 := by
  have : (lt2 s k by_).bytes.length = s.length := by simp [lt2, spoil]
  have := HSl.out
  omega
 simp only [ltrV, ltrCells] at DV
 obtain ⟨y, hy⟩ : ∃ y, y = lt2 s k by_ := ⟨_, rfl⟩
 rw [← hy] at DV hbad hlen2
 have DV := hid DV
 have HBad := hid hbad
 have HLen2 := hid hlen2
 clear hy hbad hlen2
 go_upto_region 12 with (first
  | (go_at_call 11; refine (DV.out).mono ?_; rintro e w7 ⟨rfl, hd7⟩; have HD7 := hid hd7; clear hd7)
  | go_in)
 have hd7 := HD7.out
 have hl7 := (hd7.frm.block L (lt_of_block HL6.out) (fun e => e.elim HLn.out.1 HLn.out.2)).trans HL6.out
 have hb7 : Below w.heap.size w w7 := ⟨hd7.frm.os.trans HB6.out.os, hd7.frm.tape.trans HB6.out.tape, hd7.frm.output.trans HB6.out.output, Nat.le_trans HB6.out.size hd7.frm.size, fun k hk => (hd7.frm.block k (Nat.lt_of_lt_of_le hk HB6.out.size) (fun e => e.elim (fun e => by have := Hwn.out; omega) (fun e => by have := Hwn.out; omega))).trans (HB6.out.block k hk)⟩
 have hz8 := heap_alloc_new w7 (.cells #[.int .i64 y.id, .int .i64 y.frm, .int .i64 y.tto, .string (bs y.bytes), .bool y.spoilt] 37)
 have hl8 := heap_alloc_old (o := .cells #[.int .i64 y.id, .int .i64 y.frm, .int .i64 y.tto, .string (bs y.bytes), .bool y.spoilt] 37) hl7
 have hb8 := hb7.alloc hb7.size (.cells #[.int .i64 y.id, .int .i64 y.frm, .int .i64 y.tto, .string (bs y.bytes), .bool y.spoilt] 37)
 have hqw := hb7.size
 obtain ⟨q, hq⟩ : ∃ q, q = w7.heap.size := ⟨_, rfl⟩
 have hLq : L ≠ q := by have := lt_of_block hl7; omega
 rw [← hq] at hz8 hqw ⊢
 generalize w7.alloc (.cells #[.int .i64 y.id, .int .i64 y.frm, .int .i64 y.tto, .string (bs y.bytes), .bool y.spoilt] 37) = w8 at *
 have HZ8 := hid hz8
 have HL8 := hid hl8
 have HB8 := hid hb8
 have HQ := hid (And.intro hqw hLq)
 clear hd7 hl7 hb7 hz8 hl8 hb8 hqw hLq hq HD7 DV HN6 HL6 HB6
 go_upto_region 13 with (first
  | (go_at_call 12; refine (fresh_any w8).mono ?_; rintro e w9 ⟨pb, l, b, rfl, hp9⟩; have HP9 := hid hp9; have HL9 := hid ((hp9.bel.block L (lt_of_block HL8.out)).trans HL8.out); have HZ9 := hid ((hp9.bel.block q (lt_of_block HZ8.out)).trans HZ8.out); clear hp9)
  | go_in)
 go_upto_region 15 with (first
  | (go_at_call 13; refine (z_turn HP9.out).mono ?_; rintro e w10 ⟨rfl, hp10, hk10⟩; have HP10 := hid hp10; have HL10 := hid ((hk10 L (lt_of_block HL8.out)).trans HL9.out); have HZ10 := hid ((hk10 q (lt_of_block HZ8.out)).trans HZ9.out); clear hp10 hk10)
  | go_in)
 go_upto_region 16 with (first
  | (go_at_call 14; refine (trail_any pb w10).mono ?_; rintro e w11 ⟨rfl, hw11⟩; have HW11 := hid hw11; clear hw11)
  | go_in)
 have hb11 : Below w10.heap.size w10 w11 := by rw [HW11.out]; exact (Below.refl _ _).alloc (Nat.le_refl _) _
 have ht11 : w11.heap[w10.heap.size]? = some (tlObj pb 0) := by rw [HW11.out]; exact heap_alloc_new _ _
 have hl11 := (hb11.block L (lt_of_block HL10.out)).trans HL10.out
 have hz11 := (hb11.block q (lt_of_block HZ10.out)).trans HZ10.out
 have hp11 := HP10.out.add (X' := fun k => k < w8.heap.size ∨ k = w10.heap.size) hb11 (fun k hk => hk.elim .inl (fun e => .inr (by rw [e]; exact Nat.le_refl _))) (fun k hk => hk.elim (fun e => Nat.lt_of_lt_of_le (HP10.out.xlt k e) hb11.size) (fun e => by rw [e]; exact lt_of_block ht11))
 have hTw : w8.heap.size ≤ w10.heap.size := HP10.out.bel.size
 have hTL : L ≠ w10.heap.size := by have := lt_of_block HL10.out; omega
 have hTq : q ≠ w10.heap.size := by have := lt_of_block HZ10.out; omega
 obtain ⟨T, hT⟩ : ∃ T, T = w10.heap.size := ⟨_, rfl⟩
 rw [← hT] at ht11 hp11 hTw hTL hTq ⊢
 have HT11 := hid ht11
 have HL11 := hid hl11
 have HZ11 := hid hz11
 have HP11 := hid hp11
 have HTw := hid (And.intro hTw (And.intro hTL hTq))
 clear hb11 ht11 hl11 hz11 hp11 hTw hTL hTq hT HW11 HP10 HP9 HL9 HZ9 HL10 HZ10
 go_upto_region 17 with (first
  | (go_at_call 15; refine (z_state HP11.out).mono ?_; rintro e w12 ⟨v1, rfl, hs12, hb12⟩; have HS12 := hid hs12; have HB12 := hid hb12; clear hs12 hb12)
  | go_in)
 have hb12 := HB12.out
 have hT12 := (hb12.block T (lt_of_block HT11.out)).trans HT11.out
 have hl12 := (hb12.block L (lt_of_block HL11.out)).trans HL11.out
 have hz12 := (hb12.block q (lt_of_block HZ11.out)).trans HZ11.out
 have hp12 := HP11.out.add (X' := fun k => (k < w8.heap.size ∨ k = T) ∨ v1.ownBlock = some k) hb12 (fun k hk => hk.elim .inl (fun e => .inr (row_base HS12.out e).1)) (fun k hk => hk.elim (fun e => Nat.lt_of_lt_of_le (HP11.out.xlt k e) hb12.size) (fun e => (row_base HS12.out e).2))
 have hv1T : ∀ k, v1.ownBlock = some k → k ≠ T := fun k e => by have := (row_base HS12.out e).1; have := lt_of_block HT11.out; omega
 have x12 : w12.cell? ⟨q, 3, none⟩ = some (.string (bs y.bytes)) := (cell_of_block hz12 3).trans rfl
 have TG := hid (z_get hp12 hT12 (.inl (.inr rfl)) HTw.out.1 y.bytes HLen2.out HBad.out)
 have HL12 := hid hl12
 have HZ12 := hid hz12
 have HV1 := hid hv1T
 have HXL := hid (lt_of_block HL8.out)
 have HS12B := hid (lt_of_block HT11.out)
 have HXQ := hid (lt_of_block HZ8.out)
 clear hb12 hT12 hl12 hz12 hp12 hv1T HP11 HT11 HL11 HZ11 HB12
 go_upto_region 18 with (first
  | (go_at_call 16; refine (TG.out).mono ?_; rintro e w13 ⟨pv, rfl, hr13, hp13, ht13, hk13⟩; have HR13 := hid hr13; have HP13 := hid hp13; have HT13 := hid ht13; have HL13 := hid ((hk13 L (.inl (.inl HXL.out)) HTw.out.2.1).trans HL12.out); have HZ13 := hid ((hk13 q (.inl (.inl HXQ.out)) HTw.out.2.2).trans HZ12.out); have HS13 := hid (row_keep HS12.out (fun k hk => hk13 k (.inr hk) (HV1.out k hk))); clear hr13 hp13 ht13 hk13 TG)
  | go_in)
 obtain ⟨ao13, cap13, rfl, -⟩ := HR13.out.shape
 have ST := hid (z_state HP13.out)
 go_upto_region 19 with (first
  | (go_at_call 15; refine (ST.out).mono ?_; rintro e w14 ⟨v2, rfl, hs14, hb14⟩; have R14 := hid hs14; have B14 := hid hb14; have T14 := hid ((hb14.block T (lt_of_block HT13.out)).trans HT13.out); have L14 := hid ((hb14.block L (lt_of_block HL13.out)).trans HL13.out); have Z14 := hid ((hb14.block q (lt_of_block HZ13.out)).trans HZ13.out); have S14 := hid (row_keep HS13.out (fun k hk => hb14.block k (row_base HS13.out hk).2)); clear hs14 hb14 ST)
  | go_in)
 have hB14 : Below w.heap.size w w14 := HB8.out.trans ((HP13.out.bel.mono HB8.out.size).trans (B14.out.mono (by have := HB8.out.size; have := HP13.out.bel.size; omega)))
 have HBE := hid hB14
 have hlt13 : L < w13.heap.size := lt_of_block HL13.out
 have hlt11 : L < w11.heap.size := by have := HXL.out; have := HTw.out.1; have := HS12B.out; omega
 have HV1L := hid (show ∀ g, v1.ownBlock = some g → g ≠ L from fun g e => by have := (row_base HS12.out e).1; omega)
 have HV2L := hid (show ∀ g, v2.ownBlock = some g → g ≠ L from fun g e => by have := (row_base R14.out e).1; omega)
 have HTL := hid (show T ≠ L from fun e => HTw.out.2.1 e.symm)
 have HQL := hid (show q ≠ L from fun e => HQ.out.2 e.symm)
 obtain ⟨er, her⟩ : ∃ er, er = (Rf.takeM y.bytes).2 := ⟨_, rfl⟩
 have hern : (er != 0) = true := by rw [her]; simpa using HBad.out
 have LG : ∀ W (n : Int), 1 ≤ n ∧ n ≤ 2 → W.heap[L]? = some (ldObj ⟨7, 0, 0, 0⟩) → Calls Tryz.prog 17 #[.pointer (some ⟨L, 0, none⟩), .int .i64 n, .string (bs y.bytes)] W fun e w' => e = .returned (.int .i64 er) ∧ w'.heap[L]? = some (ldObj ⟨7, 0, 0, 0⟩) ∧ Frm (fun k => k = L) W w' := fun W n hn hb => by
  rw [her]
  exact z_lget hb n hn y.bytes HLen2.out HBad.out
 have LG := hid LG
 rw [← her]
 have z3 : w14.cell? ⟨q, 3, none⟩ = some (.string (bs y.bytes)) := (cell_of_block Z14.out 3).trans rfl
 clear hB14 hlt13 hlt11 her B14 HP13 HT13 HL13 HZ13 HS13 HR13 HL12 HZ12 HV1 HS12B
 refine wp_region_held_drew (S := fun W2 => W2.cell? ⟨q, 3, none⟩ = some (.string (bs y.bytes))) (by kernel_rfl) z3 (fun hHeld => ?_)
 clear z3
 refine held_take (v := ?av0) 0 rfl (by kernel_rfl) (by kernel_rfl) (by kernel_rfl) (fun _ _ _ h => h) (by rfl) hHeld ?ay0 ?ar0
 case ay0 => (intro W hSw; go_simp; with_reducible rfl)
 simp only [Act.put, List.setIfInBounds_toArray, List.set_cons_zero, List.set_cons_succ]
 refine held_take (v := ?av1) 1 rfl (by kernel_rfl) (by kernel_rfl) (by kernel_rfl) (fun _ _ _ h => h) (by rfl) hHeld ?ay1 ?ar1
 case ay1 => (intro W hSw; go_simp; with_reducible rfl)
 simp only [Act.put, List.setIfInBounds_toArray, List.set_cons_zero, List.set_cons_succ]
 refine held_take (v := ?av2) 2 rfl (by kernel_rfl) (by kernel_rfl) (by kernel_rfl) (fun _ _ _ h => h) (by rfl) hHeld ?ay2 ?ar2
 case ay2 => (intro W hSw; go_simp; with_reducible rfl)
 simp only [Act.put, List.setIfInBounds_toArray, List.set_cons_zero, List.set_cons_succ]
 refine held_take (v := ?av3) 3 rfl (by kernel_rfl) (by kernel_rfl) (by kernel_rfl) (fun _ _ _ h => h) (by rfl) hHeld ?ay3 ?ar3
 case ay3 => (intro W hSw; go_simp; with_reducible rfl)
 simp only [Act.put, List.setIfInBounds_toArray, List.set_cons_zero, List.set_cons_succ]
 refine held_take (v := ?av4) 4 rfl (by kernel_rfl) (by kernel_rfl) (by kernel_rfl) (fun _ _ _ h => h) (by rfl) hHeld ?ay4 ?ar4
 case ay4 => (intro W hSw; go_simp; with_reducible rfl)
 simp only [Act.put, List.setIfInBounds_toArray, List.set_cons_zero, List.set_cons_succ]
 refine held_take (v := ?av5) 5 rfl (by kernel_rfl) (by kernel_rfl) (by kernel_rfl) (fun _ _ _ h => h) (by rfl) hHeld ?ay5 ?ar5
 case ay5 => (intro W hSw; go_simp; with_reducible rfl)
 simp only [Act.put, List.setIfInBounds_toArray, List.set_cons_zero, List.set_cons_succ]
 refine held_take (v := ?av6) 6 rfl (by kernel_rfl) (by kernel_rfl) (by kernel_rfl) (fun _ _ _ h => h) (by rfl) hHeld ?ay6 ?ar6
 case ay6 => (intro W hSw; go_simp; with_reducible rfl)
 simp only [Act.put, List.setIfInBounds_toArray, List.set_cons_zero, List.set_cons_succ]
 refine held_take (v := ?av9) 9 rfl (by kernel_rfl) (by kernel_rfl) (by kernel_rfl) (fun _ _ _ h => h) (by rfl) hHeld ?ay9 ?ar9
 case ay9 => (intro W hSw; go_simp; with_reducible rfl)
 simp only [Act.put, List.setIfInBounds_toArray, List.set_cons_zero, List.set_cons_succ]
 refine held_take (v := ?av10) 10 rfl (by kernel_rfl) (by kernel_rfl) (by kernel_rfl) (fun _ _ _ h => h) (by rfl) hHeld ?ay10 ?ar10
 case ay10 => (intro W hSw; go_simp; with_reducible rfl)
 simp only [Act.put, List.setIfInBounds_toArray, List.set_cons_zero, List.set_cons_succ]
 refine held_one 7 (by kernel_rfl) rfl (fun K hK => ?_)
 go_simp
 refine (lround_two frm _).mono ?_
 rintro e w15 ⟨r, rfl, hr2, hw⟩
 subst hw
 have hwr : IntKind.i64.wrap (1 + (r : Int)) = 1 + (r : Int) := IntWalk.i64_in _ (by omega)
 have hrn : 1 ≤ 1 + (r : Int) ∧ 1 + (r : Int) ≤ 2 := by omega
 have HRn := hid hrn
 clear hr2 hrn
 try dsimp only
 refine hK.out _ _ ((cell_of_block (w := w14.drew) Z14.out 3).trans rfl) (fun hHeld => ?_)
 clear hK K
 try simp only [Act.put, List.setIfInBounds_toArray, List.set_cons_zero, List.set_cons_succ]
 refine held_take (v := ?bv8) 8 rfl (by kernel_rfl) (by kernel_rfl) (by kernel_rfl) (fun _ _ _ h => h) (by rfl) hHeld ?by8 ?br8
 case by8 => (intro W hSw; go_simp; with_reducible rfl)
 simp only [Act.put, List.setIfInBounds_toArray, List.set_cons_zero, List.set_cons_succ]
 refine held_one 11 (by kernel_rfl) rfl (fun K hK => ?_)
 go_simp
 refine (LG.out w14.drew _ HRn.out L14.out).mono ?_
 rintro e w16 ⟨rfl, hl16, hf16⟩
 have hk16 : ∀ g, g < w14.heap.size → g ≠ L → w16.heap[g]? = w14.heap[g]? := fun g hg hn => hf16.block g hg hn
 have L16 := hid hl16
 have T16 := hid ((hk16 T (lt_of_block T14.out) HTL.out).trans T14.out)
 have Z16 := hid ((hk16 q (lt_of_block Z14.out) HQL.out).trans Z14.out)
 have S16 := hid (row_keep S14.out (fun g e => hk16 g (row_base S14.out e).2 (HV1L.out g e)))
 have R16 := hid (row_keep R14.out (fun g e => hk16 g (row_base R14.out e).2 (HV2L.out g e)))
 have B16 : Hid (Below w.heap.size w w16) := hid ⟨hf16.os.trans HBE.out.os, hf16.tape.trans HBE.out.tape, hf16.output.trans HBE.out.output, Nat.le_trans HBE.out.size hf16.size, fun k hk => (hk16 k (Nat.lt_of_lt_of_le hk HBE.out.size) (fun e => by have := HwL.out; omega)).trans (HBE.out.block k hk)⟩
 clear hl16 hf16 hk16 L14 T14 Z14 S14 R14 LG HBE
 try dsimp only
 refine hK.out _ _ ((cell_of_block Z16.out 3).trans rfl) (fun hHeld => ?_)
 clear hK K
 try simp only [Act.put, List.setIfInBounds_toArray, List.set_cons_zero, List.set_cons_succ]
 refine held_take (v := ?cv12) 12 rfl (by kernel_rfl) (by kernel_rfl) (by kernel_rfl) (fun _ _ _ h => h) (by rfl) hHeld ?cy12 ?cr12
 case cy12 => (intro W hSw; go_simp; with_reducible rfl)
 simp only [Act.put, List.setIfInBounds_toArray, List.set_cons_zero, List.set_cons_succ]
 refine held_take (v := ?cv13) 13 rfl (by kernel_rfl) (by kernel_rfl) (by kernel_rfl) (fun _ _ _ h => h) (by rfl) hHeld ?cy13 ?cr13
 case cy13 => (intro W hSw; go_simp; with_reducible rfl)
 simp only [Act.put, List.setIfInBounds_toArray, List.set_cons_zero, List.set_cons_succ]
 refine held_take (v := ?cv14) 14 rfl (by kernel_rfl) (by kernel_rfl) (by kernel_rfl) (fun _ _ _ h => h) (by rfl) hHeld ?cy14 ?cr14
 case cy14 => (intro W hSw; go_simp; with_reducible rfl)
 simp only [Act.put, List.setIfInBounds_toArray, List.set_cons_zero, List.set_cons_succ]
 refine held_take (v := ?cv15) 15 rfl (by kernel_rfl) (by kernel_rfl) (by kernel_rfl) (fun _ _ _ h => h) (by rfl) hHeld ?cy15 ?cr15
 case cy15 => (intro W hSw; go_simp; with_reducible rfl)
 simp only [Act.put, List.setIfInBounds_toArray, List.set_cons_zero, List.set_cons_succ]
 refine held_take (v := ?cv17) 17 rfl (by kernel_rfl) (by kernel_rfl) (by kernel_rfl) (fun _ _ _ h => h) (by rfl) hHeld ?cy17 ?cr17
 case cy17 => (intro W hSw; go_simp; with_reducible rfl)
 simp only [Act.put, List.setIfInBounds_toArray, List.set_cons_zero, List.set_cons_succ]
 refine held_one 16 (by kernel_rfl) rfl (fun K hK => ?_)
 go_simp
 refine (lhas_any L16.out 1).mono ?_
 rintro e w17 ⟨rfl, hw⟩
 subst hw
 try dsimp only
 refine hK.out _ _ ((cell_of_block Z16.out 3).trans rfl) (fun hHeld => ?_)
 clear hK K
 try simp only [Act.put, List.setIfInBounds_toArray, List.set_cons_zero, List.set_cons_succ]
 refine held_one 18 (by kernel_rfl) rfl (fun K hK => ?_)
 go_simp
 refine (lhas_any L16.out 2).mono ?_
 rintro e w17 ⟨rfl, hw⟩
 subst hw
 try dsimp only
 refine hK.out _ _ ((cell_of_block Z16.out 3).trans rfl) (fun hHeld => ?_)
 clear hK K
 try simp only [Act.put, List.setIfInBounds_toArray, List.set_cons_zero, List.set_cons_succ]
 refine held_take (v := ?ev19) 19 rfl (by kernel_rfl) (by kernel_rfl) (by kernel_rfl) (fun _ _ _ h => h) (by rfl) hHeld ?ey19 ?er19
 case ey19 => (intro W hSw; go_simp; with_reducible rfl)
 simp only [Act.put, List.setIfInBounds_toArray, List.set_cons_zero, List.set_cons_succ]
 refine held_take (v := ?ev20) 20 rfl (by kernel_rfl) (by kernel_rfl) (by kernel_rfl) (fun _ _ _ h => h) (by rfl) hHeld ?ey20 ?er20
 case ey20 => (intro W hSw; go_simp; with_reducible rfl)
 simp only [Act.put, List.setIfInBounds_toArray, List.set_cons_zero, List.set_cons_succ]
 refine held_take (v := ?ev21) 21 rfl (by kernel_rfl) (by kernel_rfl) (by kernel_rfl) (fun _ _ _ h => h) (by rfl) hHeld ?ey21 ?er21
 case ey21 => (intro W hSw; go_simp; with_reducible rfl)
 simp only [Act.put, List.setIfInBounds_toArray, List.set_cons_zero, List.set_cons_succ]
 refine held_take (v := ?ev22) 22 rfl (by kernel_rfl) (by kernel_rfl) (by kernel_rfl) (fun _ _ _ h => h) (by rfl) hHeld ?ey22 ?er22
 case ey22 => (intro W hSw; go_simp; with_reducible rfl)
 simp only [Act.put, List.setIfInBounds_toArray, List.set_cons_zero, List.set_cons_succ]
 refine held_take (v := ?ev23) 23 rfl (by kernel_rfl) (by kernel_rfl) (by kernel_rfl) (fun _ _ _ h => h) (by rfl) hHeld ?ey23 ?er23
 case ey23 => (intro W hSw; go_simp; with_reducible rfl)
 simp only [Act.put, List.setIfInBounds_toArray, List.set_cons_zero, List.set_cons_succ]
 refine held_take (v := ?ev24) 24 rfl (by kernel_rfl) (by kernel_rfl) (by kernel_rfl) (fun _ _ _ h => h) (by rfl) hHeld ?ey24 ?er24
 case ey24 => (intro W hSw; go_simp; with_reducible rfl)
 simp only [Act.put, List.setIfInBounds_toArray, List.set_cons_zero, List.set_cons_succ]
 refine held_take (v := ?ev25) 25 rfl (by kernel_rfl) (by kernel_rfl) (by kernel_rfl) (fun _ _ _ h => h) (by rfl) hHeld ?ey25 ?er25
 case ey25 => (intro W hSw; go_simp; with_reducible rfl)
 simp only [Act.put, List.setIfInBounds_toArray, List.set_cons_zero, List.set_cons_succ]
 refine held_take (v := ?ev26) 26 rfl (by kernel_rfl) (by kernel_rfl) (by kernel_rfl) (fun _ _ _ h => h) (by rfl) hHeld ?ey26 ?er26
 case ey26 => (intro W hSw; go_simp; with_reducible rfl)
 simp only [Act.put, List.setIfInBounds_toArray, List.set_cons_zero, List.set_cons_succ]
 refine held_take (v := ?ev27) 27 rfl (by kernel_rfl) (by kernel_rfl) (by kernel_rfl) (fun _ _ _ h => h) (by rfl) hHeld ?ey27 ?er27
 case ey27 => (intro W hSw; go_simp; with_reducible rfl)
 simp only [Act.put, List.setIfInBounds_toArray, List.set_cons_zero, List.set_cons_succ]
 refine held_take (v := ?ev28) 28 rfl (by kernel_rfl) (by kernel_rfl) (by kernel_rfl) (fun _ _ _ h => h) (by rfl) hHeld ?ey28 ?er28
 case ey28 => (intro W hSw; go_simp; with_reducible rfl)
 simp only [Act.put, List.setIfInBounds_toArray, List.set_cons_zero, List.set_cons_succ]
 refine held_take (v := ?ev29) 29 rfl (by kernel_rfl) (by kernel_rfl) (by kernel_rfl) (fun _ _ _ h => h) (by rfl) hHeld ?ey29 ?er29
 case ey29 => (intro W hSw; go_simp; with_reducible rfl)
 simp only [Act.put, List.setIfInBounds_toArray, List.set_cons_zero, List.set_cons_succ]
 refine held_take (v := ?ev30) 30 rfl (by kernel_rfl) (by kernel_rfl) (by kernel_rfl) (fun _ _ _ h => h) (by rfl) hHeld ?ey30 ?er30
 case ey30 => (intro W hSw; go_simp; with_reducible rfl)
 simp only [Act.put, List.setIfInBounds_toArray, List.set_cons_zero, List.set_cons_succ]
 refine held_take (v := ?ev31) 31 rfl (by kernel_rfl) (by kernel_rfl) (by kernel_rfl) (fun _ _ _ h => h) (by rfl) hHeld ?ey31 ?er31
 case ey31 => (intro W hSw; go_simp; with_reducible rfl)
 simp only [Act.put, List.setIfInBounds_toArray, List.set_cons_zero, List.set_cons_succ]
 refine held_take (v := ?ev32) 32 rfl (by kernel_rfl) (by kernel_rfl) (by kernel_rfl) (fun _ _ _ h => h) (by rfl) hHeld ?ey32 ?er32
 case ey32 => (intro W hSw; go_simp; with_reducible rfl)
 simp only [Act.put, List.setIfInBounds_toArray, List.set_cons_zero, List.set_cons_succ]
 refine held_take (v := ?ev33) 33 rfl (by kernel_rfl) (by kernel_rfl) (by kernel_rfl) (fun _ _ _ h => h) (by rfl) hHeld ?ey33 ?er33
 case ey33 => (intro W hSw; go_simp; with_reducible rfl)
 simp only [Act.put, List.setIfInBounds_toArray, List.set_cons_zero, List.set_cons_succ]
 refine held_one 34 (by kernel_rfl) rfl (fun K hK => ?_)
 go_simp
 refine (same_eq S16.out R16.out z_len).mono ?_
 rintro e w17 ⟨rfl, hb17⟩
 have T17 := hid ((hb17.block T (lt_of_block T16.out)).trans T16.out)
 have Z17 := hid ((hb17.block q (lt_of_block Z16.out)).trans Z16.out)
 have B17 := hid (B16.out.trans (hb17.mono B16.out.size))
 clear hb17 T16 Z16 B16 S16 R16
 try dsimp only
 refine hK.out _ _ ((cell_of_block Z17.out 3).trans rfl) (fun hHeld => ?_)
 clear hK K
 try simp only [Act.put, List.setIfInBounds_toArray, List.set_cons_zero, List.set_cons_succ]
 refine held_take (v := ?fv35) 35 rfl (by kernel_rfl) (by kernel_rfl) (by kernel_rfl) (fun _ _ _ h => h) (by rfl) hHeld ?fy35 ?fr35
 case fy35 => (intro W hSw; go_simp; with_reducible rfl)
 simp only [Act.put, List.setIfInBounds_toArray, List.set_cons_zero, List.set_cons_succ]
 refine held_take (v := ?fv36) 36 rfl (by kernel_rfl) (by kernel_rfl) (by kernel_rfl) (fun _ _ _ h => h) (by rfl) hHeld ?fy36 ?fr36
 case fy36 => (intro W hSw; go_simp; with_reducible rfl)
 simp only [Act.put, List.setIfInBounds_toArray, List.set_cons_zero, List.set_cons_succ]
 refine held_take (v := ?fv37) 37 rfl (by kernel_rfl) (by kernel_rfl) (by kernel_rfl) (fun _ _ _ h => h) (by rfl) hHeld ?fy37 ?fr37
 case fy37 => (intro W hSw; go_simp; with_reducible rfl)
 simp only [Act.put, List.setIfInBounds_toArray, List.set_cons_zero, List.set_cons_succ]
 refine held_one 38 (by kernel_rfl) rfl (fun K hK => ?_)
 go_simp
 refine (epoch_any T17.out).mono ?_
 rintro e w18 ⟨rfl, hw⟩
 subst hw
 try dsimp only
 refine hK.out _ _ ((cell_of_block Z17.out 3).trans rfl) (fun hHeld => ?_)
 clear hK K
 try simp only [Act.put, List.setIfInBounds_toArray, List.set_cons_zero, List.set_cons_succ]
 refine held_take (v := ?gv39) 39 rfl (by kernel_rfl) (by kernel_rfl) (by kernel_rfl) (fun _ _ _ h => h) (by rfl) hHeld ?gy39 ?gr39
 case gy39 => (intro W hSw; go_simp; with_reducible rfl)
 simp only [Act.put, List.setIfInBounds_toArray, List.set_cons_zero, List.set_cons_succ]
 refine held_take (v := ?gv40) 40 rfl (by kernel_rfl) (by kernel_rfl) (by kernel_rfl) (fun _ _ _ h => h) (by rfl) hHeld ?gy40 ?gr40
 case gy40 => (intro W hSw; go_simp; with_reducible rfl)
 simp only [Act.put, List.setIfInBounds_toArray, List.set_cons_zero, List.set_cons_succ]
 refine held_take (v := ?gv41) 41 rfl (by kernel_rfl) (by kernel_rfl) (by kernel_rfl) (fun _ _ _ h => h) (by rfl) hHeld ?gy41 ?gr41
 case gy41 => (intro W hSw; go_simp; with_reducible rfl)
 simp only [Act.put, List.setIfInBounds_toArray, List.set_cons_zero, List.set_cons_succ]
 clear hHeld
 refine wpAnyH_done (by kernel_rfl) ?_ _
 go_wp2_with fail
 go_ret
 exact ⟨rfl, B17.out⟩
end Go.Proofs.YtjacmfdbmfemkaaGreat
