import Derived.Test.YtlkkclooihjpiaaGreatSpF
set_option linter.unusedVariables false
set_option linter.unusedSimpArgs false
namespace Go.Proofs.YtlkkclooihjpiaaGreat
open Go.RowKit Go.Maps
set_option maxRecDepth 20000
theorem bld_kept {B b : Nat} {l : List UInt8} {w w1 : World} (h : BldF B b l w) (hb : Below w.heap.size w w1) : BldF B b l w1 := by
 have hg : w.grownBy w1 none := ⟨hb.os, hb.tape, hb.output, hb.size, fun k hk _ => hb.block k hk⟩
 rcases h with ⟨hB, v, hbk, hown, hne⟩ | ⟨hB, v, hbk, hown, hne⟩
 ·exact .inl ⟨hB, v, (hb.block _ (lt_of_block hbk)).trans hbk, hown.kept hg (by cases v.ownBlock <;> simp), hne⟩
 ·exact .inr ⟨hB, v, (hb.block _ (lt_of_block hbk)).trans hbk, hown.kept hg (by cases v.ownBlock <;> simp), hne⟩
theorem npage_any (n m : Int) (w : World) : Calls Tryz.prog 91 #[.int .i64 n, .int .i64 m] w fun e w' => e = .returned (.bool (decide (m ≤ n) && decide (n ≤ 256))) ∧ w' = w := by
 by_cases h1 : m ≤ n
 ·have b1 : decide (m ≤ n) = true := by simpa using h1
  go_enter Tryz.func91, Tryz.ntmps91
  go_wp2_with fail
  go_ret
  exact ⟨by simp [h1], rfl⟩
 ·have b1 : decide (m ≤ n) = false := by simpa using h1
  go_enter Tryz.func91, Tryz.ntmps91
  go_wp2_with fail
  go_ret
  exact ⟨by simp [h1], rfl⟩
def freeCells (f : Int) : Array Value := #[.int .u8 4, .int .i64 f, .slice none 0 0, .string ⟨#[]⟩]
def freeText (f : Int) : List UInt8 := [4, 0, 0] ++ four f
def freePg (f : Int) : List UInt8 := freeText f ++ zeros 505
theorem freePg_length (f : Int) : (freePg f).length = 512 := rfl
theorem nmay_free (f : Int) (h0 : 0 ≤ f) (h1 : f ≤ 256) (w : World) : Calls Tryz.prog 66 #[.agg (freeCells f)] w fun e w' => e = .returned (.bool true) ∧ Below w.heap.size w w' := by
 have NP := fun W => npage_any f 0 W
 rw [decide_eq_true h0, decide_eq_true h1] at NP
 simp only [Bool.and_self] at NP
 have NP := hid NP
 unfold freeCells
 clear h0 h1
 go_enter Tryz.func66, Tryz.ntmps66
 go_wp2_with (first | (go_at_call 91; refine (NP.out _).mono ?_; rintro e w1 ⟨rfl, hw⟩; obtain rfl := hw.symm) | go_in)
 go_ret
 exact ⟨rfl, (Below.refl _ _).alloc (Nat.le_refl _) _⟩
theorem cells4' {W : World} {b : Nat} {T : TypeId} {a0 a1 a2 a3 : Value} (h : W.heap[b]? = some (.cells #[a0, a1, a2, a3] T (0, 0))) :
  W.cell? ⟨b, 0, none⟩ = some a0 ∧ W.cell? ⟨b, 1, none⟩ = some a1 ∧ W.cell? ⟨b, 2, none⟩ = some a2 ∧ W.cell? ⟨b, 3, none⟩ = some a3 := by
 refine ⟨?_, ?_, ?_, ?_⟩ <;> simp [World.cell?, h]
set_option maxHeartbeats 4000000 in
set_option maxRecDepth 20000 in
theorem nbytes_free (f : Int) (h0 : 0 ≤ f) (h1 : f ≤ 256) (w : World) : Calls Tryz.prog 67 #[.agg (freeCells f)] w fun e w' => e = .returned (.string (bs (freeText f))) ∧ Below w.heap.size w w' := by
 unfold freeCells
 have hbox := heap_alloc_new w (.cells #[.int .u8 4, .int .i64 f, .slice none 0 0, .string ⟨#[]⟩] 93)
 have hb0 := (Below.refl w.heap.size w).alloc (Nat.le_refl _) (.cells #[.int .u8 4, .int .i64 f, .slice none 0 0, .string ⟨#[]⟩] 93)
 have hs0 : (w.alloc (.cells #[.int .u8 4, .int .i64 f, .slice none 0 0, .string ⟨#[]⟩] 93)).heap.size = w.heap.size + 1 := by simp
 have hbld := fresh_bld (w.alloc (.cells #[.int .u8 4, .int .i64 f, .slice none 0 0, .string ⟨#[]⟩] 93))
 have hb1 := (Below.refl (w.alloc (.cells #[.int .u8 4, .int .i64 f, .slice none 0 0, .string ⟨#[]⟩] 93)).heap.size _).alloc (Nat.le_refl _) (.cells #[.pointer none, .slice none 0 0] 163)
 have WB := writeByte_any _ _ [] 4 _ hbld (by simp) hb1.size
 rw [show (((4 : UInt8).toNat : Nat) : Int) = 4 from rfl] at WB
 rw [hs0] at WB hb1
 replace WB := hid WB
 have Hs0 := hid hs0
 have Hbox := hid hbox
 have HB0 := hid hb0
 have HB1 := hid hb1
 have N2 := hid (fun W => number2_any 0 (by decide) (by decide) W)
 have N4 := hid (fun W => number4_any f h0 (by omega) W)
 clear hbox hb0 hs0 hbld hb1 h0 h1
 go_enter Tryz.func67, Tryz.ntmps67
 go_upto_region 6 with (first
  | (go_at_call 93; refine (WB.out).mono ?_; rintro e w2 ⟨rfl, hbd, hf⟩; have HB2 := hid (HB1.out.trans (ws_below hf (Nat.le_trans (Nat.le_of_eq Hs0.out.symm) HB1.out.size))); have Hbd2 := hid hbd; obtain ⟨c0, c1, c2, c3⟩ := cells4' ((HB2.out.block w.heap.size (by omega)).trans Hbox.out); clear hbd hf WB)
  | (go_at_call 94; refine (N2.out _).mono ?_; rintro e w3 ⟨rfl, hb3⟩; have HB3 := hid (HB2.out.trans (hb3.mono (Nat.le_trans (Nat.le_of_eq Hs0.out.symm) HB2.out.size))); have Hbd3 := hid (bld_kept Hbd2.out hb3); have WS3 := hid (writeString_any _ _ _ [byt (0 / 256), byt (0 % 256)] _ Hbd3.out (by simp) (Nat.le_trans (Nat.le_of_eq Hs0.out.symm) HB3.out.size)); clear c0 c1 c2 c3 hb3 N2)
  | (go_at_call 88; refine (WS3.out).mono ?_; rintro e w4 ⟨rfl, hbd, hf⟩; have HB4 := hid (HB3.out.trans (ws_below hf (Nat.le_trans (Nat.le_of_eq Hs0.out.symm) HB3.out.size))); have Hbd4 := hid hbd; obtain ⟨c0, c1, c2, c3⟩ := cells4' ((HB4.out.block w.heap.size (by omega)).trans Hbox.out); clear hbd hf WS3)
  | (go_at_call 94; refine (N4.out _).mono ?_; rintro e w5 ⟨rfl, hb5⟩; have HB5 := hid (HB4.out.trans (hb5.mono (Nat.le_trans (Nat.le_of_eq Hs0.out.symm) HB4.out.size))); have Hbd5 := hid (bld_kept Hbd4.out hb5); have WS5 := hid (writeString_any _ _ _ (four f) _ Hbd5.out (by simp [four_length]) (Nat.le_trans (Nat.le_of_eq Hs0.out.symm) HB5.out.size)); clear c0 c1 c2 c3 hb5 N4)
  | (go_at_call 88; refine (WS5.out).mono ?_; rintro e w6 ⟨rfl, hbd, hf⟩; have HB6 := hid (HB5.out.trans (ws_below hf (Nat.le_trans (Nat.le_of_eq Hs0.out.symm) HB5.out.size))); have Hbd6 := hid hbd; obtain ⟨c0, c1, c2, c3⟩ := cells4' ((HB6.out.block w.heap.size (by omega)).trans Hbox.out); clear hbd hf WS5)
  | go_in)
 have WS7 := hid (writeString_any _ _ _ [] _ Hbd6.out (by simp [four_length]) (Nat.le_trans (Nat.le_of_eq Hs0.out.symm) HB6.out.size))
 go_wp2_with fail
 go_loopw [28] (fun v28 wr => v28 = .int .i64 0 ∧ wr = w6) (fun _ _ => 0)
 case atStart => exact ⟨rfl, rfl⟩
 case round =>
  obtain ⟨rfl, rfl⟩ := hrel
  go_wp2_with (first
   | (go_at_call 88; refine (WS7.out).mono ?_; rintro e w7 ⟨rfl, hbd, hf⟩; have HB7 := hid (HB6.out.trans (ws_below hf (Nat.le_trans (Nat.le_of_eq Hs0.out.symm) HB6.out.size))); have ST := hid (string_any _ _ _ _ hbd (Nat.le_trans (Nat.le_of_eq Hs0.out.symm) HB7.out.size)); clear hbd hf WS7)
   | (go_at_call 90; refine (ST.out).mono ?_; rintro e w8 ⟨rfl, hb8⟩; have HB8 := hid (HB7.out.trans hb8); clear hb8 ST)
   | go_in)
  go_ret
  refine ⟨?_, HB0.out.trans (HB8.out.mono (by omega))⟩
  simp [freeText, byt]
set_option maxHeartbeats 4000000 in
set_option maxRecDepth 20000 in
theorem nput_free (f : Int) (h0 : 0 ≤ f) (h1 : f ≤ 256) (w : World) : Calls Tryz.prog 35 #[.agg (freeCells f)] w fun e w' => e = .returned (.tuple #[.string (bs (freePg f)), .int .i64 0]) ∧ Below w.heap.size w w' := by
 have NM := hid (fun W => nmay_free f h0 h1 W)
 have NB := hid (fun W => nbytes_free f h0 h1 W)
 have RP := fun W => Tryz.strings_Repeat (bs [0]) 505 W (by omega) (by simp [bs_size])
 rw [show (bs [0]).data.toList = [0] from rfl, repeat_one] at RP
 have RP := hid RP
 have hb0 := (Below.refl w.heap.size w).alloc (Nat.le_refl _) (.cells (freeCells f) 93)
 have hbox := heap_alloc_new w (.cells (freeCells f) 93)
 obtain ⟨t, ht⟩ : ∃ t, t = freeText f := ⟨_, rfl⟩
 have htl : t.length = 7 := by rw [ht]; rfl
 have hfin : freePg f = t ++ List.replicate 505 0 := by rw [ht]; rfl
 rw [← ht] at NB
 have HB0 := hid hb0
 have Hbox := hid hbox
 have Hfin := hid hfin
 unfold freeCells at *
 have htl1 : (t.length : Int) = 7 := by omega
 have hcat : ¬ (9223372036854775807 < t.length + 505) := by omega
 have lz : (List.replicate 505 (0 : UInt8)).length = 505 := by simp
 clear hb0 hbox ht hfin h0 h1 htl
 go_enter Tryz.func35, Tryz.ntmps35
 go_wp2_with (first
  | (go_at_call 66; refine (NM.out _).mono ?_; rintro e w1 ⟨rfl, hb1⟩; have HB1 := hid (then_below HB0.out hb1); obtain ⟨c0, c1, c2, c3⟩ := cells4' ((hb1.block _ (lt_of_block Hbox.out)).trans Hbox.out); clear hb1 NM)
  | (go_at_call 67; refine (NB.out _).mono ?_; rintro e w2 ⟨rfl, hb2⟩; have HB2 := hid (then_below HB1.out hb2); clear hb2 NB)
  | (go_at_call 63; refine (RP.out _).mono ?_; rintro e w3 ⟨rfl, hb3⟩; have HB3 := hid (then_below HB2.out hb3); clear hb3 RP)
  | go_in)
 go_ret2
 rw [Hfin.out]
 exact ⟨rfl, HB3.out⟩
end Go.Proofs.YtlkkclooihjpiaaGreat
namespace Go.Proofs.YtlkkclooihjpiaaGreat
open Go.RowKit Go.Maps
set_option maxRecDepth 20000
theorem readySM_may {p : Pg} {g : Lg} {d : Dsk} (h : (readySM p g d).2 = 0) : hdrMayB (readySM p g d).1 = true := by
 rw [readySM_fst]
 unfold readySM at h
 split at h
 ·rename_i hh
  exact absurd h hh
 ·rename_i hh
  have hr : (readHM p g d).2 = 0 := by simpa using hh
  split at h
  ·cases h
  ·rename_i h2
   unfold readHM at hr ⊢
   rw [if_neg (fun e => h2 (.inl e))] at hr ⊢
   split at hr
   ·rename_i h3
    exact absurd hr h3
   ·rename_i h3
    rw [if_neg h3]
    exact (takeH_may hr).2.1
def freeH (h : Hdr) (n : Int) : Hdr := { h with free := n, count := min (h.count + 1) 256 }
def freeM (p : Pg) (g : Lg) (d : Dsk) (n : Int) : Int × Pg :=
 if (readySM p g d).2 ≠ 0 then ((readySM p g d).2, p) else if n < 2 ∨ ppagesM p g < n then (5, p)
 else if (pwriteM p n (freePg (readySM p g d).1.free)).1 ≠ 0 then pwriteM p n (freePg (readySM p g d).1.free)
 else writeHM (pwriteM p n (freePg (readySM p g d).1.free)).2 (freeH (readySM p g d).1 n)
def alloc0M (p : Pg) (g : Lg) (d : Dsk) : Int × Int × Pg :=
 if (readySM p g d).2 ≠ 0 then (0, (readySM p g d).2, p) else if 256 < ppagesM p g + 1 then (0, 8, p) else (ppagesM p g + 1, presizeM p (ppagesM p g + 1))
section
variable {w W W' : World} {pb l b : Nat} {p p' : Pg} {g g' : Lg} {d d' : Dsk} {X X' : Nat → Prop}
set_option maxHeartbeats 8000000 in
set_option maxRecDepth 20000 in
theorem alloc0_any (h : PgX w W pb l b p g d X) (hz : (readySM p g d).1.free = 0) : Calls Tryz.prog 12 #[.pointer (some ⟨pb, 0, none⟩)] W fun e w' => e = .returned (.tuple #[.int .i64 (alloc0M p g d).1, .int .i64 (alloc0M p g d).2.1]) ∧ PgX w w' pb l b (alloc0M p g d).2.2 g d X ∧ ∀ k, X k → w'.heap[k]? = W.heap[k]? := by
 have SR := sready_any h
 have hwf := (readySM_wf p g d).len
 have hP0 := ppages_range h
 obtain ⟨R, hR⟩ : ∃ R, R = alloc0M p g d := ⟨_, rfl⟩
 rw [← hR]
 unfold alloc0M at hR
 obtain ⟨Q, hQ⟩ : ∃ Q, Q = readySM p g d := ⟨_, rfl⟩
 rw [← hQ] at hR hwf SR hz
 obtain ⟨P, hP⟩ : ∃ P, P = ppagesM p g := ⟨_, rfl⟩
 rw [← hP] at hR hP0
 have PG := fun (W1 : World) (hm : PgX w W1 pb l b p g d X) => px_pages hm
 simp only [← hP] at PG
 replace PG := hid PG
 obtain ⟨H, E⟩ := Q
 obtain ⟨f, c, k, r0, r1, r2, r3, r4, r5, r6, r7, rfl⟩ := hdr_form hwf
 unfold hdrV hdrCells at SR
 simp only [List.map_cons, List.map_nil] at SR
 replace SR := hid SR
 dsimp only at hR hz
 subst hz
 have HX := hid h
 have hw1 : IntKind.i64.wrap (P + 1) = P + 1 := IntWalk.i64_in _ (by omega)
 have HP0 := hid hP0
 clear hQ hP hwf h hP0
 by_cases hE : E = 0
 rotate_left
 ·have b1 : (E != 0) = true := by simp [hE]
  rw [if_pos hE] at hR
  have HR := hid hR
  clear hR hE
  go_enter Tryz.func12, Tryz.ntmps12
  go_wp2_with (first
   | (go_at_call 33; refine (SR.out).mono ?_; rintro e w1 ⟨rfl, hx, hk⟩; have HX1 := hid hx; have HK1 := hid hk; clear hx hk)
   | go_in)
  go_ret2
  rw [HR.out]
  have hf := px_fin HX1.out ((Below.refl w1.heap.size w1).alloc (Nat.le_refl _) (.cells #[.int .i64 0, .int .i64 c, .int .u64 k, .int .i64 r0, .int .i64 r1, .int .i64 r2, .int .i64 r3, .int .i64 r4, .int .i64 r5, .int .i64 r6, .int .i64 r7] 38))
  exact ⟨rfl, hf.1, fun k hk => (hf.2 k hk).trans (HK1.out k hk)⟩
 have b1 : (E != 0) = false := by simp [hE]
 rw [if_neg (by simpa using hE)] at hR
 by_cases hbig : 256 < P + 1
 ·have b2 : decide (256 < P + 1) = true := by simpa using hbig
  rw [if_pos hbig] at hR
  have HR := hid hR
  clear hR hE hbig
  go_enter Tryz.func12, Tryz.ntmps12
  go_wp2_with (first
   | (go_at_call 33; refine (SR.out).mono ?_; rintro e w1 ⟨rfl, hx, hk⟩; have HX1 := hid hx; have HK1 := hid hk; have HF1 := hid (px_fin hx ((Below.refl w1.heap.size w1).alloc (Nat.le_refl _) (.cells #[.int .i64 0, .int .i64 c, .int .u64 k, .int .i64 r0, .int .i64 r1, .int .i64 r2, .int .i64 r3, .int .i64 r4, .int .i64 r5, .int .i64 r6, .int .i64 r7] 38))); clear hx hk)
   | (go_at_call 9; refine (PG.out _ HF1.out.1).mono ?_; rintro e w2 ⟨rfl, hw⟩; obtain rfl := hw.symm)
   | go_in)
  go_ret2
  rw [HR.out]
  exact ⟨rfl, HF1.out.1, fun k hk => (HF1.out.2 k hk).trans (HK1.out k hk)⟩
 ·have b2 : decide (256 < P + 1) = false := by simpa using hbig
  rw [if_neg hbig] at hR
  have HR := hid hR
  have RZ := hid (fun (W1 : World) (hm : PgX w W1 pb l b p g d X) => px_resize hm (P + 1) (by have := HP0.out; omega))
  clear hR hE hbig
  go_enter Tryz.func12, Tryz.ntmps12
  go_wp2_with (first
   | (go_at_call 33; refine (SR.out).mono ?_; rintro e w1 ⟨rfl, hx, hk⟩; have HX1 := hid hx; have HK1 := hid hk; have HF1 := hid (px_fin hx ((Below.refl w1.heap.size w1).alloc (Nat.le_refl _) (.cells #[.int .i64 0, .int .i64 c, .int .u64 k, .int .i64 r0, .int .i64 r1, .int .i64 r2, .int .i64 r3, .int .i64 r4, .int .i64 r5, .int .i64 r6, .int .i64 r7] 38))); clear hx hk)
   | (go_at_call 9; refine (PG.out _ HF1.out.1).mono ?_; rintro e w2 ⟨rfl, hw⟩; obtain rfl := hw.symm)
   | (go_at_call 31; refine (RZ.out _ HF1.out.1).mono ?_; rintro e w3 ⟨rfl, hx, hk⟩; have HX3 := hid hx; have HK3 := hid hk; clear hx hk)
   | go_in)
  go_ret2
  rw [HR.out]
  exact ⟨rfl, HX3.out, fun k hk => (HK3.out k hk).trans ((HF1.out.2 k hk).trans (HK1.out k hk))⟩
set_option maxHeartbeats 8000000 in
set_option maxRecDepth 20000 in
theorem sfree_any (h : PgX w W pb l b p g d X) (n : Int) (hn : in64 n) : Calls Tryz.prog 13 #[.pointer (some ⟨pb, 0, none⟩), .int .i64 n] W fun e w' => e = .returned (.int .i64 (freeM p g d n).1) ∧ PgX w w' pb l b (freeM p g d n).2 g d X ∧ ∀ k, X k → w'.heap[k]? = W.heap[k]? := by
 have SR := sready_any h
 have hwfQ := readySM_wf p g d
 have hmay := readySM_may (p := p) (g := g) (d := d)
 have hP0 := ppages_range h
 obtain ⟨R, hR⟩ : ∃ R, R = freeM p g d n := ⟨_, rfl⟩
 rw [← hR]
 unfold freeM at hR
 obtain ⟨Q, hQ⟩ : ∃ Q, Q = readySM p g d := ⟨_, rfl⟩
 rw [← hQ] at hR hwfQ SR hmay
 obtain ⟨P, hP⟩ : ∃ P, P = ppagesM p g := ⟨_, rfl⟩
 rw [← hP] at hR hP0
 have PG := fun (W1 : World) (X1 : Nat → Prop) (hm : PgX w W1 pb l b p g d X1) => px_pages hm
 simp only [← hP] at PG
 replace PG := hid PG
 obtain ⟨H, E⟩ := Q
 obtain ⟨f, c, k, r0, r1, r2, r3, r4, r5, r6, r7, rfl⟩ := hdr_form hwfQ.len
 unfold hdrV hdrCells at SR
 simp only [List.map_cons, List.map_nil] at SR
 replace SR := hid SR
 dsimp only at hR hmay hwfQ
 have HX := hid h
 have Hmay := hid hmay
 have Hwf := hid hwfQ
 clear hQ hP hwfQ h hmay
 by_cases hE : E = 0
 rotate_left
 ·have b1 : (E != 0) = true := by simp [hE]
  rw [if_pos hE] at hR
  have HR := hid hR
  clear hR hE
  go_enter Tryz.func13, Tryz.ntmps13
  go_wp2_with (first
   | (go_at_call 33; refine (SR.out).mono ?_; rintro e w1 ⟨rfl, hx, hk⟩; have HX1 := hid hx; have HK1 := hid hk; clear hx hk)
   | go_in)
  go_ret
  rw [HR.out]
  have hf := px_fin HX1.out ((Below.refl w1.heap.size w1).alloc (Nat.le_refl _) (.cells #[.int .i64 f, .int .i64 c, .int .u64 k, .int .i64 r0, .int .i64 r1, .int .i64 r2, .int .i64 r3, .int .i64 r4, .int .i64 r5, .int .i64 r6, .int .i64 r7] 38))
  exact ⟨rfl, hf.1, fun k hk => (hf.2 k hk).trans (HK1.out k hk)⟩
 have b1 : (E != 0) = false := by simp [hE]
 rw [if_neg (by simpa using hE)] at hR
 obtain ⟨hm1, hm2, hm3⟩ := hdrMay_all (Hmay.out hE)
 dsimp only at hm2 hm3
 by_cases hr : n < 2 ∨ P < n
 ·rw [if_pos hr] at hR
  have HR := hid hR
  clear hR hE hm1 hm2 hm3
  by_cases h2 : n < 2
  ·have b2 : decide (n < 2) = true := by simpa using h2
   clear hr h2
   go_enter Tryz.func13, Tryz.ntmps13
   go_wp2_with (first
    | (go_at_call 33; refine (SR.out).mono ?_; rintro e w1 ⟨rfl, hx, hk⟩; have HX1 := hid hx; have HK1 := hid hk; clear hx hk)
    | go_in)
   go_ret
   rw [HR.out]
   have hf := px_fin HX1.out ((Below.refl w1.heap.size w1).alloc (Nat.le_refl _) (.cells #[.int .i64 f, .int .i64 c, .int .u64 k, .int .i64 r0, .int .i64 r1, .int .i64 r2, .int .i64 r3, .int .i64 r4, .int .i64 r5, .int .i64 r6, .int .i64 r7] 38))
   exact ⟨rfl, hf.1, fun k hk => (hf.2 k hk).trans (HK1.out k hk)⟩
  ·have b2 : decide (n < 2) = false := by simpa using h2
   have b3 : decide (P < n) = true := by simpa using hr.resolve_left h2
   clear hr h2
   go_enter Tryz.func13, Tryz.ntmps13
   go_wp2_with (first
    | (go_at_call 33; refine (SR.out).mono ?_; rintro e w1 ⟨rfl, hx, hk⟩; have HX1 := hid hx; have HK1 := hid hk; have HF1 := hid (px_fin hx ((Below.refl w1.heap.size w1).alloc (Nat.le_refl _) (.cells #[.int .i64 f, .int .i64 c, .int .u64 k, .int .i64 r0, .int .i64 r1, .int .i64 r2, .int .i64 r3, .int .i64 r4, .int .i64 r5, .int .i64 r6, .int .i64 r7] 38))); clear hx hk)
    | (go_at_call 9; refine (PG.out _ _ HF1.out.1).mono ?_; rintro e w2 ⟨rfl, hw⟩; obtain rfl := hw.symm)
    | go_in)
   go_ret
   rw [HR.out]
   exact ⟨rfl, HF1.out.1, fun k hk => (HF1.out.2 k hk).trans (HK1.out k hk)⟩
 rw [if_neg hr] at hR
 have b2 : decide (n < 2) = false := by simp; omega
 have b3 : decide (P < n) = false := by simp; omega
 have hmin : min (c + 1) 256 = c + 1 ∨ min (c + 1) 256 = 256 := by omega
 obtain ⟨m, hm⟩ : ∃ m, m = min (c + 1) 256 := ⟨_, rfl⟩
 have hm' := hm.symm
 have hcw : IntKind.i64.wrap (c + 1) = c + 1 := IntWalk.i64_in _ (by omega)
 have hfh : freeH ⟨f, c, k, [r0, r1, r2, r3, r4, r5, r6, r7]⟩ n = ⟨n, m, k, [r0, r1, r2, r3, r4, r5, r6, r7]⟩ := by rw [hm]; rfl
 have hwf2 : (⟨n, m, k, [r0, r1, r2, r3, r4, r5, r6, r7]⟩ : Hdr).Wf := ⟨hn, ⟨by show _ ≤ m; omega, by show m ≤ _; omega⟩, Hwf.out.commits, Hwf.out.len, Hwf.out.roots⟩
 rw [hfh] at hR
 have NP := hid (fun W => nput_free f hm2.1 (by omega) W)
 obtain ⟨Wr, hWr⟩ : ∃ Wr, Wr = pwriteM p n (freePg f) := ⟨_, rfl⟩
 rw [← hWr] at hR
 have PW := fun (W1 : World) (X1 : Nat → Prop) (hm : PgX w W1 pb l b p g d X1) => px_write hm n (freePg f) hn (by rw [freePg_length]; decide)
 simp only [← hWr] at PW
 replace PW := hid PW
 have SW := hid (fun (W1 : World) (hm : PgX w W1 pb l b Wr.2 g d X) => swrite_any hm ⟨n, m, k, [r0, r1, r2, r3, r4, r5, r6, r7]⟩ hwf2)
 have HR := hid hR
 clear hR hE hm1 hm2 hm3 hr hfh hwf2 hWr hm hmin
 go_enter Tryz.func13, Tryz.ntmps13
 go_upto_region 8 with (first
  | (go_at_call 33; refine (SR.out).mono ?_; rintro e w1 ⟨rfl, hx, hk⟩; have HX1 := hid hx; have HK1 := hid hk; have HF1 := hid (px_fin hx ((Below.refl w1.heap.size w1).alloc (Nat.le_refl _) (.cells #[.int .i64 f, .int .i64 c, .int .u64 k, .int .i64 r0, .int .i64 r1, .int .i64 r2, .int .i64 r3, .int .i64 r4, .int .i64 r5, .int .i64 r6, .int .i64 r7] 38))); clear hx hk)
  | (go_at_call 9; refine (PG.out _ _ HF1.out.1).mono ?_; rintro e w2 ⟨rfl, hw⟩; obtain rfl := hw.symm)
  | (go_at_call 35; refine (NP.out _).mono ?_; rintro e w3 ⟨rfl, hb3⟩; have Hb3 := hid hb3; have h13 := (hb3.block _ (lt_of_block (heap_alloc_new w1 (.cells #[.int .i64 f, .int .i64 c, .int .u64 k, .int .i64 r0, .int .i64 r1, .int .i64 r2, .int .i64 r3, .int .i64 r4, .int .i64 r5, .int .i64 r6, .int .i64 r7] 38)))).trans (heap_alloc_new w1 (.cells #[.int .i64 f, .int .i64 c, .int .u64 k, .int .i64 r0, .int .i64 r1, .int .i64 r2, .int .i64 r3, .int .i64 r4, .int .i64 r5, .int .i64 r6, .int .i64 r7] 38)); have H13 := hid h13; obtain ⟨⟨y0, y1, y2⟩, ⟨y3, y4, y5, y6, y7, y8, y9, y10⟩, yf⟩ := cells11 h13; clear hb3 h13)
  | go_in)
 obtain ⟨yb, hyb⟩ : ∃ yb, yb = w1.heap.size := ⟨_, rfl⟩
 have h8 : ((w3.setCell ⟨yb, 0, none⟩ (.int .i64 n)).setCell ⟨yb, 1, none⟩ (.int .i64 m)).heap[yb]? = some (.cells #[.int .i64 n, .int .i64 m, .int .u64 k, .int .i64 r0, .int .i64 r1, .int .i64 r2, .int .i64 r3, .int .i64 r4, .int .i64 r5, .int .i64 r6, .int .i64 r7] 38 (0, 0)) := by
  rw [hyb]
  exact (heap_setCell_same (heap_setCell_same H13.out 0 (.int .i64 n)) 1 (.int .i64 m)).trans rfl
 have hb8 : Below w1.heap.size w1 ((w3.setCell ⟨yb, 0, none⟩ (.int .i64 n)).setCell ⟨yb, 1, none⟩ (.int .i64 m)) := ((((Below.refl w1.heap.size w1).alloc (Nat.le_refl _) _).trans (Hb3.out.mono (by simp))).setCell (by show _ ≤ yb; omega) _).setCell (by show _ ≤ yb; omega) _
 obtain ⟨w8, hw8⟩ : ∃ w8, w8 = (w3.setCell ⟨yb, 0, none⟩ (.int .i64 n)).setCell ⟨yb, 1, none⟩ (.int .i64 m) := ⟨_, rfl⟩
 rw [← hw8] at h8 hb8
 rw [← hyb, ← hw8]
 have hx8 := px_add (X' := fun k => X k ∨ k = yb) HX1.out hb8 (fun k hk => hk.elim .inl (fun e => .inr (by omega))) (fun k hk => hk.elim (fun e => Nat.lt_of_lt_of_le (HX1.out.xlt k e) hb8.size) (fun e => by rw [e]; exact lt_of_block h8))
 have PW8 := hid (PW.out _ _ hx8)
 have H8 := hid h8
 have Hb8 := hid hb8
 clear y0 y1 y2 y3 y4 y5 y6 y7 y8 y9 y10 yf hw8 hyb h8 hb8 hx8 H13 Hb3 HF1 NP PG PW hm' hcw
 by_cases hE2 : Wr.1 = 0
 rotate_left
 ·have b4 : (Wr.1 != 0) = true := by simp [hE2]
  have hR := HR.out
  rw [if_pos hE2] at hR
  replace HR := hid hR
  clear hR hE2
  go_wp2_with (first
   | (go_at_call 36; refine (PW8.out).mono ?_; rintro e w9 ⟨rfl, hx, hk⟩; have HX9 := hid hx; have HK9 := hid hk; clear hx hk)
   | go_in)
  go_ret
  rw [HR.out]
  exact ⟨rfl, HX9.out.to (fun k hk => .inl hk), fun k hk => (HK9.out k (.inl hk)).trans ((Hb8.out.block k (HX1.out.xlt k hk)).trans (HK1.out k hk))⟩
 ·have b4 : (Wr.1 != 0) = false := by simp [hE2]
  have hR := HR.out
  rw [if_neg (by simpa using hE2)] at hR
  replace HR := hid hR
  clear hR hE2
  go_wp2_with (first
   | (go_at_call 36; refine (PW8.out).mono ?_; rintro e w9 ⟨rfl, hx, hk⟩; have HX9 := hid hx; have HK9 := hid hk; obtain ⟨⟨y0, y1, y2⟩, ⟨y3, y4, y5, y6, y7, y8, y9, y10⟩, yf⟩ := cells11 ((hk yb (.inr rfl)).trans H8.out); have SW9 := hid (SW.out _ (hx.to (fun k hk => .inl hk))); clear hx hk)
   | (go_at_call 32; refine (SW9.out).mono ?_; rintro e w10 ⟨rfl, hx, hk⟩; have HX10 := hid hx; have HK10 := hid hk; clear hx hk)
   | go_in)
  go_ret
  rw [HR.out]
  exact ⟨rfl, HX10.out, fun k hk => (HK10.out k hk).trans ((HK9.out k (.inl hk)).trans ((Hb8.out.block k (HX1.out.xlt k hk)).trans (HK1.out k hk)))⟩
end
end Go.Proofs.YtlkkclooihjpiaaGreat
