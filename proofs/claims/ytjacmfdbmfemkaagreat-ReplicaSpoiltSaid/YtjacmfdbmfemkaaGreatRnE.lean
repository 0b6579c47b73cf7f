/- The document's ships: Put, Take. -/
import Derived.Test.YtjacmfdbmfemkaaGreatRmA
import Derived.Test.YtjacmfdbmfemkaaGreatSpY
import Derived.Test.YtjacmfdbmfemkaaGreatRegion
import Derived.Deep.DeepCutAuto
import Derived.Test.YtjacmfdbmfemkaaGreatRnD
set_option linter.unusedVariables false
set_option linter.unusedSimpArgs false
namespace Go.Proofs.YtjacmfdbmfemkaaGreat.Rf
open Go.RowKit Go.Maps
set_option maxRecDepth 20000
theorem fixed_eight (n : Int) (h0 : 0 ≤ n) (h1 : n < 18446744073709551616) : fixedL n 8 = eight n := by
 have e : ∀ a b : Int, a = b → byt a = byt b := fun _ _ h => by rw [h]
 simp only [fixedL_succ, fixedL_zero, eight, four, List.cons_append, List.nil_append]
 have p7 : (256 : Int) ^ 7 = 72057594037927936 := by decide
 have p6 : (256 : Int) ^ 6 = 281474976710656 := by decide
 have p5 : (256 : Int) ^ 5 = 1099511627776 := by decide
 have p4 : (256 : Int) ^ 4 = 4294967296 := by decide
 have p3 : (256 : Int) ^ 3 = 16777216 := by decide
 have p2 : (256 : Int) ^ 2 = 65536 := by decide
 have p1 : (256 : Int) ^ 1 = 256 := by decide
 have p0 : (256 : Int) ^ 0 = 1 := by decide
 rw [p7, p6, p5, p4, p3, p2, p1, p0]
 rw [e (n / 72057594037927936 % 256) (n / 4294967296 / 16777216) (by omega), e (n / 281474976710656 % 256) (n / 4294967296 / 65536 % 256) (by omega),
  e (n / 1099511627776 % 256) (n / 4294967296 / 256 % 256) (by omega), e (n / 16777216 % 256) (n % 4294967296 / 16777216) (by omega),
  e (n / 65536 % 256) (n % 4294967296 / 65536 % 256) (by omega), e (n / 256 % 256) (n % 4294967296 / 256 % 256) (by omega), e (n / 1 % 256) (n % 4294967296 % 256) (by omega)]
set_option maxHeartbeats 400000 in
theorem refEight_any (n : Int) (w : World) (h0 : 0 ≤ n) (h1 : n < 18446744073709551616) :
  Calls Tryz.prog 60 #[.int .u64 n] w fun e w' => e = .returned (.string (bs (eight n))) ∧ Below w.heap.size w w' := by
 have hf := fun W => fixed_any n 8 W h0 h1 (by decide)
 rw [fixed_eight n h0 h1] at hf
 have Hf := hid hf
 clear hf
 go_enter Tryz.func60, Tryz.ntmps60
 go_wp2_with fail
 refine (Hf.out _).mono ?_
 rintro e w1 ⟨rfl, hb1⟩
 go_wp2_with fail
 go_ret
 exact ⟨rfl, hb1⟩
theorem eight_len (n : Int) : (eight n).length = 8 := rfl
set_option maxHeartbeats 400000 in
theorem refPut_no (m : Sh) (v : Value) (w : World) (hv : SImgsAt w v m.imgs) (hn : m.imgs.length ≤ 9223372036854775807) (hbig : ∀ x ∈ m.imgs, x.2.length ≤ 9223372036854775807) (hk : 0 ≤ m.k) (hno : mayB m = false) :
  Calls Tryz.prog 36 #[shipV m v] w fun e w' => e = .returned (.tuple #[.string (bs []), .int .i64 2]) ∧ Below w.heap.size w w' := by
 obtain ⟨ao, cap, rfl⟩ := imgs_shape hv
 have hm := fun W hW => refMay_any m (.slice ao m.imgs.length cap) W hW hn hbig hk
 rw [hno] at hm
 have Hm := hid hm
 have Hv := hid hv
 clear hm hv hno
 unfold shipV at Hm ⊢
 go_enter Tryz.func36, Tryz.ntmps36
 go_wp2_with fail
 refine (Hm.out _ ?_).mono ?_
 ·exact imgs_kept Hv.out ((Below.refl _ _).alloc (Nat.le_refl _) _)
 rintro e w1 ⟨rfl, hb1⟩
 go_wp2_with fail
 go_ret2
 exact ⟨rfl, ((Below.refl _ _).alloc (Nat.le_refl _) _).trans (hb1.mono (by simp))⟩
def RPutRel (m : Sh) (w1 : World) (v5 v6 : Value) (wr : World) : Prop :=
 ∃ j : Nat, j ≤ m.imgs.length ∧ v6 = .int .i64 j ∧ v5 = .string (bs (headL m ++ imgsL (m.imgs.take j))) ∧ Below w1.heap.size w1 wr
set_option maxHeartbeats 2000000 in
set_option maxRecDepth 100000 in
theorem refPut_yes (m : Sh) (v : Value) (w : World) (hv : SImgsAt w v m.imgs) (hyes : mayB m = true) (hwf : ShWf m) :
  Calls Tryz.prog 36 #[shipV m v] w fun e w' => e = .returned (.tuple #[.string (bs (putL m)), .int .i64 0]) ∧ Below w.heap.size w w' := by
 obtain ⟨⟨p0, p1⟩, hn, himg⟩ := may_facts m hyes
 obtain ⟨⟨k0, k1⟩, ⟨e0, e1⟩, ⟨kk0, kk1⟩⟩ := hwf
 obtain ⟨ao, cap, rfl⟩ := imgs_shape hv
 have hm := fun W hW => refMay_any m (.slice ao m.imgs.length cap) W hW (by omega) (fun x hx => by have := (himg x hx).1; omega) kk0
 rw [hyes] at hm
 obtain ⟨kind, epoch, k, full, pages, imgs⟩ := m
 simp only at *
 have Hm := hid hm
 have Hv := hid hv
 have Himg := hid himg
 clear hm hv hyes himg
 have hl8 := eight_len
 have hhead : headL ⟨kind, epoch, k, full, pages, imgs⟩ = wordsL [kind, epoch, k, if full then 1 else 0, pages, (imgs.length : Int)] := rfl
 unfold shipV at Hm ⊢
 go_enter Tryz.func36, Tryz.ntmps36
 go_wp2_with fail
 refine (Hm.out _ ?_).mono ?_
 ·exact imgs_kept Hv.out ((Below.refl _ _).alloc (Nat.le_refl _) _)
 rintro e w1 ⟨rfl, hb1⟩
 have hbw : Below w.heap.size w w1 := ((Below.refl _ _).alloc (Nat.le_refl _) _).trans (hb1.mono (by simp))
 have hbox := (hb1.block w.heap.size (by simp)).trans (heap_alloc_new _ _)
 have hsz : w.heap.size < w1.heap.size := by have := hb1.size; simp at this; omega
 have Hi1 := hid (imgs_kept Hv.out hbw)
 obtain ⟨d0, d1, d2, d3, d4, d5, df⟩ := cells6 hbox
 have Hbox := hid hbox
 clear hb1 Hm hbox Hv df
 go_upto_if 11 with (fail)
 go_cut [4] (fun s4 wx => s4 = .int .u64 (if full then 1 else 0) ∧ w1 = wx)
 case first =>
  cases full
  ·go_wp2_with fail
   go_meet
   exact ⟨rfl, rfl⟩
  ·go_wp2_with fail
   go_meet
   exact ⟨rfl, rfl⟩
 case rest =>
  obtain ⟨rfl, rfl⟩ := hcut
  obtain ⟨f, hf⟩ : ∃ f : Int, f = if full then 1 else 0 := ⟨_, rfl⟩
  have f01 : 0 ≤ f ∧ f ≤ 1 := by rw [hf]; split <;> omega
  obtain ⟨f0, f1⟩ := f01
  rw [← hf] at hhead ⊢
  have Hhead := hid hhead
  clear hf hhead
  have r0 := fun d os => cell_regrown (w := w1) (a := ⟨w.heap.size, 0, none⟩) d0 d os
  have r1 := fun d os => cell_regrown (w := w1) (a := ⟨w.heap.size, 1, none⟩) d1 d os
  have r2 := fun d os => cell_regrown (w := w1) (a := ⟨w.heap.size, 2, none⟩) d2 d os
  have r4 := fun d os => cell_regrown (w := w1) (a := ⟨w.heap.size, 4, none⟩) d4 d os
  have r5 := fun d os => cell_regrown (w := w1) (a := ⟨w.heap.size, 5, none⟩) d5 d os
  have E0 := fun W => refEight_any kind W k0 (by omega)
  have E1 := fun W => refEight_any epoch W e0 e1
  have E2 := fun W => refEight_any k W kk0 kk1
  have E3 := fun W => refEight_any f W f0 (by omega)
  have E4 := fun W => refEight_any pages W p0 (by omega)
  have E5 := fun W => refEight_any (imgs.length : Int) W (by omega) (by omega)
  clear e1 kk1
  go_upto_region 6 with fail
  refine region_below (by kernel_rfl) (by kernel_rfl) ?_
  repeat (go_big_quiet_step ((go_at_call 60; first | exact Calls.regrown_of (E0 _) | exact Calls.regrown_of (E1 _) | exact Calls.regrown_of (E2 _) | exact Calls.regrown_of (E3 _) | exact Calls.regrown_of (E4 _) | exact Calls.regrown_of (E5 _))))
  refine wpQuiet_nil ?_
  intro w2 hb2
  go_wp2_with fail
  have hb2w : Below w.heap.size w w2 := hbw.trans (hb2.mono (by omega))
  have hH : headL ⟨kind, epoch, k, full, pages, imgs⟩ = eight kind ++ (eight epoch ++ (eight k ++ (eight f ++ (eight pages ++ eight (imgs.length : Int))))) := by rw [Hhead.out]; simp [wordsL]
  have HH := hid hH
  have hbox2 := (hb2.block w.heap.size hsz).trans Hbox.out
  have hsz2 : w.heap.size < w2.heap.size := lt_of_block hbox2
  have Hbox2 := hid hbox2
  have Hi2 := hid (imgs_kept Hi1.out hb2)
  clear hH r0 r1 r2 r4 r5 d0 d1 d2 d3 d4 d5 hbox2 Hbox Hi1 hb2 E0 E1 E2 E3 E4 E5
  go_loopw [5, 6] (fun v5 v6 wr => RPutRel ⟨kind, epoch, k, full, pages, imgs⟩ w2 v5 v6 wr) (fun _ v6 _ => imgs.length - (intOf v6).toNat)
  case atStart => exact ⟨0, Nat.zero_le _, rfl, by rw [HH.out]; simp [imgsL], Below.refl _ _⟩
  case round =>
   obtain ⟨j, hj, rfl, rfl, hb⟩ := hrel
   simp only at hj
   have hbox := (hb.block w.heap.size hsz2).trans Hbox2.out
   have hszr : w.heap.size < wr.heap.size := lt_of_block hbox
   obtain ⟨d0, d1, d2, d3, d4, d5, df⟩ := cells6 hbox
   clear hbox df
   by_cases hlt : j < imgs.length
   ·obtain ⟨b, off, rfl, ci, cs⟩ := imgs_cell Hi2.out hb j hlt
    have hx := Himg.out imgs[j] (List.getElem_mem hlt)
    have hstep : imgsL (imgs.take (j + 1)) = imgsL (imgs.take j) ++ (eight imgs[j].1 ++ imgs[j].2) := by rw [List.take_succ_eq_append_getElem hlt, imgsL_snoc]
    have hlen : (headL ⟨kind, epoch, k, full, pages, imgs⟩ ++ imgsL (imgs.take j)).length ≤ 48 + 520 * 256 := by
     rw [List.length_append, headL_length, imgsL_length _ (fun x hx => (Himg.out x (List.mem_of_mem_take hx)).1)]
     simp; omega
    obtain ⟨L, hL⟩ : ∃ L, L = headL ⟨kind, epoch, k, full, pages, imgs⟩ ++ imgsL (imgs.take j) := ⟨_, rfl⟩
    have hnext : headL ⟨kind, epoch, k, full, pages, imgs⟩ ++ imgsL (imgs.take (j + 1)) = L ++ (eight imgs[j].1 ++ imgs[j].2) := by rw [hstep, hL, List.append_assoc]
    rw [← hL] at hlen ⊢
    obtain ⟨x, hx1⟩ : ∃ x, x = imgs[j] := ⟨_, rfl⟩
    obtain ⟨pg, dat⟩ := x
    rw [← hx1] at ci cs hx hnext
    simp only at ci cs hx hnext
    have Hnext := hid hnext
    clear hx1 hL hstep hnext
    obtain ⟨hd, hpg0, hpg1⟩ := hx
    have hd1 : dat.length ≤ 512 := by omega
    have hpg2 : (0 : Int) ≤ pg := by omega
    clear hd
    have E := fun W => refEight_any pg W hpg2 (by omega)
    have r5 := fun d os => cell_regrown (w := wr) (a := ⟨w.heap.size, 5, none⟩) d5 d os
    have ri := fun d os => cell_regrown (w := wr) ci d os
    have rs := fun d os => cell_regrown (w := wr) cs d os
    have i1 : (j : Int) < (imgs.length : Int) := by omega
    have i2 : (0 : Int) ≤ (j : Int) := by omega
    have s1 : ¬ (9223372036854775807 < L.length + 8) := by omega
    have s2 : ¬ (9223372036854775807 < L.length + (8 + dat.length)) := by omega
    have s3 : ¬ (9223372036854775807 < L.length + 8 + dat.length) := by omega
    go_wp2_with fail
    refine region_below (by kernel_rfl) (by kernel_rfl) ?_
    repeat (go_big_quiet_step ((go_at_call 60; exact Calls.regrown_of (E _))))
    refine wpQuiet_nil ?_
    intro w3 hb3
    clear r5 ri rs ci cs E
    go_wp2_with fail
    refine ⟨⟨j + 1, by simp only; omega, by go_num, by rw [Hnext.out], hb.trans (hb3.mono hb.size)⟩, by simp [intOf]; omega⟩
   ·have hend : imgs.take j = imgs := List.take_of_length_le (by omega)
    rw [hend]
    have hbody : headL ⟨kind, epoch, k, full, pages, imgs⟩ ++ imgsL imgs = bodyL ⟨kind, epoch, k, full, pages, imgs⟩ := rfl
    rw [hbody]
    have hput : putL ⟨kind, epoch, k, full, pages, imgs⟩ = textOf (sumAdd (0, 0) (bodyL ⟨kind, epoch, k, full, pages, imgs⟩)) ++ bodyL ⟨kind, epoch, k, full, pages, imgs⟩ := rfl
    have hblen : (bodyL ⟨kind, epoch, k, full, pages, imgs⟩).length ≤ 1000000 := by
     unfold bodyL
     rw [List.length_append, headL_length, imgsL_length _ (fun x hx => (Himg.out x hx).1)]
     omega
    obtain ⟨L, hL⟩ : ∃ L, L = bodyL ⟨kind, epoch, k, full, pages, imgs⟩ := ⟨_, rfl⟩
    rw [← hL] at hblen hput ⊢
    obtain ⟨⟨q0, q1⟩, q2, q3⟩ := sumAdd_bdS (0, 0) L (by decide) (by decide)
    have htl : (textOf (sumAdd (0, 0) L)).length = 8 := rfl
    have Hput := hid hput
    have A := fun W => refAdd_any L (0, 0) W (by omega)
    obtain ⟨q, hq⟩ : ∃ q, q = sumAdd (0, 0) L := ⟨_, rfl⟩
    simp only [← hq] at A q0 q1 q2 q3 htl
    rw [← hq] at Hput
    have T := fun W => refText_any q W q0 q1 q2 q3
    clear hL hput hend hbody hq q1 q3
    go_wp2_with fail
    refine (A _).mono ?_
    rintro e w4 ⟨rfl, hb4⟩
    go_wp2_with fail
    refine (T _).mono ?_
    rintro e w5 ⟨rfl, hb5⟩
    have hs : (textOf q).length + L.length ≤ 9223372036854775807 := by omega
    go_wp2_with fail
    go_ret2
    exact ⟨by rw [Hput.out]; rfl, hb2w.trans ((hb.trans ((hb4.trans (hb5.mono hb4.size)).mono hb.size)).mono hb2w.size)⟩
theorem heap_set6 {w : World} {M : Nat} {T : TypeId} {a0 a1 a2 a3 a4 a5 : Value} (h : w.heap[M]? = some (.cells #[a0, a1, a2, a3, a4, a5] T (0, 0))) (b0 b1 b2 b3 b4 b5 : Value) :
  ((((((w.setCell ⟨M, 0, none⟩ b0).setCell ⟨M, 1, none⟩ b1).setCell ⟨M, 2, none⟩ b2).setCell ⟨M, 3, none⟩ b3).setCell ⟨M, 4, none⟩ b4).setCell ⟨M, 5, none⟩ b5).heap[M]? = some (.cells #[b0, b1, b2, b3, b4, b5] T (0, 0)) := by
 rw [heap_setCell_same (heap_setCell_same (heap_setCell_same (heap_setCell_same (heap_setCell_same (heap_setCell_same h 0 b0) 1 b1) 2 b2) 3 b3) 4 b4) 5 b5]
 rfl
theorem heap_set6_ne {w : World} {M k : Nat} (hk : k ≠ M) (b0 b1 b2 b3 b4 b5 : Value) :
  ((((((w.setCell ⟨M, 0, none⟩ b0).setCell ⟨M, 1, none⟩ b1).setCell ⟨M, 2, none⟩ b2).setCell ⟨M, 3, none⟩ b3).setCell ⟨M, 4, none⟩ b4).setCell ⟨M, 5, none⟩ b5).heap[k]? = w.heap[k]? := by
 repeat rw [Below.heap_setCell _ ⟨M, _, none⟩ _ k hk]
end Go.Proofs.YtjacmfdbmfemkaaGreat.Rf
/- Replica's laws: works. -/
namespace Go.Proofs.YtjacmfdbmfemkaaGreat
open Go.RowKit Go.Maps
set_option maxRecDepth 20000
def vN : Sh × Int := nextM uT1.2.1 uT1.2.2.1 uT1.2.2.2 3 0
def vM : Sh × Int := nextM uT1.2.1 uT1.2.2.1 uT1.2.2.2 3 1
def vF : Int × Pg × Lg × Dsk := followM p0 exG0 newM vN.1
theorem v_n : vN.2 = 0 := by decide +kernel
theorem v_k : vN.1.kind = 1 := by decide +kernel
theorem v_ep : vN.1.epoch = 3 := by decide +kernel
theorem v_may : mayB vN.1 = true := by decide +kernel
theorem v_w : ShWf vN.1 := by unfold ShWf; decide +kernel
theorem v_l : vN.1.imgs.length ≤ 1000 := by decide +kernel
theorem v_b : ∀ x ∈ vN.1.imgs, x.2.length ≤ 1000 := by decide +kernel
theorem v_m : vM.2 ≠ 0 := by decide +kernel
theorem v_mw : ShWf vM.1 := by unfold ShWf; decide +kernel
theorem v_ml : vM.1.imgs.length ≤ 1000 := by decide +kernel
theorem v_mb : ∀ x ∈ vM.1.imgs, x.2.length ≤ 1000 := by decide +kernel
theorem v_f : vF.1 = 0 := by decide +kernel
theorem v_h : haveM vF.2.1 vF.2.2.1 vF.2.2.2 = (1, 0) := by decide +kernel
theorem v_p : ppagesM uT1.2.1 uT1.2.2.1 = 2 := by decide +kernel
theorem v_pr : (preadM uT1.2.1 uT1.2.2.1 uT1.2.2.2 1).2 = 0 ∧ (preadM uT1.2.1 uT1.2.2.1 uT1.2.2.2 2).2 = 0 := by decide +kernel
theorem v_eN : nextM uT1.2.1 uT1.2.2.1 uT1.2.2.2 3 0 = vN := by unfold vN; rfl
theorem v_eM : nextM uT1.2.1 uT1.2.2.1 uT1.2.2.2 3 1 = vM := by unfold vM; rfl
theorem v_eF : followM p0 exG0 newM vN.1 = vF := by unfold vF; rfl
def sN : List UInt8 := putL vN.1
def aK : List UInt8 := putL (ackSh 3 1)
def vA (pa la ba : Nat) : PgD := ⟨pa, la, ba, uT1.2.1, uT1.2.2.1, uT1.2.2.2⟩
def vC (pb l b : Nat) : PgD := ⟨pb, l, b, vF.2.1, vF.2.2.1, vF.2.2.2⟩
attribute [local irreducible] uT1 vN vM vF exG0 putL
theorem v_ok0 {l : Ld} {n : Int} {pa la ba : Nat} (he : l.ep = 3) (hh : ldHas l n = 0) : NextOk l (vA pa la ba) n := by
 have e : nextM (vA pa la ba).p (vA pa la ba).g (vA pa la ba).d l.ep (ldHas l n) = vN := by rw [he, hh]; exact v_eN
 exact ⟨by rw [e]; exact v_w, by rw [e]; exact v_l, by rw [e]; exact v_b⟩
theorem v_ok1 {l : Ld} {n : Int} {pa la ba : Nat} (he : l.ep = 3) (hh : ldHas l n = 1) : NextOk l (vA pa la ba) n := by
 have e : nextM (vA pa la ba).p (vA pa la ba).g (vA pa la ba).d l.ep (ldHas l n) = vM := by rw [he, hh]; exact v_eM
 exact ⟨by rw [e]; exact v_mw, by rw [e]; exact v_ml, by rw [e]; exact v_mb⟩
theorem v_t0 {l : Ld} {n : Int} (he : l.ep = 3) (hh : ldHas l n = 0) : tickM1 l uT1.2.1 uT1.2.2.1 uT1.2.2.2 n = [(n, sN)] := by
 unfold tickM1 postsM
 rw [he, hh, v_eN, if_pos v_n, if_pos v_may]
 rfl
theorem v_t1 {l : Ld} {n : Int} (he : l.ep = 3) (hh : ldHas l n = 1) : tickM1 l uT1.2.1 uT1.2.2.1 uT1.2.2.2 n = [] := by
 unfold tickM1
 rw [he, hh, v_eM, if_neg v_m]
theorem aK_wf : ShWf (ackSh 3 1) := ⟨⟨by decide, by decide⟩, ⟨by decide, by decide⟩, by decide, by decide⟩
theorem sN_len : sN.length ≤ 1099511627776 := by
 unfold sN
 rw [Rf.putL_length _ v_may]
 have := v_l
 omega
theorem aK_len : aK.length ≤ 1099511627776 := by
 unfold aK
 rw [Rf.putL_length _ (ack_may 3 1)]
 show 56 + 520 * 0 ≤ _
 omega
theorem v_get (pb l b : Nat) : tgetM 0 (uC0 pb l b) sN = ⟨[(0, aK)], 0, 3, vC pb l b⟩ := by
 have e : Rf.takeM sN = (vN.1, 0) := Rf.take_put _ v_may v_w
 unfold tgetM
 rw [e]
 dsimp only
 rw [if_neg (by simp), if_neg (by rw [v_k]; simp), v_ep, if_neg (by decide)]
 have e2 : gFollowed (uC0 pb l b) vN.1 = vC pb l b := by
  unfold gFollowed uC0 vC
  dsimp only
  rw [v_eF]
 rw [e2]
 have e3 : ackL 3 (vC pb l b) = [(0, aK)] := by
  unfold ackL vC aK
  dsimp only
  rw [v_h]
  rfl
 rw [e3]
 have e4 : (followM (uC0 pb l b).p (uC0 pb l b).g (uC0 pb l b).d vN.1).1 = 0 := by
  unfold uC0
  dsimp only
  rw [v_eF]
  exact v_f
 rw [e4]
theorem v_lget : lgetM ⟨3, 0, 0, 0⟩ 1 aK = (0, ⟨3, 0, 1, 0⟩) := by
 have e : Rf.takeM aK = (ackSh 3 1, 0) := Rf.take_put _ (ack_may 3 1) aK_wf
 unfold lgetM
 rw [e]
 rfl
section
variable {w W : World} {a c : PgD} {X : Nat → Prop} {L T pa la ba pb l b : Nat}
theorem wk_turn (h : Two w W ⟨pa, la, ba, p0, exG0, newM⟩ c X) : Calls Tryz.prog 13 #[.pointer (some ⟨pa, 0, none⟩), .int .i64 2, .int .u8 97] W fun e w' => e = .returned (.int .i64 0) ∧ Two w w' (vA pa la ba) c X := by
 have A := tw_turn h 2 97 (by omega) u_r1 100 new_small (by decide)
 have e := u_t1
 unfold gTurned at A
 unfold vA
 unfold uT1 at e ⊢
 rw [e] at A
 exact A.mono fun e w' hh => ⟨hh.1, hh.2.1⟩
theorem wk_tick1 (h : Two w W (vA pa la ba) c X) (hb : W.heap[L]? = some (ldObj ⟨3, 0, 0, 0⟩)) (xb : X L) : Calls Tryz.prog 27 #[.pointer (some ⟨L, 0, none⟩), .pointer (some ⟨pa, 0, none⟩)] W fun e w' => ∃ pv, e = .returned pv ∧ PostRow w' w.heap.size pv [(1, sN), (2, sN)] ∧ Two w w' (vA pa la ba) c (fun k => X k ∨ pv.ownBlock = some k) ∧ ∀ k, X k → w'.heap[k]? = W.heap[k]? := by
 have A := ltick_any h hb xb (stOk2 v_p v_pr) (v_ok0 rfl rfl) (v_ok0 rfl rfl)
 unfold tickM at A
 have e1 : tickM1 ⟨3, 0, 0, 0⟩ (vA pa la ba).p (vA pa la ba).g (vA pa la ba).d 1 = [(1, sN)] := v_t0 rfl rfl
 have e2 : tickM1 ⟨3, 0, 0, 0⟩ (vA pa la ba).p (vA pa la ba).g (vA pa la ba).d 2 = [(2, sN)] := v_t0 rfl rfl
 rw [e1, e2] at A
 exact A
theorem wk_tick2 (h : Two w W (vA pa la ba) c X) (hb : W.heap[L]? = some (ldObj ⟨3, 0, 1, 0⟩)) (xb : X L) : Calls Tryz.prog 27 #[.pointer (some ⟨L, 0, none⟩), .pointer (some ⟨pa, 0, none⟩)] W fun e w' => ∃ pv, e = .returned pv ∧ PostRow w' w.heap.size pv [(2, sN)] ∧ Two w w' (vA pa la ba) c (fun k => X k ∨ pv.ownBlock = some k) ∧ ∀ k, X k → w'.heap[k]? = W.heap[k]? := by
 have A := ltick_any h hb xb (stOk2 v_p v_pr) (v_ok1 rfl rfl) (v_ok0 rfl rfl)
 unfold tickM at A
 have e1 : tickM1 ⟨3, 0, 1, 0⟩ (vA pa la ba).p (vA pa la ba).g (vA pa la ba).d 1 = [] := v_t1 rfl rfl
 have e2 : tickM1 ⟨3, 0, 1, 0⟩ (vA pa la ba).p (vA pa la ba).g (vA pa la ba).d 2 = [(2, sN)] := v_t0 rfl rfl
 rw [e1, e2] at A
 exact A
theorem wk_get (h : Two w W a (uC0 pb l b) X) (ht : W.heap[T]? = some (tlObj pb 0)) (xt : X T) (hwt : w.heap.size ≤ T) : Calls Tryz.prog 16 #[.pointer (some ⟨T, 0, none⟩), .string (bs sN)] W fun e w' => ∃ pv, e = .returned (.tuple #[pv, .int .i64 0]) ∧ TgGave w W a X T ⟨[(0, aK)], 0, 3, vC pb l b⟩ pv w' := by
 have A := tget_any h ht xt hwt ⟨by decide, by decide⟩ sN sN_len 100 new_small (by decide)
 rw [v_get] at A
 exact A
theorem wk_lget (hb : W.heap[L]? = some (ldObj ⟨3, 0, 0, 0⟩)) : Calls Tryz.prog 17 #[.pointer (some ⟨L, 0, none⟩), .int .i64 1, .string (bs aK)] W fun e w' => e = .returned (.int .i64 0) ∧ w'.heap[L]? = some (ldObj ⟨3, 0, 1, 0⟩) ∧ Frm (fun k => k = L) W w' := by
 have A := lget_any hb 1 aK aK_len
 rw [v_lget] at A
 exact A
theorem ack_any (ep k : Int) (he : 0 ≤ ep ∧ ep < 18446744073709551616) (hk : 0 ≤ k ∧ k < 18446744073709551616) : Calls Tryz.prog 35 #[.int .u64 ep, .int .u64 k] W fun e w' => e = .returned (.string (bs (putL (ackSh ep k)))) ∧ Below W.heap.size W w' := by
 have RP := fun W => Rf.refPut_yes (ackSh ep k) (.slice none 0 0) W (.inl ⟨⟨_, _, rfl⟩, rfl⟩) (ack_may ep k) ⟨⟨by show (0 : Int) ≤ 2; decide, by show (2 : Int) < 256; decide⟩, he, hk⟩
 obtain ⟨s, hs⟩ : ∃ s, s = putL (ackSh ep k) := ⟨_, rfl⟩
 rw [← hs] at RP ⊢
 unfold shipV ackSh at RP
 dsimp only at RP
 have RP := hid RP
 clear hs
 go_enter Tryz.func35, Tryz.ntmps35
 go_wp2_with (first
  | (go_at_call 36; refine (RP.out _).mono ?_; rintro e w1 ⟨rfl, hb1⟩; have HB1 := hid hb1; clear hb1)
  | go_in)
 go_ret
 exact ⟨rfl, HB1.out⟩
end
end Go.Proofs.YtjacmfdbmfemkaaGreat
