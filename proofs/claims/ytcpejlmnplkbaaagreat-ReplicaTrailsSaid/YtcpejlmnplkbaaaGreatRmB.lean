/- The document's ships: Put, Take. -/
import Derived.Test.YtcpejlmnplkbaaaGreatRmA
import Derived.Test.YtcpejlmnplkbaaaGreatSpY
import Derived.Test.YtcpejlmnplkbaaaGreatRegion
import Derived.Deep.DeepCutAuto
set_option linter.unusedVariables false
set_option linter.unusedSimpArgs false
namespace Go.Proofs.YtcpejlmnplkbaaaGreat.Rf
open Go.RowKit Go.Maps
set_option maxRecDepth 20000
theorem fixed_eight (n : Int) (h0 : 0 ≤ n) (h1 : n < 18446744073709551616) : fixedL n 8 = eight n := by
 have e : ∀ a b : Int, a = b → byt a = byt b := fun _ _ h => by rw [h]
 simp only [fixedL_succ, fixedL_zero, eight, four, List.cons_append, List.nil_append]
 have p7 : (256 : Int) ^ 7 = 72057594037927936 := by decide
 have p6 : (256 : Int) ^ 6 = 281474976710656 := by decide
 have p5 : (256 : Int) ^ 5 = 1099511627776 := by decide
 have p4 : (256 : Int) ^ 4 = 4294967296 := by decide
 have p3 : (256 : Int) ^ 3 = 16777216 := by decide
 have p2 : (256 : Int) ^ 2 = 65536 := by decide
 have p1 : (256 : Int) ^ 1 = 256 := by decide
 have p0 : (256 : Int) ^ 0 = 1 := by decide
 rw [p7, p6, p5, p4, p3, p2, p1, p0]
 rw [e (n / 72057594037927936 % 256) (n / 4294967296 / 16777216) (by omega), e (n / 281474976710656 % 256) (n / 4294967296 / 65536 % 256) (by omega),
  e (n / 1099511627776 % 256) (n / 4294967296 / 256 % 256) (by omega), e (n / 16777216 % 256) (n % 4294967296 / 16777216) (by omega),
  e (n / 65536 % 256) (n % 4294967296 / 65536 % 256) (by omega), e (n / 256 % 256) (n % 4294967296 / 256 % 256) (by omega), e (n / 1 % 256) (n % 4294967296 % 256) (by omega)]
set_option maxHeartbeats 400000 in
theorem refEight_any (n : Int) (w : World) (h0 : 0 ≤ n) (h1 : n < 18446744073709551616) :
  Calls Tryz.prog 40 #[.int .u64 n] w fun e w' => e = .returned (.string (bs (eight n))) ∧ Below w.heap.size w w' := by
 have hf := fun W => fixed_any n 8 W h0 h1 (by decide)
 rw [fixed_eight n h0 h1] at hf
 have Hf := hid hf
 clear hf
 go_enter Tryz.func40, Tryz.ntmps40
 go_wp2_with fail
 refine (Hf.out _).mono ?_
 rintro e w1 ⟨rfl, hb1⟩
 go_wp2_with fail
 go_ret
 exact ⟨rfl, hb1⟩
def smallN (n : Int) : Int := if 1000000 < n then 1000000 else n
theorem eight_len (n : Int) : (eight n).length = 8 := rfl
set_option maxHeartbeats 400000 in
theorem refPut_no (m : Sh) (v : Value) (w : World) (hv : SImgsAt w v m.imgs) (hn : m.imgs.length ≤ 9223372036854775807) (hbig : ∀ x ∈ m.imgs, x.2.length ≤ 9223372036854775807) (hk : 0 ≤ m.k) (hno : mayB m = false) :
  Calls Tryz.prog 17 #[shipV m v] w fun e w' => e = .returned (.tuple #[.string (bs []), .int .i64 2]) ∧ Below w.heap.size w w' := by
 obtain ⟨ao, cap, rfl⟩ := imgs_shape hv
 have hm := fun W hW => refMay_any m (.slice ao m.imgs.length cap) W hW hn hbig hk
 rw [hno] at hm
 have Hm := hid hm
 have Hv := hid hv
 clear hm hv hno
 unfold shipV at Hm ⊢
 go_enter Tryz.func17, Tryz.ntmps17
 go_wp2_with fail
 refine (Hm.out _ ?_).mono ?_
 ·exact imgs_kept Hv.out ((Below.refl _ _).alloc (Nat.le_refl _) _)
 rintro e w1 ⟨rfl, hb1⟩
 go_wp2_with fail
 go_ret2
 exact ⟨rfl, ((Below.refl _ _).alloc (Nat.le_refl _) _).trans (hb1.mono (by simp))⟩
def RPutRel (m : Sh) (w1 : World) (v5 v6 : Value) (wr : World) : Prop :=
 ∃ j : Nat, j ≤ m.imgs.length ∧ v6 = .int .i64 j ∧ v5 = .string (bs (headL m ++ imgsL (m.imgs.take j))) ∧ Below w1.heap.size w1 wr
set_option maxHeartbeats 2000000 in
set_option maxRecDepth 100000 in
theorem refPut_yes (m : Sh) (v : Value) (w : World) (hv : SImgsAt w v m.imgs) (hyes : mayB m = true) (hwf : ShWf m) :
  Calls Tryz.prog 17 #[shipV m v] w fun e w' => e = .returned (.tuple #[.string (bs (putL m)), .int .i64 0]) ∧ Below w.heap.size w w' := by
 obtain ⟨⟨p0, p1⟩, hn, himg⟩ := may_facts m hyes
 obtain ⟨⟨k0, k1⟩, ⟨e0, e1⟩, ⟨kk0, kk1⟩⟩ := hwf
 obtain ⟨ao, cap, rfl⟩ := imgs_shape hv
 have hm := fun W hW => refMay_any m (.slice ao m.imgs.length cap) W hW (by omega) (fun x hx => by have := (himg x hx).1; omega) kk0
 rw [hyes] at hm
 obtain ⟨kind, epoch, k, full, pages, imgs⟩ := m
 simp only at *
 have Hm := hid hm
 have Hv := hid hv
 have Himg := hid himg
 clear hm hv hyes himg
 have hl8 := eight_len
 have hhead : headL ⟨kind, epoch, k, full, pages, imgs⟩ = wordsL [kind, epoch, k, if full then 1 else 0, pages, (imgs.length : Int)] := rfl
 unfold shipV at Hm ⊢
 go_enter Tryz.func17, Tryz.ntmps17
 go_wp2_with fail
 refine (Hm.out _ ?_).mono ?_
 ·exact imgs_kept Hv.out ((Below.refl _ _).alloc (Nat.le_refl _) _)
 rintro e w1 ⟨rfl, hb1⟩
 have hbw : Below w.heap.size w w1 := ((Below.refl _ _).alloc (Nat.le_refl _) _).trans (hb1.mono (by simp))
 have hbox := (hb1.block w.heap.size (by simp)).trans (heap_alloc_new _ _)
 have hsz : w.heap.size < w1.heap.size := by have := hb1.size; simp at this; omega
 have Hi1 := hid (imgs_kept Hv.out hbw)
 obtain ⟨d0, d1, d2, d3, d4, d5, df⟩ := cells6 hbox
 have Hbox := hid hbox
 clear hb1 Hm hbox Hv df
 go_upto_if 11 with (fail)
 go_cut [4] (fun s4 wx => s4 = .int .u64 (if full then 1 else 0) ∧ w1 = wx)
 case first =>
  cases full
  ·go_wp2_with fail
   go_meet
   exact ⟨rfl, rfl⟩
  ·go_wp2_with fail
   go_meet
   exact ⟨rfl, rfl⟩
 case rest =>
  obtain ⟨rfl, rfl⟩ := hcut
  obtain ⟨f, hf⟩ : ∃ f : Int, f = if full then 1 else 0 := ⟨_, rfl⟩
  have f01 : 0 ≤ f ∧ f ≤ 1 := by rw [hf]; split <;> omega
  obtain ⟨f0, f1⟩ := f01
  rw [← hf] at hhead ⊢
  have Hhead := hid hhead
  clear hf hhead
  have r0 := fun d os => cell_regrown (w := w1) (a := ⟨w.heap.size, 0, none⟩) d0 d os
  have r1 := fun d os => cell_regrown (w := w1) (a := ⟨w.heap.size, 1, none⟩) d1 d os
  have r2 := fun d os => cell_regrown (w := w1) (a := ⟨w.heap.size, 2, none⟩) d2 d os
  have r4 := fun d os => cell_regrown (w := w1) (a := ⟨w.heap.size, 4, none⟩) d4 d os
  have r5 := fun d os => cell_regrown (w := w1) (a := ⟨w.heap.size, 5, none⟩) d5 d os
  have E0 := fun W => refEight_any kind W k0 (by omega)
  have E1 := fun W => refEight_any epoch W e0 e1
  have E2 := fun W => refEight_any k W kk0 kk1
  have E3 := fun W => refEight_any f W f0 (by omega)
  have E4 := fun W => refEight_any pages W p0 (by omega)
  have E5 := fun W => refEight_any (imgs.length : Int) W (by omega) (by omega)
  clear e1 kk1
  go_upto_region 6 with fail
  refine region_below (by kernel_rfl) (by kernel_rfl) ?_
  repeat (go_big_quiet_step ((go_at_call 40; first | exact Calls.regrown_of (E0 _) | exact Calls.regrown_of (E1 _) | exact Calls.regrown_of (E2 _) | exact Calls.regrown_of (E3 _) | exact Calls.regrown_of (E4 _) | exact Calls.regrown_of (E5 _))))
  refine wpQuiet_nil ?_
  intro w2 hb2
  go_wp2_with fail
  have hb2w : Below w.heap.size w w2 := hbw.trans (hb2.mono (by omega))
  have hH : headL ⟨kind, epoch, k, full, pages, imgs⟩ = eight kind ++ (eight epoch ++ (eight k ++ (eight f ++ (eight pages ++ eight (imgs.length : Int))))) := by rw [Hhead.out]; simp [wordsL]
  have HH := hid hH
  have hbox2 := (hb2.block w.heap.size hsz).trans Hbox.out
  have hsz2 : w.heap.size < w2.heap.size := lt_of_block hbox2
  have Hbox2 := hid hbox2
  have Hi2 := hid (imgs_kept Hi1.out hb2)
  clear hH r0 r1 r2 r4 r5 d0 d1 d2 d3 d4 d5 hbox2 Hbox Hi1 hb2 E0 E1 E2 E3 E4 E5
  go_loopw [5, 6] (fun v5 v6 wr => RPutRel ⟨kind, epoch, k, full, pages, imgs⟩ w2 v5 v6 wr) (fun _ v6 _ => imgs.length - (intOf v6).toNat)
  case atStart => exact ⟨0, Nat.zero_le _, rfl, by rw [HH.out]; simp [imgsL], Below.refl _ _⟩
  case round =>
   obtain ⟨j, hj, rfl, rfl, hb⟩ := hrel
   simp only at hj
   have hbox := (hb.block w.heap.size hsz2).trans Hbox2.out
   have hszr : w.heap.size < wr.heap.size := lt_of_block hbox
   obtain ⟨d0, d1, d2, d3, d4, d5, df⟩ := cells6 hbox
   clear hbox df
   by_cases hlt : j < imgs.length
   ·obtain ⟨b, off, rfl, ci, cs⟩ := imgs_cell Hi2.out hb j hlt
    have hx := Himg.out imgs[j] (List.getElem_mem hlt)
    have hstep : imgsL (imgs.take (j + 1)) = imgsL (imgs.take j) ++ (eight imgs[j].1 ++ imgs[j].2) := by rw [List.take_succ_eq_append_getElem hlt, imgsL_snoc]
    have hlen : (headL ⟨kind, epoch, k, full, pages, imgs⟩ ++ imgsL (imgs.take j)).length ≤ 48 + 520 * 256 := by
     rw [List.length_append, headL_length, imgsL_length _ (fun x hx => (Himg.out x (List.mem_of_mem_take hx)).1)]
     simp; omega
    obtain ⟨L, hL⟩ : ∃ L, L = headL ⟨kind, epoch, k, full, pages, imgs⟩ ++ imgsL (imgs.take j) := ⟨_, rfl⟩
    have hnext : headL ⟨kind, epoch, k, full, pages, imgs⟩ ++ imgsL (imgs.take (j + 1)) = L ++ (eight imgs[j].1 ++ imgs[j].2) := by rw [hstep, hL, List.append_assoc]
    rw [← hL] at hlen ⊢
    obtain ⟨x, hx1⟩ : ∃ x, x = imgs[j] := ⟨_, rfl⟩
    obtain ⟨pg, dat⟩ := x
    rw [← hx1] at ci cs hx hnext
    simp only at ci cs hx hnext
    have Hnext := hid hnext
    clear hx1 hL hstep hnext
    obtain ⟨hd, hpg0, hpg1⟩ := hx
    have hd1 : dat.length ≤ 512 := by omega
    have hpg2 : (0 : Int) ≤ pg := by omega
    clear hd
    have E := fun W => refEight_any pg W hpg2 (by omega)
    have r5 := fun d os => cell_regrown (w := wr) (a := ⟨w.heap.size, 5, none⟩) d5 d os
    have ri := fun d os => cell_regrown (w := wr) ci d os
    have rs := fun d os => cell_regrown (w := wr) cs d os
    have i1 : (j : Int) < (imgs.length : Int) := by omega
    have i2 : (0 : Int) ≤ (j : Int) := by omega
    have s1 : ¬ (9223372036854775807 < L.length + 8) := by omega
    have s2 : ¬ (9223372036854775807 < L.length + (8 + dat.length)) := by omega
    have s3 : ¬ (9223372036854775807 < L.length + 8 + dat.length) := by omega
    go_wp2_with fail
    refine region_below (by kernel_rfl) (by kernel_rfl) ?_
    repeat (go_big_quiet_step ((go_at_call 40; exact Calls.regrown_of (E _))))
    refine wpQuiet_nil ?_
    intro w3 hb3
    clear r5 ri rs ci cs E
    go_wp2_with fail
    refine ⟨⟨j + 1, by simp only; omega, by go_num, by rw [Hnext.out], hb.trans (hb3.mono hb.size)⟩, by simp [intOf]; omega⟩
   ·have hend : imgs.take j = imgs := List.take_of_length_le (by omega)
    rw [hend]
    have hbody : headL ⟨kind, epoch, k, full, pages, imgs⟩ ++ imgsL imgs = bodyL ⟨kind, epoch, k, full, pages, imgs⟩ := rfl
    rw [hbody]
    have hput : putL ⟨kind, epoch, k, full, pages, imgs⟩ = textOf (sumAdd (0, 0) (bodyL ⟨kind, epoch, k, full, pages, imgs⟩)) ++ bodyL ⟨kind, epoch, k, full, pages, imgs⟩ := rfl
    have hblen : (bodyL ⟨kind, epoch, k, full, pages, imgs⟩).length ≤ 1000000 := by
     unfold bodyL
     rw [List.length_append, headL_length, imgsL_length _ (fun x hx => (Himg.out x hx).1)]
     omega
    obtain ⟨L, hL⟩ : ∃ L, L = bodyL ⟨kind, epoch, k, full, pages, imgs⟩ := ⟨_, rfl⟩
    rw [← hL] at hblen hput ⊢
    obtain ⟨⟨q0, q1⟩, q2, q3⟩ := sumAdd_bdS (0, 0) L (by decide) (by decide)
    have htl : (textOf (sumAdd (0, 0) L)).length = 8 := rfl
    have Hput := hid hput
    have A := fun W => refAdd_any L (0, 0) W (by omega)
    obtain ⟨q, hq⟩ : ∃ q, q = sumAdd (0, 0) L := ⟨_, rfl⟩
    simp only [← hq] at A q0 q1 q2 q3 htl
    rw [← hq] at Hput
    have T := fun W => refText_any q W q0 q1 q2 q3
    clear hL hput hend hbody hq q1 q3
    go_wp2_with fail
    refine (A _).mono ?_
    rintro e w4 ⟨rfl, hb4⟩
    go_wp2_with fail
    refine (T _).mono ?_
    rintro e w5 ⟨rfl, hb5⟩
    have hs : (textOf q).length + L.length ≤ 9223372036854775807 := by omega
    go_wp2_with fail
    go_ret2
    exact ⟨by rw [Hput.out]; rfl, hb2w.trans ((hb.trans ((hb4.trans (hb5.mono hb4.size)).mono hb.size)).mono hb2w.size)⟩
def parseR (l : List UInt8) : List Img :=
 if h : 520 ≤ l.length then (⟨smallN (num (l.take 8)), (l.drop 8).take 512⟩ : Img) :: parseR (l.drop 520) else []
termination_by l.length
decreasing_by simp; omega
theorem parseR_go (l : List UInt8) (h : 520 ≤ l.length) : parseR l = (⟨smallN (num (l.take 8)), (l.drop 8).take 512⟩ : Img) :: parseR (l.drop 520) := by
 rw [parseR, dif_pos h]
theorem parseR_stop (l : List UInt8) (h : ¬ 520 ≤ l.length) : parseR l = [] := by
 rw [parseR, dif_neg h]
theorem parseR_small : ∀ (n : Nat) (l : List UInt8), l.length ≤ n → ∀ x ∈ parseR l, x.2.length ≤ 512
 | n, l, hn, x, hx => by
  by_cases h : 520 ≤ l.length
  ·rw [parseR_go l h] at hx
   rcases List.mem_cons.1 hx with rfl | hx
   ·simp; omega
   ·match n, hn with
    | 0, hn => omega
    | n + 1, hn => exact parseR_small n (l.drop 520) (by simp; omega) x hx
  ·rw [parseR_stop l h] at hx
   simp at hx
def minN (a b : Int) : Int := if a ≤ b then a else b
def refSh (s : List UInt8) : Sh :=
 ⟨minN (smallN (num ((s.drop 8).take 8))) 255, num ((s.drop 16).take 8), num ((s.drop 24).take 8), smallN (num ((s.drop 32).take 8)) == 1, smallN (num ((s.drop 40).take 8)), parseR (s.drop 56)⟩
theorem smallN_of (n : Int) (h : n ≤ 1000000) : smallN n = n := if_neg (by omega)
theorem smallN_bd (n : Int) (h : 0 ≤ n) : 0 ≤ smallN n ∧ smallN n ≤ 1000000 := by unfold smallN; split <;> omega
theorem minN_bd (n : Int) (h : 0 ≤ n) : 0 ≤ minN n 255 ∧ minN n 255 ≤ 255 := by unfold minN; split <;> omega
theorem parseR_imgs : ∀ (l : List Img), (∀ x ∈ l, x.2.length = 512 ∧ 0 < x.1 ∧ x.1 ≤ 256) → parseR (imgsL l) = l
 | [], _ => parseR_stop _ (by simp [imgsL])
 | x :: l, h => by
  obtain ⟨h1, h2, h3⟩ := h x (by simp)
  have e : imgsL (x :: l) = eight x.1 ++ (x.2 ++ imgsL l) := by simp [imgsL]
  have hlen : (imgsL (x :: l)).length = 520 + (imgsL l).length := by rw [e]; simp only [List.length_append, eight_lengthS, h1]; omega
  rw [parseR_go _ (by omega)]
  have e1 : (imgsL (x :: l)).take 8 = eight x.1 := by rw [e, take8 _ _ (eight_lengthS _)]
  have e2 : (imgsL (x :: l)).drop 8 = x.2 ++ imgsL l := by rw [e]; exact drop8 _ _ 0 (eight_lengthS _)
  have e3 : (imgsL (x :: l)).drop 520 = imgsL l := by
   rw [show (520 : Nat) = 8 + 512 from rfl, ← List.drop_drop, e2, ← h1, List.drop_left]
  rw [e1, e2, e3, num_eight _ (by omega) (by omega), ← h1, List.take_left, parseR_imgs l (fun y hy => h y (by simp [hy])), smallN_of _ (by omega)]
theorem ref_put (m : Sh) (h : mayB m = true) (hw : ShWf m) : refSh (putL m) = m := by
 obtain ⟨⟨p0, p1⟩, hn, h3⟩ := may_facts m h
 obtain ⟨⟨k0, k1⟩, ⟨e0, e1⟩, g0, g1⟩ := hw
 have hs : putL m = textOf (sumAdd (0, 0) (bodyL m)) ++ (eight m.kind ++ (eight m.epoch ++ (eight m.k ++ (eight (if m.full then 1 else 0) ++ (eight m.pages ++ (eight (m.imgs.length : Int) ++ imgsL m.imgs)))))) := by
  unfold putL bodyL headL wordsL
  simp
 have t := textOf_length (sumAdd (0, 0) (bodyL m))
 have e8 := eight_lengthS
 have d8 : (putL m).drop 8 = eight m.kind ++ (eight m.epoch ++ (eight m.k ++ (eight (if m.full then 1 else 0) ++ (eight m.pages ++ (eight (m.imgs.length : Int) ++ imgsL m.imgs))))) := by
  rw [hs]; exact drop8 _ _ 0 t
 have d16 : (putL m).drop 16 = eight m.epoch ++ (eight m.k ++ (eight (if m.full then 1 else 0) ++ (eight m.pages ++ (eight (m.imgs.length : Int) ++ imgsL m.imgs)))) := by
  rw [show (16 : Nat) = 8 + 8 from rfl, ← List.drop_drop, d8]; exact drop8 _ _ 0 (e8 _)
 have d24 : (putL m).drop 24 = eight m.k ++ (eight (if m.full then 1 else 0) ++ (eight m.pages ++ (eight (m.imgs.length : Int) ++ imgsL m.imgs))) := by
  rw [show (24 : Nat) = 16 + 8 from rfl, ← List.drop_drop, d16]; exact drop8 _ _ 0 (e8 _)
 have d32 : (putL m).drop 32 = eight (if m.full then 1 else 0) ++ (eight m.pages ++ (eight (m.imgs.length : Int) ++ imgsL m.imgs)) := by
  rw [show (32 : Nat) = 24 + 8 from rfl, ← List.drop_drop, d24]; exact drop8 _ _ 0 (e8 _)
 have d40 : (putL m).drop 40 = eight m.pages ++ (eight (m.imgs.length : Int) ++ imgsL m.imgs) := by
  rw [show (40 : Nat) = 32 + 8 from rfl, ← List.drop_drop, d32]; exact drop8 _ _ 0 (e8 _)
 have d48 : (putL m).drop 48 = eight (m.imgs.length : Int) ++ imgsL m.imgs := by
  rw [show (48 : Nat) = 40 + 8 from rfl, ← List.drop_drop, d40]; exact drop8 _ _ 0 (e8 _)
 have d56 : (putL m).drop 56 = imgsL m.imgs := by
  rw [show (56 : Nat) = 48 + 8 from rfl, ← List.drop_drop, d48]; exact drop8 _ _ 0 (e8 _)
 unfold refSh
 rw [d8, d16, d24, d32, d40, d56, take8 _ _ (e8 _), take8 _ _ (e8 _), take8 _ _ (e8 _), take8 _ _ (e8 _), take8 _ _ (e8 _)]
 have hkind := may_kind m h
 rw [num_eight _ k0 (by omega), num_eight _ e0 e1, num_eight _ g0 g1, num_eight _ p0 (by omega), parseR_imgs _ h3]
 have hf : (smallN (num (eight (if m.full = true then 1 else 0))) == 1) = m.full := by
  cases m.full
  ·rw [if_neg (by decide), num_eight 0 (by decide) (by decide)]; rfl
  ·rw [if_pos rfl, num_eight 1 (by decide) (by decide)]; rfl
 rw [hf, smallN_of m.kind (by omega), smallN_of m.pages (by omega)]
 have a1 : minN m.kind 255 = m.kind := if_pos (by omega)
 rw [a1]
theorem ref_wf (s : List UInt8) : ShWf (refSh s) := by
 refine ⟨?_, num8_lt _, num8_lt _⟩
 have h := minN_bd (smallN (num ((s.drop 8).take 8))) (smallN_bd _ (num_lo _)).1
 simp only [refSh]
 omega
theorem ref_take (s : List UInt8) (h1 : 56 ≤ s.length) (h2 : s.length % 8 = 0) (h3 : s.take 8 = textOf (sumAdd (0, 0) (s.drop 8))) :
  takeM s = if mayB (refSh s) = true ∧ putL (refSh s) = s then (refSh s, 0) else (zeroSh, 7) := by
 unfold takeM
 rw [if_neg (by omega), if_neg (by simp [← h3])]
 by_cases hr : mayB (refSh s) = true ∧ putL (refSh s) = s
 ·have e : parseSh s = refSh s := by
   have := parse_put (refSh s) hr.1 (ref_wf s)
   rw [hr.2] at this
   exact this
  rw [e, if_pos hr]
 ·rw [if_neg hr, if_neg]
  intro hp
  apply hr
  have e : refSh s = parseSh s := by
   have := ref_put (parseSh s) hp.1 (parse_wf s)
   rw [hp.2] at this
   exact this
  rw [e]
  exact hp
set_option maxHeartbeats 400000 in
theorem value_same (l : List UInt8) (w : World) (hl : l.length ≤ 9223372036854775807) :
  Calls Tryz.prog 63 #[.string (bs l)] w fun e w' => e = .returned (.int .u64 (num l % 18446744073709551616)) ∧ w' = w := by
 go_enter Tryz.func63, Tryz.ntmps63
 go_wp2_with fail
 go_loopw [3, 4] (fun v3 v4 wr => ValueRel l w v3 v4 wr) (fun _ v4 _ => l.length - (intOf v4).toNat)
 case atStart => exact ⟨0, Nat.zero_le _, rfl, by simp [num_nil], rfl⟩
 case round =>
  obtain ⟨k, hk, rfl, rfl, rfl⟩ := hrel
  by_cases hlt : k < l.length
  ·have hstep : num (l.take (k + 1)) % 18446744073709551616 = ((256 * (num (l.take k) % 18446744073709551616)) % 18446744073709551616 + (l[k].toNat : Int)) % 18446744073709551616 := by
    rw [List.take_succ_eq_append_getElem hlt, num_snoc]; omega
   have hlo := u8_lo l[k]
   have hhi := u8_hi l[k]
   have Hstep := hid hstep
   clear hstep
   obtain ⟨q, hq⟩ : ∃ q, q = num (l.take k) % 18446744073709551616 := ⟨_, rfl⟩
   have hq0 : 0 ≤ q := by omega
   have hq1 : q < 18446744073709551616 := by omega
   rw [← hq] at Hstep ⊢
   clear hq
   go_wp2_with fail
   refine ⟨⟨k + 1, by omega, by go_num, ?_, rfl⟩, by simp [intOf]; omega⟩
   rw [Hstep.out, IntKind.wrap_u64, IntKind.wrap_u64]
  ·go_wp2_with fail
   go_ret
   obtain rfl : k = l.length := by omega
   exact ⟨by simp, rfl⟩
theorem value_eight (s : List UInt8) (k : Nat) (w : World) (hk : k + 8 ≤ s.length) :
  Calls Tryz.prog 63 #[.string (bs ((s.drop k).take 8))] w fun e w' => e = .returned (.int .u64 (num ((s.drop k).take 8))) ∧ w' = w := by
 have h := value_same ((s.drop k).take 8) w (by simp; omega)
 have b := num8_lt (s.drop k)
 have e : num ((s.drop k).take 8) % 18446744073709551616 = num ((s.drop k).take 8) := by omega
 rwa [e] at h
set_option maxHeartbeats 800000 in
theorem small_same (s : List UInt8) (k : Nat) (w : World) (hs : s.length ≤ 1099511627776) (hk : k + 8 ≤ s.length) :
  Calls Tryz.prog 62 #[.string (bs s), .int .i64 k] w fun e w' => e = .returned (.int .i64 (smallN (num ((s.drop k).take 8)))) ∧ w' = w := by
 have hv := fun W => value_eight s k W hk
 have b := num8_lt (s.drop k)
 obtain ⟨n, hn⟩ : ∃ n, n = num ((s.drop k).take 8) := ⟨_, rfl⟩
 simp only [← hn] at hv b ⊢
 obtain ⟨n0, n1⟩ := b
 have Hv := hid hv
 have f1 : k + 8 ≤ s.length := hk
 have f2 : k ≤ k + 8 := by omega
 have f3 : (k : Int) + 8 ≤ (s.length : Int) := by omega
 have f4 : ((k : Int) + 8).toNat = k + 8 := by omega
 have f5 : (0 : Int) ≤ (k : Int) + 8 := by omega
 have f6 : (k : Int) ≤ (k : Int) + 8 := by omega
 have f7 : k + 8 - k = 8 := by omega
 have hw8 : IntKind.i64.wrap ((k : Int) + 8) = (k : Int) + 8 := IntWalk.i64_in _ (by omega)
 clear hv hn
 by_cases hb : 1000000 < n
 ·have hb' : decide (1000000 < n) = true := by simpa using hb
  have hfin : smallN n = 1000000 := if_pos hb
  have Hfin := hid hfin
  clear hfin hb
  go_enter Tryz.func62, Tryz.ntmps62
  go_wp2_with fail
  refine (Hv.out _).mono ?_
  rintro e w1 ⟨rfl, rfl⟩
  go_wp2_with fail
  go_ret
  rw [Hfin.out]
  exact ⟨rfl, rfl⟩
 ·have hb' : decide (1000000 < n) = false := by simpa using hb
  have hfin : smallN n = n := if_neg hb
  have hw : IntKind.i64.wrap n = n := IntWalk.i64_in _ (by omega)
  have Hfin := hid hfin
  clear hfin
  go_enter Tryz.func62, Tryz.ntmps62
  go_wp2_with fail
  refine (Hv.out _).mono ?_
  rintro e w1 ⟨rfl, rfl⟩
  go_wp2_with fail
  go_ret
  rw [Hfin.out]
  exact ⟨rfl, rfl⟩
theorem small_at (s : List UInt8) (z : Int) (k : Nat) (w : World) (hz : z = (k : Int)) (hs : s.length ≤ 1099511627776) (hk : k + 8 ≤ s.length) :
  Calls Tryz.prog 62 #[.string (bs s), .int .i64 z] w fun e w' => e = .returned (.int .i64 (smallN (num ((s.drop k).take 8)))) ∧ Below w.heap.size w w' := by
 subst hz
 exact (small_same s k w hs hk).mono fun e w' ⟨h1, h2⟩ => ⟨h1, by rw [h2]; exact Below.refl _ _⟩
theorem value_at (s : List UInt8) (k : Nat) (w : World) (hk : k + 8 ≤ s.length) :
  Calls Tryz.prog 63 #[.string (bs ((s.drop k).take 8))] w fun e w' => e = .returned (.int .u64 (num ((s.drop k).take 8))) ∧ Below w.heap.size w w' :=
 (value_eight s k w hk).mono fun e w' ⟨h1, h2⟩ => ⟨h1, by rw [h2]; exact Below.refl _ _⟩
set_option maxHeartbeats 400000 in
theorem refTake_short (s : List UInt8) (w : World) (h : s.length < 56) :
  Calls Tryz.prog 34 #[.string (bs s)] w fun e w' => e = .returned (.tuple #[zeroV, .int .i64 7]) ∧ Below w.heap.size w w' := by
 have h1 : decide ((s.length : Int) < 56) = true := by simp; omega
 go_enter Tryz.func34, Tryz.ntmps34
 go_wp2_with fail
 refine bodyPost_ret (v := .tuple #[zeroV, .int .i64 7]) (by simp [results, Tryz.results34, go_sem, zeroV]) rfl ⟨rfl, ?_⟩
 repeat (first | exact (Below.refl _ _).alloc (Nat.le_refl _) _ | refine Below.setCell ?_ (by simp) _)
set_option maxHeartbeats 400000 in
theorem refTake_odd (s : List UInt8) (w : World) (h : 56 ≤ s.length) (h2 : s.length % 8 ≠ 0) (hs : s.length ≤ 1099511627776) :
  Calls Tryz.prog 34 #[.string (bs s)] w fun e w' => e = .returned (.tuple #[zeroV, .int .i64 7]) ∧ Below w.heap.size w w' := by
 have h1 : decide ((s.length : Int) < 56) = false := by simp; omega
 have h3 : ((s.length : Int) % 8 != 0) = true := by simp; omega
 go_enter Tryz.func34, Tryz.ntmps34
 go_wp2_with fail
 refine bodyPost_ret (v := .tuple #[zeroV, .int .i64 7]) (by simp [results, Tryz.results34, go_sem, zeroV]) rfl ⟨rfl, ?_⟩
 repeat (first | exact (Below.refl _ _).alloc (Nat.le_refl _) _ | refine Below.setCell ?_ (by simp) _)
set_option maxHeartbeats 400000 in
theorem refTake_sum (s : List UInt8) (w : World) (h : 56 ≤ s.length) (h2 : s.length % 8 = 0) (hs : s.length ≤ 1099511627776) (hno : ¬ s.take 8 = textOf (sumAdd (0, 0) (s.drop 8))) :
  Calls Tryz.prog 34 #[.string (bs s)] w fun e w' => e = .returned (.tuple #[zeroV, .int .i64 40]) ∧ Below w.heap.size w w' := by
 have h1 : decide ((s.length : Int) < 56) = false := by simp; omega
 have h3 : ((s.length : Int) % 8 != 0) = false := by simp; omega
 have h4 : (s.take 8 == textOf (sumAdd (0, 0) (s.drop 8))) = false := by simpa using hno
 obtain ⟨⟨q0, q1⟩, q2, q3⟩ := sumAdd_bdS (0, 0) (s.drop 8) (by decide) (by decide)
 have h5 : (8 : Nat) ≤ s.length := by omega
 have A := fun W => refAdd_any (s.drop 8) (0, 0) W (by simp; omega)
 have T := fun W => refText_any (sumAdd (0, 0) (s.drop 8)) W q0 q1 q2 q3
 clear hno h2 q0 q1 q2 q3
 go_enter Tryz.func34, Tryz.ntmps34
 go_wp2_with fail
 refine region_below (by kernel_rfl) (by kernel_rfl) ?_
 repeat (go_big_quiet_step ((first | (go_at_call 42; exact Calls.regrown_of (A _)) | (go_at_call 41; exact Calls.regrown_of (T _)))))
 refine wpQuiet_nil ?_
 intro w1 hb1
 have hbw : Below w.heap.size w w1 := ((Below.refl _ _).alloc (Nat.le_refl _) _).trans (hb1.mono (by simp))
 obtain ⟨r0, r1, r2, r3, r4, r5, rf⟩ := cells6 ((hb1.block w.heap.size (by simp)).trans (heap_alloc_new _ _))
 clear hb1 A T
 go_wp2_with fail
 refine bodyPost_ret (v := .tuple #[zeroV, .int .i64 40]) (by simp [results, Tryz.results34, go_sem, zeroV, r0, r1, r2, r3, r4, r5, rf]) rfl ⟨rfl, ?_⟩
 iterate 6 refine Below.setCell ?_ (by simp) _
 exact hbw
theorem heap_set6 {w : World} {M : Nat} {T : TypeId} {a0 a1 a2 a3 a4 a5 : Value} (h : w.heap[M]? = some (.cells #[a0, a1, a2, a3, a4, a5] T (0, 0))) (b0 b1 b2 b3 b4 b5 : Value) :
  ((((((w.setCell ⟨M, 0, none⟩ b0).setCell ⟨M, 1, none⟩ b1).setCell ⟨M, 2, none⟩ b2).setCell ⟨M, 3, none⟩ b3).setCell ⟨M, 4, none⟩ b4).setCell ⟨M, 5, none⟩ b5).heap[M]? = some (.cells #[b0, b1, b2, b3, b4, b5] T (0, 0)) := by
 rw [heap_setCell_same (heap_setCell_same (heap_setCell_same (heap_setCell_same (heap_setCell_same (heap_setCell_same h 0 b0) 1 b1) 2 b2) 3 b3) 4 b4) 5 b5]
 rfl
theorem heap_set6_ne {w : World} {M k : Nat} (hk : k ≠ M) (b0 b1 b2 b3 b4 b5 : Value) :
  ((((((w.setCell ⟨M, 0, none⟩ b0).setCell ⟨M, 1, none⟩ b1).setCell ⟨M, 2, none⟩ b2).setCell ⟨M, 3, none⟩ b3).setCell ⟨M, 4, none⟩ b4).setCell ⟨M, 5, none⟩ b5).heap[k]? = w.heap[k]? := by
 repeat rw [Below.heap_setCell _ ⟨M, _, none⟩ _ k hk]
def RTakeRel (s : List UInt8) (m0 : Sh) (R M : Nat) (w : World) (v5 : Value) (wr : World) : Prop :=
 ∃ (j a : Nat) (v : Value) (l1 : List Img), v5 = .int .i64 a ∧ a = 56 + 520 * j ∧ a ≤ s.length ∧ l1.length = j ∧
  wr.heap[M]? = some (.cells #[.int .u8 m0.kind, .int .u64 m0.epoch, .int .u64 m0.k, .bool m0.full, .int .i64 m0.pages, v] 52 (0, 0)) ∧
  wr.heap[R]? = some (.cells #[.int .u8 0, .int .u64 0, .int .u64 0, .bool false, .int .i64 0, .slice none 0 0] 52 (0, 0)) ∧
  wr.ownsRow w.heap.size 99 2 v j (imgCells l1) ∧
  l1 ++ parseR (s.drop a) = parseR (s.drop 56) ∧ Below w.heap.size w wr
theorem rtake_step {s : List UInt8} {m0 : Sh} {pg : Int} {R M gg cap j a : Nat} {w w9 : World} {l1 : List Img}
  (hRM : R < M) (hl1 : l1.length = j) (ha : a = 56 + 520 * j) (gl : a + 520 ≤ s.length)
  (hgo : parseR (s.drop a) = (⟨pg, (s.drop (a + 8)).take 512⟩ : Img) :: parseR (s.drop (a + 520)))
  (hpar : l1 ++ parseR (s.drop a) = parseR (s.drop 56)) {v : Value}
  (hM : w9.heap[M]? = some (.cells #[.int .u8 m0.kind, .int .u64 m0.epoch, .int .u64 m0.k, .bool m0.full, .int .i64 m0.pages, v] 52 (0, 0)))
  (hR : w9.heap[R]? = some (.cells #[.int .u8 0, .int .u64 0, .int .u64 0, .bool false, .int .i64 0, .slice none 0 0] 52 (0, 0)))
  (hown : w9.ownsRow w.heap.size 99 2 (.slice (some ⟨gg, 0, none⟩) (j + 1) cap) (j + 1) (imgCells l1 ++ [.int .i64 pg, .string (bs ((s.drop (a + 8)).take 512))]))
  (hB : Below w.heap.size w w9) (hwM : w.heap.size ≤ M := by omega) :
  RTakeRel s m0 R M w (.int .i64 ((a : Int) + 8 + 512)) (w9.setCell ⟨M, 5, none⟩ (.slice (some ⟨gg, 0, none⟩) (j + 1) cap)) := by
 have neM := Lib.ownBlock_ne2 hown hM (by decide)
 refine ⟨j + 1, a + 520, .slice (some ⟨gg, 0, none⟩) (j + 1) cap, l1 ++ [(⟨pg, (s.drop (a + 8)).take 512⟩ : Img)], by congr 1, by omega, gl, by simp [hl1], ?_, ?_, ?_, ?_, ?_⟩
 ·rw [heap_setCell_same hM 5 _]
  rfl
 ·rw [Below.heap_setCell _ ⟨M, 5, none⟩ _ R (by simp; omega), hR]
 ·rw [imgCells_snoc]
  exact hown.kept (grown_set (a := ⟨M, 5, none⟩) _) (.inr neM)
 ·rw [← hpar, hgo, List.append_assoc]
  rfl
 ·exact hB.setCell (p := ⟨M, 5, none⟩) hwM _
set_option maxHeartbeats 4000000 in
set_option maxRecDepth 100000 in
theorem refTake_main (s : List UInt8) (w : World) (h : 56 ≤ s.length) (h2 : s.length % 8 = 0) (hs : s.length ≤ 1099511627776) (hyes : s.take 8 = textOf (sumAdd (0, 0) (s.drop 8))) :
  Calls Tryz.prog 34 #[.string (bs s)] w fun e w' => ∃ v, e = .returned (.tuple #[shipV (takeM s).1 v, .int .i64 (takeM s).2]) ∧ SImgsAt w' v (takeM s).1.imgs ∧ Below w.heap.size w w' := by
 have Hlaw := hid (ref_take s h h2 hyes)
 have h1 : decide ((s.length : Int) < 56) = false := by simp; omega
 have h3 : ((s.length : Int) % 8 != 0) = false := by simp; omega
 have h4 : (s.take 8 == textOf (sumAdd (0, 0) (s.drop 8))) = true := by simpa using hyes
 obtain ⟨⟨q0, q1⟩, q2, q3⟩ := sumAdd_bdS (0, 0) (s.drop 8) (by decide) (by decide)
 have h5 : (8 : Nat) ≤ s.length := by omega
 have A := fun W => refAdd_any (s.drop 8) (0, 0) W (by simp; omega)
 have T := fun W => refText_any (sumAdd (0, 0) (s.drop 8)) W q0 q1 q2 q3
 clear hyes h2 q0 q1 q2 q3
 go_enter Tryz.func34, Tryz.ntmps34
 go_wp2_with fail
 refine region_below (by kernel_rfl) (by kernel_rfl) ?_
 repeat (go_big_quiet_step ((first | (go_at_call 42; exact Calls.regrown_of (A _)) | (go_at_call 41; exact Calls.regrown_of (T _)))))
 refine wpQuiet_nil ?_
 intro w1 hb1
 have hbw : Below w.heap.size w w1 := ((Below.refl _ _).alloc (Nat.le_refl _) _).trans (hb1.mono (by simp))
 have HR1 := hid ((hb1.block w.heap.size (by simp)).trans (heap_alloc_new _ _))
 have hsz1 : w.heap.size < w1.heap.size := lt_of_block HR1.out
 clear hb1 A T h1 h3 h4
 have y1 := fun W => small_at s 8 8 W rfl hs (by omega)
 have y2 := fun W => value_at s 16 W (by omega)
 have y3 := fun W => value_at s 24 W (by omega)
 have y4 := fun W => small_at s 32 32 W rfl hs (by omega)
 have y5 := fun W => small_at s 40 40 W rfl hs (by omega)
 have hR : refSh s = ⟨minN (smallN (num ((s.drop 8).take 8))) 255, num ((s.drop 16).take 8), num ((s.drop 24).take 8), smallN (num ((s.drop 32).take 8)) == 1, smallN (num ((s.drop 40).take 8)), parseR (s.drop 56)⟩ := rfl
 have b1 := smallN_bd _ (num_lo ((s.drop 8).take 8))
 have b5 := smallN_bd _ (num_lo ((s.drop 40).take 8))
 obtain ⟨n1, hn1⟩ : ∃ n, n = smallN (num ((s.drop 8).take 8)) := ⟨_, rfl⟩
 obtain ⟨n2, hn2⟩ : ∃ n, n = num ((s.drop 16).take 8) := ⟨_, rfl⟩
 obtain ⟨n3, hn3⟩ : ∃ n, n = num ((s.drop 24).take 8) := ⟨_, rfl⟩
 obtain ⟨n4, hn4⟩ : ∃ n, n = smallN (num ((s.drop 32).take 8)) := ⟨_, rfl⟩
 obtain ⟨n5, hn5⟩ : ∃ n, n = smallN (num ((s.drop 40).take 8)) := ⟨_, rfl⟩
 simp only [← hn1] at y1 hR b1
 simp only [← hn2] at y2 hR
 simp only [← hn3] at y3 hR
 simp only [← hn4] at y4 hR
 simp only [← hn5] at y5 hR b5
 have HRS := hid hR
 have Y1 := hid y1
 have Y2 := hid y2
 have Y3 := hid y3
 have Y4 := hid y4
 have Y5 := hid y5
 clear hR y1 y2 y3 y4 y5 hn1 hn2 hn3 hn4 hn5
 have s24 : (24 : Nat) ≤ s.length := by omega
 have s32 : (32 : Nat) ≤ s.length := by omega
 have s24' : (24 : Int) ≤ (s.length : Int) := by omega
 have s32' : (32 : Int) ≤ (s.length : Int) := by omega
 go_upto_region 5 with fail
 refine region_block [0, 1, 2, 3, 4, 5, 6, 7, 8, 9, 10, 11, 12, 13, 14, 15] 16 17 [] _ (.cells #[.int .u8 0, .int .u64 0, .int .u64 0, .bool false, .int .i64 0, .slice none 0 0] 52) ?af (by kernel_rfl) (by kernel_rfl) (by kernel_rfl) rfl (fun _ _ => by kernel_rfl) ?_ ?_
 rotate_left
 ·intro W hW
  simp only [pick, List.getElem?_cons_succ, List.getElem?_cons_zero]
  repeat (go_big_quiet_step ((first
   | (go_at_call 62; first | with_reducible exact Calls.regrown_of (Y1.out _) | with_reducible exact Calls.regrown_of (Y4.out _) | with_reducible exact Calls.regrown_of (Y5.out _))
   | (go_at_call 63; first | with_reducible exact Calls.regrown_of (Y2.out _) | with_reducible exact Calls.regrown_of (Y3.out _)))))
  refine wpQuiet_nil ?_
  exact rfl
 ·intro M w2 hb2 hk2 hM
  simp only [pick, List.getElem?_cons_succ, List.getElem?_cons_zero]
  obtain ⟨m0c, m1c, m2c, m3c, m4c, m5c, mf⟩ := cells6 hM
  have HM := hid hM
  clear hM
  go_wp2_with fail
  clear m0c m1c m2c m3c m4c m5c mf Y1 Y2 Y3 Y4 Y5 s24 s32 s24' s32'
  obtain ⟨i0, hi, hz0, hz1, hz2⟩ := info_parts (P := Tryz.prog) (e := 99) (z := .agg #[.int .i64 0, .string (bs [])]) (size := 2) (bytes := 24) (by kernel_rfl)
  go_loopw [5] (fun v5 wr => RTakeRel s ⟨minN n1 255, n2, n3, n4 == 1, n5, []⟩ w.heap.size M w v5 wr) (fun v5 _ => s.length + 1 - (intOf v5).toNat)
  case atStart =>
   refine ⟨0, 56, .slice none 0 0, [], rfl, rfl, h, rfl, heap_set6 HM.out _ _ _ _ _ _, ?_, World.ownsRow_nil _ _ _ _, by simp, ?_⟩
   ·rw [heap_set6_ne (by omega), hb2.block _ hsz1]
    exact HR1.out
   ·iterate 6 refine Below.setCell ?_ (by simp; omega) _
    exact hbw.trans (hb2.mono hbw.size)
  case round =>
   obtain ⟨j, a, v, l1, rfl, ha, hal, hl1, hM, hR, hown, hpar, hbwr⟩ := hrel
   obtain ⟨m0c, m1c, m2c, m3c, m4c, m5c, mf⟩ := cells6 hM
   have HM := hid hM
   have HR := hid hR
   have Hpar := hid hpar
   have Hl1 := hid hl1
   have Ha := hid ha
   clear hM hR hpar hl1 ha
   have hMl := lt_of_block HM.out
   by_cases gl : a + 520 ≤ s.length
   ·have Y := fun W => small_same s a W hs (by omega)
    have hgo : parseR (s.drop a) = (⟨smallN (num ((s.drop a).take 8)), (s.drop (a + 8)).take 512⟩ : Img) :: parseR (s.drop (a + 520)) := by
     rw [parseR_go _ (by simp; omega), List.drop_drop, List.drop_drop]
    obtain ⟨pg, hpg⟩ : ∃ n, n = smallN (num ((s.drop a).take 8)) := ⟨_, rfl⟩
    simp only [← hpg] at Y hgo
    have Hgo := hid hgo
    have HY := hid Y
    clear hpg hgo Y
    have f1 : (a : Int) + 8 + 512 ≤ (s.length : Int) := by omega
    have f2 : (0 : Int) ≤ (a : Int) + 8 := by omega
    have f3 : (a : Int) + 8 ≤ (a : Int) + 8 + 512 := by omega
    have f4 : ((a : Int) + 8).toNat = a + 8 := by omega
    have f5 : ((a : Int) + 8 + 512).toNat = a + 8 + 512 := by omega
    have f6 : IntKind.i64.wrap ((a : Int) + 8) = (a : Int) + 8 := IntWalk.i64_in _ (by omega)
    have f7 : IntKind.i64.wrap ((a : Int) + 8 + 512) = (a : Int) + 8 + 512 := IntWalk.i64_in _ (by omega)
    have f8 : a + 8 + 512 - (a + 8) = 512 := by omega
    have f9 : (0 : Int) ≤ (a : Int) + 8 + 512 := by omega
    have f10 : a + 8 ≤ a + 8 + 512 := by omega
    have f11 : a + 8 + 512 ≤ s.length := by omega
    have hjm : j + 1 ≤ maxLen := by unfold maxLen; have := Ha.out; omega
    have hjb : (j + 1) * 24 ≤ 140737488355328 := by have := Ha.out; omega
    have hvM : some M ≠ v.ownBlock := Ne.symm (Lib.ownBlock_ne2 hown HM.out (by decide))
    have hvR : some w.heap.size ≠ v.ownBlock := Ne.symm (Lib.ownBlock_ne2 hown HR.out (by decide))
    have HV := hid (And.intro hvM hvR)
    clear hvM hvR m0c m1c m2c m3c m4c
    go_upto_region 9 with fail
    go_region_law ((first
     | (refine step_append_lies _ (by rfl) _ _ 50 (by rfl) w.heap.size 99 i0 _ 2 24 Tryz.underlying50 hi hz0 hz1 hz2 rfl (by omega) v j (imgCells l1) (by rfl) ((hown.alloc _).drew) ⟨wr.heap.size, 0, none⟩ 1 1 [.int .i64 pg, .string (bs ((s.drop (a + 8)).take 512))] (by rfl) (by rfl) (World.news_of_block (cs := #[.int .i64 pg, .string (bs ((s.drop (a + 8)).take 512))]) (t := 99) (fr := (0, 0)) (heap_alloc_new wr _)) (imgOne _ _) (by omega) hjm hjb (by simp; have := hbwr.size; omega) (wr.heap.size + 1) (by simp) ?_; intro gg cap w9 hown9 hgrow hat hlt; have hM9 := (hgrow.block M (by simp; omega) HV.out.1).trans (heap_alloc_old HM.out); obtain ⟨x0, x1, x2, x3, x4, x5, xf⟩ := cells6 hM9; clear x0 x1 x2 x3 x4; have HM9 := hid hM9; clear hM9; have hR9 := (hgrow.block w.heap.size (by simp; have := lt_of_block HR.out; omega) HV.out.2).trans (heap_alloc_old HR.out); have HR9 := hid hR9; clear hR9; have hB9 := (hbwr.alloc hbwr.size (.cells #[.int .i64 pg, .string (bs ((s.drop (a + 8)).take 512))] 99)).drew.grown hgrow (by simp; have := hbwr.size; omega) (fun k hk => (hown.lt k hk).1))
     | (go_simp; go_at_call 62; with_reducible refine (HY.out _).mono ?_; rintro e w4 ⟨rfl, rfl⟩)))
    all_goals
     clear m5c mf x5 hgrow f1 f2 f3 f4 f5 f6 f7 f8 f9 f10
     go_wp2_with fail
     refine ⟨rtake_step (by omega) Hl1.out Ha.out gl Hgo.out Hpar.out HM9.out HR9.out hown9 hB9, ?_⟩
     have hz : ((a : Int) + 8 + 512).toNat = a + 520 := by omega
     simp only [intOf, hz, Int.toNat_natCast]
     omega
   ·have gl' : decide ((a : Int) + 8 + 512 ≤ (s.length : Int)) = false := by simp; omega
    have hall : l1 = parseR (s.drop 56) := by rw [← Hpar.out, parseR_stop _ (by simp; omega), List.append_nil]
    have hmm : (⟨minN n1 255, n2, n3, n4 == 1, n5, l1⟩ : Sh) = refSh s := by rw [HRS.out, ← hall]
    have hsmall : ∀ x ∈ l1, x.2.length ≤ 9223372036854775807 := fun x hx => by
     rw [hall] at hx
     have := parseR_small _ _ (Nat.le_refl _) x hx
     omega
    have himgs : SImgsAt wr v l1 := own_imgs (by rw [Hl1.out]; exact hown)
    have hjs : l1.length ≤ 9223372036854775807 := by rw [Hl1.out]; have := Ha.out; omega
    obtain ⟨ao, cap, rfl⟩ := imgs_shape himgs
    have hwf : ShWf ⟨minN n1 255, n2, n3, n4 == 1, n5, l1⟩ := by rw [hmm]; exact ref_wf s
    have hbx : ∀ w', Below wr.heap.size wr w' → Below w.heap.size w w' := fun w' h => hbwr.trans (h.mono hbwr.size)
    have Hmm := hid hmm
    have Himgs := hid himgs
    have Hsmall := hid hsmall
    have Hbx := hid hbx
    have Hjs := hid hjs
    have Hwf := hid hwf
    clear hall hmm himgs hsmall hbx hjs hbwr hown hwf
    have hwlt := lt_of_block HR.out
    cases hmay : mayB ⟨minN n1 255, n2, n3, n4 == 1, n5, l1⟩
    ·have hno := refPut_no ⟨minN n1 255, n2, n3, n4 == 1, n5, l1⟩ _ wr Himgs.out Hjs.out Hsmall.out Hwf.out.2.2.1 hmay
     have hres : takeM s = (zeroSh, 7) := by
      rw [Hmm.out] at hmay
      rw [Hlaw.out, if_neg (by rw [hmay]; simp)]
     have Hres := hid hres
     have Hno := hid hno
     unfold shipV at Hno
     clear hno hres hmay
     go_wp2_with fail
     refine Hno.out.mono ?_
     rintro e w8 ⟨rfl, hb8⟩
     have HR8 := hid ((hb8.block w.heap.size (lt_of_block HR.out)).trans HR.out)
     obtain ⟨r0, r1, r2, r3, r4, r5, rf⟩ := cells6 HR8.out
     have HB8 := hid (Hbx.out w8 hb8)
     clear m0c m1c m2c m3c m4c m5c mf hb8
     go_wp2_with fail
     refine bodyPost_ret (v := .tuple #[zeroV, .int .i64 7]) (by simp [results, Tryz.results34, go_sem, zeroV, r0, r1, r2, r3, r4, r5, rf]) rfl ⟨.slice none 0 0, by rw [Hres.out]; rfl, by rw [Hres.out]; exact .inl ⟨⟨_, _, rfl⟩, rfl⟩, ?_⟩
     iterate 6 refine Below.setCell ?_ (by simp) _
     exact HB8.out
    ·have hyes2 := refPut_yes ⟨minN n1 255, n2, n3, n4 == 1, n5, l1⟩ _ wr Himgs.out hmay Hwf.out
     by_cases heq : putL ⟨minN n1 255, n2, n3, n4 == 1, n5, l1⟩ = s
     ·have hres : takeM s = (⟨minN n1 255, n2, n3, n4 == 1, n5, l1⟩, 0) := by
       rw [Hmm.out] at hmay heq
       rw [Hmm.out, Hlaw.out, if_pos ⟨hmay, heq⟩]
      rw [heq] at hyes2
      have heqb : (s == s) = true := by simp
      have Hres := hid hres
      have Hyes2 := hid hyes2
      unfold shipV at Hyes2
      clear hyes2 hres hmay heq
      go_wp2_with fail
      refine Hyes2.out.mono ?_
      rintro e w8 ⟨rfl, hb8⟩
      have HR8 := hid ((hb8.block w.heap.size (lt_of_block HR.out)).trans HR.out)
      obtain ⟨r0, r1, r2, r3, r4, r5, rf⟩ := cells6 HR8.out
      have hM8 := (hb8.block M (lt_of_block HM.out)).trans HM.out
      have HI8 := hid (imgs_kept Himgs.out hb8)
      have HB8 := hid (Hbx.out w8 hb8)
      clear m0c m1c m2c m3c m4c m5c mf
      obtain ⟨m0c, m1c, m2c, m3c, m4c, m5c, mf⟩ := cells6 hM8
      clear hb8 hM8
      go_wp2_with fail
      refine bodyPost_ret (v := .tuple #[shipV ⟨minN n1 255, n2, n3, n4 == 1, n5, l1⟩ (.slice ao l1.length cap), .int .i64 0]) (by simp [results, Tryz.results34, go_sem, shipV, r0, r1, r2, r3, r4, r5, rf]) rfl ⟨.slice ao l1.length cap, by rw [Hres.out], ?_, ?_⟩
      ·rw [Hres.out]
       refine imgs_result HI8.out HR8.out (fun k hk => ?_)
       iterate 6 rw [Below.heap_setCell _ _ _ k (by simpa using hk)]
      ·iterate 6 refine Below.setCell ?_ (by simp) _
       exact HB8.out
     ·have hres : takeM s = (zeroSh, 7) := by
       rw [Hmm.out] at heq
       rw [Hlaw.out, if_neg (by simp [heq])]
      obtain ⟨t, ht⟩ : ∃ t, t = putL ⟨minN n1 255, n2, n3, n4 == 1, n5, l1⟩ := ⟨_, rfl⟩
      rw [← ht] at hyes2 heq
      have heqb : (t == s) = false := by simpa using heq
      have Hres := hid hres
      have Hyes2 := hid hyes2
      unfold shipV at Hyes2
      clear hyes2 hres hmay heq ht
      go_wp2_with fail
      refine Hyes2.out.mono ?_
      rintro e w8 ⟨rfl, hb8⟩
      have HR8 := hid ((hb8.block w.heap.size (lt_of_block HR.out)).trans HR.out)
      obtain ⟨r0, r1, r2, r3, r4, r5, rf⟩ := cells6 HR8.out
      have HB8 := hid (Hbx.out w8 hb8)
      clear m0c m1c m2c m3c m4c m5c mf hb8
      go_wp2_with fail
      refine bodyPost_ret (v := .tuple #[zeroV, .int .i64 7]) (by simp [results, Tryz.results34, go_sem, zeroV, r0, r1, r2, r3, r4, r5, rf]) rfl ⟨.slice none 0 0, by rw [Hres.out]; rfl, by rw [Hres.out]; exact .inl ⟨⟨_, _, rfl⟩, rfl⟩, ?_⟩
      iterate 6 refine Below.setCell ?_ (by simp) _
      exact HB8.out
theorem refTake_any (s : List UInt8) (w : World) (hs : s.length ≤ 1099511627776) :
  Calls Tryz.prog 34 #[.string (bs s)] w fun e w' => ∃ v, e = .returned (.tuple #[shipV (takeM s).1 v, .int .i64 (takeM s).2]) ∧ SImgsAt w' v (takeM s).1.imgs ∧ Below w.heap.size w w' := by
 by_cases h1 : s.length < 56
 ·have e : takeM s = (zeroSh, 7) := by unfold takeM; rw [if_pos (.inl h1)]
  rw [e]
  exact (refTake_short s w h1).mono fun _ _ ⟨he, hb⟩ => ⟨.slice none 0 0, he, .inl ⟨⟨_, _, rfl⟩, rfl⟩, hb⟩
 ·by_cases h2 : s.length % 8 ≠ 0
  ·have e : takeM s = (zeroSh, 7) := by unfold takeM; rw [if_pos (.inr h2)]
   rw [e]
   exact (refTake_odd s w (by omega) h2 hs).mono fun _ _ ⟨he, hb⟩ => ⟨.slice none 0 0, he, .inl ⟨⟨_, _, rfl⟩, rfl⟩, hb⟩
  ·have h2' : s.length % 8 = 0 := by omega
   by_cases h3 : s.take 8 = textOf (sumAdd (0, 0) (s.drop 8))
   ·exact refTake_main s w (by omega) h2' hs h3
   ·have e : takeM s = (zeroSh, 40) := by unfold takeM; rw [if_neg (by omega), if_pos h3]
    rw [e]
    exact (refTake_sum s w (by omega) h2' hs h3).mono fun _ _ ⟨he, hb⟩ => ⟨.slice none 0 0, he, .inl ⟨⟨_, _, rfl⟩, rfl⟩, hb⟩
end Go.Proofs.YtcpejlmnplkbaaaGreat.Rf
