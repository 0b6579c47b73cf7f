/- counterfoilref26.May and Put: mayB, putL. -/
import Derived.Test.YtdgpdfigipplpaaRefF
namespace Go.Proofs.Ytdgpdfigipplpaa
open Go.RowKit
set_option linter.unusedVariables false
set_option linter.unusedSimpArgs false

set_option maxHeartbeats 400000 in
theorem refMay_ack (epoch k pages : Int) (full : Bool) (imgs : List Img) (v : Value) (w : World) (hv : ImgsAt w v imgs) (hn : imgs.length ≤ 9223372036854775807) :
    Calls Try.prog 29 #[.agg #[.int .u8 2, .int .u64 epoch, .int .u64 k, .bool full, .int .i64 pages, v]] w fun e w' => e = .returned (.bool (!full && decide (pages = 0) && decide (imgs.length = 0))) ∧ Below w.heap.size w w' := by
  obtain ⟨ao, cap, rfl⟩ := imgs_shape hv
  clear hv
  cases full
  · by_cases hp : pages = 0
    · subst hp
      by_cases h0 : imgs.length = 0
      · have h0' : ((imgs.length : Int) == 0) = true := by simp [h0]
        go_enter Try.func29, Try.ntmps29
        go_wp2
        go_ret
        exact ⟨ret_bool (by simp [h0]), (Below.refl _ _).alloc (Nat.le_refl _) _⟩
      · have h0' : ((imgs.length : Int) == 0) = false := by rw [beq_eq_false_iff_ne]; omega
        go_enter Try.func29, Try.ntmps29
        go_wp2
        go_ret
        exact ⟨ret_bool (by simp [h0]), (Below.refl _ _).alloc (Nat.le_refl _) _⟩
    · have hp' : (pages == 0) = false := by simpa using hp
      go_enter Try.func29, Try.ntmps29
      go_wp2
      go_ret
      exact ⟨ret_bool (by simp [hp]), (Below.refl _ _).alloc (Nat.le_refl _) _⟩
  · go_enter Try.func29, Try.ntmps29
    go_wp2
    go_ret
    exact ⟨ret_bool (by simp), (Below.refl _ _).alloc (Nat.le_refl _) _⟩

theorem refMay_any (m : Sh) (v : Value) (w : World) (hv : ImgsAt w v m.imgs) (hn : m.imgs.length ≤ 9223372036854775807) (hbig : ∀ x ∈ m.imgs, x.2.length ≤ 9223372036854775807) (hk : 0 ≤ m.k) :
    Calls Try.prog 29 #[shipV m v] w fun e w' => e = .returned (.bool (mayB m)) ∧ Below w.heap.size w w' := by
  obtain ⟨kind, epoch, k, full, pages, imgs⟩ := m
  by_cases h2 : kind = 2
  · subst h2
    have e : mayB ⟨2, epoch, k, full, pages, imgs⟩ = (!full && decide (pages = 0) && decide (imgs.length = 0)) := by simp [mayB]
    rw [e]
    exact refMay_ack epoch k pages full imgs v w hv hn
  · exact refMay_unit kind epoch k pages full imgs v w hv hn hbig h2 hk

theorem eight_len (n : Int) : (eight n).length = 8 := rfl

set_option maxHeartbeats 400000 in
theorem refPut_no (m : Sh) (v : Value) (w : World) (hv : ImgsAt w v m.imgs) (hn : m.imgs.length ≤ 9223372036854775807) (hbig : ∀ x ∈ m.imgs, x.2.length ≤ 9223372036854775807) (hk : 0 ≤ m.k) (hno : mayB m = false) :
    Calls Try.prog 15 #[shipV m v] w fun e w' => e = .returned (.tuple #[.string (bs []), .int .i64 2]) ∧ Below w.heap.size w w' := by
  obtain ⟨ao, cap, rfl⟩ := imgs_shape hv
  have hm := fun W hW => refMay_any m (.slice ao m.imgs.length cap) W hW hn hbig hk
  rw [hno] at hm
  have Hm := hid hm
  have Hv := hid hv
  clear hm hv hno
  unfold shipV at Hm ⊢
  go_enter Try.func15, Try.ntmps15
  go_wp2_with fail
  refine (Hm.out _ ?_).mono ?_
  · exact imgs_kept Hv.out ((Below.refl _ _).alloc (Nat.le_refl _) _)
  rintro e w1 ⟨rfl, hb1⟩
  go_wp2_with fail
  go_ret2
  exact ⟨rfl, ((Below.refl _ _).alloc (Nat.le_refl _) _).trans (hb1.mono (by simp))⟩

def RPutRel (m : Sh) (w1 : World) (v5 v6 : Value) (wr : World) : Prop :=
  ∃ j : Nat, j ≤ m.imgs.length ∧ v6 = .int .i64 j ∧ v5 = .string (bs (headL m ++ imgsL (m.imgs.take j))) ∧ Below w1.heap.size w1 wr

theorem imgs_at {w : World} {l : List Img} {ao : Option Addr} {cap : Nat} (h : ImgsAt w (.slice ao l.length cap) l) (j : Nat) (hj : j < l.length) :
    ∃ b off, ao = some ⟨b, off, none⟩ ∧ w.cell? ⟨b, off + j * 2, none⟩ = some (.int .i64 l[j].1) ∧ w.cell? ⟨b, off + j * 2 + 1, none⟩ = some (.string (bs l[j].2)) := imgs_cell h (Below.refl _ _) j hj

set_option maxHeartbeats 2000000 in
set_option maxRecDepth 100000 in
theorem refPut_yes (m : Sh) (v : Value) (w : World) (hv : ImgsAt w v m.imgs) (hyes : mayB m = true) (hwf : Wf m) :
    Calls Try.prog 15 #[shipV m v] w fun e w' => e = .returned (.tuple #[.string (bs (putL m)), .int .i64 0]) ∧ Below w.heap.size w w' := by
  obtain ⟨⟨p0, p1⟩, hn, himg⟩ := may_facts m hyes
  obtain ⟨⟨k0, k1⟩, ⟨e0, e1⟩, ⟨kk0, kk1⟩⟩ := hwf
  obtain ⟨ao, cap, rfl⟩ := imgs_shape hv
  have hm := fun W hW => refMay_any m (.slice ao m.imgs.length cap) W hW (by omega) (fun x hx => by have := (himg x hx).1; omega) kk0
  rw [hyes] at hm
  obtain ⟨kind, epoch, k, full, pages, imgs⟩ := m
  simp only at *
  have Hm := hid hm
  have Hv := hid hv
  have Himg := hid himg
  clear hm hv hyes himg
  have hl8 := eight_len
  have hhead : headL ⟨kind, epoch, k, full, pages, imgs⟩ = wordsL [kind, epoch, k, if full then 1 else 0, pages, (imgs.length : Int)] := rfl
  unfold shipV at Hm ⊢
  go_enter Try.func15, Try.ntmps15
  go_wp2_with fail
  refine (Hm.out _ ?_).mono ?_
  · exact imgs_kept Hv.out ((Below.refl _ _).alloc (Nat.le_refl _) _)
  rintro e w1 ⟨rfl, hb1⟩
  have hbw : Below w.heap.size w w1 := ((Below.refl _ _).alloc (Nat.le_refl _) _).trans (hb1.mono (by simp))
  have hbox := (hb1.block w.heap.size (by simp)).trans (heap_alloc_new _ _)
  have hsz : w.heap.size < w1.heap.size := by have := hb1.size; simp at this; omega
  have Hi1 := hid (imgs_kept Hv.out hbw)
  obtain ⟨d0, d1, d2, d3, d4, d5, df⟩ := cells6 hbox
  have Hbox := hid hbox
  clear hb1 Hm hbox Hv df
  go_upto_if 11 with (fail)
  go_cut [4] (fun s4 wx => s4 = .int .u64 (if full then 1 else 0) ∧ w1 = wx)
  case first =>
    cases full
    · go_wp2_with fail
      go_meet
      exact ⟨rfl, rfl⟩
    · go_wp2_with fail
      go_meet
      exact ⟨rfl, rfl⟩
  case rest =>
    obtain ⟨rfl, rfl⟩ := hcut
    obtain ⟨f, hf⟩ : ∃ f : Int, f = if full then 1 else 0 := ⟨_, rfl⟩
    have f01 : 0 ≤ f ∧ f ≤ 1 := by rw [hf]; split <;> omega
    obtain ⟨f0, f1⟩ := f01
    rw [← hf] at hhead ⊢
    have Hhead := hid hhead
    clear hf hhead
    have r0 := fun d os => cell_regrown (w := w1) (a := ⟨w.heap.size, 0, none⟩) d0 d os
    have r1 := fun d os => cell_regrown (w := w1) (a := ⟨w.heap.size, 1, none⟩) d1 d os
    have r2 := fun d os => cell_regrown (w := w1) (a := ⟨w.heap.size, 2, none⟩) d2 d os
    have r4 := fun d os => cell_regrown (w := w1) (a := ⟨w.heap.size, 4, none⟩) d4 d os
    have r5 := fun d os => cell_regrown (w := w1) (a := ⟨w.heap.size, 5, none⟩) d5 d os
    have E0 := fun W => refEight_any kind W k0 (by omega)
    have E1 := fun W => refEight_any epoch W e0 e1
    have E2 := fun W => refEight_any k W kk0 kk1
    have E3 := fun W => refEight_any f W f0 (by omega)
    have E4 := fun W => refEight_any pages W p0 (by omega)
    have E5 := fun W => refEight_any (imgs.length : Int) W (by omega) (by omega)
    clear e1 kk1
    go_upto_region 6 with fail
    refine region_below (by kernel_rfl) (by kernel_rfl) ?_
    repeat (go_big_quiet_step ((go_at_call 30; first | exact Calls.regrown_of (E0 _) | exact Calls.regrown_of (E1 _) | exact Calls.regrown_of (E2 _) | exact Calls.regrown_of (E3 _) | exact Calls.regrown_of (E4 _) | exact Calls.regrown_of (E5 _))))
    refine wpQuiet_nil ?_
    intro w2 hb2
    go_wp2_with fail
    have hb2w : Below w.heap.size w w2 := hbw.trans (hb2.mono (by omega))
    have hH : headL ⟨kind, epoch, k, full, pages, imgs⟩ = eight kind ++ (eight epoch ++ (eight k ++ (eight f ++ (eight pages ++ eight (imgs.length : Int))))) := by rw [Hhead.out]; simp [wordsL]
    have HH := hid hH
    have hbox2 := (hb2.block w.heap.size hsz).trans Hbox.out
    have hsz2 : w.heap.size < w2.heap.size := lt_of_block hbox2
    have Hbox2 := hid hbox2
    have Hi2 := hid (imgs_kept Hi1.out hb2)
    clear hH r0 r1 r2 r4 r5 d0 d1 d2 d3 d4 d5 hbox2 Hbox Hi1 hb2 E0 E1 E2 E3 E4 E5
    go_loopw [5, 6] (fun v5 v6 wr => RPutRel ⟨kind, epoch, k, full, pages, imgs⟩ w2 v5 v6 wr) (fun _ v6 _ => imgs.length - (intOf v6).toNat)
    case atStart => exact ⟨0, Nat.zero_le _, rfl, by rw [HH.out]; simp [imgsL], Below.refl _ _⟩
    case round =>
      obtain ⟨j, hj, rfl, rfl, hb⟩ := hrel
      simp only at hj
      have hbox := (hb.block w.heap.size hsz2).trans Hbox2.out
      have hszr : w.heap.size < wr.heap.size := lt_of_block hbox
      obtain ⟨d0, d1, d2, d3, d4, d5, df⟩ := cells6 hbox
      clear hbox df
      by_cases hlt : j < imgs.length
      · obtain ⟨b, off, rfl, ci, cs⟩ := imgs_cell Hi2.out hb j hlt
        have hx := Himg.out imgs[j] (List.getElem_mem hlt)
        have hstep : imgsL (imgs.take (j + 1)) = imgsL (imgs.take j) ++ (eight imgs[j].1 ++ imgs[j].2) := by rw [List.take_succ_eq_append_getElem hlt, imgsL_snoc]
        have hlen : (headL ⟨kind, epoch, k, full, pages, imgs⟩ ++ imgsL (imgs.take j)).length ≤ 48 + 520 * 256 := by
          rw [List.length_append, headL_length, imgsL_length _ (fun x hx => (Himg.out x (List.mem_of_mem_take hx)).1)]
          simp; omega
        obtain ⟨L, hL⟩ : ∃ L, L = headL ⟨kind, epoch, k, full, pages, imgs⟩ ++ imgsL (imgs.take j) := ⟨_, rfl⟩
        have hnext : headL ⟨kind, epoch, k, full, pages, imgs⟩ ++ imgsL (imgs.take (j + 1)) = L ++ (eight imgs[j].1 ++ imgs[j].2) := by rw [hstep, hL, List.append_assoc]
        rw [← hL] at hlen ⊢
        obtain ⟨x, hx1⟩ : ∃ x, x = imgs[j] := ⟨_, rfl⟩
        obtain ⟨pg, dat⟩ := x
        rw [← hx1] at ci cs hx hnext
        simp only at ci cs hx hnext
        have Hnext := hid hnext
        clear hx1 hL hstep hnext
        obtain ⟨hd, hpg0, hpg1⟩ := hx
        have hd1 : dat.length ≤ 512 := by omega
        have hpg2 : (0 : Int) ≤ pg := by omega
        clear hd
        have E := fun W => refEight_any pg W hpg2 (by omega)
        have r5 := fun d os => cell_regrown (w := wr) (a := ⟨w.heap.size, 5, none⟩) d5 d os
        have ri := fun d os => cell_regrown (w := wr) ci d os
        have rs := fun d os => cell_regrown (w := wr) cs d os
        have i1 : (j : Int) < (imgs.length : Int) := by omega
        have i2 : (0 : Int) ≤ (j : Int) := by omega
        have s1 : ¬ (9223372036854775807 < L.length + 8) := by omega
        have s2 : ¬ (9223372036854775807 < L.length + (8 + dat.length)) := by omega
        have s3 : ¬ (9223372036854775807 < L.length + 8 + dat.length) := by omega
        go_wp2_with fail
        refine region_below (by kernel_rfl) (by kernel_rfl) ?_
        repeat (go_big_quiet_step ((go_at_call 30; exact Calls.regrown_of (E _))))
        refine wpQuiet_nil ?_
        intro w3 hb3
        clear r5 ri rs ci cs E
        go_wp2_with fail
        refine ⟨⟨j + 1, by simp only; omega, by go_num, by rw [Hnext.out], hb.trans (hb3.mono hb.size)⟩, by simp [intOf]; omega⟩
      · have hend : imgs.take j = imgs := List.take_of_length_le (by omega)
        rw [hend]
        have hbody : headL ⟨kind, epoch, k, full, pages, imgs⟩ ++ imgsL imgs = bodyL ⟨kind, epoch, k, full, pages, imgs⟩ := rfl
        rw [hbody]
        have hput : putL ⟨kind, epoch, k, full, pages, imgs⟩ = textOf (sumAdd (0, 0) (bodyL ⟨kind, epoch, k, full, pages, imgs⟩)) ++ bodyL ⟨kind, epoch, k, full, pages, imgs⟩ := rfl
        have hblen : (bodyL ⟨kind, epoch, k, full, pages, imgs⟩).length ≤ 1000000 := by
          unfold bodyL
          rw [List.length_append, headL_length, imgsL_length _ (fun x hx => (Himg.out x hx).1)]
          omega
        obtain ⟨L, hL⟩ : ∃ L, L = bodyL ⟨kind, epoch, k, full, pages, imgs⟩ := ⟨_, rfl⟩
        rw [← hL] at hblen hput ⊢
        obtain ⟨⟨q0, q1⟩, q2, q3⟩ := sumAdd_bd (0, 0) L (by decide) (by decide)
        have htl : (textOf (sumAdd (0, 0) L)).length = 8 := rfl
        have Hput := hid hput
        have A := fun W => refAdd_any L (0, 0) W (by omega)
        obtain ⟨q, hq⟩ : ∃ q, q = sumAdd (0, 0) L := ⟨_, rfl⟩
        simp only [← hq] at A q0 q1 q2 q3 htl
        rw [← hq] at Hput
        have T := fun W => refText_any q W q0 q1 q2 q3
        clear hL hput hend hbody hq q1 q3
        go_wp2_with fail
        refine (A _).mono ?_
        rintro e w4 ⟨rfl, hb4⟩
        go_wp2_with fail
        refine (T _).mono ?_
        rintro e w5 ⟨rfl, hb5⟩
        have hs : (textOf q).length + L.length ≤ 9223372036854775807 := by omega
        go_wp2_with fail
        go_ret2
        exact ⟨by rw [Hput.out]; rfl, hb2w.trans ((hb.trans ((hb4.trans (hb5.mono hb4.size)).mono hb.size)).mono hb2w.size)⟩
end Go.Proofs.Ytdgpdfigipplpaa
