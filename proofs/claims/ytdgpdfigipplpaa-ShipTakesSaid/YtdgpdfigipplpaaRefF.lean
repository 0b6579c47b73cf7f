/- counterfoilref26.May: the same answer as ship.may: mayB. -/
import Derived.Test.YtdgpdfigipplpaaRefE
import Derived.Deep.DeepCutAuto
namespace Go.Proofs.Ytdgpdfigipplpaa
open Go.RowKit
set_option linter.unusedVariables false
set_option linter.unusedSimpArgs false

def MayRel2 (m : Sh) (W : World) (v3 v4 : Value) (wr : World) : Prop :=
  ∃ k : Nat, k ≤ m.imgs.length ∧ v4 = .int .i64 k ∧ v3 = .bool (okB m k) ∧ Below W.heap.size W wr

theorem imgs_cell_prev {w wr : World} {l : List Img} {ao : Option Addr} {cap : Nat} (h : ImgsAt w (.slice ao l.length cap) l) (hb : Below w.heap.size w wr) (j : Nat) (hj : j < l.length) :
    ∃ b off, ao = some ⟨b, off, none⟩ ∧ wr.cell? ⟨b, off + j * 2, none⟩ = some (.int .i64 l[j].1) ∧ wr.cell? ⟨b, off + j * 2 + 1, none⟩ = some (.string (bs l[j].2)) ∧ wr.cell? ⟨b, off + (j - 1) * 2, none⟩ = some (.int .i64 (l.getD (j - 1) (0, [])).1) := by
  obtain ⟨b, off, rfl, h1, h2⟩ := imgs_cell h hb j hj
  obtain ⟨b', off', e, h3, _⟩ := imgs_cell h hb (j - 1) (by omega)
  simp only [Option.some.injEq, Addr.mk.injEq, and_true] at e
  obtain ⟨rfl, rfl⟩ := e
  exact ⟨b, off, rfl, h1, h2, by rw [h3]; simp [List.getD, show j - 1 < l.length by omega]⟩

set_option maxHeartbeats 4000000 in
set_option maxRecDepth 100000 in
theorem refMay_unit (kind epoch k pages : Int) (full : Bool) (imgs : List Img) (v : Value) (w : World) (hv : ImgsAt w v imgs) (hn : imgs.length ≤ 9223372036854775807) (hbig : ∀ x ∈ imgs, x.2.length ≤ 9223372036854775807) (h2 : ¬ kind = 2) (hk0 : 0 ≤ k) :
    Calls Try.prog 29 #[.agg #[.int .u8 kind, .int .u64 epoch, .int .u64 k, .bool full, .int .i64 pages, v]] w fun e w' => e = .returned (.bool (mayB ⟨kind, epoch, k, full, pages, imgs⟩)) ∧ Below w.heap.size w w' := by
  have hlaw := may_full_law ⟨kind, epoch, k, full, pages, imgs⟩ h2 hk0
  have Hlaw := hid hlaw
  clear hlaw
  obtain ⟨ao, cap, rfl⟩ := imgs_shape hv
  have Hv := hid hv
  clear hv
  have h2' : (kind == 2) = false := by simpa using h2
  clear h2
  go_enter Try.func29, Try.ntmps29
  go_upto_region 3 with fail
  go_cut [3] (fun s3 wx => s3 = .bool (startB ⟨kind, epoch, k, full, pages, imgs⟩) ∧ wx = w.alloc (.cells #[.int .u8 kind, .int .u64 epoch, .int .u64 k, .bool full, .int .i64 pages, .slice ao imgs.length cap] 28))
  case first =>
    by_cases a1 : kind = 1
    · have b1 : (kind == 1) = true := by simpa using a1
      by_cases a2 : 1 ≤ pages
      · have b2 : decide (1 ≤ pages) = true := by simpa using a2
        by_cases a3 : pages ≤ 256
        · have b3 : decide (pages ≤ 256) = true := by simpa using a3
          by_cases a4 : 0 < k
          · have b4 : decide (0 < k) = true := by simpa using a4
            have e : startB ⟨kind, epoch, k, full, pages, imgs⟩ = true := by simp [startB, a1, a2, a3, a4]
            have E := hid e
            clear e a1
            go_wp2_with fail
            go_meet
            exact ⟨by rw [E.out], rfl⟩
          · have b4 : decide (0 < k) = false := by simpa using a4
            have e : startB ⟨kind, epoch, k, full, pages, imgs⟩ = false := by simp [startB, a1, a2, a3, a4]
            have E := hid e
            clear e a1
            go_wp2_with fail
            go_meet
            exact ⟨by rw [E.out], rfl⟩
        · have b3 : decide (pages ≤ 256) = false := by simpa using a3
          have e : startB ⟨kind, epoch, k, full, pages, imgs⟩ = false := by simp [startB, a1, a2, a3]
          have E := hid e
          clear e a1
          go_wp2_with fail
          go_meet
          exact ⟨by rw [E.out], rfl⟩
      · have b2 : decide (1 ≤ pages) = false := by simpa using a2
        have e : startB ⟨kind, epoch, k, full, pages, imgs⟩ = false := by simp [startB, a1, a2]
        have E := hid e
        clear e a1
        go_wp2_with fail
        go_meet
        exact ⟨by rw [E.out], rfl⟩
    · have b1 : (kind == 1) = false := by simpa using a1
      have e : startB ⟨kind, epoch, k, full, pages, imgs⟩ = false := by simp [startB, a1]
      have E := hid e
      clear e a1
      go_wp2_with fail
      go_meet
      exact ⟨by rw [E.out], rfl⟩
  case rest =>
    obtain ⟨rfl, rfl⟩ := hcut
    go_wp2_with fail
    go_loopw [3, 4] (fun v3 v4 wr => MayRel2 ⟨kind, epoch, k, full, pages, imgs⟩ (w.alloc (.cells #[.int .u8 kind, .int .u64 epoch, .int .u64 k, .bool full, .int .i64 pages, .slice ao imgs.length cap] 28)) v3 v4 wr) (fun _ v4 _ => imgs.length - (intOf v4).toNat)
    case atStart => exact ⟨0, Nat.zero_le _, rfl, rfl, Below.refl _ _⟩
    case round =>
      obtain ⟨j, hj, rfl, rfl, hbr⟩ := hrel
      have hbw : Below w.heap.size w wr := ((Below.refl _ _).alloc (Nat.le_refl _) _).trans (hbr.mono (by simp))
      have hbox : wr.heap[w.heap.size]? = some (.cells #[.int .u8 kind, .int .u64 epoch, .int .u64 k, .bool full, .int .i64 pages, .slice ao imgs.length cap] 28 (0, 0)) := (hbr.block _ (by simp)).trans (heap_alloc_new _ _)
      have hsz : w.heap.size < wr.heap.size := by have := hbr.size; simp at this; omega
      obtain ⟨c0, c1, c2, c3, c4, c5, cf⟩ := cells6 hbox
      clear hbox
      simp only at hj
      by_cases hlt : j < imgs.length
      · obtain ⟨b, off, rfl, ci, cs, cp⟩ := imgs_cell_prev Hv.out hbw j hlt
        have hx := hbig imgs[j] (List.getElem_mem hlt)
        have hs : okB ⟨kind, epoch, k, full, pages, imgs⟩ (j + 1) = (okB ⟨kind, epoch, k, full, pages, imgs⟩ j && (decide (1 ≤ imgs[j].1) && decide (imgs[j].1 ≤ pages) && decide (imgs[j].2.length = 512) && (decide (j = 0) || decide ((imgs.getD (j - 1) (0, [])).1 < imgs[j].1)) && (!full || decide (imgs[j].1 = (j : Int) + 1)))) := by
          have e : imgs.getD j (0, []) = imgs[j] := by simp [List.getD, hlt]
          rw [okB_succ]; unfold stepB; simp only [e]
        obtain ⟨⟨pg, dat⟩, hx1⟩ : ∃ x, x = imgs[j] := ⟨_, rfl⟩
        obtain ⟨⟨pp, pd⟩, hx2⟩ : ∃ x, x = imgs.getD (j - 1) (0, []) := ⟨_, rfl⟩
        obtain ⟨ok, hx3⟩ : ∃ x, x = okB ⟨kind, epoch, k, full, pages, imgs⟩ j := ⟨_, rfl⟩
        rw [← hx1] at ci cs hx hs
        rw [← hx2] at cp hs
        rw [← hx3] at hs ⊢
        simp only at ci cs hx hs cp
        have Hs := hid hs
        clear hx1 hx2 hx3 hs
        have i1 : (j : Int) < (imgs.length : Int) := by omega
        have i2 : (0 : Int) ≤ (j : Int) := by omega
        have fin : ∀ (x : Bool) (W : World), x = okB ⟨kind, epoch, k, full, pages, imgs⟩ (j + 1) → Below (w.heap.size + 1) (w.alloc (.cells #[.int .u8 kind, .int .u64 epoch, .int .u64 k, .bool full, .int .i64 pages, .slice (some ⟨b, off, none⟩) imgs.length cap] 28)) W → MayRel2 ⟨kind, epoch, k, full, pages, imgs⟩ (w.alloc (.cells #[.int .u8 kind, .int .u64 epoch, .int .u64 k, .bool full, .int .i64 pages, .slice (some ⟨b, off, none⟩) imgs.length cap] 28)) (.bool x) (.int .i64 ((j : Int) + 1)) W := fun x W hx hW => ⟨j + 1, by simp only; omega, by go_num, by rw [hx], by simpa using hW⟩
        have Fin := hid fin
        clear fin
        go_upto_region 8 with fail
        have hbr' : Below (w.heap.size + 1) (w.alloc (.cells #[.int .u8 kind, .int .u64 epoch, .int .u64 k, .bool full, .int .i64 pages, .slice (some ⟨b, off, none⟩) imgs.length cap] 28)) wr := by simpa using hbr
        have hbl : b < wr.heap.size := World.block_lt_of_cell? wr _ ci
        cases ok
        · have hz := hid True.intro
          have e : false = _ := Eq.trans (by rfl) Hs.out.symm
          have E := hid e
          clear e Hs
          refine wp_region_quiet_lit (by kernel_rfl) (by kernel_rfl) ?_
          repeat (first | go_big_quiet_step (fail) | (refine wpQuiet_step (fun K hK => ?_); go_simp; refine hK _ ?_; clear hK K))
          refine wpQuiet_nil ?_
          intro _ hw'
          obtain ⟨nq, hw''⟩ := hw'
          subst hw''
          go_wp2_with fail
          exact ⟨Fin.out _ _ E.out (below_drewN (hbr'.alloc (by simpa using hbr.size) _) _), by simp [intOf]; omega⟩
        · have hz := hid True.intro
          by_cases q1 : 1 ≤ pg
          · have bq1 : (decide (1 ≤ pg)) = true := by first | simpa using q1 | (simp; omega)
            have Q1 := hid q1
            clear q1
            by_cases q2 : pg ≤ pages
            · have bq2 : (decide (pg ≤ pages)) = true := by first | simpa using q2 | (simp; omega)
              have Q2 := hid q2
              clear q2
              by_cases q3 : dat.length = 512
              · have bq3 : ((dat.length : Int) == 512) = true := by first | simpa using q3 | (simp; omega)
                have Q3 := hid q3
                clear q3
                by_cases q4 : j = 0
                · have bq4 : ((j : Int) == 0) = true := by first | simpa using q4 | (simp; omega)
                  have Q4 := hid q4
                  clear q4
                  cases full
                  · have hz2 := hid True.intro
                    have e : true = _ := Eq.trans (by rw [decide_eq_true Q1.out, decide_eq_true Q2.out, decide_eq_true Q3.out, decide_eq_true Q4.out]; try rfl) Hs.out.symm
                    have E := hid e
                    clear e Hs
                    refine wp_region_quiet_lit (by kernel_rfl) (by kernel_rfl) ?_
                    repeat (first | go_big_quiet_step (fail) | (refine wpQuiet_step (fun K hK => ?_); go_simp; refine hK _ ?_; clear hK K))
                    refine wpQuiet_nil ?_
                    intro _ hw'
                    obtain ⟨nq, hw''⟩ := hw'
                    subst hw''
                    go_wp2_with fail
                    exact ⟨Fin.out _ _ E.out (below_drewN (hbr'.alloc (by simpa using hbr.size) _) _), by simp [intOf]; omega⟩
                  · have hz2 := hid True.intro
                    by_cases q7 : pg = (j : Int) + 1
                    · have bq7 : (pg == (j : Int) + 1) = true := by first | simpa using q7 | (simp; omega)
                      have Q7 := hid q7
                      clear q7
                      have e : true = _ := Eq.trans (by rw [decide_eq_true Q1.out, decide_eq_true Q2.out, decide_eq_true Q3.out, decide_eq_true Q4.out, decide_eq_true Q7.out]; try rfl) Hs.out.symm
                      have E := hid e
                      clear e Hs
                      refine wp_region_quiet_lit (by kernel_rfl) (by kernel_rfl) ?_
                      repeat (first | go_big_quiet_step (fail) | (refine wpQuiet_step (fun K hK => ?_); go_simp; refine hK _ ?_; clear hK K))
                      refine wpQuiet_nil ?_
                      intro _ hw'
                      obtain ⟨nq, hw''⟩ := hw'
                      subst hw''
                      go_wp2_with fail
                      exact ⟨Fin.out _ _ E.out (below_drewN (hbr'.alloc (by simpa using hbr.size) _) _), by simp [intOf]; omega⟩
                    · have bq7 : (pg == (j : Int) + 1) = false := by first | simpa using q7 | (simp; omega)
                      have Q7 := hid q7
                      clear q7
                      have e : false = _ := Eq.trans (by rw [decide_eq_true Q1.out, decide_eq_true Q2.out, decide_eq_true Q3.out, decide_eq_true Q4.out, decide_eq_false Q7.out]; try rfl) Hs.out.symm
                      have E := hid e
                      clear e Hs
                      refine wp_region_quiet_lit (by kernel_rfl) (by kernel_rfl) ?_
                      repeat (first | go_big_quiet_step (fail) | (refine wpQuiet_step (fun K hK => ?_); go_simp; refine hK _ ?_; clear hK K))
                      refine wpQuiet_nil ?_
                      intro _ hw'
                      obtain ⟨nq, hw''⟩ := hw'
                      subst hw''
                      go_wp2_with fail
                      exact ⟨Fin.out _ _ E.out (below_drewN (hbr'.alloc (by simpa using hbr.size) _) _), by simp [intOf]; omega⟩
                · have bq4 : ((j : Int) == 0) = false := by first | simpa using q4 | (simp; omega)
                  have Q4 := hid q4
                  clear q4
                  have q4 := Q4.out
                  have g1 : IntKind.i64.wrap ((j : Int) - 1) = (j : Int) - 1 := IntWalk.i64_in _ (by omega)
                  have g2 : (0 : Int) ≤ (j : Int) - 1 := by omega
                  have g5 : 1 ≤ j := by omega
                  have g6 : (1 : Int) ≤ (j : Int) := by omega
                  have g7 : (j : Int) < (imgs.length : Int) + 1 := by omega
                  have g3 : (j : Int) - 1 < (imgs.length : Int) := by omega
                  have g4 : ((j : Int) - 1).toNat = j - 1 := by omega
                  clear q4
                  by_cases q5 : pp < pg
                  · have bq5 : (decide (pp < pg)) = true := by first | simpa using q5 | (simp; omega)
                    have Q5 := hid q5
                    clear q5
                    cases full
                    · have hz2 := hid True.intro
                      have e : true = _ := Eq.trans (by rw [decide_eq_true Q1.out, decide_eq_true Q2.out, decide_eq_true Q3.out, decide_eq_false Q4.out, decide_eq_true Q5.out]; try rfl) Hs.out.symm
                      have E := hid e
                      clear e Hs
                      refine wp_region_quiet_lit (by kernel_rfl) (by kernel_rfl) ?_
                      repeat (first | go_big_quiet_step (fail) | (refine wpQuiet_step (fun K hK => ?_); go_simp; refine hK _ ?_; clear hK K))
                      refine wpQuiet_nil ?_
                      intro _ hw'
                      obtain ⟨nq, hw''⟩ := hw'
                      subst hw''
                      go_wp2_with fail
                      exact ⟨Fin.out _ _ E.out (below_drewN (hbr'.alloc (by simpa using hbr.size) _) _), by simp [intOf]; omega⟩
                    · have hz2 := hid True.intro
                      by_cases q7 : pg = (j : Int) + 1
                      · have bq7 : (pg == (j : Int) + 1) = true := by first | simpa using q7 | (simp; omega)
                        have Q7 := hid q7
                        clear q7
                        have e : true = _ := Eq.trans (by rw [decide_eq_true Q1.out, decide_eq_true Q2.out, decide_eq_true Q3.out, decide_eq_false Q4.out, decide_eq_true Q5.out, decide_eq_true Q7.out]; try rfl) Hs.out.symm
                        have E := hid e
                        clear e Hs
                        refine wp_region_quiet_lit (by kernel_rfl) (by kernel_rfl) ?_
                        repeat (first | go_big_quiet_step (fail) | (refine wpQuiet_step (fun K hK => ?_); go_simp; refine hK _ ?_; clear hK K))
                        refine wpQuiet_nil ?_
                        intro _ hw'
                        obtain ⟨nq, hw''⟩ := hw'
                        subst hw''
                        go_wp2_with fail
                        exact ⟨Fin.out _ _ E.out (below_drewN (hbr'.alloc (by simpa using hbr.size) _) _), by simp [intOf]; omega⟩
                      · have bq7 : (pg == (j : Int) + 1) = false := by first | simpa using q7 | (simp; omega)
                        have Q7 := hid q7
                        clear q7
                        have e : false = _ := Eq.trans (by rw [decide_eq_true Q1.out, decide_eq_true Q2.out, decide_eq_true Q3.out, decide_eq_false Q4.out, decide_eq_true Q5.out, decide_eq_false Q7.out]; try rfl) Hs.out.symm
                        have E := hid e
                        clear e Hs
                        refine wp_region_quiet_lit (by kernel_rfl) (by kernel_rfl) ?_
                        repeat (first | go_big_quiet_step (fail) | (refine wpQuiet_step (fun K hK => ?_); go_simp; refine hK _ ?_; clear hK K))
                        refine wpQuiet_nil ?_
                        intro _ hw'
                        obtain ⟨nq, hw''⟩ := hw'
                        subst hw''
                        go_wp2_with fail
                        exact ⟨Fin.out _ _ E.out (below_drewN (hbr'.alloc (by simpa using hbr.size) _) _), by simp [intOf]; omega⟩
                  · have bq5 : (decide (pp < pg)) = false := by first | simpa using q5 | (simp; omega)
                    have Q5 := hid q5
                    clear q5
                    have e : false = _ := Eq.trans (by rw [decide_eq_true Q1.out, decide_eq_true Q2.out, decide_eq_true Q3.out, decide_eq_false Q4.out, decide_eq_false Q5.out]; try rfl) Hs.out.symm
                    have E := hid e
                    clear e Hs
                    refine wp_region_quiet_lit (by kernel_rfl) (by kernel_rfl) ?_
                    repeat (first | go_big_quiet_step (fail) | (refine wpQuiet_step (fun K hK => ?_); go_simp; refine hK _ ?_; clear hK K))
                    refine wpQuiet_nil ?_
                    intro _ hw'
                    obtain ⟨nq, hw''⟩ := hw'
                    subst hw''
                    go_wp2_with fail
                    exact ⟨Fin.out _ _ E.out (below_drewN (hbr'.alloc (by simpa using hbr.size) _) _), by simp [intOf]; omega⟩
              · have bq3 : ((dat.length : Int) == 512) = false := by first | simpa using q3 | (simp; omega)
                have Q3 := hid q3
                clear q3
                have e : false = _ := Eq.trans (by rw [decide_eq_true Q1.out, decide_eq_true Q2.out, decide_eq_false Q3.out]; try rfl) Hs.out.symm
                have E := hid e
                clear e Hs
                refine wp_region_quiet_lit (by kernel_rfl) (by kernel_rfl) ?_
                repeat (first | go_big_quiet_step (fail) | (refine wpQuiet_step (fun K hK => ?_); go_simp; refine hK _ ?_; clear hK K))
                refine wpQuiet_nil ?_
                intro _ hw'
                obtain ⟨nq, hw''⟩ := hw'
                subst hw''
                go_wp2_with fail
                exact ⟨Fin.out _ _ E.out (below_drewN (hbr'.alloc (by simpa using hbr.size) _) _), by simp [intOf]; omega⟩
            · have bq2 : (decide (pg ≤ pages)) = false := by first | simpa using q2 | (simp; omega)
              have Q2 := hid q2
              clear q2
              have e : false = _ := Eq.trans (by rw [decide_eq_true Q1.out, decide_eq_false Q2.out]; try rfl) Hs.out.symm
              have E := hid e
              clear e Hs
              refine wp_region_quiet_lit (by kernel_rfl) (by kernel_rfl) ?_
              repeat (first | go_big_quiet_step (fail) | (refine wpQuiet_step (fun K hK => ?_); go_simp; refine hK _ ?_; clear hK K))
              refine wpQuiet_nil ?_
              intro _ hw'
              obtain ⟨nq, hw''⟩ := hw'
              subst hw''
              go_wp2_with fail
              exact ⟨Fin.out _ _ E.out (below_drewN (hbr'.alloc (by simpa using hbr.size) _) _), by simp [intOf]; omega⟩
          · have bq1 : (decide (1 ≤ pg)) = false := by first | simpa using q1 | (simp; omega)
            have Q1 := hid q1
            clear q1
            have e : false = _ := Eq.trans (by rw [decide_eq_false Q1.out]; try rfl) Hs.out.symm
            have E := hid e
            clear e Hs
            refine wp_region_quiet_lit (by kernel_rfl) (by kernel_rfl) ?_
            repeat (first | go_big_quiet_step (fail) | (refine wpQuiet_step (fun K hK => ?_); go_simp; refine hK _ ?_; clear hK K))
            refine wpQuiet_nil ?_
            intro _ hw'
            obtain ⟨nq, hw''⟩ := hw'
            subst hw''
            go_wp2_with fail
            exact ⟨Fin.out _ _ E.out (below_drewN (hbr'.alloc (by simpa using hbr.size) _) _), by simp [intOf]; omega⟩
      · have hend : j = imgs.length := by omega
        subst hend
        have Hl := hid Hlaw.out
        obtain ⟨ok, hx3⟩ : ∃ x, x = okB ⟨kind, epoch, k, full, pages, imgs⟩ imgs.length := ⟨_, rfl⟩
        simp only [← hx3] at Hl
        rw [← hx3]
        clear hx3 Hlaw
        cases ok
        · have e := hid Hl.out.symm
          clear Hl
          simp only [Bool.false_and] at e
          go_wp2_with fail
          go_ret
          exact ⟨ret_bool e.out.symm, hbw⟩
        · cases full
          · have e := hid Hl.out.symm
            clear Hl
            go_wp2_with fail
            go_ret
            exact ⟨ret_bool e.out.symm, hbw⟩
          · by_cases q8 : (imgs.length : Int) = pages
            · have bq8 : ((imgs.length : Int) == pages) = true := by simpa using q8
              have e := hid Hl.out.symm
              have Q8 := hid q8
              clear Hl q8
              go_wp2_with fail
              go_ret
              exact ⟨ret_bool (by rw [e.out, decide_eq_true Q8.out]; rfl), hbw⟩
            · have bq8 : ((imgs.length : Int) == pages) = false := by simpa using q8
              have e := hid Hl.out.symm
              have Q8 := hid q8
              clear Hl q8
              go_wp2_with fail
              go_ret
              exact ⟨ret_bool (by rw [e.out, decide_eq_false Q8.out]; rfl), hbw⟩
end Go.Proofs.Ytdgpdfigipplpaa
