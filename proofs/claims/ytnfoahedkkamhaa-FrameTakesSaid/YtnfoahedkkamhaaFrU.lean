/- counterfoilref04.Put: it answers frL and frQ. -/
import Derived.Test.YtnfoahedkkamhaaFrS
namespace Go.Proofs.Ytnfoahedkkamhaa
open Go.RowKit
set_option linter.unusedVariables false
set_option linter.unusedSimpArgs false

set_option maxHeartbeats 2000000 in
set_option maxRecDepth 100000 in
theorem refPut_any (p : Int × Int) (salt : Int) (f : Fr) (w : World) (hp : PairWf p) (h0 : 0 ≤ salt) (h1 : salt < 18446744073709551616) (hok : frOk f = true) :
    Calls Try.prog 22 #[pairV p, .int .u64 salt, frV f] w fun e w' => e = .returned (.tuple #[.string (bs (frL p salt f)), pairV (frQ p salt f)]) ∧ Below w.heap.size w w' := by
  obtain ⟨hm, hdl, ⟨f1, f2⟩, c1, c2⟩ := frOk_facts hok
  have hH : frHead salt f = four f.page ++ (four f.commit ++ eight salt) := by simp [frHead]
  have hHl := frHead_length salt f
  have hQ : frQ p salt f = sumAdd (sumAdd p (frHead salt f)) f.data := rfl
  have hL : frL p salt f = frHead salt f ++ (textOf (frQ p salt f) ++ (zeros 40 ++ f.data)) := by simp [frL]
  have A1 := fun W => refAdd_any (frHead salt f) p W (by omega)
  have A2 := fun W => refAdd_any f.data (sumAdd p (frHead salt f)) W (by omega)
  have hq1 := sumAdd_bd p (frHead salt f) hp.1 hp.2
  have hq2 := sumAdd_bd (sumAdd p (frHead salt f)) f.data hq1.1 hq1.2
  rw [← hQ] at hq2
  simp only [← hQ] at A2
  have T := fun W => refText_any (frQ p salt f) W hq2.1.1 hq2.1.2 hq2.2.1 hq2.2.2
  have E1 := fun W => number4_any f.page W (by omega) (by omega)
  have E2 := fun W => number4_any f.commit W c1 (by omega)
  have E3 := fun W => fixed8_any salt W h0 h1
  have tl := textOf_length (frQ p salt f)
  have zl := zeros_length 40
  have l8 := eight_length salt
  have l4 := four_length f.page
  have l4' := four_length f.commit
  obtain ⟨Hd, hHd⟩ : ∃ x, x = frHead salt f := ⟨_, rfl⟩
  obtain ⟨q, hqd⟩ : ∃ x, x = frQ p salt f := ⟨_, rfl⟩
  simp only [← hHd, ← hqd] at A1 A2 T hL hH hHl tl ⊢
  obtain ⟨S, hS⟩ : ∃ x, x = frL p salt f := ⟨_, rfl⟩
  rw [← hS] at hL ⊢
  have HL := hid hL
  have HH := hid hH
  have bl : Hd.length ≤ 16 := by omega
  have bd : f.data.length ≤ 512 := by omega
  clear hQ hq1 hq2 hHd hqd hm f1 f2 c1 c2 h1 hok hL hH hS hHl hdl
  obtain ⟨page, commit, data⟩ := f
  simp only at *
  have s1 : ¬ (9223372036854775807 < Hd.length + 8) := by omega
  have s2 : ¬ (9223372036854775807 < Hd.length + 8 + 40) := by omega
  have s3 : ¬ (9223372036854775807 < Hd.length + (8 + 40)) := by omega
  have s4 : ¬ (9223372036854775807 < Hd.length + (8 + 40) + data.length) := by omega
  have s5 : ¬ (9223372036854775807 < Hd.length + (8 + (40 + data.length))) := by omega
  have s6 : ¬ (9223372036854775807 < Hd.length + 8 + 40 + data.length) := by omega
  unfold pairV frV at *
  go_enter Try.func22, Try.ntmps22
  go_wp2_with fail
  have H0 := three_new w (.cells #[.int .u32 p.1, .int .u32 p.2] 33) (.cells #[.int .i64 page, .int .i64 commit, .string (bs data)] 37) (.cells #[.int .u32 0, .int .u32 0] 33)
  have hbw0 := below_three w (.cells #[.int .u32 p.1, .int .u32 p.2] 33) (.cells #[.int .i64 page, .int .i64 commit, .string (bs data)] 37) (.cells #[.int .u32 0, .int .u32 0] 33)
  obtain ⟨d0, d1, d2, df⟩ := cells3 H0.2.1
  have r0 := fun d os => cell_regrown d0 d os
  have r1 := fun d os => cell_regrown d1 d os
  clear d0 d1 d2 df
  refine region_below (by kernel_rfl) (by kernel_rfl) ?_
  repeat (go_big_quiet_step ((first | (go_at_call 36; with_reducible exact Calls.regrown_of (E3 _)) | (go_at_call 37; first | with_reducible exact Calls.regrown_of (E1 _) | with_reducible exact Calls.regrown_of (E2 _)))))
  refine wpQuiet_nil ?_
  intro w2 hb2
  have H2 := hid (H0.kept hb2)
  have hbw2 := hbw0.trans (hb2.mono hbw0.size)
  have lt2 := H2.out.lt
  have eH : four page ++ (four commit ++ eight salt) = Hd := HH.out.symm
  clear r0 r1 E1 E2 E3 hb2 hbw0 H0
  go_upto_region 2 with fail
  refine region_block [0, 1, 2, 3, 4, 5] 6 7 [] _ (.cells #[.int .u32 0, .int .u32 0] 33) ?af (by kernel_rfl) (by kernel_rfl) (by kernel_rfl) rfl (fun _ _ => by kernel_rfl) ?_ ?_
  rotate_left
  · intro W hW
    have xT := H2.out.kept hW
    obtain ⟨g0, g1, gf⟩ := cells2 xT.1
    obtain ⟨d0, d1, d2, df⟩ := cells3 xT.2.1
    have r2 := fun d os => cell_regrown d2 d os
    have q0 := fun d os => cell_regrown g0 d os
    have q1 := fun d os => cell_regrown g1 d os
    clear xT d0 d1 d2 df g0 g1 gf
    simp only [pick, List.getElem?_cons_succ, List.getElem?_cons_zero]
    repeat (go_big_quiet_step ((go_at_call 39; first | with_reducible exact Calls.regrown_of (A1 _) | with_reducible exact Calls.regrown_of (A2 _))))
    refine wpQuiet_nil ?_
    exact rfl
  · intro Q w4 hb4 hQ hQb
    simp only [pick, List.getElem?_cons_succ, List.getElem?_cons_zero]
    obtain ⟨g0, g1, gf⟩ := cells2 hQb
    have Q5 := heap_set2 hQb (.int .u32 q.1) (.int .u32 q.2)
    have H5 := (H2.out.kept hb4).set2 (M := Q) (by omega) (.int .u32 q.1) (.int .u32 q.2)
    have hbw5 := ((hbw2.trans (hb4.mono hbw2.size)).setCell (p := ⟨Q, 0, none⟩) (by simp only; omega) (.int .u32 q.1)).setCell (p := ⟨Q, 1, none⟩) (by simp only; omega) (.int .u32 q.2)
    have HQb := hid hQb
    clear hQb A1 A2
    go_wp2_with fail
    obtain ⟨w5, hw5⟩ : ∃ x, x = (w4.setCell ⟨Q, 0, none⟩ (.int .u32 q.1)).setCell ⟨Q, 1, none⟩ (.int .u32 q.2) := ⟨_, rfl⟩
    rw [← hw5] at Q5 H5 hbw5 ⊢
    clear hw5 g0 g1 gf HQb hb4 H2 hbw2
    obtain ⟨g0, g1, gf⟩ := cells2 Q5
    obtain ⟨d0, d1, d2, df⟩ := cells3 H5.2.1
    have r2 := fun d os => cell_regrown d2 d os
    have q0 := fun d os => cell_regrown g0 d os
    have q1 := fun d os => cell_regrown g1 d os
    have HH5 := hid H5
    clear H5 Q5 g0 g1 gf d0 d1 d2 df
    refine region_grow [0, 1, 2, 3, 4, 5, 6, 7, 8, 9, 10] 11 [] (by kernel_rfl) (by kernel_rfl) ?_
    simp only [pick, List.getElem?_cons_succ, List.getElem?_cons_zero]
    repeat (go_big_quiet_step ((first | (go_at_call 38; with_reducible exact Calls.regrown_of (T _)) | (go_at_call 40; with_reducible exact Calls.regrown_of (rnoughts_40 _)))))
    refine wpQuiet_nil ?_
    intro w6 hb6
    have hbw6 := hbw5.trans (hb6.mono hbw5.size)
    obtain ⟨a0, a1, af⟩ := cells2 (HH5.out.kept hb6).2.2
    clear r2 q0 q1
    go_wp2_with fail
    refine bodyPost_ret (v := .tuple #[.string (bs (Hd ++ (textOf q ++ (zeros 40 ++ data)))), .agg #[.int .u32 q.1, .int .u32 q.2]]) (by simp [results, Try.results22, go_sem, a0, a1, af]) rfl ⟨by rw [HL.out], ?_⟩
    iterate 2 refine Below.setCell ?_ (by simp <;> omega) _
    exact hbw6
end Go.Proofs.Ytnfoahedkkamhaa
