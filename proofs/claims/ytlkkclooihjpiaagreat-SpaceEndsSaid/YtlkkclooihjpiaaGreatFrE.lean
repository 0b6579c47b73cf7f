/- frame.may and frame.Put: what they come to. -/
import Derived.Test.YtlkkclooihjpiaaGreatFrD
import Derived.Deep.RegionHeld3
set_option linter.unusedVariables false
set_option linter.unusedSimpArgs false
namespace Go.Proofs.YtlkkclooihjpiaaGreat
open Go.RowKit
set_option maxRecDepth 20000
structure Fr where
 page : Int
 commit : Int
 data : List UInt8
def frV (f : Fr) : Value := .agg #[.int .i64 f.page, .int .i64 f.commit, .string (bs f.data)]
def frMay (f : Fr) : Bool := inB f.page 1 256 && inB f.commit 0 256
def frHead (salt : Int) (f : Fr) : List UInt8 := [four f.page, four f.commit, eight salt].flatten
theorem frHead_length (salt : Int) (f : Fr) : (frHead salt f).length = 16 := by simp [frHead, eight_length, four_length]
def frQ (p : Int × Int) (salt : Int) (f : Fr) : Int × Int := sumAdd (sumAdd p (frHead salt f)) f.data
def frL (p : Int × Int) (salt : Int) (f : Fr) : List UInt8 := [frHead salt f, textOf (frQ p salt f), zeros 40, f.data].flatten
theorem frL_length (p : Int × Int) (salt : Int) (f : Fr) (h : f.data.length = 512) : (frL p salt f).length = 576 := by simp [frL, frHead_length, textOf_length, zeros_length, h]
def frOk (f : Fr) : Bool := frMay f && decide (f.data.length = 512)
structure PutA where
 s : List UInt8
 q : Int × Int
 e : Int
def putFr (p : Int × Int) (salt : Int) (f : Fr) : PutA := if frOk f then ⟨frL p salt f, frQ p salt f, 0⟩ else ⟨[], (0, 0), 2⟩
def PairWf (p : Int × Int) : Prop := (0 ≤ p.1 ∧ p.1 < 4294967296) ∧ (0 ≤ p.2 ∧ p.2 < 4294967296)
set_option maxHeartbeats 400000 in
theorem may_any (f : Fr) (w : World) : Calls Tryz.prog 81 #[frV f] w fun e w' => e = .returned (.bool (frMay f)) ∧ Below w.heap.size w w' := by
 obtain ⟨page, commit, data⟩ := f
 have F1 := fun W => within_any page 1 256 W
 have F2 := fun W => within_any commit 0 256 W
 have hm : frMay ⟨page, commit, data⟩ = (inB page 1 256 && inB commit 0 256) := rfl
 rw [hm]
 obtain ⟨x, hx⟩ : ∃ x, x = inB page 1 256 := ⟨_, rfl⟩
 obtain ⟨y, hy⟩ : ∃ y, y = inB commit 0 256 := ⟨_, rfl⟩
 simp only [← hx] at F1 ⊢
 simp only [← hy] at F2 ⊢
 clear hx hy hm
 unfold frV
 cases x
 ·go_enter Tryz.func81, Tryz.ntmps81
  go_wp2_with fail
  refine (F1 _).mono ?_
  rintro e w1 ⟨rfl, rfl⟩
  go_wp2_with fail
  go_ret
  exact ⟨rfl, (Below.refl _ _).alloc (Nat.le_refl _) _⟩
 ·go_enter Tryz.func81, Tryz.ntmps81
  go_wp2_with fail
  refine (F1 _).mono ?_
  rintro e w1 ⟨rfl, rfl⟩
  go_wp2_with fail
  refine (F2 _).mono ?_
  rintro e w1 ⟨rfl, rfl⟩
  go_wp2_with fail
  go_ret
  exact ⟨rfl, (Below.refl _ _).alloc (Nat.le_refl _) _⟩
theorem heap_set2 {w : World} {M : Nat} {T : TypeId} {a0 a1 : Value} (h : w.heap[M]? = some (.cells #[a0, a1] T (0, 0))) (b0 b1 : Value) :
  ((w.setCell ⟨M, 0, none⟩ b0).setCell ⟨M, 1, none⟩ b1).heap[M]? = some (.cells #[b0, b1] T (0, 0)) := by
 rw [heap_setCell_same (heap_setCell_same h 0 b0) 1 b1]
 rfl
theorem heap_set2_ne {w : World} {M k : Nat} (hk : k ≠ M) (b0 b1 : Value) : ((w.setCell ⟨M, 0, none⟩ b0).setCell ⟨M, 1, none⟩ b1).heap[k]? = w.heap[k]? := by
 rw [Below.heap_setCell _ ⟨M, _, none⟩ _ k hk, Below.heap_setCell _ ⟨M, _, none⟩ _ k hk]
theorem cell_set2_ne {w : World} {M b : Nat} (h : b ≠ M) (o : Nat) (x y : Value) : ((w.setCell ⟨M, 0, none⟩ x).setCell ⟨M, 1, none⟩ y).cell? ⟨b, o, none⟩ = w.cell? ⟨b, o, none⟩ := World.cell?_of_block (heap_set2_ne h x y)
theorem heap_three_new (w : World) (a b c : Obj) : (((w.alloc a).alloc b).alloc c).heap[w.heap.size + 1 + 1]? = some c := by
 have h := heap_two_new (w.alloc a) b c
 have e : (w.alloc a).heap.size = w.heap.size + 1 := by simp
 rwa [e] at h
theorem heap_three_mid (w : World) (a b c : Obj) : (((w.alloc a).alloc b).alloc c).heap[w.heap.size + 1]? = some b := heap_alloc_old (heap_two_new w a b)
theorem heap_three_old (w : World) (a b c : Obj) : (((w.alloc a).alloc b).alloc c).heap[w.heap.size]? = some a := heap_alloc_old (heap_two_old w a b)
theorem below_three (w : World) (a b c : Obj) : Below w.heap.size w (((w.alloc a).alloc b).alloc c) := (((Below.refl _ _).alloc (Nat.le_refl _) _).alloc (by simp) _).alloc (by simp; omega) _
set_option maxHeartbeats 1000000 in
set_option maxRecDepth 100000 in
theorem putFr_no (p : Int × Int) (salt : Int) (f : Fr) (w : World) (hl : f.data.length ≤ 9223372036854775807) (hno : frOk f = false) :
  Calls Tryz.prog 109 #[pairV p, .int .u64 salt, frV f] w fun e w' => e = .returned (.tuple #[.string (bs []), pairV (0, 0), .int .i64 2]) ∧ Below w.heap.size w w' := by
 have M := fun W => may_any f W
 obtain ⟨m, hm⟩ : ∃ m, m = frMay f := ⟨_, rfl⟩
 simp only [frOk, ← hm] at M hno
 clear hm
 obtain ⟨page, commit, data⟩ := f
 unfold pairV frV at *
 cases m
 ·clear hno
  go_enter Tryz.func109, Tryz.ntmps109
  go_wp2_with fail
  refine (M _).mono ?_
  rintro e w1 ⟨rfl, hb1⟩
  have hbw := (below_three w _ _ _).trans (hb1.mono (by simp; omega))
  have hbox := (hb1.block (w.heap.size + 1 + 1) (by simp)).trans (heap_three_new w _ _ _)
  obtain ⟨c0, c1, cf⟩ := cells2 hbox
  clear hb1 hbox
  go_wp2_with fail
  refine bodyPost_ret (v := .tuple #[.string (bs []), .agg #[.int .u32 0, .int .u32 0], .int .i64 2]) (by simp [results, Tryz.results109, go_sem, bs, c0, c1, cf]) rfl ⟨rfl, ?_⟩
  iterate 2 refine Below.setCell ?_ (by simp <;> omega) _
  exact hbw
 ·have hd : ((data.length : Int) == 512) = false := by simp at hno; simp only [beq_eq_false_iff_ne, ne_eq]; omega
  clear hno
  go_enter Tryz.func109, Tryz.ntmps109
  go_wp2_with fail
  refine (M _).mono ?_
  rintro e w1 ⟨rfl, hb1⟩
  have hbw := (below_three w _ _ _).trans (hb1.mono (by simp; omega))
  have hbox := (hb1.block (w.heap.size + 1 + 1) (by simp)).trans (heap_three_new w _ _ _)
  have hbox2 := (hb1.block (w.heap.size + 1) (by simp <;> omega)).trans (heap_three_mid w _ _ _)
  obtain ⟨c0, c1, cf⟩ := cells2 hbox
  obtain ⟨d0, d1, d2, df⟩ := cells3 hbox2
  clear hb1 hbox hbox2
  go_wp2_with fail
  refine bodyPost_ret (v := .tuple #[.string (bs []), .agg #[.int .u32 0, .int .u32 0], .int .i64 2]) (by simp [results, Tryz.results109, go_sem, bs, c0, c1, cf]) rfl ⟨rfl, ?_⟩
  iterate 2 refine Below.setCell ?_ (by simp <;> omega) _
  exact hbw
theorem held_kept {W W' : World} {a b c : Addr} {x y z : Value} (h : Below W.heap.size W W') (ha : a.block < W.heap.size) (hc : c.block < W.heap.size) (hk : W.cell? a = some x ∧ W.cell? b = some y ∧ W.cell? c = some z) (hb : b.block < W.heap.size := by assumption) :
  W'.cell? a = some x ∧ W'.cell? b = some y ∧ W'.cell? c = some z := ⟨(h.cell ha).trans hk.1, (h.cell hb).trans hk.2.1, (h.cell hc).trans hk.2.2⟩
set_option maxHeartbeats 2000000 in
set_option maxRecDepth 100000 in
theorem putFr_yes (p : Int × Int) (salt : Int) (f : Fr) (w : World) (hp : PairWf p) (h0 : 0 ≤ salt) (h1 : salt < 18446744073709551616) (hyes : frOk f = true) :
  Calls Tryz.prog 109 #[pairV p, .int .u64 salt, frV f] w fun e w' => e = .returned (.tuple #[.string (bs (frL p salt f)), pairV (frQ p salt f), .int .i64 0]) ∧ Below w.heap.size w w' := by
 simp only [frOk, Bool.and_eq_true, decide_eq_true_eq] at hyes
 obtain ⟨hm, hdl⟩ := hyes
 have M := fun W => may_any f W
 simp only [hm] at M
 simp only [frMay, Bool.and_eq_true] at hm
 obtain ⟨f1, f2⟩ := inB_true.1 hm.1
 obtain ⟨c1, c2⟩ := inB_true.1 hm.2
 have hH : frHead salt f = [four f.page, four f.commit, eight salt].flatten := rfl
 have hHl := frHead_length salt f
 have hQ : frQ p salt f = sumAdd (sumAdd p (frHead salt f)) f.data := rfl
 have hL : frL p salt f = [frHead salt f, textOf (frQ p salt f), zeros 40, f.data].flatten := rfl
 have hLl := frL_length p salt f hdl
 have A1 := fun W => add_any (frHead salt f) p W (by omega)
 have A2 := fun W => add_any f.data (sumAdd p (frHead salt f)) W (by omega)
 have hq1 := sumAdd_bd p (frHead salt f) hp.1 hp.2
 have hq2 := sumAdd_bd (sumAdd p (frHead salt f)) f.data hq1.1 hq1.2
 rw [← hQ] at hq2
 simp only [← hQ] at A2
 have T := fun W => text_any (frQ p salt f) W hq2.1.1 hq2.1.2 hq2.2.1 hq2.2.2
 have Z : ∀ W : World, Calls Tryz.prog 78 #[.int .i64 40] W fun e w' => e = .returned (.string (bs (zeros 40))) ∧ Below W.heap.size W w' := fun W => noughts_at 40 40 W rfl (by decide)
 have P1 := fun W => parts_new [four f.page, four f.commit, eight salt] 3 9 W rfl (by decide) (by simp [eight_length, four_length]) #[.string (bs (four f.page)), .string (bs (four f.commit)), .string (bs (eight salt))] (by simp)
 have P2 := fun W => parts_new [frHead salt f, textOf (frQ p salt f), zeros 40, f.data] 4 9 W rfl (by decide) (by rw [← hL, hLl]; decide) #[.string (bs (frHead salt f)), .string (bs (textOf (frQ p salt f))), .string (bs (zeros 40)), .string (bs f.data)] (by simp)
 simp only [← hL] at P2
 simp only [← hH] at P1
 have E1 := fun W => pfour_any f.page W (by omega) (by omega)
 have E2 := fun W => pfour_any f.commit W c1 (by omega)
 have E3 := fun W => eight_any salt W h0 h1
 obtain ⟨Hd, hHd⟩ : ∃ x, x = frHead salt f := ⟨_, rfl⟩
 obtain ⟨q, hqd⟩ : ∃ x, x = frQ p salt f := ⟨_, rfl⟩
 obtain ⟨S, hSd⟩ : ∃ x, x = frL p salt f := ⟨_, rfl⟩
 simp only [← hHd, ← hqd, ← hSd] at A1 A2 T P1 P2 ⊢
 clear hH hHl hQ hL hLl hq1 hq2 hHd hqd hSd hm f1 f2 c1 c2 h1
 obtain ⟨page, commit, data⟩ := f
 simp only at *
 have hd : ((data.length : Int) == 512) = true := by simp; omega
 have hd2 : data.length ≤ 9223372036854775807 := by omega
 clear hdl
 unfold pairV frV at *
 go_enter Tryz.func109, Tryz.ntmps109
 go_wp2_with fail
 refine (M _).mono ?_
 rintro e w1 ⟨rfl, hb1⟩
 have hbw := (below_three w _ _ _).trans (hb1.mono (by simp; omega))
 have hR := hid ((hb1.block (w.heap.size + 1 + 1) (by simp)).trans (heap_three_new w _ _ _))
 have hF := hid ((hb1.block (w.heap.size + 1) (by simp <;> omega)).trans (heap_three_mid w _ _ _))
 have hP := hid ((hb1.block w.heap.size (by simp; omega)).trans (heap_three_old w _ _ _))
 obtain ⟨d0, d1, d2, df⟩ := cells3 hF.out
 have r0 := fun d os => cell_regrown d0 d os
 have r1 := fun d os => cell_regrown d1 d os
 have hlt := lt_of_block hR.out
 clear hb1 M
 go_upto_region 3 with fail
 refine region_grow [0, 1, 2, 3, 4, 5, 6, 7] 8 [9, 10] (by kernel_rfl) (by kernel_rfl) ?_
 simp only [pick, List.getElem?_cons_succ, List.getElem?_cons_zero]
 repeat (go_big_quiet_step ((first | (go_at_call 76; with_reducible exact Calls.regrown_of (E3 _)) | (go_at_call 125; first | with_reducible exact Calls.regrown_of (E1 _) | with_reducible exact Calls.regrown_of (E2 _)))))
 refine wpQuiet_nil ?_
 intro w2 hb2
 have hbw2 := hbw.trans (hb2.mono hbw.size)
 clear r0 r1 d0 d1 d2 df E1 E2 E3
 go_wp2_with fail
 refine (P1 _).mono ?_
 rintro e w3 ⟨rfl, hb3⟩
 have hb13 := hb2.trans (hb3.mono hb2.size)
 have hbw3 := hbw2.trans (hb3.mono hbw2.size)
 have hR3 := hid ((hb13.block (w.heap.size + 1 + 1) hlt).trans hR.out)
 have hF3 := hid ((hb13.block (w.heap.size + 1) (by omega)).trans hF.out)
 have hP3 := hid ((hb13.block w.heap.size (by omega)).trans hP.out)
 have hlt3 := lt_of_block hR3.out
 clear hb2 hb3 hbw hbw2 hb13 hR hF hP P1
 go_upto_region 4 with fail
 have X0 : ∀ W, Below w3.heap.size w3 W → (W.heap[w.heap.size + 1]? = some (.cells #[.int .i64 page, .int .i64 commit, .string (bs data)] 118 (0, 0)) ∧ W.heap[w.heap.size]? = some (.cells #[.int .u32 p.1, .int .u32 p.2] 108 (0, 0))) := fun W hW => ⟨(hW.block _ (by omega)).trans hF3.out, (hW.block _ (by omega)).trans hP3.out⟩
 have HX0 := hid X0
 clear X0
 refine region_block [0, 1, 2, 3, 4, 5] 6 7 [] _ (.cells #[.int .u32 0, .int .u32 0] 108) ?af (by kernel_rfl) (by kernel_rfl) (by kernel_rfl) rfl (fun _ _ => by kernel_rfl) ?_ ?_
 rotate_left
 ·intro W hW
  obtain ⟨xF, xP⟩ := HX0.out W hW
  obtain ⟨d0, d1, d2, df⟩ := cells3 xF
  obtain ⟨g0, g1, gf⟩ := cells2 xP
  have r2 := fun d os => cell_regrown d2 d os
  have q0 := fun d os => cell_regrown g0 d os
  have q1 := fun d os => cell_regrown g1 d os
  clear xF xP d0 d1 d2 df g0 g1 gf
  simp only [pick, List.getElem?_cons_succ, List.getElem?_cons_zero]
  repeat (go_big_quiet_step ((go_at_call 82; first | with_reducible exact Calls.regrown_of (A1 _) | with_reducible exact Calls.regrown_of (A2 _))))
  refine wpQuiet_nil ?_
  exact rfl
 ·intro Q w4 hb4 hQ hQb
  simp only [pick, List.getElem?_cons_succ, List.getElem?_cons_zero]
  obtain ⟨g0, g1, gf⟩ := cells2 hQb
  have HQ := hid hQb
  clear hQb
  go_wp2_with fail
  have hQ5 := heap_set2 HQ.out (.int .u32 q.1) (.int .u32 q.2)
  have hF5 := (heap_set2_ne (M := Q) (by omega) (.int .u32 q.1) (.int .u32 q.2)).trans (HX0.out w4 hb4).1
  have hR5 := (heap_set2_ne (M := Q) (by omega) (.int .u32 q.1) (.int .u32 q.2)).trans ((hb4.block (w.heap.size + 1 + 1) hlt3).trans hR3.out)
  have hbw5 : Below w.heap.size w ((w4.setCell ⟨Q, 0, none⟩ (.int .u32 q.1)).setCell ⟨Q, 1, none⟩ (.int .u32 q.2)) := ((hbw3.trans (hb4.mono hbw3.size)).setCell (by simp; omega) _).setCell (by simp; omega) _
  obtain ⟨w5, hw5⟩ : ∃ x, x = (w4.setCell ⟨Q, 0, none⟩ (.int .u32 q.1)).setCell ⟨Q, 1, none⟩ (.int .u32 q.2) := ⟨_, rfl⟩
  rw [← hw5] at hQ5 hF5 hR5 hbw5 ⊢
  obtain ⟨g0, g1, gf⟩ := cells2 hQ5
  obtain ⟨d0, d1, d2, df⟩ := cells3 hF5
  have hlt5 := lt_of_block hR5
  have hQlt := lt_of_block hQ5
  have hFlt := lt_of_block hF5
  have HR5 := hid hR5
  clear hw5 hQ5 hF5 hR5 gf d0 d1 df HQ HX0 hR3 hF3 hP3
  go_region_held3 (fun W => W.cell? ⟨Q, 0, none⟩ = some (.int .u32 q.1) ∧ W.cell? ⟨Q, 1, none⟩ = some (.int .u32 q.2) ∧ W.cell? ⟨w.heap.size + 1, 2, none⟩ = some (.string (bs data)))
   (first | exact ⟨g0, g1, d2⟩ | exact k6 | exact k7 | exact k8 | exact ⟨(cell_set2_ne (by omega) _ _ _).trans k8.1, (cell_set2_ne (by omega) _ _ _).trans k8.2.1, (cell_set2_ne (by omega) _ _ _).trans k8.2.2⟩ | go_keep)
   (first
    | (go_at_call 80; refine (T _).mono ?_; rintro e w6 ⟨rfl, hb6⟩; have k6 := held_kept (a := ⟨Q, 0, none⟩) (b := ⟨Q, 1, none⟩) (c := ⟨w.heap.size + 1, 2, none⟩) hb6 hQlt hFlt ⟨g0, g1, d2⟩ hQlt)
    | (go_at_call 78; refine (Z _).mono ?_; rintro e w7 ⟨rfl, hb7⟩; have hb57 := hb6.trans (hb7.mono hb6.size); have k7 := held_kept (a := ⟨Q, 0, none⟩) (b := ⟨Q, 1, none⟩) (c := ⟨w.heap.size + 1, 2, none⟩) hb57 hQlt hFlt ⟨g0, g1, d2⟩ hQlt)
    | (go_at_call 124; refine (P2 _).mono ?_; rintro e w8 ⟨rfl, hb8⟩; have hb58 := hb57.trans (hb8.mono hb57.size); have k8 := held_kept (a := ⟨Q, 0, none⟩) (b := ⟨Q, 1, none⟩) (c := ⟨w.heap.size + 1, 2, none⟩) hb58 hQlt hFlt ⟨g0, g1, d2⟩ hQlt; obtain ⟨c0, c1, cf⟩ := cells2 ((hb58.block (w.heap.size + 1 + 1) hlt5).trans HR5.out)))
  have hbw8 := hbw5.drew.trans (hb58.mono hbw5.size)
  clear k6 k7 k8 hb6 hb7 hb8 hb57 hb58 P2 HR5 T Z g0 g1 d2
  go_wp2_with fail
  refine bodyPost_ret (v := .tuple #[.string (bs S), .agg #[.int .u32 q.1, .int .u32 q.2], .int .i64 0]) (by simp [results, Tryz.results109, go_sem, c0, c1, cf]) rfl ⟨rfl, ?_⟩
  iterate 2 refine Below.setCell ?_ (by simp <;> omega) _
  exact hbw8
theorem putFr_any (p : Int × Int) (salt : Int) (f : Fr) (w : World) (hp : PairWf p) (h0 : 0 ≤ salt) (h1 : salt < 18446744073709551616) (hl : f.data.length ≤ 9223372036854775807) :
  Calls Tryz.prog 109 #[pairV p, .int .u64 salt, frV f] w fun e w' => e = .returned (.tuple #[.string (bs (putFr p salt f).s), pairV (putFr p salt f).q, .int .i64 (putFr p salt f).e]) ∧ Below w.heap.size w w' := by
 unfold putFr
 cases h : frOk f
 ·exact putFr_no p salt f w hl h
 ·exact putFr_yes p salt f w hp h0 h1 h
end Go.Proofs.YtlkkclooihjpiaaGreat
