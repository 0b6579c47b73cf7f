/- frame.Take: what it comes to. (Printed by wip/mkframetake.py.) -/
import Derived.Test.YtlkkclooihjpiaaGreatFrE
set_option linter.unusedVariables false
set_option linter.unusedSimpArgs false
namespace Go.Proofs.YtlkkclooihjpiaaGreat
open Go.RowKit
set_option maxRecDepth 20000
def zeroFr : Fr := ⟨0, 0, []⟩
def frOf (s : List UInt8) : Fr := ⟨num (s.take 4), num ((s.drop 4).take 4), (s.drop 64).take 512⟩
structure TkA where
 f : Fr
 q : Int × Int
 e : Int
def tkFr (p : Int × Int) (salt : Int) (s : List UInt8) : TkA :=
 if s.length < 576 then ⟨zeroFr, (0, 0), 10⟩
 else if !((s.drop 24).take 40 == zeros 40) || !frMay (frOf s) then ⟨zeroFr, (0, 0), 11⟩
 else if (s.drop 8).take 8 == eight salt then
  (if (s.drop 16).take 8 == textOf (sumAdd (sumAdd p (s.take 16)) ((s.drop 64).take 512)) then ⟨frOf s, sumAdd (sumAdd p (s.take 16)) ((s.drop 64).take 512), 0⟩ else ⟨zeroFr, (0, 0), 40⟩)
 else ⟨zeroFr, (0, 0), 41⟩
def Three (b : Nat) (o1 o2 o3 : Obj) (W : World) : Prop := W.heap[b]? = some o1 ∧ W.heap[b + 1]? = some o2 ∧ W.heap[b + 1 + 1]? = some o3
theorem Three.kept {b : Nat} {o1 o2 o3 : Obj} {W W' : World} (h : Three b o1 o2 o3 W) (hb : Below W.heap.size W W') : Three b o1 o2 o3 W' :=
 ⟨(hb.block _ (lt_of_block h.1)).trans h.1, (hb.block _ (lt_of_block h.2.1)).trans h.2.1, (hb.block _ (lt_of_block h.2.2)).trans h.2.2⟩
theorem Three.lt {b : Nat} {o1 o2 o3 : Obj} {W : World} (h : Three b o1 o2 o3 W) : b + 1 + 1 < W.heap.size := lt_of_block h.2.2
theorem three_new (w : World) (a b c : Obj) : Three w.heap.size a b c (((w.alloc a).alloc b).alloc c) := ⟨heap_three_old w a b c, heap_three_mid w a b c, heap_three_new w a b c⟩
theorem heap_set3 {w : World} {M : Nat} {T : TypeId} {a0 a1 a2 : Value} (h : w.heap[M]? = some (.cells #[a0, a1, a2] T (0, 0))) (b0 b1 b2 : Value) :
  (((w.setCell ⟨M, 0, none⟩ b0).setCell ⟨M, 1, none⟩ b1).setCell ⟨M, 2, none⟩ b2).heap[M]? = some (.cells #[b0, b1, b2] T (0, 0)) := by
 rw [heap_setCell_same (heap_setCell_same (heap_setCell_same h 0 b0) 1 b1) 2 b2]
 rfl
theorem heap_set3_ne {w : World} {M k : Nat} (hk : k ≠ M) (b0 b1 b2 : Value) : (((w.setCell ⟨M, 0, none⟩ b0).setCell ⟨M, 1, none⟩ b1).setCell ⟨M, 2, none⟩ b2).heap[k]? = w.heap[k]? := by
 repeat rw [Below.heap_setCell _ ⟨M, _, none⟩ _ k hk]
theorem cell_set_ne {w : World} {a : Addr} {b : Nat} (h : b ≠ a.block) (o : Nat) (x : Value) : (w.setCell a x).cell? ⟨b, o, none⟩ = w.cell? ⟨b, o, none⟩ := World.cell?_of_block (Below.heap_setCell w a x b h)
def Held5 (F Q : Nat) (v0 v1 v2 u0 u1 : Value) (W : World) : Prop := W.cell? ⟨F, 0, none⟩ = some v0 ∧ W.cell? ⟨F, 1, none⟩ = some v1 ∧ W.cell? ⟨F, 2, none⟩ = some v2 ∧ W.cell? ⟨Q, 0, none⟩ = some u0 ∧ W.cell? ⟨Q, 1, none⟩ = some u1
theorem Held5.set {F Q : Nat} {v0 v1 v2 u0 u1 : Value} {W : World} (h : Held5 F Q v0 v1 v2 u0 u1 W) (a : Addr) (hF : F ≠ a.block) (hQ : Q ≠ a.block) (x : Value) : Held5 F Q v0 v1 v2 u0 u1 (W.setCell a x) :=
 ⟨(cell_set_ne hF _ _).trans h.1, (cell_set_ne hF _ _).trans h.2.1, (cell_set_ne hF _ _).trans h.2.2.1, (cell_set_ne hQ _ _).trans h.2.2.2.1, (cell_set_ne hQ _ _).trans h.2.2.2.2⟩
theorem Held5.set3 {F Q : Nat} {v0 v1 v2 u0 u1 : Value} {W : World} {M : Nat} (h : Held5 F Q v0 v1 v2 u0 u1 W) (hF : F ≠ M) (hQ : Q ≠ M) (x y z : Value) : Held5 F Q v0 v1 v2 u0 u1 (((W.setCell ⟨M, 0, none⟩ x).setCell ⟨M, 1, none⟩ y).setCell ⟨M, 2, none⟩ z) :=
 ((h.set ⟨M, 0, none⟩ hF hQ x).set ⟨M, 1, none⟩ hF hQ y).set ⟨M, 2, none⟩ hF hQ z
theorem Held5.set2 {F Q : Nat} {v0 v1 v2 u0 u1 : Value} {W : World} {M : Nat} (h : Held5 F Q v0 v1 v2 u0 u1 W) (hF : F ≠ M) (hQ : Q ≠ M) (x y : Value) : Held5 F Q v0 v1 v2 u0 u1 ((W.setCell ⟨M, 0, none⟩ x).setCell ⟨M, 1, none⟩ y) :=
 (h.set ⟨M, 0, none⟩ hF hQ x).set ⟨M, 1, none⟩ hF hQ y
theorem Held5.drew {F Q : Nat} {v0 v1 v2 u0 u1 : Value} {W : World} (h : Held5 F Q v0 v1 v2 u0 u1 W) : Held5 F Q v0 v1 v2 u0 u1 W.drew := h
theorem Three.set2 {b M : Nat} {o1 o2 o3 : Obj} {W : World} (h : Three b o1 o2 o3 W) (hM : b + 1 + 1 < M) (x y : Value) : Three b o1 o2 o3 ((W.setCell ⟨M, 0, none⟩ x).setCell ⟨M, 1, none⟩ y) :=
 ⟨(heap_set2_ne (by omega) x y).trans h.1, (heap_set2_ne (by omega) x y).trans h.2.1, (heap_set2_ne (by omega) x y).trans h.2.2⟩
theorem Three.set3 {b M : Nat} {o1 o2 o3 : Obj} {W : World} (h : Three b o1 o2 o3 W) (hM : b + 1 + 1 < M) (x y z : Value) : Three b o1 o2 o3 (((W.setCell ⟨M, 0, none⟩ x).setCell ⟨M, 1, none⟩ y).setCell ⟨M, 2, none⟩ z) :=
 ⟨(heap_set3_ne (by omega) x y z).trans h.1, (heap_set3_ne (by omega) x y z).trans h.2.1, (heap_set3_ne (by omega) x y z).trans h.2.2⟩
set_option maxHeartbeats 400000 in
set_option maxRecDepth 100000 in
theorem takeFr_short (p : Int × Int) (salt : Int) (s : List UInt8) (w : World) (h : s.length < 576) :
  Calls Tryz.prog 56 #[pairV p, .int .u64 salt, .string (bs s)] w fun e w' => e = .returned (.tuple #[frV zeroFr, pairV (0, 0), .int .i64 10]) ∧ Below w.heap.size w w' := by
 have h1 : decide ((s.length : Int) < 576) = true := by simp; omega
 unfold pairV
 go_enter Tryz.func56, Tryz.ntmps56
 go_wp2_with fail
 refine bodyPost_ret (v := .tuple #[frV zeroFr, .agg #[.int .u32 0, .int .u32 0], .int .i64 10]) (by simp [results, Tryz.results56, go_sem, frV, zeroFr, bs]) rfl ⟨rfl, ?_⟩
 repeat (first | exact below_three w _ _ _ | refine Below.setCell ?_ (by simp) _)
set_option maxHeartbeats 4000000 in
set_option maxRecDepth 100000 in
theorem takeFr_long (p : Int × Int) (salt : Int) (s : List UInt8) (w : World) (hp : PairWf p) (h0 : 0 ≤ salt) (h1 : salt < 18446744073709551616) (h : 576 ≤ s.length) (hs : s.length ≤ 1099511627776) :
  Calls Tryz.prog 56 #[pairV p, .int .u64 salt, .string (bs s)] w fun e w' => e = .returned (.tuple #[frV (tkFr p salt s).f, pairV (tkFr p salt s).q, .int .i64 (tkFr p salt s).e]) ∧ Below w.heap.size w w' := by
 have hres : tkFr p salt s = if !((s.drop 24).take 40 == zeros 40) || !frMay (frOf s) then ⟨zeroFr, (0, 0), 11⟩
   else if (s.drop 8).take 8 == eight salt then
    (if (s.drop 16).take 8 == textOf (sumAdd (sumAdd p (s.take 16)) ((s.drop 64).take 512)) then ⟨frOf s, sumAdd (sumAdd p (s.take 16)) ((s.drop 64).take 512), 0⟩ else ⟨zeroFr, (0, 0), 40⟩)
   else ⟨zeroFr, (0, 0), 41⟩ := by
  unfold tkFr; rw [if_neg (by omega)]
 have l1 : decide ((s.length : Int) < 576) = false := by simp; omega
 have G2 := fun W => fours_any (s.take 16) W (by simp; omega) (by simp; omega)
 unfold foursV at G2
 have e0 : (s.take 16).take 4 = s.take 4 := sub_take0 s 0 16 4 (by omega)
 have e4 : ((s.take 16).drop 4).take 4 = (s.drop 4).take 4 := sub_take s 0 16 4 4 (by omega)
 rw [e0, e4] at G2
 have hof : frOf s = ⟨num (s.take 4), num ((s.drop 4).take 4), (s.drop 64).take 512⟩ := rfl
 have M := fun W => may_any (frOf s) W
 have E3 := fun W => eight_any salt W h0 h1
 have hdl : ((s.drop 64).take 512).length = 512 := by simp; omega
 have A1 := fun W => add_any (s.take 16) p W (by simp; omega)
 have hq1 := sumAdd_bd p (s.take 16) hp.1 hp.2
 obtain ⟨n, hn⟩ : ∃ x, x = num (s.take 4) := ⟨_, rfl⟩
 obtain ⟨c, hc⟩ : ∃ x, x = num ((s.drop 4).take 4) := ⟨_, rfl⟩
 obtain ⟨u, hu⟩ : ∃ x, x = num (((s.take 16).drop 8).take 4) := ⟨_, rfl⟩
 obtain ⟨v, hv⟩ : ∃ x, x = num (((s.take 16).drop 12).take 4) := ⟨_, rfl⟩
 obtain ⟨d, hd⟩ : ∃ x, x = (s.drop 64).take 512 := ⟨_, rfl⟩
 obtain ⟨q1, hqq⟩ : ∃ x, x = sumAdd p (s.take 16) := ⟨_, rfl⟩
 simp only [← hqq] at hres A1 hq1
 simp only [← hn, ← hc, ← hu, ← hv] at G2 hof
 simp only [← hd] at hof hres hdl
 have A2 := fun W => add_any d q1 W (by omega)
 have hq2 := sumAdd_bd q1 d hq1.1 hq1.2
 obtain ⟨q, hqd⟩ : ∃ x, x = sumAdd q1 d := ⟨_, rfl⟩
 simp only [← hqd] at A2 hq2 hres
 have T := fun W => text_any q W hq2.1.1 hq2.1.2 hq2.2.1 hq2.2.2
 have Z : ∀ W : World, Calls Tryz.prog 78 #[.int .i64 40] W fun e w' => e = .returned (.string (bs (zeros 40))) ∧ Below W.heap.size W w' := fun W => noughts_at 40 40 W rfl (by decide)
 simp only [hof] at hres M
 have Hd := hid hd
 clear hd
 have Hres := hid hres
 have s576 : (576 : Int) ≤ (s.length : Int) := by omega
 have s64 : (64 : Int) ≤ (s.length : Int) := by omega
 have s24 : (24 : Int) ≤ (s.length : Int) := by omega
 have s16 : (16 : Int) ≤ (s.length : Int) := by omega
 have t576 : (576 : Nat) ≤ s.length := by omega
 have t64 : (64 : Nat) ≤ s.length := by omega
 have t24 : (24 : Nat) ≤ s.length := by omega
 have t16 : (16 : Nat) ≤ s.length := by omega
 obtain ⟨m, hm⟩ : ∃ m, m = frMay ⟨n, c, d⟩ := ⟨_, rfl⟩
 simp only [← hm] at M hres
 rw [← hm] at Hres
 clear hres hof hq1 hq2 hdl hn hc hu hv hqq hqd e0 e4 hm h1 hp
 unfold pairV frV at *
 go_enter Tryz.func56, Tryz.ntmps56
 go_wp2_with fail
 refine (G2 _).mono ?_
 rintro e w1 ⟨rfl, hb1⟩
 have H1 := hid ((three_new w _ _ _).kept hb1)
 have hbw1 := (below_three w _ _ _).trans (hb1.mono (by simp; omega))
 clear hb1 G2
 go_upto_region 4 with fail
 refine region_block [0, 1, 2, 3, 4, 5, 6] 7 8 [] _ (.cells #[.int .i64 0, .int .i64 0, .string (bs [])] 118) ?af (by kernel_rfl) (by kernel_rfl) (by kernel_rfl) rfl (fun _ _ => by kernel_rfl) ?_ ?_
 rotate_left
 ·intro W hW
  have hA := (hW.block w1.heap.size (by simp)).trans (heap_alloc_new w1 (.cells #[.int .i64 n, .int .i64 c, .int .i64 u, .int .i64 v] 149))
  have d0 := cell_of_block hA 0
  have d1 := cell_of_block hA 1
  simp at d0 d1
  have q0 := fun d os => cell_regrown d0 d os
  have q1 := fun d os => cell_regrown d1 d os
  clear hA d0 d1
  simp only [pick, List.getElem?_cons_succ, List.getElem?_cons_zero]
  repeat (go_big_quiet_step (fail))
  refine wpQuiet_nil ?_
  exact rfl
 ·intro F w2 hb2 hF hFb
  simp only [pick, List.getElem?_cons_succ, List.getElem?_cons_zero]
  obtain ⟨f0, f1, f2, ff⟩ := cells3 hFb
  have hFw : w.heap.size + 1 + 1 < F := by have := H1.out.lt; simp at hF; omega
  have hF3 := heap_set3 hFb (.int .i64 n) (.int .i64 c) (.string (bs d))
  have H2 := (((H1.out.kept ((Below.refl _ _).alloc (Nat.le_refl _) _)).kept hb2).set3 hFw (.int .i64 n) (.int .i64 c) (.string (bs d)))
  have hbw2 : Below w.heap.size w w2 := (hbw1.alloc hbw1.size _).trans (hb2.mono (by simp; have := hbw1.size; omega))
  have hbw3 := ((hbw2.setCell (p := ⟨F, 0, none⟩) (by simp only; omega) (.int .i64 n)).setCell (p := ⟨F, 1, none⟩) (by simp only; omega) (.int .i64 c)).setCell (p := ⟨F, 2, none⟩) (by simp only; omega) (.string (bs d))
  have HFb := hid hFb
  clear hFb H1 hbw1 hbw2 hb2
  have hdd : bs ((s.drop 64).take 512) = bs d := by rw [Hd.out]
  go_wp2_with fail
  obtain ⟨w3, hw3⟩ : ∃ x, x = ((w2.setCell ⟨F, 0, none⟩ (.int .i64 n)).setCell ⟨F, 1, none⟩ (.int .i64 c)).setCell ⟨F, 2, none⟩ (.string (bs d)) := ⟨_, rfl⟩
  rw [← hw3] at hF3 H2 hbw3 ⊢
  clear hw3 f0 f1 f2 ff HFb hdd hF
  have H3 := hid H2
  have F3 := hid hF3
  clear H2 hF3
  cases e1 : ((s.drop 24).take 40 == zeros 40)
  ·have hr : tkFr p salt s = ⟨zeroFr, (0, 0), 11⟩ := by rw [Hres.out, e1]; rfl
   have Hr := hid hr
   clear hr Hres
   refine region_below (by kernel_rfl) (by kernel_rfl) ?_
   repeat (go_big_quiet_step ((first | (go_at_call 78; with_reducible exact Calls.regrown_of (Z _)) | (go_at_call 81; with_reducible exact Calls.regrown_of (M _)))))
   refine wpQuiet_nil ?_
   intro w4 hb4
   have H4 := H3.out.kept hb4
   have F4 := (hb4.block F (lt_of_block F3.out)).trans F3.out
   have hbw4 := hbw3.trans (hb4.mono hbw3.size)
   clear F3 H3
   obtain ⟨a0, a1, a2, af⟩ := cells3 H4.2.1
   obtain ⟨b0, b1, bf⟩ := cells2 H4.2.2
   go_wp2_with fail
   refine bodyPost_ret (v := .tuple #[.agg #[.int .i64 0, .int .i64 0, .string (bs [])], .agg #[.int .u32 0, .int .u32 0], .int .i64 11]) (by simp [results, Tryz.results56, go_sem, bs, a0, a1, a2, af, b0, b1, bf]) rfl ⟨by rw [Hr.out]; rfl, ?_⟩
   iterate 5 refine Below.setCell ?_ (by simp <;> omega) _
   exact hbw4
  ·cases m
   ·have hr : tkFr p salt s = ⟨zeroFr, (0, 0), 11⟩ := by rw [Hres.out, e1]; rfl
    have Hr := hid hr
    clear hr Hres
    obtain ⟨f0, f1, f2, ff⟩ := cells3 F3.out
    have p0 := fun d os => cell_regrown f0 d os
    have p1 := fun d os => cell_regrown f1 d os
    have p2 := fun d os => cell_regrown f2 d os
    clear f0 f1 f2 ff
    refine region_below (by kernel_rfl) (by kernel_rfl) ?_
    repeat (go_big_quiet_step ((first | (go_at_call 78; with_reducible exact Calls.regrown_of (Z _)) | (go_at_call 81; with_reducible exact Calls.regrown_of (M _)))))
    refine wpQuiet_nil ?_
    intro w4 hb4
    have H4 := H3.out.kept hb4
    have F4 := (hb4.block F (lt_of_block F3.out)).trans F3.out
    have hbw4 := hbw3.trans (hb4.mono hbw3.size)
    clear F3 H3 p0 p1 p2
    obtain ⟨a0, a1, a2, af⟩ := cells3 H4.2.1
    obtain ⟨b0, b1, bf⟩ := cells2 H4.2.2
    go_wp2_with fail
    refine bodyPost_ret (v := .tuple #[.agg #[.int .i64 0, .int .i64 0, .string (bs [])], .agg #[.int .u32 0, .int .u32 0], .int .i64 11]) (by simp [results, Tryz.results56, go_sem, bs, a0, a1, a2, af, b0, b1, bf]) rfl ⟨by rw [Hr.out]; rfl, ?_⟩
    iterate 5 refine Below.setCell ?_ (by simp <;> omega) _
    exact hbw4
   ·have hz := hid True.intro
    obtain ⟨f0, f1, f2, ff⟩ := cells3 F3.out
    have p0 := fun d os => cell_regrown f0 d os
    have p1 := fun d os => cell_regrown f1 d os
    have p2 := fun d os => cell_regrown f2 d os
    clear f0 f1 f2 ff
    refine region_below (by kernel_rfl) (by kernel_rfl) ?_
    repeat (go_big_quiet_step ((first | (go_at_call 78; with_reducible exact Calls.regrown_of (Z _)) | (go_at_call 81; with_reducible exact Calls.regrown_of (M _)))))
    refine wpQuiet_nil ?_
    intro w4 hb4
    have H4 := H3.out.kept hb4
    have F4 := (hb4.block F (lt_of_block F3.out)).trans F3.out
    have hbw4 := hbw3.trans (hb4.mono hbw3.size)
    clear F3 H3 p0 p1 p2 Z M
    have HH4 := hid H4
    have HF4 := hid F4
    clear H4 F4
    cases e2 : ((s.drop 8).take 8 == eight salt)
    ·have hr : tkFr p salt s = ⟨zeroFr, (0, 0), 41⟩ := by rw [Hres.out, e1, e2]; rfl
     have Hr := hid hr
     clear hr Hres
     go_wp2_with fail
     refine region_below (by kernel_rfl) (by kernel_rfl) ?_
     repeat (go_big_quiet_step ((first | (go_at_call 76; with_reducible exact Calls.regrown_of (E3 _)))))
     refine wpQuiet_nil ?_
     intro w5 hb5
     have H5 := HH4.out.kept hb5
     have F5 := (hb5.block F (lt_of_block HF4.out)).trans HF4.out
     have hbw5 := hbw4.trans (hb5.mono hbw4.size)
     clear HF4 HH4
     obtain ⟨a0, a1, a2, af⟩ := cells3 H5.2.1
     obtain ⟨b0, b1, bf⟩ := cells2 H5.2.2
     go_wp2_with fail
     refine bodyPost_ret (v := .tuple #[.agg #[.int .i64 0, .int .i64 0, .string (bs [])], .agg #[.int .u32 0, .int .u32 0], .int .i64 41]) (by simp [results, Tryz.results56, go_sem, bs, a0, a1, a2, af, b0, b1, bf]) rfl ⟨by rw [Hr.out]; rfl, ?_⟩
     iterate 5 refine Below.setCell ?_ (by simp <;> omega) _
     exact hbw5
    ·have hz2 := hid True.intro
     go_wp2_with fail
     refine region_below (by kernel_rfl) (by kernel_rfl) ?_
     repeat (go_big_quiet_step ((first | (go_at_call 76; with_reducible exact Calls.regrown_of (E3 _)))))
     refine wpQuiet_nil ?_
     intro w5 hb5
     have H5 := HH4.out.kept hb5
     have F5 := (hb5.block F (lt_of_block HF4.out)).trans HF4.out
     have hbw5 := hbw4.trans (hb5.mono hbw4.size)
     clear HF4 HH4 E3
     have HH5 := hid H5
     have HF5 := hid F5
     clear H5 F5
     go_upto_region 9 with fail
     refine region_block [0, 1, 2, 3, 4, 5, 6] 7 8 [] _ (.cells #[.int .u32 0, .int .u32 0] 108) ?af2 (by kernel_rfl) (by kernel_rfl) (by kernel_rfl) rfl (fun _ _ => by kernel_rfl) ?_ ?_
     rotate_left
     ·intro W hW
      have xT := HH5.out.kept hW
      have xF := (hW.block F (lt_of_block HF5.out)).trans HF5.out
      obtain ⟨g0, g1, gf⟩ := cells2 xT.1
      obtain ⟨f0, f1, f2, ff⟩ := cells3 xF
      have q0 := fun d os => cell_regrown g0 d os
      have q1 := fun d os => cell_regrown g1 d os
      have p2 := fun d os => cell_regrown f2 d os
      clear xT xF g0 g1 gf f0 f1 f2 ff
      simp only [pick, List.getElem?_cons_succ, List.getElem?_cons_zero]
      repeat (go_big_quiet_step ((go_at_call 82; first | with_reducible exact Calls.regrown_of (A1 _) | with_reducible exact Calls.regrown_of (A2 _))))
      refine wpQuiet_nil ?_
      exact rfl
     ·intro Q w6 hb6 hQ hQb
      simp only [pick, List.getElem?_cons_succ, List.getElem?_cons_zero]
      obtain ⟨g0, g1, gf⟩ := cells2 hQb
      have hlt5 := HH5.out.lt
      have hF5 := lt_of_block HF5.out
      have Q6 := heap_set2 hQb (.int .u32 q.1) (.int .u32 q.2)
      have F6 := (heap_set2_ne (M := Q) (by omega) (.int .u32 q.1) (.int .u32 q.2)).trans ((hb6.block F hF5).trans HF5.out)
      have H6 := (HH5.out.kept hb6).set2 (M := Q) (by omega) (.int .u32 q.1) (.int .u32 q.2)
      have hbw6 := ((hbw5.trans (hb6.mono hbw5.size)).setCell (p := ⟨Q, 0, none⟩) (by simp only; omega) (.int .u32 q.1)).setCell (p := ⟨Q, 1, none⟩) (by simp only; omega) (.int .u32 q.2)
      have HQb := hid hQb
      clear hQb A1 A2 HF5 HH5
      go_wp2_with fail
      obtain ⟨w7, hw7⟩ : ∃ x, x = (w6.setCell ⟨Q, 0, none⟩ (.int .u32 q.1)).setCell ⟨Q, 1, none⟩ (.int .u32 q.2) := ⟨_, rfl⟩
      rw [← hw7] at Q6 F6 H6 hbw6 ⊢
      have hQF : w.heap.size + 1 + 1 < Q := by omega
      clear hw7 g0 g1 gf HQb hb6 hQ
      have HQ6 := hid Q6
      have HF6 := hid F6
      have HH6 := hid H6
      clear Q6 F6 H6
      obtain ⟨g0, g1, gf⟩ := cells2 HQ6.out
      have q0 := fun d os => cell_regrown g0 d os
      have q1 := fun d os => cell_regrown g1 d os
      clear g0 g1 gf
      cases e3 : ((s.drop 16).take 8 == textOf q)
      ·have hr : tkFr p salt s = ⟨zeroFr, (0, 0), 40⟩ := by rw [Hres.out, e1, e2, e3]; rfl
       have Hr := hid hr
       clear hr Hres
       refine region_below (by kernel_rfl) (by kernel_rfl) ?_
       repeat (go_big_quiet_step ((first | (go_at_call 80; with_reducible exact Calls.regrown_of (T _)))))
       refine wpQuiet_nil ?_
       intro w8 hb8
       have H8 := HH6.out.kept hb8
       have F8 := (hb8.block F (lt_of_block HF6.out)).trans HF6.out
       have hbw8 := hbw6.trans (hb8.mono hbw6.size)
       clear HF6 HH6 q0 q1
       obtain ⟨a0, a1, a2, af⟩ := cells3 H8.2.1
       obtain ⟨b0, b1, bf⟩ := cells2 H8.2.2
       go_wp2_with fail
       refine bodyPost_ret (v := .tuple #[.agg #[.int .i64 0, .int .i64 0, .string (bs [])], .agg #[.int .u32 0, .int .u32 0], .int .i64 40]) (by simp [results, Tryz.results56, go_sem, bs, a0, a1, a2, af, b0, b1, bf]) rfl ⟨by rw [Hr.out]; rfl, ?_⟩
       iterate 5 refine Below.setCell ?_ (by simp <;> omega) _
       exact hbw8
      ·have hr : tkFr p salt s = ⟨⟨n, c, d⟩, q, 0⟩ := by rw [Hres.out, e1, e2, e3]; rfl
       have Hr := hid hr
       clear hr Hres
       refine region_below (by kernel_rfl) (by kernel_rfl) ?_
       repeat (go_big_quiet_step ((first | (go_at_call 80; with_reducible exact Calls.regrown_of (T _)))))
       refine wpQuiet_nil ?_
       intro w8 hb8
       have H8 := HH6.out.kept hb8
       have F8 := (hb8.block F (lt_of_block HF6.out)).trans HF6.out
       have hbw8 := hbw6.trans (hb8.mono hbw6.size)
       clear HH6 q0 q1
       have Q8 := (‹Below w7.heap.size w7 w8›.block Q (lt_of_block HQ6.out)).trans HQ6.out
       have HQ8 := hid Q8
       have HF8 := hid F8
       have HH8 := hid H8
       clear Q8 F8 H8
       obtain ⟨g0, g1, gf⟩ := cells2 HQ8.out
       obtain ⟨f0, f1, f2, ff⟩ := cells3 HF8.out
       have kq : Held5 F Q (.int .i64 n) (.int .i64 c) (.string (bs d)) (.int .u32 q.1) (.int .u32 q.2) w8 := ⟨f0, f1, f2, g0, g1⟩
       obtain ⟨a0, a1, a2, af⟩ := cells3 HH8.out.2.1
       obtain ⟨b0, b1, bf⟩ := cells2 HH8.out.2.2
       have k1 := Held5.set3 (M := w.heap.size + 1) kq (by omega) (by omega) (.int .i64 n) (.int .i64 c) (.string (bs d))
       have k2 := Held5.set2 (M := w.heap.size + 1 + 1) k1 (by omega) (by omega) (.int .u32 q.1) (.int .u32 q.2)
       have k3 := Held5.set2 (M := w.heap.size + 1 + 1) kq (by omega) (by omega) (.int .u32 q.1) (.int .u32 q.2)
       have kd := Held5.drew kq
       have k1 := Held5.drew k1
       have k2 := Held5.drew k2
       have k3 := Held5.drew k3
       unfold Held5 at k1 k2 kd k3
       go_wp2_with fail
       go_region_held3 (fun W => W.cell? ⟨F, 0, none⟩ = some (.int .i64 n) ∧ W.cell? ⟨F, 1, none⟩ = some (.int .i64 c) ∧ W.cell? ⟨F, 2, none⟩ = some (.string (bs d)) ∧ W.cell? ⟨Q, 0, none⟩ = some (.int .u32 q.1) ∧ W.cell? ⟨Q, 1, none⟩ = some (.int .u32 q.2))
        (first | with_reducible exact kd | with_reducible exact k1 | with_reducible exact k2 | with_reducible exact k3)
        (fail)
       all_goals
        go_wp2_with fail
        refine bodyPost_ret (v := .tuple #[.agg #[.int .i64 n, .int .i64 c, .string (bs d)], .agg #[.int .u32 q.1, .int .u32 q.2], .int .i64 0]) (by simp [results, Tryz.results56, go_sem, bs, a0, a1, a2, af, b0, b1, bf]) rfl ⟨by first | (rw [Hr.out]; done) | (rw [Hr.out]; rfl), ?_⟩
        repeat (first | exact hbw8 | refine Below.drew ?_ | refine Below.setCell ?_ (by first | omega | (simp <;> omega)) _)
theorem takeFr_any (p : Int × Int) (salt : Int) (s : List UInt8) (w : World) (hp : PairWf p) (h0 : 0 ≤ salt) (h1 : salt < 18446744073709551616) (hs : s.length ≤ 1099511627776) :
  Calls Tryz.prog 56 #[pairV p, .int .u64 salt, .string (bs s)] w fun e w' => e = .returned (.tuple #[frV (tkFr p salt s).f, pairV (tkFr p salt s).q, .int .i64 (tkFr p salt s).e]) ∧ Below w.heap.size w w' := by
 by_cases h : s.length < 576
 ·have e : tkFr p salt s = ⟨zeroFr, (0, 0), 10⟩ := by unfold tkFr; rw [if_pos h]
  rw [e]
  exact takeFr_short p salt s w h
 ·exact takeFr_long p salt s w hp h0 h1 (by omega) hs
end Go.Proofs.YtlkkclooihjpiaaGreat
