import Derived.Test.YtlkkclooihjpiaaGreatSpH
set_option linter.unusedVariables false
set_option linter.unusedSimpArgs false
namespace Go.Proofs.YtlkkclooihjpiaaGreat
open Go.RowKit Go.Maps
set_option maxRecDepth 20000
def rootH (h : Hdr) (i n : Int) : Hdr := { h with roots := h.roots.set i.toNat n }
def rootM (p : Pg) (g : Lg) (d : Dsk) (i n : Int) : Int × Pg :=
 if (readySM p g d).2 ≠ 0 then ((readySM p g d).2, p) else if i < 0 ∨ 8 ≤ i ∨ n < 0 ∨ ppagesM p g < n then (2, p)
 else writeHM p (rootH (readySM p g d).1 i n)
section
variable {w W W' : World} {pb l b : Nat} {p p' : Pg} {g g' : Lg} {d d' : Dsk} {X X' : Nat → Prop}
set_option maxHeartbeats 8000000 in
set_option maxRecDepth 20000 in
theorem sroot_any (h : PgX w W pb l b p g d X) (i n : Int) (hi : in64 i) (hn : in64 n) : Calls Tryz.prog 14 #[.pointer (some ⟨pb, 0, none⟩), .int .i64 i, .int .i64 n] W fun e w' => e = .returned (.int .i64 (rootM p g d i n).1) ∧ PgX w w' pb l b (rootM p g d i n).2 g d X ∧ ∀ k, X k → w'.heap[k]? = W.heap[k]? := by
 have SR := sready_any h
 have hwfQ := readySM_wf p g d
 have hP0 := ppages_range h
 obtain ⟨R, hR⟩ : ∃ R, R = rootM p g d i n := ⟨_, rfl⟩
 rw [← hR]
 unfold rootM at hR
 obtain ⟨Q, hQ⟩ : ∃ Q, Q = readySM p g d := ⟨_, rfl⟩
 rw [← hQ] at hR hwfQ SR
 obtain ⟨P, hP⟩ : ∃ P, P = ppagesM p g := ⟨_, rfl⟩
 rw [← hP] at hR hP0
 have PG := fun (W1 : World) (X1 : Nat → Prop) (hm : PgX w W1 pb l b p g d X1) => px_pages hm
 simp only [← hP] at PG
 replace PG := hid PG
 obtain ⟨H, E⟩ := Q
 obtain ⟨f, c, k, r0, r1, r2, r3, r4, r5, r6, r7, rfl⟩ := hdr_form hwfQ.len
 unfold hdrV hdrCells at SR
 simp only [List.map_cons, List.map_nil] at SR
 replace SR := hid SR
 dsimp only at hR hwfQ
 have HX := hid h
 have Hwf := hid hwfQ
 clear hQ hP hwfQ h
 by_cases hE : E = 0
 rotate_left
 ·have b1 : (E != 0) = true := by simp [hE]
  rw [if_pos hE] at hR
  have HR := hid hR
  clear hR hE hi hn hP0
  go_enter Tryz.func14, Tryz.ntmps14
  go_wp2_with (first
   | (go_at_call 33; refine (SR.out).mono ?_; rintro e w1 ⟨rfl, hx, hk⟩; have HX1 := hid hx; have HK1 := hid hk; have HF1 := hid (px_fin hx ((Below.refl w1.heap.size w1).alloc (Nat.le_refl _) (.cells #[.int .i64 f, .int .i64 c, .int .u64 k, .int .i64 r0, .int .i64 r1, .int .i64 r2, .int .i64 r3, .int .i64 r4, .int .i64 r5, .int .i64 r6, .int .i64 r7] 38))); clear hx hk)
   | go_in)
  go_ret
  rw [HR.out]
  exact ⟨rfl, HF1.out.1, fun k hk => (HF1.out.2 k hk).trans (HK1.out k hk)⟩
 have b1 : (E != 0) = false := by simp [hE]
 rw [if_neg (by simpa using hE)] at hR
 by_cases hr : i < 0 ∨ 8 ≤ i ∨ n < 0 ∨ P < n
 ·rw [if_pos hr] at hR
  have HR := hid hR
  clear hR hE
  by_cases h1 : i < 0
  ·have b2 : decide (i < 0) = true := by simpa using h1
   clear h1
   clear hr hi hn hP0
   go_enter Tryz.func14, Tryz.ntmps14
   go_wp2_with (first
    | (go_at_call 33; refine (SR.out).mono ?_; rintro e w1 ⟨rfl, hx, hk⟩; have HX1 := hid hx; have HK1 := hid hk; have HF1 := hid (px_fin hx ((Below.refl w1.heap.size w1).alloc (Nat.le_refl _) (.cells #[.int .i64 f, .int .i64 c, .int .u64 k, .int .i64 r0, .int .i64 r1, .int .i64 r2, .int .i64 r3, .int .i64 r4, .int .i64 r5, .int .i64 r6, .int .i64 r7] 38))); clear hx hk)
    | go_in)
   go_ret
   rw [HR.out]
   exact ⟨rfl, HF1.out.1, fun k hk => (HF1.out.2 k hk).trans (HK1.out k hk)⟩
  have b2 : decide (i < 0) = false := by simpa using h1
  by_cases h2 : 8 ≤ i
  ·have b3 : decide (8 ≤ i) = true := by simpa using h2
   clear h1 h2
   clear hr hi hn hP0
   go_enter Tryz.func14, Tryz.ntmps14
   go_wp2_with (first
    | (go_at_call 33; refine (SR.out).mono ?_; rintro e w1 ⟨rfl, hx, hk⟩; have HX1 := hid hx; have HK1 := hid hk; have HF1 := hid (px_fin hx ((Below.refl w1.heap.size w1).alloc (Nat.le_refl _) (.cells #[.int .i64 f, .int .i64 c, .int .u64 k, .int .i64 r0, .int .i64 r1, .int .i64 r2, .int .i64 r3, .int .i64 r4, .int .i64 r5, .int .i64 r6, .int .i64 r7] 38))); clear hx hk)
    | go_in)
   go_ret
   rw [HR.out]
   exact ⟨rfl, HF1.out.1, fun k hk => (HF1.out.2 k hk).trans (HK1.out k hk)⟩
  have b3 : decide (8 ≤ i) = false := by simpa using h2
  by_cases h3 : n < 0
  ·have b4 : decide (n < 0) = true := by simpa using h3
   clear h1 h2 h3
   clear hr hi hn hP0
   go_enter Tryz.func14, Tryz.ntmps14
   go_wp2_with (first
    | (go_at_call 33; refine (SR.out).mono ?_; rintro e w1 ⟨rfl, hx, hk⟩; have HX1 := hid hx; have HK1 := hid hk; have HF1 := hid (px_fin hx ((Below.refl w1.heap.size w1).alloc (Nat.le_refl _) (.cells #[.int .i64 f, .int .i64 c, .int .u64 k, .int .i64 r0, .int .i64 r1, .int .i64 r2, .int .i64 r3, .int .i64 r4, .int .i64 r5, .int .i64 r6, .int .i64 r7] 38))); clear hx hk)
    | go_in)
   go_ret
   rw [HR.out]
   exact ⟨rfl, HF1.out.1, fun k hk => (HF1.out.2 k hk).trans (HK1.out k hk)⟩
  have b4 : decide (n < 0) = false := by simpa using h3
  have b5 : decide (P < n) = true := by simp; omega
  clear h1 h2 h3
  clear hr hi hn hP0
  go_enter Tryz.func14, Tryz.ntmps14
  go_wp2_with (first
   | (go_at_call 33; refine (SR.out).mono ?_; rintro e w1 ⟨rfl, hx, hk⟩; have HX1 := hid hx; have HK1 := hid hk; have HF1 := hid (px_fin hx ((Below.refl w1.heap.size w1).alloc (Nat.le_refl _) (.cells #[.int .i64 f, .int .i64 c, .int .u64 k, .int .i64 r0, .int .i64 r1, .int .i64 r2, .int .i64 r3, .int .i64 r4, .int .i64 r5, .int .i64 r6, .int .i64 r7] 38))); clear hx hk)
   | (go_at_call 9; refine (PG.out _ _ HF1.out.1).mono ?_; rintro e w2 ⟨rfl, hw⟩; obtain rfl := hw.symm)
   | go_in)
  go_ret
  rw [HR.out]
  exact ⟨rfl, HF1.out.1, fun k hk => (HF1.out.2 k hk).trans (HK1.out k hk)⟩
 rw [if_neg hr] at hR
 have b4 : decide (n < 0) = false := by simp; omega
 have b5 : decide (P < n) = false := by simp; omega
 have hi8 : i = 0 ∨ i = 1 ∨ i = 2 ∨ i = 3 ∨ i = 4 ∨ i = 5 ∨ i = 6 ∨ i = 7 := by omega
 have hrts := Hwf.out.roots
 dsimp only at hrts
 simp only [List.mem_cons, List.not_mem_nil, or_false, forall_eq_or_imp, forall_eq] at hrts
 obtain ⟨q0, q1, q2, q3, q4, q5, q6, q7⟩ := hrts
 clear hr hE hi hP0
 rcases hi8 with rfl | rfl | rfl | rfl | rfl | rfl | rfl | rfl
 ·have hfh : rootH ⟨f, c, k, [r0, r1, r2, r3, r4, r5, r6, r7]⟩ 0 n = ⟨f, c, k, [n, r1, r2, r3, r4, r5, r6, r7]⟩ := rfl
  rw [hfh] at hR
  have hwf2 : (⟨f, c, k, [n, r1, r2, r3, r4, r5, r6, r7]⟩ : Hdr).Wf := ⟨Hwf.out.free, Hwf.out.count, Hwf.out.commits, rfl, by
   intro x hx
   simp only [List.mem_cons, List.not_mem_nil, or_false] at hx
   rcases hx with rfl | rfl | rfl | rfl | rfl | rfl | rfl | rfl <;> assumption⟩
  have SW := hid (fun (W1 : World) (hm : PgX w W1 pb l b p g d X) => swrite_any hm _ hwf2)
  have HR := hid hR
  clear hR hfh hwf2 q0 q1 q2 q3 q4 q5 q6 q7 hn
  go_enter Tryz.func14, Tryz.ntmps14
  go_wp2_with (first
   | (go_at_call 33; refine (SR.out).mono ?_; rintro e w1 ⟨rfl, hx, hk⟩; have HX1 := hid hx; have HK1 := hid hk; have HF1 := hid (px_fin hx ((Below.refl w1.heap.size w1).alloc (Nat.le_refl _) (.cells #[.int .i64 f, .int .i64 c, .int .u64 k, .int .i64 r0, .int .i64 r1, .int .i64 r2, .int .i64 r3, .int .i64 r4, .int .i64 r5, .int .i64 r6, .int .i64 r7] 38))); have HF2 := hid (px_fin hx ((Below.refl w1.heap.size w1).alloc (Nat.le_refl _) (.cells #[.int .i64 f, .int .i64 c, .int .u64 k, .int .i64 n, .int .i64 r1, .int .i64 r2, .int .i64 r3, .int .i64 r4, .int .i64 r5, .int .i64 r6, .int .i64 r7] 38))); clear hx hk)
   | (go_at_call 9; refine (PG.out _ _ HF1.out.1).mono ?_; rintro e w2 ⟨rfl, hw⟩; obtain rfl := hw.symm)
   | (go_at_call 32; refine (SW.out _ HF2.out.1).mono ?_; rintro e w3 ⟨rfl, hx, hk⟩; have HX3 := hid hx; have HK3 := hid hk; clear hx hk)
   | go_in)
  go_ret
  rw [HR.out]
  exact ⟨rfl, HX3.out, fun k hk => (HK3.out k hk).trans ((HF2.out.2 k hk).trans (HK1.out k hk))⟩
 ·have hfh : rootH ⟨f, c, k, [r0, r1, r2, r3, r4, r5, r6, r7]⟩ 1 n = ⟨f, c, k, [r0, n, r2, r3, r4, r5, r6, r7]⟩ := rfl
  rw [hfh] at hR
  have hwf2 : (⟨f, c, k, [r0, n, r2, r3, r4, r5, r6, r7]⟩ : Hdr).Wf := ⟨Hwf.out.free, Hwf.out.count, Hwf.out.commits, rfl, by
   intro x hx
   simp only [List.mem_cons, List.not_mem_nil, or_false] at hx
   rcases hx with rfl | rfl | rfl | rfl | rfl | rfl | rfl | rfl <;> assumption⟩
  have SW := hid (fun (W1 : World) (hm : PgX w W1 pb l b p g d X) => swrite_any hm _ hwf2)
  have HR := hid hR
  clear hR hfh hwf2 q0 q1 q2 q3 q4 q5 q6 q7 hn
  go_enter Tryz.func14, Tryz.ntmps14
  go_wp2_with (first
   | (go_at_call 33; refine (SR.out).mono ?_; rintro e w1 ⟨rfl, hx, hk⟩; have HX1 := hid hx; have HK1 := hid hk; have HF1 := hid (px_fin hx ((Below.refl w1.heap.size w1).alloc (Nat.le_refl _) (.cells #[.int .i64 f, .int .i64 c, .int .u64 k, .int .i64 r0, .int .i64 r1, .int .i64 r2, .int .i64 r3, .int .i64 r4, .int .i64 r5, .int .i64 r6, .int .i64 r7] 38))); have HF2 := hid (px_fin hx ((Below.refl w1.heap.size w1).alloc (Nat.le_refl _) (.cells #[.int .i64 f, .int .i64 c, .int .u64 k, .int .i64 r0, .int .i64 n, .int .i64 r2, .int .i64 r3, .int .i64 r4, .int .i64 r5, .int .i64 r6, .int .i64 r7] 38))); clear hx hk)
   | (go_at_call 9; refine (PG.out _ _ HF1.out.1).mono ?_; rintro e w2 ⟨rfl, hw⟩; obtain rfl := hw.symm)
   | (go_at_call 32; refine (SW.out _ HF2.out.1).mono ?_; rintro e w3 ⟨rfl, hx, hk⟩; have HX3 := hid hx; have HK3 := hid hk; clear hx hk)
   | go_in)
  go_ret
  rw [HR.out]
  exact ⟨rfl, HX3.out, fun k hk => (HK3.out k hk).trans ((HF2.out.2 k hk).trans (HK1.out k hk))⟩
 ·have hfh : rootH ⟨f, c, k, [r0, r1, r2, r3, r4, r5, r6, r7]⟩ 2 n = ⟨f, c, k, [r0, r1, n, r3, r4, r5, r6, r7]⟩ := rfl
  rw [hfh] at hR
  have hwf2 : (⟨f, c, k, [r0, r1, n, r3, r4, r5, r6, r7]⟩ : Hdr).Wf := ⟨Hwf.out.free, Hwf.out.count, Hwf.out.commits, rfl, by
   intro x hx
   simp only [List.mem_cons, List.not_mem_nil, or_false] at hx
   rcases hx with rfl | rfl | rfl | rfl | rfl | rfl | rfl | rfl <;> assumption⟩
  have SW := hid (fun (W1 : World) (hm : PgX w W1 pb l b p g d X) => swrite_any hm _ hwf2)
  have HR := hid hR
  clear hR hfh hwf2 q0 q1 q2 q3 q4 q5 q6 q7 hn
  go_enter Tryz.func14, Tryz.ntmps14
  go_wp2_with (first
   | (go_at_call 33; refine (SR.out).mono ?_; rintro e w1 ⟨rfl, hx, hk⟩; have HX1 := hid hx; have HK1 := hid hk; have HF1 := hid (px_fin hx ((Below.refl w1.heap.size w1).alloc (Nat.le_refl _) (.cells #[.int .i64 f, .int .i64 c, .int .u64 k, .int .i64 r0, .int .i64 r1, .int .i64 r2, .int .i64 r3, .int .i64 r4, .int .i64 r5, .int .i64 r6, .int .i64 r7] 38))); have HF2 := hid (px_fin hx ((Below.refl w1.heap.size w1).alloc (Nat.le_refl _) (.cells #[.int .i64 f, .int .i64 c, .int .u64 k, .int .i64 r0, .int .i64 r1, .int .i64 n, .int .i64 r3, .int .i64 r4, .int .i64 r5, .int .i64 r6, .int .i64 r7] 38))); clear hx hk)
   | (go_at_call 9; refine (PG.out _ _ HF1.out.1).mono ?_; rintro e w2 ⟨rfl, hw⟩; obtain rfl := hw.symm)
   | (go_at_call 32; refine (SW.out _ HF2.out.1).mono ?_; rintro e w3 ⟨rfl, hx, hk⟩; have HX3 := hid hx; have HK3 := hid hk; clear hx hk)
   | go_in)
  go_ret
  rw [HR.out]
  exact ⟨rfl, HX3.out, fun k hk => (HK3.out k hk).trans ((HF2.out.2 k hk).trans (HK1.out k hk))⟩
 ·have hfh : rootH ⟨f, c, k, [r0, r1, r2, r3, r4, r5, r6, r7]⟩ 3 n = ⟨f, c, k, [r0, r1, r2, n, r4, r5, r6, r7]⟩ := rfl
  rw [hfh] at hR
  have hwf2 : (⟨f, c, k, [r0, r1, r2, n, r4, r5, r6, r7]⟩ : Hdr).Wf := ⟨Hwf.out.free, Hwf.out.count, Hwf.out.commits, rfl, by
   intro x hx
   simp only [List.mem_cons, List.not_mem_nil, or_false] at hx
   rcases hx with rfl | rfl | rfl | rfl | rfl | rfl | rfl | rfl <;> assumption⟩
  have SW := hid (fun (W1 : World) (hm : PgX w W1 pb l b p g d X) => swrite_any hm _ hwf2)
  have HR := hid hR
  clear hR hfh hwf2 q0 q1 q2 q3 q4 q5 q6 q7 hn
  go_enter Tryz.func14, Tryz.ntmps14
  go_wp2_with (first
   | (go_at_call 33; refine (SR.out).mono ?_; rintro e w1 ⟨rfl, hx, hk⟩; have HX1 := hid hx; have HK1 := hid hk; have HF1 := hid (px_fin hx ((Below.refl w1.heap.size w1).alloc (Nat.le_refl _) (.cells #[.int .i64 f, .int .i64 c, .int .u64 k, .int .i64 r0, .int .i64 r1, .int .i64 r2, .int .i64 r3, .int .i64 r4, .int .i64 r5, .int .i64 r6, .int .i64 r7] 38))); have HF2 := hid (px_fin hx ((Below.refl w1.heap.size w1).alloc (Nat.le_refl _) (.cells #[.int .i64 f, .int .i64 c, .int .u64 k, .int .i64 r0, .int .i64 r1, .int .i64 r2, .int .i64 n, .int .i64 r4, .int .i64 r5, .int .i64 r6, .int .i64 r7] 38))); clear hx hk)
   | (go_at_call 9; refine (PG.out _ _ HF1.out.1).mono ?_; rintro e w2 ⟨rfl, hw⟩; obtain rfl := hw.symm)
   | (go_at_call 32; refine (SW.out _ HF2.out.1).mono ?_; rintro e w3 ⟨rfl, hx, hk⟩; have HX3 := hid hx; have HK3 := hid hk; clear hx hk)
   | go_in)
  go_ret
  rw [HR.out]
  exact ⟨rfl, HX3.out, fun k hk => (HK3.out k hk).trans ((HF2.out.2 k hk).trans (HK1.out k hk))⟩
 ·have hfh : rootH ⟨f, c, k, [r0, r1, r2, r3, r4, r5, r6, r7]⟩ 4 n = ⟨f, c, k, [r0, r1, r2, r3, n, r5, r6, r7]⟩ := rfl
  rw [hfh] at hR
  have hwf2 : (⟨f, c, k, [r0, r1, r2, r3, n, r5, r6, r7]⟩ : Hdr).Wf := ⟨Hwf.out.free, Hwf.out.count, Hwf.out.commits, rfl, by
   intro x hx
   simp only [List.mem_cons, List.not_mem_nil, or_false] at hx
   rcases hx with rfl | rfl | rfl | rfl | rfl | rfl | rfl | rfl <;> assumption⟩
  have SW := hid (fun (W1 : World) (hm : PgX w W1 pb l b p g d X) => swrite_any hm _ hwf2)
  have HR := hid hR
  clear hR hfh hwf2 q0 q1 q2 q3 q4 q5 q6 q7 hn
  go_enter Tryz.func14, Tryz.ntmps14
  go_wp2_with (first
   | (go_at_call 33; refine (SR.out).mono ?_; rintro e w1 ⟨rfl, hx, hk⟩; have HX1 := hid hx; have HK1 := hid hk; have HF1 := hid (px_fin hx ((Below.refl w1.heap.size w1).alloc (Nat.le_refl _) (.cells #[.int .i64 f, .int .i64 c, .int .u64 k, .int .i64 r0, .int .i64 r1, .int .i64 r2, .int .i64 r3, .int .i64 r4, .int .i64 r5, .int .i64 r6, .int .i64 r7] 38))); have HF2 := hid (px_fin hx ((Below.refl w1.heap.size w1).alloc (Nat.le_refl _) (.cells #[.int .i64 f, .int .i64 c, .int .u64 k, .int .i64 r0, .int .i64 r1, .int .i64 r2, .int .i64 r3, .int .i64 n, .int .i64 r5, .int .i64 r6, .int .i64 r7] 38))); clear hx hk)
   | (go_at_call 9; refine (PG.out _ _ HF1.out.1).mono ?_; rintro e w2 ⟨rfl, hw⟩; obtain rfl := hw.symm)
   | (go_at_call 32; refine (SW.out _ HF2.out.1).mono ?_; rintro e w3 ⟨rfl, hx, hk⟩; have HX3 := hid hx; have HK3 := hid hk; clear hx hk)
   | go_in)
  go_ret
  rw [HR.out]
  exact ⟨rfl, HX3.out, fun k hk => (HK3.out k hk).trans ((HF2.out.2 k hk).trans (HK1.out k hk))⟩
 ·have hfh : rootH ⟨f, c, k, [r0, r1, r2, r3, r4, r5, r6, r7]⟩ 5 n = ⟨f, c, k, [r0, r1, r2, r3, r4, n, r6, r7]⟩ := rfl
  rw [hfh] at hR
  have hwf2 : (⟨f, c, k, [r0, r1, r2, r3, r4, n, r6, r7]⟩ : Hdr).Wf := ⟨Hwf.out.free, Hwf.out.count, Hwf.out.commits, rfl, by
   intro x hx
   simp only [List.mem_cons, List.not_mem_nil, or_false] at hx
   rcases hx with rfl | rfl | rfl | rfl | rfl | rfl | rfl | rfl <;> assumption⟩
  have SW := hid (fun (W1 : World) (hm : PgX w W1 pb l b p g d X) => swrite_any hm _ hwf2)
  have HR := hid hR
  clear hR hfh hwf2 q0 q1 q2 q3 q4 q5 q6 q7 hn
  go_enter Tryz.func14, Tryz.ntmps14
  go_wp2_with (first
   | (go_at_call 33; refine (SR.out).mono ?_; rintro e w1 ⟨rfl, hx, hk⟩; have HX1 := hid hx; have HK1 := hid hk; have HF1 := hid (px_fin hx ((Below.refl w1.heap.size w1).alloc (Nat.le_refl _) (.cells #[.int .i64 f, .int .i64 c, .int .u64 k, .int .i64 r0, .int .i64 r1, .int .i64 r2, .int .i64 r3, .int .i64 r4, .int .i64 r5, .int .i64 r6, .int .i64 r7] 38))); have HF2 := hid (px_fin hx ((Below.refl w1.heap.size w1).alloc (Nat.le_refl _) (.cells #[.int .i64 f, .int .i64 c, .int .u64 k, .int .i64 r0, .int .i64 r1, .int .i64 r2, .int .i64 r3, .int .i64 r4, .int .i64 n, .int .i64 r6, .int .i64 r7] 38))); clear hx hk)
   | (go_at_call 9; refine (PG.out _ _ HF1.out.1).mono ?_; rintro e w2 ⟨rfl, hw⟩; obtain rfl := hw.symm)
   | (go_at_call 32; refine (SW.out _ HF2.out.1).mono ?_; rintro e w3 ⟨rfl, hx, hk⟩; have HX3 := hid hx; have HK3 := hid hk; clear hx hk)
   | go_in)
  go_ret
  rw [HR.out]
  exact ⟨rfl, HX3.out, fun k hk => (HK3.out k hk).trans ((HF2.out.2 k hk).trans (HK1.out k hk))⟩
 ·have hfh : rootH ⟨f, c, k, [r0, r1, r2, r3, r4, r5, r6, r7]⟩ 6 n = ⟨f, c, k, [r0, r1, r2, r3, r4, r5, n, r7]⟩ := rfl
  rw [hfh] at hR
  have hwf2 : (⟨f, c, k, [r0, r1, r2, r3, r4, r5, n, r7]⟩ : Hdr).Wf := ⟨Hwf.out.free, Hwf.out.count, Hwf.out.commits, rfl, by
   intro x hx
   simp only [List.mem_cons, List.not_mem_nil, or_false] at hx
   rcases hx with rfl | rfl | rfl | rfl | rfl | rfl | rfl | rfl <;> assumption⟩
  have SW := hid (fun (W1 : World) (hm : PgX w W1 pb l b p g d X) => swrite_any hm _ hwf2)
  have HR := hid hR
  clear hR hfh hwf2 q0 q1 q2 q3 q4 q5 q6 q7 hn
  go_enter Tryz.func14, Tryz.ntmps14
  go_wp2_with (first
   | (go_at_call 33; refine (SR.out).mono ?_; rintro e w1 ⟨rfl, hx, hk⟩; have HX1 := hid hx; have HK1 := hid hk; have HF1 := hid (px_fin hx ((Below.refl w1.heap.size w1).alloc (Nat.le_refl _) (.cells #[.int .i64 f, .int .i64 c, .int .u64 k, .int .i64 r0, .int .i64 r1, .int .i64 r2, .int .i64 r3, .int .i64 r4, .int .i64 r5, .int .i64 r6, .int .i64 r7] 38))); have HF2 := hid (px_fin hx ((Below.refl w1.heap.size w1).alloc (Nat.le_refl _) (.cells #[.int .i64 f, .int .i64 c, .int .u64 k, .int .i64 r0, .int .i64 r1, .int .i64 r2, .int .i64 r3, .int .i64 r4, .int .i64 r5, .int .i64 n, .int .i64 r7] 38))); clear hx hk)
   | (go_at_call 9; refine (PG.out _ _ HF1.out.1).mono ?_; rintro e w2 ⟨rfl, hw⟩; obtain rfl := hw.symm)
   | (go_at_call 32; refine (SW.out _ HF2.out.1).mono ?_; rintro e w3 ⟨rfl, hx, hk⟩; have HX3 := hid hx; have HK3 := hid hk; clear hx hk)
   | go_in)
  go_ret
  rw [HR.out]
  exact ⟨rfl, HX3.out, fun k hk => (HK3.out k hk).trans ((HF2.out.2 k hk).trans (HK1.out k hk))⟩
 ·have hfh : rootH ⟨f, c, k, [r0, r1, r2, r3, r4, r5, r6, r7]⟩ 7 n = ⟨f, c, k, [r0, r1, r2, r3, r4, r5, r6, n]⟩ := rfl
  rw [hfh] at hR
  have hwf2 : (⟨f, c, k, [r0, r1, r2, r3, r4, r5, r6, n]⟩ : Hdr).Wf := ⟨Hwf.out.free, Hwf.out.count, Hwf.out.commits, rfl, by
   intro x hx
   simp only [List.mem_cons, List.not_mem_nil, or_false] at hx
   rcases hx with rfl | rfl | rfl | rfl | rfl | rfl | rfl | rfl <;> assumption⟩
  have SW := hid (fun (W1 : World) (hm : PgX w W1 pb l b p g d X) => swrite_any hm _ hwf2)
  have HR := hid hR
  clear hR hfh hwf2 q0 q1 q2 q3 q4 q5 q6 q7 hn
  go_enter Tryz.func14, Tryz.ntmps14
  go_wp2_with (first
   | (go_at_call 33; refine (SR.out).mono ?_; rintro e w1 ⟨rfl, hx, hk⟩; have HX1 := hid hx; have HK1 := hid hk; have HF1 := hid (px_fin hx ((Below.refl w1.heap.size w1).alloc (Nat.le_refl _) (.cells #[.int .i64 f, .int .i64 c, .int .u64 k, .int .i64 r0, .int .i64 r1, .int .i64 r2, .int .i64 r3, .int .i64 r4, .int .i64 r5, .int .i64 r6, .int .i64 r7] 38))); have HF2 := hid (px_fin hx ((Below.refl w1.heap.size w1).alloc (Nat.le_refl _) (.cells #[.int .i64 f, .int .i64 c, .int .u64 k, .int .i64 r0, .int .i64 r1, .int .i64 r2, .int .i64 r3, .int .i64 r4, .int .i64 r5, .int .i64 r6, .int .i64 n] 38))); clear hx hk)
   | (go_at_call 9; refine (PG.out _ _ HF1.out.1).mono ?_; rintro e w2 ⟨rfl, hw⟩; obtain rfl := hw.symm)
   | (go_at_call 32; refine (SW.out _ HF2.out.1).mono ?_; rintro e w3 ⟨rfl, hx, hk⟩; have HX3 := hid hx; have HK3 := hid hk; clear hx hk)
   | go_in)
  go_ret
  rw [HR.out]
  exact ⟨rfl, HX3.out, fun k hk => (HK3.out k hk).trans ((HF2.out.2 k hk).trans (HK1.out k hk))⟩
end
end Go.Proofs.YtlkkclooihjpiaaGreat
namespace Go.Proofs.YtlkkclooihjpiaaGreat
open Go.RowKit Go.Maps
set_option maxRecDepth 20000
theorem wraps_i64 (n : Int) (_h₀ : 0 ≤ n) (_h₁ : n < 2 ^ 63) : IntKind.i64.wrap n = n := IntWalk.i64_in _ (by omega)
theorem or_byte (x c : Int) (h0 : 0 ≤ x) (h1 : x < 16777216) (c0 : 0 ≤ c) (c1 : c < 256) : bits BinOp.or IntKind.i64 (wrap64 (x * 256)) (wrap64 c) = x * 256 + c := by
 have e1 : wrap64 (x * 256) = x * 256 := by unfold wrap64; omega
 have e2 : wrap64 c = c := by unfold wrap64; omega
 rw [e1, e2]
 exact bits_join .i64 63 (by decide) wraps_i64 8 (x * 256) c (by omega) (by omega) (by omega) (by omega) (by omega) (by omega)
theorem pow_small {k : Nat} (h : k ≤ 3) : (256 : Int) ^ k ≤ 16777216 := by
 match k, h with
 | 0, _ => decide
 | 1, _ => decide
 | 2, _ => decide
 | 3, _ => decide
theorem num_step (t : List UInt8) (i : Nat) (h : i < t.length) (h4 : i ≤ 3) : bits BinOp.or IntKind.i64 (wrap64 (num (t.take i) * 256)) (wrap64 (t[i].toNat : Int)) = num (t.take (i + 1)) := by
 have hh := num_hi (t.take i)
 have hp := pow_small (k := (t.take i).length) (by rw [List.length_take]; omega)
 rw [or_byte _ _ (num_lo _) (by omega) (u8_lo _) (u8_hi _), ← num_snoc, List.take_succ_eq_append_getElem h]
theorem conv_bytes (t : List UInt8) (w1 : World) : ∃ cap wa, (convert 9 28 (.string (bs t))).run Tryz.prog w1 = .ok (.slice (some ⟨w1.heap.size, 0, none⟩) t.length cap) wa ∧ wa.rangeAt w1.heap.size 0 (cellsOf t) ∧ Below w1.heap.size w1 wa := by
 refine ⟨grownCap w1 (bs t).size 0 5, _, (run_bytes_of_string _ 9 28 5 _ Tryz.underlying9 Tryz.underlying28 Tryz.underlying5).trans (by rw [bs_size]), bytesRow_range rfl (heap_alloc_new w1.drew _), (Below.refl _ w1).drew.alloc (Nat.le_refl _) _⟩
end Go.Proofs.YtlkkclooihjpiaaGreat
namespace Go.Proofs.YtlkkclooihjpiaaGreat
open Go.RowKit Go.Maps
set_option maxRecDepth 20000
structure NtSt (w W : World) (l : List UInt8) : Prop where
 res : W.heap[w.heap.size]? = some (.cells #[.int .u8 0, .int .i64 0, .slice none 0 0, .string ⟨#[]⟩] 93 (0, 0))
 left : W.heap[w.heap.size + 1]? = some (.cells #[.string (bs l), .bool true] 131 (0, 0))
 bel : Below w.heap.size w W
end Go.Proofs.YtlkkclooihjpiaaGreat
