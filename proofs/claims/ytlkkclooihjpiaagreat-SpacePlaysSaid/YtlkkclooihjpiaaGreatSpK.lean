import Derived.Test.YtlkkclooihjpiaaGreatSpH
set_option linter.unusedVariables false
set_option linter.unusedSimpArgs false
namespace Go.Proofs.YtlkkclooihjpiaaGreat
open Go.RowKit Go.Maps
set_option maxRecDepth 20000
def rootH (h : Hdr) (i n : Int) : Hdr := { h with roots := h.roots.set i.toNat n }
def rootM (p : Pg) (g : Lg) (d : Dsk) (i n : Int) : Int × Pg :=
 if (readySM p g d).2 ≠ 0 then ((readySM p g d).2, p) else if i < 0 ∨ 8 ≤ i ∨ n < 0 ∨ ppagesM p g < n then (2, p)
 else writeHM p (rootH (readySM p g d).1 i n)
section
variable {w W W' : World} {pb l b : Nat} {p p' : Pg} {g g' : Lg} {d d' : Dsk} {X X' : Nat → Prop}
set_option maxHeartbeats 8000000 in
set_option maxRecDepth 20000 in
theorem sroot_any (h : PgX w W pb l b p g d X) (i n : Int) (hi : in64 i) (hn : in64 n) : Calls Tryz.prog 14 #[.pointer (some ⟨pb, 0, none⟩), .int .i64 i, .int .i64 n] W fun e w' => e = .returned (.int .i64 (rootM p g d i n).1) ∧ PgX w w' pb l b (rootM p g d i n).2 g d X ∧ ∀ k, X k → w'.heap[k]? = W.heap[k]? := by
 have SR := sready_any h
 have hwfQ := readySM_wf p g d
 have hP0 := ppages_range h
 obtain ⟨R, hR⟩ : ∃ R, R = rootM p g d i n := ⟨_, rfl⟩
 rw [← hR]
 unfold rootM at hR
 obtain ⟨Q, hQ⟩ : ∃ Q, Q = readySM p g d := ⟨_, rfl⟩
 rw [← hQ] at hR hwfQ SR
 obtain ⟨P, hP⟩ : ∃ P, P = ppagesM p g := ⟨_, rfl⟩
 rw [← hP] at hR hP0
 have PG := fun (W1 : World) (X1 : Nat → Prop) (hm : PgX w W1 pb l b p g d X1) => px_pages hm
 simp only [← hP] at PG
 replace PG := hid PG
 obtain ⟨H, E⟩ := Q
 obtain ⟨f, c, k, r0, r1, r2, r3, r4, r5, r6, r7, rfl⟩ := hdr_form hwfQ.len
 unfold hdrV hdrCells at SR
 simp only [List.map_cons, List.map_nil] at SR
 replace SR := hid SR
 dsimp only at hR hwfQ
 have HX := hid h
 have Hwf := hid hwfQ
 clear hQ hP hwfQ h
 by_cases hE : E = 0
 rotate_left
 ·have b1 : (E != 0) = true := by simp [hE]
  rw [if_pos hE] at hR
  have HR := hid hR
  clear hR hE hi hn hP0
  go_enter Tryz.func14, Tryz.ntmps14
  go_wp2_with (first
   | (go_at_call 33; refine (SR.out).mono ?_; rintro e w1 ⟨rfl, hx, hk⟩; have HX1 := hid hx; have HK1 := hid hk; have HF1 := hid (px_fin hx ((Below.refl w1.heap.size w1).alloc (Nat.le_refl _) (.cells #[.int .i64 f, .int .i64 c, .int .u64 k, .int .i64 r0, .int .i64 r1, .int .i64 r2, .int .i64 r3, .int .i64 r4, .int .i64 r5, .int .i64 r6, .int .i64 r7] 38))); clear hx hk)
   | go_in)
  go_ret
  rw [HR.out]
  exact ⟨rfl, HF1.out.1, fun k hk => (HF1.out.2 k hk).trans (HK1.out k hk)⟩
 have b1 : (E != 0) = false := by simp [hE]
 rw [if_neg (by simpa using hE)] at hR
 by_cases hr : i < 0 ∨ 8 ≤ i ∨ n < 0 ∨ P < n
 ·rw [if_pos hr] at hR
  have HR := hid hR
  clear hR hE
  by_cases h1 : i < 0
  ·have b2 : decide (i < 0) = true := by simpa using h1
   clear h1
   clear hr hi hn hP0
   go_enter Tryz.func14, Tryz.ntmps14
   go_wp2_with (first
    | (go_at_call 33; refine (SR.out).mono ?_; rintro e w1 ⟨rfl, hx, hk⟩; have HX1 := hid hx; have HK1 := hid hk; have HF1 := hid (px_fin hx ((Below.refl w1.heap.size w1).alloc (Nat.le_refl _) (.cells #[.int .i64 f, .int .i64 c, .int .u64 k, .int .i64 r0, .int .i64 r1, .int .i64 r2, .int .i64 r3, .int .i64 r4, .int .i64 r5, .int .i64 r6, .int .i64 r7] 38))); clear hx hk)
    | go_in)
   go_ret
   rw [HR.out]
   exact ⟨rfl, HF1.out.1, fun k hk => (HF1.out.2 k hk).trans (HK1.out k hk)⟩
  have b2 : decide (i < 0) = false := by simpa using h1
  by_cases h2 : 8 ≤ i
  ·have b3 : decide (8 ≤ i) = true := by simpa using h2
   clear h1 h2
   clear hr hi hn hP0
   go_enter Tryz.func14, Tryz.ntmps14
   go_wp2_with (first
    | (go_at_call 33; refine (SR.out).mono ?_; rintro e w1 ⟨rfl, hx, hk⟩; have HX1 := hid hx; have HK1 := hid hk; have HF1 := hid (px_fin hx ((Below.refl w1.heap.size w1).alloc (Nat.le_refl _) (.cells #[.int .i64 f, .int .i64 c, .int .u64 k, .int .i64 r0, .int .i64 r1, .int .i64 r2, .int .i64 r3, .int .i64 r4, .int .i64 r5, .int .i64 r6, .int .i64 r7] 38))); clear hx hk)
    | go_in)
   go_ret
   rw [HR.out]
   exact ⟨rfl, HF1.out.1, fun k hk => (HF1.out.2 k hk).trans (HK1.out k hk)⟩
  have b3 : decide (8 ≤ i) = false := by simpa using h2
  by_cases h3 : n < 0
  ·have b4 : decide (n < 0) = true := by simpa using h3
   clear h1 h2 h3
   clear hr hi hn hP0
   go_enter Tryz.func14, Tryz.ntmps14
   go_wp2_with (first
    | (go_at_call 33; refine (SR.out).mono ?_; rintro e w1 ⟨rfl, hx, hk⟩; have HX1 := hid hx; have HK1 := hid hk; have HF1 := hid (px_fin hx ((Below.refl w1.heap.size w1).alloc (Nat.le_refl _) (.cells #[.int .i64 f, .int .i64 c, .int .u64 k, .int .i64 r0, .int .i64 r1, .int .i64 r2, .int .i64 r3, .int .i64 r4, .int .i64 r5, .int .i64 r6, .int .i64 r7] 38))); clear hx hk)
    | go_in)
   go_ret
   rw [HR.out]
   exact ⟨rfl, HF1.out.1, fun k hk => (HF1.out.2 k hk).trans (HK1.out k hk)⟩
  have b4 : decide (n < 0) = false := by simpa using h3
  have b5 : decide (P < n) = true := by simp; omega
  clear h1 h2 h3
  clear hr hi hn hP0
  go_enter Tryz.func14, Tryz.ntmps14
  go_wp2_with (first
   | (go_at_call 33; refine (SR.out).mono ?_; rintro e w1 ⟨rfl, hx, hk⟩; have HX1 := hid hx; have HK1 := hid hk; have HF1 := hid (px_fin hx ((Below.refl w1.heap.size w1).alloc (Nat.le_refl _) (.cells #[.int .i64 f, .int .i64 c, .int .u64 k, .int .i64 r0, .int .i64 r1, .int .i64 r2, .int .i64 r3, .int .i64 r4, .int .i64 r5, .int .i64 r6, .int .i64 r7] 38))); clear hx hk)
   | (go_at_call 9; refine (PG.out _ _ HF1.out.1).mono ?_; rintro e w2 ⟨rfl, hw⟩; obtain rfl := hw.symm)
   | go_in)
  go_ret
  rw [HR.out]
  exact ⟨rfl, HF1.out.1, fun k hk => (HF1.out.2 k hk).trans (HK1.out k hk)⟩
 rw [if_neg hr] at hR
 have b4 : decide (n < 0) = false := by simp; omega
 have b5 : decide (P < n) = false := by simp; omega
 have hi8 : i = 0 ∨ i = 1 ∨ i = 2 ∨ i = 3 ∨ i = 4 ∨ i = 5 ∨ i = 6 ∨ i = 7 := by omega
 have hrts := Hwf.out.roots
 dsimp only at hrts
 simp only [List.mem_cons, List.not_mem_nil, or_false, forall_eq_or_imp, forall_eq] at hrts
 obtain ⟨q0, q1, q2, q3, q4, q5, q6, q7⟩ := hrts
 clear hr hE hi hP0
 rcases hi8 with rfl | rfl | rfl | rfl | rfl | rfl | rfl | rfl
 ·have hfh : rootH ⟨f, c, k, [r0, r1, r2, r3, r4, r5, r6, r7]⟩ 0 n = ⟨f, c, k, [n, r1, r2, r3, r4, r5, r6, r7]⟩ := rfl
  rw [hfh] at hR
  have hwf2 : (⟨f, c, k, [n, r1, r2, r3, r4, r5, r6, r7]⟩ : Hdr).Wf := ⟨Hwf.out.free, Hwf.out.count, Hwf.out.commits, rfl, by
   intro x hx
   simp only [List.mem_cons, List.not_mem_nil, or_false] at hx
   rcases hx with rfl | rfl | rfl | rfl | rfl | rfl | rfl | rfl <;> assumption⟩
  have SW := hid (fun (W1 : World) (hm : PgX w W1 pb l b p g d X) => swrite_any hm _ hwf2)
  have HR := hid hR
  clear hR hfh hwf2 q0 q1 q2 q3 q4 q5 q6 q7 hn
  go_enter Tryz.func14, Tryz.ntmps14
  go_wp2_with (first
   | (go_at_call 33; refine (SR.out).mono ?_; rintro e w1 ⟨rfl, hx, hk⟩; have HX1 := hid hx; have HK1 := hid hk; have HF1 := hid (px_fin hx ((Below.refl w1.heap.size w1).alloc (Nat.le_refl _) (.cells #[.int .i64 f, .int .i64 c, .int .u64 k, .int .i64 r0, .int .i64 r1, .int .i64 r2, .int .i64 r3, .int .i64 r4, .int .i64 r5, .int .i64 r6, .int .i64 r7] 38))); have HF2 := hid (px_fin hx ((Below.refl w1.heap.size w1).alloc (Nat.le_refl _) (.cells #[.int .i64 f, .int .i64 c, .int .u64 k, .int .i64 n, .int .i64 r1, .int .i64 r2, .int .i64 r3, .int .i64 r4, .int .i64 r5, .int .i64 r6, .int .i64 r7] 38))); clear hx hk)
   | (go_at_call 9; refine (PG.out _ _ HF1.out.1).mono ?_; rintro e w2 ⟨rfl, hw⟩; obtain rfl := hw.symm)
   | (go_at_call 32; refine (SW.out _ HF2.out.1).mono ?_; rintro e w3 ⟨rfl, hx, hk⟩; have HX3 := hid hx; have HK3 := hid hk; clear hx hk)
   | go_in)
  go_ret
  rw [HR.out]
  exact ⟨rfl, HX3.out, fun k hk => (HK3.out k hk).trans ((HF2.out.2 k hk).trans (HK1.out k hk))⟩
 ·have hfh : rootH ⟨f, c, k, [r0, r1, r2, r3, r4, r5, r6, r7]⟩ 1 n = ⟨f, c, k, [r0, n, r2, r3, r4, r5, r6, r7]⟩ := rfl
  rw [hfh] at hR
  have hwf2 : (⟨f, c, k, [r0, n, r2, r3, r4, r5, r6, r7]⟩ : Hdr).Wf := ⟨Hwf.out.free, Hwf.out.count, Hwf.out.commits, rfl, by
   intro x hx
   simp only [List.mem_cons, List.not_mem_nil, or_false] at hx
   rcases hx with rfl | rfl | rfl | rfl | rfl | rfl | rfl | rfl <;> assumption⟩
  have SW := hid (fun (W1 : World) (hm : PgX w W1 pb l b p g d X) => swrite_any hm _ hwf2)
  have HR := hid hR
  clear hR hfh hwf2 q0 q1 q2 q3 q4 q5 q6 q7 hn
  go_enter Tryz.func14, Tryz.ntmps14
  go_wp2_with (first
   | (go_at_call 33; refine (SR.out).mono ?_; rintro e w1 ⟨rfl, hx, hk⟩; have HX1 := hid hx; have HK1 := hid hk; have HF1 := hid (px_fin hx ((Below.refl w1.heap.size w1).alloc (Nat.le_refl _) (.cells #[.int .i64 f, .int .i64 c, .int .u64 k, .int .i64 r0, .int .i64 r1, .int .i64 r2, .int .i64 r3, .int .i64 r4, .int .i64 r5, .int .i64 r6, .int .i64 r7] 38))); have HF2 := hid (px_fin hx ((Below.refl w1.heap.size w1).alloc (Nat.le_refl _) (.cells #[.int .i64 f, .int .i64 c, .int .u64 k, .int .i64 r0, .int .i64 n, .int .i64 r2, .int .i64 r3, .int .i64 r4, .int .i64 r5, .int .i64 r6, .int .i64 r7] 38))); clear hx hk)
   | (go_at_call 9; refine (PG.out _ _ HF1.out.1).mono ?_; rintro e w2 ⟨rfl, hw⟩; obtain rfl := hw.symm)
   | (go_at_call 32; refine (SW.out _ HF2.out.1).mono ?_; rintro e w3 ⟨rfl, hx, hk⟩; have HX3 := hid hx; have HK3 := hid hk; clear hx hk)
   | go_in)
  go_ret
  rw [HR.out]
  exact ⟨rfl, HX3.out, fun k hk => (HK3.out k hk).trans ((HF2.out.2 k hk).trans (HK1.out k hk))⟩
 ·have hfh : rootH ⟨f, c, k, [r0, r1, r2, r3, r4, r5, r6, r7]⟩ 2 n = ⟨f, c, k, [r0, r1, n, r3, r4, r5, r6, r7]⟩ := rfl
  rw [hfh] at hR
  have hwf2 : (⟨f, c, k, [r0, r1, n, r3, r4, r5, r6, r7]⟩ : Hdr).Wf := ⟨Hwf.out.free, Hwf.out.count, Hwf.out.commits, rfl, by
   intro x hx
   simp only [List.mem_cons, List.not_mem_nil, or_false] at hx
   rcases hx with rfl | rfl | rfl | rfl | rfl | rfl | rfl | rfl <;> assumption⟩
  have SW := hid (fun (W1 : World) (hm : PgX w W1 pb l b p g d X) => swrite_any hm _ hwf2)
  have HR := hid hR
  clear hR hfh hwf2 q0 q1 q2 q3 q4 q5 q6 q7 hn
  go_enter Tryz.func14, Tryz.ntmps14
  go_wp2_with (first
   | (go_at_call 33; refine (SR.out).mono ?_; rintro e w1 ⟨rfl, hx, hk⟩; have HX1 := hid hx; have HK1 := hid hk; have HF1 := hid (px_fin hx ((Below.refl w1.heap.size w1).alloc (Nat.le_refl _) (.cells #[.int .i64 f, .int .i64 c, .int .u64 k, .int .i64 r0, .int .i64 r1, .int .i64 r2, .int .i64 r3, .int .i64 r4, .int .i64 r5, .int .i64 r6, .int .i64 r7] 38))); have HF2 := hid (px_fin hx ((Below.refl w1.heap.size w1).alloc (Nat.le_refl _) (.cells #[.int .i64 f, .int .i64 c, .int .u64 k, .int .i64 r0, .int .i64 r1, .int .i64 n, .int .i64 r3, .int .i64 r4, .int .i64 r5, .int .i64 r6, .int .i64 r7] 38))); clear hx hk)
   | (go_at_call 9; refine (PG.out _ _ HF1.out.1).mono ?_; rintro e w2 ⟨rfl, hw⟩; obtain rfl := hw.symm)
   | (go_at_call 32; refine (SW.out _ HF2.out.1).mono ?_; rintro e w3 ⟨rfl, hx, hk⟩; have HX3 := hid hx; have HK3 := hid hk; clear hx hk)
   | go_in)
  go_ret
  rw [HR.out]
  exact ⟨rfl, HX3.out, fun k hk => (HK3.out k hk).trans ((HF2.out.2 k hk).trans (HK1.out k hk))⟩
 ·have hfh : rootH ⟨f, c, k, [r0, r1, r2, r3, r4, r5, r6, r7]⟩ 3 n = ⟨f, c, k, [r0, r1, r2, n, r4, r5, r6, r7]⟩ := rfl
  rw [hfh] at hR
  have hwf2 : (⟨f, c, k, [r0, r1, r2, n, r4, r5, r6, r7]⟩ : Hdr).Wf := ⟨Hwf.out.free, Hwf.out.count, Hwf.out.commits, rfl, by
   intro x hx
   simp only [List.mem_cons, List.not_mem_nil, or_false] at hx
   rcases hx with rfl | rfl | rfl | rfl | rfl | rfl | rfl | rfl <;> assumption⟩
  have SW := hid (fun (W1 : World) (hm : PgX w W1 pb l b p g d X) => swrite_any hm _ hwf2)
  have HR := hid hR
  clear hR hfh hwf2 q0 q1 q2 q3 q4 q5 q6 q7 hn
  go_enter Tryz.func14, Tryz.ntmps14
  go_wp2_with (first
   | (go_at_call 33; refine (SR.out).mono ?_; rintro e w1 ⟨rfl, hx, hk⟩; have HX1 := hid hx; have HK1 := hid hk; have HF1 := hid (px_fin hx ((Below.refl w1.heap.size w1).alloc (Nat.le_refl _) (.cells #[.int .i64 f, .int .i64 c, .int .u64 k, .int .i64 r0, .int .i64 r1, .int .i64 r2, .int .i64 r3, .int .i64 r4, .int .i64 r5, .int .i64 r6, .int .i64 r7] 38))); have HF2 := hid (px_fin hx ((Below.refl w1.heap.size w1).alloc (Nat.le_refl _) (.cells #[.int .i64 f, .int .i64 c, .int .u64 k, .int .i64 r0, .int .i64 r1, .int .i64 r2, .int .i64 n, .int .i64 r4, .int .i64 r5, .int .i64 r6, .int .i64 r7] 38))); clear hx hk)
   | (go_at_call 9; refine (PG.out _ _ HF1.out.1).mono ?_; rintro e w2 ⟨rfl, hw⟩; obtain rfl := hw.symm)
   | (go_at_call 32; refine (SW.out _ HF2.out.1).mono ?_; rintro e w3 ⟨rfl, hx, hk⟩; have HX3 := hid hx; have HK3 := hid hk; clear hx hk)
   | go_in)
  go_ret
  rw [HR.out]
  exact ⟨rfl, HX3.out, fun k hk => (HK3.out k hk).trans ((HF2.out.2 k hk).trans (HK1.out k hk))⟩
 ·have hfh : rootH ⟨f, c, k, [r0, r1, r2, r3, r4, r5, r6, r7]⟩ 4 n = ⟨f, c, k, [r0, r1, r2, r3, n, r5, r6, r7]⟩ := rfl
  rw [hfh] at hR
  have hwf2 : (⟨f, c, k, [r0, r1, r2, r3, n, r5, r6, r7]⟩ : Hdr).Wf := ⟨Hwf.out.free, Hwf.out.count, Hwf.out.commits, rfl, by
   intro x hx
   simp only [List.mem_cons, List.not_mem_nil, or_false] at hx
   rcases hx with rfl | rfl | rfl | rfl | rfl | rfl | rfl | rfl <;> assumption⟩
  have SW := hid (fun (W1 : World) (hm : PgX w W1 pb l b p g d X) => swrite_any hm _ hwf2)
  have HR := hid hR
  clear hR hfh hwf2 q0 q1 q2 q3 q4 q5 q6 q7 hn
  go_enter Tryz.func14, Tryz.ntmps14
  go_wp2_with (first
   | (go_at_call 33; refine (SR.out).mono ?_; rintro e w1 ⟨rfl, hx, hk⟩; have HX1 := hid hx; have HK1 := hid hk; have HF1 := hid (px_fin hx ((Below.refl w1.heap.size w1).alloc (Nat.le_refl _) (.cells #[.int .i64 f, .int .i64 c, .int .u64 k, .int .i64 r0, .int .i64 r1, .int .i64 r2, .int .i64 r3, .int .i64 r4, .int .i64 r5, .int .i64 r6, .int .i64 r7] 38))); have HF2 := hid (px_fin hx ((Below.refl w1.heap.size w1).alloc (Nat.le_refl _) (.cells #[.int .i64 f, .int .i64 c, .int .u64 k, .int .i64 r0, .int .i64 r1, .int .i64 r2, .int .i64 r3, .int .i64 n, .int .i64 r5, .int .i64 r6, .int .i64 r7] 38))); clear hx hk)
   | (go_at_call 9; refine (PG.out _ _ HF1.out.1).mono ?_; rintro e w2 ⟨rfl, hw⟩; obtain rfl := hw.symm)
   | (go_at_call 32; refine (SW.out _ HF2.out.1).mono ?_; rintro e w3 ⟨rfl, hx, hk⟩; have HX3 := hid hx; have HK3 := hid hk; clear hx hk)
   | go_in)
  go_ret
  rw [HR.out]
  exact ⟨rfl, HX3.out, fun k hk => (HK3.out k hk).trans ((HF2.out.2 k hk).trans (HK1.out k hk))⟩
 ·have hfh : rootH ⟨f, c, k, [r0, r1, r2, r3, r4, r5, r6, r7]⟩ 5 n = ⟨f, c, k, [r0, r1, r2, r3, r4, n, r6, r7]⟩ := rfl
  rw [hfh] at hR
  have hwf2 : (⟨f, c, k, [r0, r1, r2, r3, r4, n, r6, r7]⟩ : Hdr).Wf := ⟨Hwf.out.free, Hwf.out.count, Hwf.out.commits, rfl, by
   intro x hx
   simp only [List.mem_cons, List.not_mem_nil, or_false] at hx
   rcases hx with rfl | rfl | rfl | rfl | rfl | rfl | rfl | rfl <;> assumption⟩
  have SW := hid (fun (W1 : World) (hm : PgX w W1 pb l b p g d X) => swrite_any hm _ hwf2)
  have HR := hid hR
  clear hR hfh hwf2 q0 q1 q2 q3 q4 q5 q6 q7 hn
  go_enter Tryz.func14, Tryz.ntmps14
  go_wp2_with (first
   | (go_at_call 33; refine (SR.out).mono ?_; rintro e w1 ⟨rfl, hx, hk⟩; have HX1 := hid hx; have HK1 := hid hk; have HF1 := hid (px_fin hx ((Below.refl w1.heap.size w1).alloc (Nat.le_refl _) (.cells #[.int .i64 f, .int .i64 c, .int .u64 k, .int .i64 r0, .int .i64 r1, .int .i64 r2, .int .i64 r3, .int .i64 r4, .int .i64 r5, .int .i64 r6, .int .i64 r7] 38))); have HF2 := hid (px_fin hx ((Below.refl w1.heap.size w1).alloc (Nat.le_refl _) (.cells #[.int .i64 f, .int .i64 c, .int .u64 k, .int .i64 r0, .int .i64 r1, .int .i64 r2, .int .i64 r3, .int .i64 r4, .int .i64 n, .int .i64 r6, .int .i64 r7] 38))); clear hx hk)
   | (go_at_call 9; refine (PG.out _ _ HF1.out.1).mono ?_; rintro e w2 ⟨rfl, hw⟩; obtain rfl := hw.symm)
   | (go_at_call 32; refine (SW.out _ HF2.out.1).mono ?_; rintro e w3 ⟨rfl, hx, hk⟩; have HX3 := hid hx; have HK3 := hid hk; clear hx hk)
   | go_in)
  go_ret
  rw [HR.out]
  exact ⟨rfl, HX3.out, fun k hk => (HK3.out k hk).trans ((HF2.out.2 k hk).trans (HK1.out k hk))⟩
 ·have hfh : rootH ⟨f, c, k, [r0, r1, r2, r3, r4, r5, r6, r7]⟩ 6 n = ⟨f, c, k, [r0, r1, r2, r3, r4, r5, n, r7]⟩ := rfl
  rw [hfh] at hR
  have hwf2 : (⟨f, c, k, [r0, r1, r2, r3, r4, r5, n, r7]⟩ : Hdr).Wf := ⟨Hwf.out.free, Hwf.out.count, Hwf.out.commits, rfl, by
   intro x hx
   simp only [List.mem_cons, List.not_mem_nil, or_false] at hx
   rcases hx with rfl | rfl | rfl | rfl | rfl | rfl | rfl | rfl <;> assumption⟩
  have SW := hid (fun (W1 : World) (hm : PgX w W1 pb l b p g d X) => swrite_any hm _ hwf2)
  have HR := hid hR
  clear hR hfh hwf2 q0 q1 q2 q3 q4 q5 q6 q7 hn
  go_enter Tryz.func14, Tryz.ntmps14
  go_wp2_with (first
   | (go_at_call 33; refine (SR.out).mono ?_; rintro e w1 ⟨rfl, hx, hk⟩; have HX1 := hid hx; have HK1 := hid hk; have HF1 := hid (px_fin hx ((Below.refl w1.heap.size w1).alloc (Nat.le_refl _) (.cells #[.int .i64 f, .int .i64 c, .int .u64 k, .int .i64 r0, .int .i64 r1, .int .i64 r2, .int .i64 r3, .int .i64 r4, .int .i64 r5, .int .i64 r6, .int .i64 r7] 38))); have HF2 := hid (px_fin hx ((Below.refl w1.heap.size w1).alloc (Nat.le_refl _) (.cells #[.int .i64 f, .int .i64 c, .int .u64 k, .int .i64 r0, .int .i64 r1, .int .i64 r2, .int .i64 r3, .int .i64 r4, .int .i64 r5, .int .i64 n, .int .i64 r7] 38))); clear hx hk)
   | (go_at_call 9; refine (PG.out _ _ HF1.out.1).mono ?_; rintro e w2 ⟨rfl, hw⟩; obtain rfl := hw.symm)
   | (go_at_call 32; refine (SW.out _ HF2.out.1).mono ?_; rintro e w3 ⟨rfl, hx, hk⟩; have HX3 := hid hx; have HK3 := hid hk; clear hx hk)
   | go_in)
  go_ret
  rw [HR.out]
  exact ⟨rfl, HX3.out, fun k hk => (HK3.out k hk).trans ((HF2.out.2 k hk).trans (HK1.out k hk))⟩
 ·have hfh : rootH ⟨f, c, k, [r0, r1, r2, r3, r4, r5, r6, r7]⟩ 7 n = ⟨f, c, k, [r0, r1, r2, r3, r4, r5, r6, n]⟩ := rfl
  rw [hfh] at hR
  have hwf2 : (⟨f, c, k, [r0, r1, r2, r3, r4, r5, r6, n]⟩ : Hdr).Wf := ⟨Hwf.out.free, Hwf.out.count, Hwf.out.commits, rfl, by
   intro x hx
   simp only [List.mem_cons, List.not_mem_nil, or_false] at hx
   rcases hx with rfl | rfl | rfl | rfl | rfl | rfl | rfl | rfl <;> assumption⟩
  have SW := hid (fun (W1 : World) (hm : PgX w W1 pb l b p g d X) => swrite_any hm _ hwf2)
  have HR := hid hR
  clear hR hfh hwf2 q0 q1 q2 q3 q4 q5 q6 q7 hn
  go_enter Tryz.func14, Tryz.ntmps14
  go_wp2_with (first
   | (go_at_call 33; refine (SR.out).mono ?_; rintro e w1 ⟨rfl, hx, hk⟩; have HX1 := hid hx; have HK1 := hid hk; have HF1 := hid (px_fin hx ((Below.refl w1.heap.size w1).alloc (Nat.le_refl _) (.cells #[.int .i64 f, .int .i64 c, .int .u64 k, .int .i64 r0, .int .i64 r1, .int .i64 r2, .int .i64 r3, .int .i64 r4, .int .i64 r5, .int .i64 r6, .int .i64 r7] 38))); have HF2 := hid (px_fin hx ((Below.refl w1.heap.size w1).alloc (Nat.le_refl _) (.cells #[.int .i64 f, .int .i64 c, .int .u64 k, .int .i64 r0, .int .i64 r1, .int .i64 r2, .int .i64 r3, .int .i64 r4, .int .i64 r5, .int .i64 r6, .int .i64 n] 38))); clear hx hk)
   | (go_at_call 9; refine (PG.out _ _ HF1.out.1).mono ?_; rintro e w2 ⟨rfl, hw⟩; obtain rfl := hw.symm)
   | (go_at_call 32; refine (SW.out _ HF2.out.1).mono ?_; rintro e w3 ⟨rfl, hx, hk⟩; have HX3 := hid hx; have HK3 := hid hk; clear hx hk)
   | go_in)
  go_ret
  rw [HR.out]
  exact ⟨rfl, HX3.out, fun k hk => (HK3.out k hk).trans ((HF2.out.2 k hk).trans (HK1.out k hk))⟩
end
end Go.Proofs.YtlkkclooihjpiaaGreat
namespace Go.Proofs.YtlkkclooihjpiaaGreat
open Go.RowKit Go.Maps
set_option maxRecDepth 20000
theorem rtext_any {rb : Nat} {l : List UInt8} {W : World} (n : Nat) (hb : W.heap[rb]? = some (.cells #[.string (bs l), .bool true] 131 (0, 0))) (hn : n ≤ l.length) (hl : l.length ≤ 1000) :
  Calls Tryz.prog 65 #[.pointer (some ⟨rb, 0, none⟩), .int .i64 (n : Int)] W fun e w' => e = .returned (.string (bs (l.take n))) ∧ w'.heap[rb]? = some (.cells #[.string (bs (l.drop n)), .bool true] 131 (0, 0)) ∧ Frm (fun j => j = rb) W w' := by
 have c0 : W.cell? ⟨rb, 0, none⟩ = some (.string (bs l)) := (cell_of_block hb 0).trans rfl
 have f0 := free_of_block hb 0
 have b1 : decide (l.length < n) = false := by simp; omega
 have htk : List.take (l.length - n) (List.drop n l) = List.drop n l := List.take_of_length_le (by simp)
 have Hb := hid hb
 clear hb
 go_enter Tryz.func65, Tryz.ntmps65
 go_wp2_with fail
 go_ret
 refine ⟨by first | rfl | simp, ?_, Frm.setCell (S := fun j => j = rb) (Frm.refl _ _) (.inl rfl) _⟩
 exact (heap_setCell_same Hb.out 0 _).trans rfl
theorem wraps_i64 (n : Int) (_h₀ : 0 ≤ n) (_h₁ : n < 2 ^ 63) : IntKind.i64.wrap n = n := IntWalk.i64_in _ (by omega)
theorem or_byte (x c : Int) (h0 : 0 ≤ x) (h1 : x < 16777216) (c0 : 0 ≤ c) (c1 : c < 256) : bits BinOp.or IntKind.i64 (wrap64 (x * 256)) (wrap64 c) = x * 256 + c := by
 have e1 : wrap64 (x * 256) = x * 256 := by unfold wrap64; omega
 have e2 : wrap64 c = c := by unfold wrap64; omega
 rw [e1, e2]
 exact bits_join .i64 63 (by decide) wraps_i64 8 (x * 256) c (by omega) (by omega) (by omega) (by omega) (by omega) (by omega)
theorem pow_small {k : Nat} (h : k ≤ 3) : (256 : Int) ^ k ≤ 16777216 := by
 match k, h with
 | 0, _ => decide
 | 1, _ => decide
 | 2, _ => decide
 | 3, _ => decide
theorem num_step (t : List UInt8) (i : Nat) (h : i < t.length) (h4 : i ≤ 3) : bits BinOp.or IntKind.i64 (wrap64 (num (t.take i) * 256)) (wrap64 (t[i].toNat : Int)) = num (t.take (i + 1)) := by
 have hh := num_hi (t.take i)
 have hp := pow_small (k := (t.take i).length) (by rw [List.length_take]; omega)
 rw [or_byte _ _ (num_lo _) (by omega) (u8_lo _) (u8_hi _), ← num_snoc, List.take_succ_eq_append_getElem h]
theorem conv_bytes (t : List UInt8) (w1 : World) : ∃ cap wa, (convert 9 28 (.string (bs t))).run Tryz.prog w1 = .ok (.slice (some ⟨w1.heap.size, 0, none⟩) t.length cap) wa ∧ wa.rangeAt w1.heap.size 0 (cellsOf t) ∧ Below w1.heap.size w1 wa := by
 refine ⟨grownCap w1 (bs t).size 0 5, _, (run_bytes_of_string _ 9 28 5 _ Tryz.underlying9 Tryz.underlying28 Tryz.underlying5).trans (by rw [bs_size]), bytesRow_range rfl (heap_alloc_new w1.drew _), (Below.refl _ w1).drew.alloc (Nat.le_refl _) _⟩
set_option maxHeartbeats 2000000 in
set_option maxRecDepth 20000 in
theorem rnum_any {rb : Nat} {l : List UInt8} {W : World} (m : Nat) (hm : m ≤ 4) (hb : W.heap[rb]? = some (.cells #[.string (bs l), .bool true] 131 (0, 0))) (hn : m ≤ l.length) (hl : l.length ≤ 1000) :
  Calls Tryz.prog 64 #[.pointer (some ⟨rb, 0, none⟩), .int .i64 (m : Int)] W fun e w' => e = .returned (.int .i64 (num (l.take m))) ∧ w'.heap[rb]? = some (.cells #[.string (bs (l.drop m)), .bool true] 131 (0, 0)) ∧ Frm (fun j => j = rb) W w' := by
 have RT := hid (rtext_any m hb hn hl)
 obtain ⟨t, ht⟩ : ∃ t, t = l.take m := ⟨_, rfl⟩
 have htl : t.length = m := by rw [ht, List.length_take]; omega
 rw [← ht]
 have RT := RT.out
 rw [← ht] at RT
 replace RT := hid RT
 clear hb ht
 go_enter Tryz.func64, Tryz.ntmps64
 go_wp2_with (first
  | (go_at_call 65; refine (RT.out).mono ?_; rintro e w1 ⟨rfl, hr, hf⟩; have Hr1 := hid hr; have Hf1 := hid hf; obtain ⟨cap, wa, hconv, hra, hbel⟩ := conv_bytes t w1; rw [htl] at hconv; have Hra := hid hra; have HB1 := hid hbel; clear hr hf RT hra hbel)
  | go_in)
 go_loopw [5, 13] (fun v5 v13 wr => ∃ i : Nat, i ≤ m ∧ v13 = .int .i64 (i : Int) ∧ v5 = .int .i64 (num (t.take i)) ∧ wr = wa) (fun _ v13 _ => m - (intOf v13).toNat)
 case atStart => exact ⟨0, by omega, rfl, by rw [List.take_zero, num_nil], rfl⟩
 case round =>
  obtain ⟨i, hi, rfl, rfl, rfl⟩ := hrel
  by_cases hlt : i < m
  ·have b1 : decide (i < m) = true := by simpa using hlt
   have c0 := Hra.out i (.int .u8 ((t[i]'(by omega)).toNat : Int)) (by simp [cellsOf, htl, hlt])
   rw [Nat.zero_add] at c0
   have ns := num_step t i (by omega) (by omega)
   go_wp2_with fail
   refine ⟨⟨i + 1, by omega, rfl, rfl, trivial⟩, ?_⟩
   simp [intOf]
   omega
  ·obtain rfl : i = m := by omega
   have tt : t.take i = t := List.take_of_length_le (by omega)
   have b1 : decide (i < i) = false := by simp
   go_wp2_with fail
   go_ret
   rw [tt]
   have hlt2 := lt_of_block Hr1.out
   exact ⟨rfl, (HB1.out.block _ hlt2).trans Hr1.out, ⟨HB1.out.os.trans Hf1.out.os, HB1.out.tape.trans Hf1.out.tape, HB1.out.output.trans Hf1.out.output, Nat.le_trans Hf1.out.size HB1.out.size, fun k hk hn => (HB1.out.block k (Nat.lt_of_lt_of_le hk Hf1.out.size)).trans (Hf1.out.block k hk hn)⟩⟩
end Go.Proofs.YtlkkclooihjpiaaGreat
namespace Go.Proofs.YtlkkclooihjpiaaGreat
open Go.RowKit Go.Maps
set_option maxRecDepth 20000
structure NtSt (w W : World) (l : List UInt8) : Prop where
 res : W.heap[w.heap.size]? = some (.cells #[.int .u8 0, .int .i64 0, .slice none 0 0, .string ⟨#[]⟩] 93 (0, 0))
 left : W.heap[w.heap.size + 1]? = some (.cells #[.string (bs l), .bool true] 131 (0, 0))
 bel : Below w.heap.size w W
theorem nt_num {w W : World} {l : List UInt8} (h : NtSt w W l) (m : Nat) (hm : m ≤ 4) (hn : m ≤ l.length) (hl : l.length ≤ 1000) :
  Calls Tryz.prog 64 #[.pointer (some ⟨w.heap.size + 1, 0, none⟩), .int .i64 (m : Int)] W fun e w' => e = .returned (.int .i64 (num (l.take m))) ∧ NtSt w w' (l.drop m) ∧ (∀ j, j ≠ w.heap.size + 1 → j < W.heap.size → w'.heap[j]? = W.heap[j]?) ∧ W.heap.size ≤ w'.heap.size := by
 refine (rnum_any m hm h.left hn hl).mono ?_
 rintro e w' ⟨rfl, h1, h2⟩
 have hb := h.bel
 exact ⟨rfl, ⟨(h2.block _ (lt_of_block h.res) (by omega)).trans h.res, h1, ⟨h2.os.trans hb.os, h2.tape.trans hb.tape, h2.output.trans hb.output, Nat.le_trans hb.size h2.size, fun j hj => (h2.block j (Nat.lt_of_lt_of_le hj hb.size) (by omega)).trans (hb.block j hj)⟩⟩, fun j hj hl => h2.block j hl hj, h2.size⟩
set_option maxHeartbeats 4000000 in
set_option maxRecDepth 20000 in
theorem ntake_free (f : Int) (h0 : 0 ≤ f) (h1 : f ≤ 256) (w : World) : Calls Tryz.prog 34 #[.string (bs (freePg f))] w fun e w' => e = .returned (.tuple #[.agg (freeCells f), .int .i64 0]) ∧ Below w.heap.size w w' := by
 obtain ⟨s, hs⟩ : ∃ s, s = freePg f := ⟨_, rfl⟩
 have hsl : s.length = 512 := by rw [hs]; rfl
 have b1 : ((s.length : Int) != 512) = false := by simp [hsl]
 have n1 : num (s.take 1) = 4 := by rw [hs]; show num [4] = 4; rw [num_one]; rfl
 have n2 : num ((s.drop 1).take 2) = 0 := by rw [hs]; show num [0, 0] = 0; simp [num]
 have n3 : num (((s.drop 1).drop 2).take 4) = f := by rw [hs]; exact num_four f h0 (by omega)
 have NP := fun W => nput_free f h0 h1 W
 rw [← hs] at NP ⊢
 unfold freeCells at NP ⊢
 replace NP := hid NP
 have N1 := hid n1
 have N2 := hid n2
 have N3 := hid n3
 have Hsl := hid hsl
 clear hs hsl n1 n2 n3 h0 h1
 go_enter Tryz.func34, Tryz.ntmps34
 go_upto_region 5 with fail
 have hst0 : NtSt w ((w.alloc (.cells #[.int .u8 0, .int .i64 0, .slice none 0 0, .string ⟨#[]⟩] 93)).alloc (.cells #[.string (bs s), .bool true] 131)) s := ⟨heap_two_old w _ _, heap_two_new w _ _, ((Below.refl w.heap.size w).alloc (Nat.le_refl _) _).alloc (by simp) _⟩
 obtain ⟨W0, hW0⟩ : ∃ W0, W0 = (w.alloc (.cells #[.int .u8 0, .int .i64 0, .slice none 0 0, .string ⟨#[]⟩] 93)).alloc (.cells #[.string (bs s), .bool true] 131) := ⟨_, rfl⟩
 rw [← hW0] at hst0 ⊢
 have K1 := nt_num hst0 1 (by decide) (by rw [Hsl.out]; decide) (by rw [Hsl.out]; decide)
 rw [N1.out] at K1
 replace K1 := hid K1
 clear hW0 hst0
 go_upto_region 6 with (first
  | (go_at_call 64; refine (K1.out).mono ?_; rintro e w1 ⟨rfl, ht, hk, hz⟩; have T1 := hid ht; clear ht hk hz K1)
  | go_in)
 have hn6 := heap_alloc_new w1 (.cells #[.int .u8 4, .int .i64 0, .slice none 0 0, .string ⟨#[]⟩] 93)
 have hlt6 : w.heap.size + 1 < w1.heap.size := lt_of_block T1.out.left
 have ht6 : NtSt w (w1.alloc (.cells #[.int .u8 4, .int .i64 0, .slice none 0 0, .string ⟨#[]⟩] 93)) (s.drop 1) := ⟨heap_alloc_old T1.out.res, heap_alloc_old T1.out.left, T1.out.bel.alloc T1.out.bel.size _⟩
 obtain ⟨w6, hw6⟩ : ∃ w6, w6 = w1.alloc (.cells #[.int .u8 4, .int .i64 0, .slice none 0 0, .string ⟨#[]⟩] 93) := ⟨_, rfl⟩
 obtain ⟨b6, hb6⟩ : ∃ b6, b6 = w1.heap.size := ⟨_, rfl⟩
 rw [← hw6] at hn6 ht6 ⊢
 rw [← hb6] at hn6 hlt6 ⊢
 have K2 := nt_num ht6 2 (by decide) (by rw [List.length_drop, Hsl.out]; decide) (by rw [List.length_drop, Hsl.out]; decide)
 rw [N2.out] at K2
 replace K2 := hid K2
 have Hn6 := hid hn6
 have Hlt6 := hid hlt6
 clear hw6 hb6 T1 hlt6 hn6 ht6
 go_upto_region 7 with (first
  | (go_at_call 64; refine (K2.out).mono ?_; rintro e w7 ⟨rfl, ht, hk, hz⟩; have T7 := hid ht; have hn7 := (hk b6 (by have := Hlt6.out; omega) (lt_of_block Hn6.out)).trans Hn6.out; obtain ⟨c0, c1, c2, c3⟩ := cells4' hn7; have Hn7 := hid hn7; have K3 := hid (nt_num ht 4 (by decide) (by rw [List.length_drop, List.length_drop, Hsl.out]; decide) (by rw [List.length_drop, List.length_drop, Hsl.out]; decide)); clear ht hk hz hn7 K2)
  | go_in)
 have K3 := K3.out
 rw [N3.out] at K3
 replace K3 := hid K3
 go_upto_region 9 with (first
  | (go_at_call 64; refine (K3.out).mono ?_; rintro e w8 ⟨rfl, ht, hk, hz⟩; have T8 := hid ht; have hn8 := (hk b6 (by have := Hlt6.out; omega) (lt_of_block Hn7.out)).trans Hn7.out; have f8 := free_of_block hn8 1; have Hn8 := hid hn8; clear c0 c1 c2 c3; obtain ⟨c0, c1, c2, c3⟩ := cells4' hn8; clear ht hk hz hn8 K3)
  | go_in)
 clear c0 c1 c2 c3 f8
 have hn9 : (w8.setCell ⟨b6, 1, none⟩ (.int .i64 f)).heap[b6]? = some (.cells #[.int .u8 4, .int .i64 f, .slice none 0 0, .string ⟨#[]⟩] 93 (0, 0)) := (heap_setCell_same Hn8.out 1 (.int .i64 f)).trans rfl
 have hb9 : Below w.heap.size w (w8.setCell ⟨b6, 1, none⟩ (.int .i64 f)) := T8.out.bel.setCell (by show w.heap.size ≤ b6; have := Hlt6.out; omega) _
 have hz9 := (Below.heap_setCell w8 ⟨b6, 1, none⟩ (.int .i64 f) w.heap.size (by show w.heap.size ≠ b6; have := Hlt6.out; omega)).trans T8.out.res
 obtain ⟨w9, hw9⟩ : ∃ w9, w9 = w8.setCell ⟨b6, 1, none⟩ (.int .i64 f) := ⟨_, rfl⟩
 rw [← hw9] at hn9 hb9 hz9 ⊢
 obtain ⟨c0, c1, c2, c3⟩ := cells4' hn9
 have Hn9 := hid hn9
 have Hz9 := hid hz9
 have HB9 := hid hb9
 clear hw9 hn9 hb9 hz9 T8 Hn8
 go_wp2_with (first
  | (go_at_call 35; refine (NP.out _).mono ?_; rintro e w10 ⟨rfl, hb⟩; have HB10 := hid (HB9.out.trans (hb.mono HB9.out.size)); have hn10 := (hb.block _ (lt_of_block Hn9.out)).trans Hn9.out; have hz10 := (hb.block _ (lt_of_block Hz9.out)).trans Hz9.out; clear c0 c1 c2 c3; obtain ⟨c0, c1, c2, c3⟩ := cells4' hn10; obtain ⟨z0, z1, z2, z3⟩ := cells4' hz10; have g0 := free_of_block hz10 0; have g1 := free_of_block hz10 1; have g2 := free_of_block hz10 2; have g3 := free_of_block hz10 3; clear hb hn10 hz10 NP)
  | go_in)
 refine bodyPost_ret (v := .tuple #[.agg #[.int .u8 4, .int .i64 f, .slice none 0 0, .string ⟨#[]⟩], .int .i64 0]) (by simp [results, Tryz.results34, go_sem, z0, z1, z2, z3, g0, g1, g2, g3]) rfl ⟨rfl, ?_⟩
 iterate 4 refine Below.setCell ?_ (by simp) _
 exact HB10.out
end Go.Proofs.YtlkkclooihjpiaaGreat
