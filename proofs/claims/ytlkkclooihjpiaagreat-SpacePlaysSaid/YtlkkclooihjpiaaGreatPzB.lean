/- SpacePlays: the document's calls walked. -/
import Derived.Test.YtlkkclooihjpiaaGreatPzA
set_option linter.unusedVariables false
set_option linter.unusedSimpArgs false
namespace Go.Proofs.YtlkkclooihjpiaaGreat
open Go.RowKit Go.Maps
set_option maxRecDepth 20000
section
variable {W W' : World} {base wb : Nat} {m m' : RWd} {fs fn sv : Value} {l : List (RSt × Value)} {B : Nat → Prop} {s : RSt} {fv : Value}
theorem row_neT {w : World} {base M n size : Nat} {e T : TypeId} {v : Value} {xs : List Value} {cs : Array Value} {fr : Nat × Nat} (h : w.ownsRow base e size v n xs) (hM : w.heap[M]? = some (.cells cs T fr)) (hT : T ≠ e) {k : Nat} (hk : v.ownBlock = some k) : k ≠ M := by
 intro ho
 rw [ho] at hk
 rcases h.2 with ⟨rfl, -⟩ | ⟨g, cap, cur, rfl, -, hg, -⟩
 ·cases hk
 ·have e : g = M := by injection hk
  rw [e, hM] at hg
  injection hg with hg
  injection hg with h1 h2 h3
  exact hT h2
theorem WdAt.rows (h : WdAt W base wb m fs fn sv l) (hf : ∀ k, k < W.heap.size → k ≠ wb → W'.heap[k]? = W.heap[k]?) : IRow W' base fs m.sure.free ∧ IRow W' base fn m.now.free ∧ W'.ownsRow base 53 11 sv l.length (savesC l) ∧ ∀ x ∈ l, IRow W' base x.2 x.1.free :=
 ⟨row_keep h.rs (fun k hk => hf k (row_base h.rs hk).2 (row_neT h.rs h.blk (by decide) hk)), row_keep h.rn (fun k hk => hf k (row_base h.rn hk).2 (row_neT h.rn h.blk (by decide) hk)), row_keep h.rv (fun k hk => hf k (row_base h.rv hk).2 (row_neT h.rv h.blk (by decide) hk)),
  fun x hx => row_keep (h.lf x hx) (fun k hk => hf k (row_base (h.lf x hx) hk).2 (row_neT (h.lf x hx) h.blk (by decide) hk))⟩
theorem WdAt.shapes (h : WdAt W base wb m fs fn sv l) : ∃ ao1 cap1 ao2 cap2 ao3 cap3, fs = .slice ao1 m.sure.free.length cap1 ∧ fn = .slice ao2 m.now.free.length cap2 ∧ sv = .slice ao3 l.length cap3 := by
 obtain ⟨ao1, cap1, e1, -⟩ := h.rs.shape
 obtain ⟨ao2, cap2, e2, -⟩ := h.rn.shape
 rcases row_form h.rv with ⟨e3, h0⟩ | ⟨g, cap3, e3⟩
 ·exact ⟨ao1, cap1, ao2, cap2, none, 0, e1, e2, by rw [e3, h0]⟩
 ·exact ⟨ao1, cap1, ao2, cap2, _, cap3, e1, e2, e3⟩
theorem WdX.did (h : WdX W base wb m B) : WdDid W W base wb m B := by
 obtain ⟨fs, fn, sv, l, h1, h2⟩ := h
 exact ⟨⟨fs, fn, sv, l, h1, fun k hk => .inl (h2 k hk)⟩, Frm.refl _ _⟩
theorem wd_now {W2 : World} {fn' sv' : Value} {l' : List (RSt × Value)} (hA : WdAt W base wb m fs fn sv l) (hB : ∀ k, WdB wb fs fn sv l k → B k) (hf : Frm (fun k => k = wb) W W2) (hrow : IRow W2 base fn' m'.now.free) (hnew : ∀ k, fn'.ownBlock = some k → W.heap.size ≤ k)
  (hblk2 : W2.heap[wb]? = some (.cells (rwdCells m' fs fn' sv').toArray 56 (0, 0))) (hs : m'.sure = m.sure) (hl2 : m'.now.roots.length = 8) (hsv : W2.ownsRow base 53 11 sv' l'.length (savesC l')) (hls : l'.map (·.1) = m'.saves) (hsub : ∀ x ∈ l', x ∈ l) (hob : ∀ k, sv'.ownBlock = some k → sv.ownBlock = some k) : WdDid W W2 base wb m' B := by
 have hw : B wb := hB wb (.inl rfl)
 obtain ⟨q1, -, -, q4⟩ := hA.rows (fun k hk hne => hf.block k hk hne)
 refine ⟨⟨fs, fn', sv', l', ⟨hblk2, hA.ge, by rw [hs]; exact hA.l1, hl2, fun x hx => hA.l3 x (hsub x hx), by rw [hs]; exact q1, hrow, hsv, hls, fun x hx => q4 x (hsub x hx), fun _ k hk => ⟨fun e => ?_, fun x hx e => ?_⟩⟩, fun k hk => ?_⟩, hf.mono (fun k e => by rw [e]; exact hw)⟩
 ·have h1 := hnew k hk
  have h2 := (row_base hA.rs e).2
  omega
 ·have h1 := hnew k hk
  have h2 := (row_base (hA.lf x (hsub x hx)) e).2
  omega
 ·rcases hk with e | e | e | e | ⟨x, hx, e⟩
  ·exact .inl (e ▸ hw)
  ·exact .inl (hB k (.inr (.inl e)))
  ·exact .inr ⟨hnew k e, (row_base hrow e).2⟩
  ·exact .inl (hB k (.inr (.inr (.inr (.inl (hob k e))))))
  ·exact .inl (hB k (.inr (.inr (.inr (.inr ⟨x, hsub x hx, e⟩)))))
theorem row_cutW {w : World} {base n size cap q : Nat} {e : TypeId} {xs : List Value} (h : w.ownsRow base e size (.slice (some ⟨q, 0, none⟩) n cap) n xs) {k : Nat} (hk : k ≤ n) : w.ownsRow base e size (.slice (some ⟨q, 0, none⟩) k cap) k (xs.take (k * size)) := by
 rcases h.2 with ⟨e, -⟩ | ⟨g, cap', cur, e, hb, hg, h1, h2, h3, h4⟩
 ·cases e
 injection e with e1 e2 e3
 injection e1 with e1
 injection e1 with e1
 subst e1
 subst e3
 have hm : k * size ≤ n * size := Nat.mul_le_mul_right size hk
 refine ⟨by rw [List.length_take, h.1]; omega, .inr ⟨q, cap, cur, rfl, hb, hg, by omega, h2, h3, ?_⟩⟩
 rw [← h4, List.take_take, Nat.min_eq_left hm]
theorem IRow.more {base : Nat} {fv : Value} {xs : List Nat} {n : Nat} {k : Nat} {nn : Int} (h : W.ownsRow base 3 1 fv (n + 1) (intsN xs ++ [.int .i64 nn])) (hk : nn = (k : Int)) (hn : n = xs.length) : IRow W base fv (xs ++ [k]) := by
 unfold IRow
 rw [List.length_append, List.length_singleton, ← hn]
 have e : intsN (xs ++ [k]) = intsN xs ++ [.int .i64 nn] := by rw [hk]; exact List.map_append
 rw [e]
 exact h
theorem row_two {w : World} {b1 b2 n1 n2 s1 s2 : Nat} {e1 e2 : TypeId} {v1 v2 : Value} {xs ys : List Value} (h : w.ownsRow b1 e1 s1 v1 n1 xs) (h' : w.ownsRow b2 e2 s2 v2 n2 ys) (hT : e1 ≠ e2) {k : Nat} (hk : v1.ownBlock = some k) (hk' : v2.ownBlock = some k) : False := by
 rcases h'.2 with ⟨rfl, -⟩ | ⟨g, cap, cur, rfl, -, hg, -⟩
 ·cases hk'
 ·have e : g = k := Option.some.inj hk'
  subst e
  exact row_neT h hg (fun e => hT e.symm) hk rfl
theorem rstCells_length {s : RSt} (v : Value) (h : s.roots.length = 8) : (rstCells s v).length = 11 := by simp [rstCells, h]
theorem savesC_at : ∀ (l : List (RSt × Value)) (j o : Nat) (hj : j < l.length) (ho : o < 11), (∀ x ∈ l, x.1.roots.length = 8) → (savesC l)[j * 11 + o]? = (rstCells l[j].1 l[j].2)[o]?
 | [], j, o, hj, _, _ => by simp at hj
 | x :: r, j, o, hj, ho, h => by
  have hx := rstCells_length x.2 (h x List.mem_cons_self)
  have e : savesC (x :: r) = rstCells x.1 x.2 ++ savesC r := rfl
  cases j with
  | zero =>
   rw [e, List.getElem?_append_left (by omega)]
   simp
  | succ j =>
   rw [e, List.getElem?_append_right (by omega), hx, show (j + 1) * 11 + o - 11 = j * 11 + o by omega]
   exact savesC_at r j o (by simpa using hj) ho (fun y hy => h y (List.mem_cons_of_mem _ hy))
theorem savesC_take : ∀ (l : List (RSt × Value)) (k : Nat), (∀ x ∈ l, x.1.roots.length = 8) → savesC (l.take k) = (savesC l).take (k * 11)
 | [], k, _ => by simp [savesC]
 | x :: r, 0, _ => by simp [savesC]
 | x :: r, k + 1, h => by
  have hx := rstCells_length x.2 (h x List.mem_cons_self)
  have e : savesC (x :: r) = rstCells x.1 x.2 ++ savesC r := rfl
  have e2 : savesC ((x :: r).take (k + 1)) = rstCells x.1 x.2 ++ savesC (r.take k) := rfl
  rw [e2, e, savesC_take r k (fun y hy => h y (List.mem_cons_of_mem _ hy)), List.take_append, hx, List.take_of_length_le (l := rstCells x.1 x.2) (by omega), show (k + 1) * 11 - 11 = k * 11 by omega]
set_option maxHeartbeats 8000000 in
set_option maxRecDepth 20000 in
theorem rroll_any (h : WdX W base wb m B) : Calls Tryz.prog 18 #[.pointer (some ⟨wb, 0, none⟩)] W fun e w' => e = .returned (.int .i64 (rrollM m).1) ∧ WdDid W w' base wb (rrollM m).2 B := by
 have H := hid h.did
 obtain ⟨fs, fn, sv, l, hA, hB⟩ := h
 obtain ⟨ao1, cap1, ao2, cap2, ao3, cap3, rfl, rfl, rfl⟩ := hA.shapes
 obtain ⟨⟨P1, F1, K1, R1⟩, inn, ⟨P2, F2, K2, R2⟩, S⟩ := m
 obtain ⟨a0, a1, a2, a3, a4, a5, a6, a7, rfl⟩ := roots8 hA.l1
 obtain ⟨b0, b1, b2, b3, b4, b5, b6, b7, rfl⟩ := roots8 hA.l2
 dsimp only at hA hB
 obtain ⟨n1, hn1⟩ : ∃ n1, n1 = F1.length := ⟨_, rfl⟩
 obtain ⟨n2, hn2⟩ : ∃ n2, n2 = F2.length := ⟨_, rfl⟩
 obtain ⟨n3, hn3⟩ : ∃ n3, n3 = l.length := ⟨_, rfl⟩
 rw [← hn1, ← hn2, ← hn3] at hA hB
 have hN1 := hid hn1
 have hN2 := hid hn2
 have hN3 := hid hn3
 have hblk : W.heap[wb]? = some (.cells #[.int .i64 P1, .slice ao1 n1 cap1, .int .u64 K1, .int .i64 a0, .int .i64 a1, .int .i64 a2, .int .i64 a3, .int .i64 a4, .int .i64 a5, .int .i64 a6, .int .i64 a7, .bool inn, .int .i64 P2, .slice ao2 n2 cap2, .int .u64 K2, .int .i64 b0, .int .i64 b1, .int .i64 b2, .int .i64 b3, .int .i64 b4, .int .i64 b5, .int .i64 b6, .int .i64 b7, .slice ao3 n3 cap3] 56 (0, 0)) := hA.blk
 obtain ⟨x0, x1, x2, x3, x4, x5, x6, x7, x8, x9, x10, x11, x12, x13, x14, x15, x16, x17, x18, x19, x20, x21, x22, x23, xf⟩ := cells24w hblk
 have Hwl := hid (lt_of_block hblk)
 have HA := hid hA
 have HB := hid hB
 have Hblk := hid hblk
 unfold rrollM
 dsimp only
 clear hA hB hblk hn1 hn2 hn3
 cases inn
 ·rw [if_pos rfl]
  go_enter Tryz.func18, Tryz.ntmps18
  go_wp2_with fail
  go_ret
  exact ⟨rfl, H.out⟩
 ·rw [if_neg (by simp)]
  go_enter Tryz.func18, Tryz.ntmps18
  go_wp2_with fail
  go_ret
  have hw : B wb := HB.out wb (.inl rfl)
  have hf := (((Frm.refl (fun k => k = wb) W).setCell (p := ⟨wb, 11, none⟩) (.inl rfl) (.bool false)).setCell (p := ⟨wb, 23, none⟩) (.inl rfl) (.slice none 0 0))
  obtain ⟨q1, q2, -, -⟩ := HA.out.rows (fun k hk hne => hf.block k hk hne)
  refine ⟨rfl, ⟨_, _, .slice none 0 0, [], ⟨?_, HA.out.ge, HA.out.l1, HA.out.l2, (fun x hx => by cases hx), q1, q2, World.ownsRow_nil _ _ _ _, rfl, (fun x hx => by cases hx), (fun e => by cases e)⟩, fun k hk => ?_⟩, hf.mono (fun k e => by rw [e]; exact hw)⟩
  ·exact (heap_setCell_same (heap_setCell_same Hblk.out 11 (.bool false)) 23 (.slice none 0 0)).trans rfl
  ·rcases hk with e | e | e | e | ⟨x, hx, e⟩
   ·exact .inl (e ▸ hw)
   ·exact .inl (HB.out k (.inr (.inl e)))
   ·exact .inl (HB.out k (.inr (.inr (.inl e))))
   ·cases e
   ·cases hx
set_option maxHeartbeats 8000000 in
set_option maxRecDepth 20000 in
theorem rcommit_any (h : WdX W base wb m B) : Calls Tryz.prog 42 #[.pointer (some ⟨wb, 0, none⟩)] W fun e w' => e = .returned (.int .i64 (rcommitM m).1) ∧ WdDid W w' base wb (rcommitM m).2 B := by
 have H := hid h.did
 obtain ⟨fs, fn, sv, l, hA, hB⟩ := h
 obtain ⟨ao1, cap1, ao2, cap2, ao3, cap3, rfl, rfl, rfl⟩ := hA.shapes
 obtain ⟨⟨P1, F1, K1, R1⟩, inn, ⟨P2, F2, K2, R2⟩, S⟩ := m
 obtain ⟨a0, a1, a2, a3, a4, a5, a6, a7, rfl⟩ := roots8 hA.l1
 obtain ⟨b0, b1, b2, b3, b4, b5, b6, b7, rfl⟩ := roots8 hA.l2
 dsimp only at hA hB
 obtain ⟨n1, hn1⟩ : ∃ n1, n1 = F1.length := ⟨_, rfl⟩
 obtain ⟨n2, hn2⟩ : ∃ n2, n2 = F2.length := ⟨_, rfl⟩
 obtain ⟨n3, hn3⟩ : ∃ n3, n3 = l.length := ⟨_, rfl⟩
 rw [← hn1, ← hn2, ← hn3] at hA hB
 have hN1 := hid hn1
 have hN2 := hid hn2
 have hN3 := hid hn3
 have hblk : W.heap[wb]? = some (.cells #[.int .i64 P1, .slice ao1 n1 cap1, .int .u64 K1, .int .i64 a0, .int .i64 a1, .int .i64 a2, .int .i64 a3, .int .i64 a4, .int .i64 a5, .int .i64 a6, .int .i64 a7, .bool inn, .int .i64 P2, .slice ao2 n2 cap2, .int .u64 K2, .int .i64 b0, .int .i64 b1, .int .i64 b2, .int .i64 b3, .int .i64 b4, .int .i64 b5, .int .i64 b6, .int .i64 b7, .slice ao3 n3 cap3] 56 (0, 0)) := hA.blk
 obtain ⟨x0, x1, x2, x3, x4, x5, x6, x7, x8, x9, x10, x11, x12, x13, x14, x15, x16, x17, x18, x19, x20, x21, x22, x23, xf⟩ := cells24w hblk
 have Hwl := hid (lt_of_block hblk)
 have HA := hid hA
 have HB := hid hB
 have Hblk := hid hblk
 unfold rcommitM bumpSt
 dsimp only
 clear hA hB hblk hn1 hn2 hn3
 cases inn
 ·rw [if_pos rfl]
  go_enter Tryz.func42, Tryz.ntmps42
  go_wp2_with fail
  go_ret
  exact ⟨rfl, H.out⟩
 ·obtain ⟨K3, hK3⟩ : ∃ K3, K3 = IntKind.u64.wrap (K2 + 1) := ⟨_, rfl⟩
  have HK := hid hK3
  have hK4 := hK3.symm
  clear hK3
  rw [if_neg (by simp)]
  go_enter Tryz.func42, Tryz.ntmps42
  go_wp2_with fail
  go_ret
  have hw : B wb := HB.out wb (.inl rfl)
  have hf := (((((((((((((((Frm.refl (fun k => k = wb) W).setCell (p := ⟨wb, 14, none⟩) (.inl rfl) (.int .u64 K3)).setCell (p := ⟨wb, 0, none⟩) (.inl rfl) (.int .i64 P2)).setCell (p := ⟨wb, 1, none⟩) (.inl rfl) (.slice ao2 n2 cap2)).setCell (p := ⟨wb, 2, none⟩) (.inl rfl) (.int .u64 K3)).setCell (p := ⟨wb, 3, none⟩) (.inl rfl) (.int .i64 b0)).setCell (p := ⟨wb, 4, none⟩) (.inl rfl) (.int .i64 b1)).setCell (p := ⟨wb, 5, none⟩) (.inl rfl) (.int .i64 b2)).setCell (p := ⟨wb, 6, none⟩) (.inl rfl) (.int .i64 b3)).setCell (p := ⟨wb, 7, none⟩) (.inl rfl) (.int .i64 b4)).setCell (p := ⟨wb, 8, none⟩) (.inl rfl) (.int .i64 b5)).setCell (p := ⟨wb, 9, none⟩) (.inl rfl) (.int .i64 b6)).setCell (p := ⟨wb, 10, none⟩) (.inl rfl) (.int .i64 b7)).setCell (p := ⟨wb, 11, none⟩) (.inl rfl) (.bool false)).setCell (p := ⟨wb, 23, none⟩) (.inl rfl) (.slice none 0 0))
  obtain ⟨-, q2, -, -⟩ := HA.out.rows (fun k hk hne => hf.block k hk hne)
  refine ⟨rfl, ⟨.slice ao2 n2 cap2, .slice ao2 n2 cap2, .slice none 0 0, [], ⟨?_, HA.out.ge, rfl, rfl, (fun x hx => by cases hx), q2, q2, World.ownsRow_nil _ _ _ _, rfl, (fun x hx => by cases hx), (fun e => by cases e)⟩, fun k hk => ?_⟩, hf.mono (fun k e => by rw [e]; exact hw)⟩
  ·rw [(heap_setCell_same (heap_setCell_same (heap_setCell_same (heap_setCell_same (heap_setCell_same (heap_setCell_same (heap_setCell_same (heap_setCell_same (heap_setCell_same (heap_setCell_same (heap_setCell_same (heap_setCell_same (heap_setCell_same (heap_setCell_same Hblk.out 14 (.int .u64 K3)) 0 (.int .i64 P2)) 1 (.slice ao2 n2 cap2)) 2 (.int .u64 K3)) 3 (.int .i64 b0)) 4 (.int .i64 b1)) 5 (.int .i64 b2)) 6 (.int .i64 b3)) 7 (.int .i64 b4)) 8 (.int .i64 b5)) 9 (.int .i64 b6)) 10 (.int .i64 b7)) 11 (.bool false)) 23 (.slice none 0 0))]
   simp only [List.setIfInBounds_toArray, List.set_cons_zero, List.set_cons_succ]
   try rw [← HK.out]
   rfl
  ·rcases hk with e | e | e | e | ⟨x, hx, e⟩
   ·exact .inl (e ▸ hw)
   ·exact .inl (HB.out k (.inr (.inr (.inl e))))
   ·exact .inl (HB.out k (.inr (.inr (.inl e))))
   ·cases e
   ·cases hx
set_option maxHeartbeats 8000000 in
set_option maxRecDepth 20000 in
theorem rstate_any (h : WdX W base wb m B) (hlt : ∀ k, B k → k < W.heap.size) : Calls Tryz.prog 21 #[.pointer (some ⟨wb, 0, none⟩)] W fun e w' => ∃ fv, e = .returned (rstV m.st fv) ∧ IRow w' base fv m.st.free ∧ m.st.roots.length = 8 ∧ Below W.heap.size W w' := by
 have H := hid h.did
 obtain ⟨fs, fn, sv, l, hA, hB⟩ := h
 obtain ⟨ao1, cap1, ao2, cap2, ao3, cap3, rfl, rfl, rfl⟩ := hA.shapes
 obtain ⟨⟨P1, F1, K1, R1⟩, inn, ⟨P2, F2, K2, R2⟩, S⟩ := m
 obtain ⟨a0, a1, a2, a3, a4, a5, a6, a7, rfl⟩ := roots8 hA.l1
 obtain ⟨b0, b1, b2, b3, b4, b5, b6, b7, rfl⟩ := roots8 hA.l2
 dsimp only at hA hB
 obtain ⟨n1, hn1⟩ : ∃ n1, n1 = F1.length := ⟨_, rfl⟩
 obtain ⟨n2, hn2⟩ : ∃ n2, n2 = F2.length := ⟨_, rfl⟩
 obtain ⟨n3, hn3⟩ : ∃ n3, n3 = l.length := ⟨_, rfl⟩
 rw [← hn1, ← hn2, ← hn3] at hA hB
 have hN1 := hid hn1
 have hN2 := hid hn2
 have hN3 := hid hn3
 have hblk : W.heap[wb]? = some (.cells #[.int .i64 P1, .slice ao1 n1 cap1, .int .u64 K1, .int .i64 a0, .int .i64 a1, .int .i64 a2, .int .i64 a3, .int .i64 a4, .int .i64 a5, .int .i64 a6, .int .i64 a7, .bool inn, .int .i64 P2, .slice ao2 n2 cap2, .int .u64 K2, .int .i64 b0, .int .i64 b1, .int .i64 b2, .int .i64 b3, .int .i64 b4, .int .i64 b5, .int .i64 b6, .int .i64 b7, .slice ao3 n3 cap3] 56 (0, 0)) := hA.blk
 obtain ⟨x0, x1, x2, x3, x4, x5, x6, x7, x8, x9, x10, x11, x12, x13, x14, x15, x16, x17, x18, x19, x20, x21, x22, x23, xf⟩ := cells24w hblk
 have Hwl := hid (lt_of_block hblk)
 have HA := hid hA
 have HB := hid hB
 have Hblk := hid hblk
 unfold RWd.st
 dsimp only
 clear hA hB hblk hn1 hn2 hn3
 cases inn
 ·rw [if_neg (by simp)]
  have hwl := Hwl.out
  go_enter Tryz.func21, Tryz.ntmps21
  go_wp2_with fail
  have hne := heap_alloc_new W (.cells #[.int .i64 P1, .slice ao1 n1 cap1, .int .u64 K1, .int .i64 a0, .int .i64 a1, .int .i64 a2, .int .i64 a3, .int .i64 a4, .int .i64 a5, .int .i64 a6, .int .i64 a7] 53)
  obtain ⟨y0, y1, y2, y3, y4, y5, y6, y7, y8, y9, y10, yf⟩ := cells11w hne
  refine bodyPost_ret (v := .agg #[.int .i64 P1, .slice ao1 n1 cap1, .int .u64 K1, .int .i64 a0, .int .i64 a1, .int .i64 a2, .int .i64 a3, .int .i64 a4, .int .i64 a5, .int .i64 a6, .int .i64 a7]) (by simp [results, Tryz.results21, go_sem, y0, y1, y2, y3, y4, y5, y6, y7, y8, y9, y10, yf]) rfl ?_
  have hb : Below W.heap.size W (W.alloc (.cells #[.int .i64 P1, .slice ao1 n1 cap1, .int .u64 K1, .int .i64 a0, .int .i64 a1, .int .i64 a2, .int .i64 a3, .int .i64 a4, .int .i64 a5, .int .i64 a6, .int .i64 a7] 53)) := (Below.refl _ W).alloc (Nat.le_refl _) _
  exact ⟨_, rfl, row_keep HA.out.rs (fun k hk => hb.block k (row_base HA.out.rs hk).2), trivial, hb⟩
 ·rw [if_pos rfl]
  have hwl := Hwl.out
  go_enter Tryz.func21, Tryz.ntmps21
  go_wp2_with fail
  have hne := heap_alloc_new W (.cells #[.int .i64 P2, .slice ao2 n2 cap2, .int .u64 K2, .int .i64 b0, .int .i64 b1, .int .i64 b2, .int .i64 b3, .int .i64 b4, .int .i64 b5, .int .i64 b6, .int .i64 b7] 53)
  obtain ⟨y0, y1, y2, y3, y4, y5, y6, y7, y8, y9, y10, yf⟩ := cells11w hne
  refine bodyPost_ret (v := .agg #[.int .i64 P2, .slice ao2 n2 cap2, .int .u64 K2, .int .i64 b0, .int .i64 b1, .int .i64 b2, .int .i64 b3, .int .i64 b4, .int .i64 b5, .int .i64 b6, .int .i64 b7]) (by simp [results, Tryz.results21, go_sem, y0, y1, y2, y3, y4, y5, y6, y7, y8, y9, y10, yf]) rfl ?_
  have hb : Below W.heap.size W (W.alloc (.cells #[.int .i64 P2, .slice ao2 n2 cap2, .int .u64 K2, .int .i64 b0, .int .i64 b1, .int .i64 b2, .int .i64 b3, .int .i64 b4, .int .i64 b5, .int .i64 b6, .int .i64 b7] 53)) := (Below.refl _ W).alloc (Nat.le_refl _) _
  exact ⟨_, rfl, row_keep HA.out.rn (fun k hk => hb.block k (row_base HA.out.rn hk).2), trivial, hb⟩
set_option maxHeartbeats 8000000 in
set_option maxRecDepth 20000 in
theorem rbegin_any (h : WdX W base wb m B) (hlt : ∀ k, B k → k < W.heap.size) (hl : m.sure.free.length ≤ 900) (hbase : base ≤ W.heap.size) : Calls Tryz.prog 38 #[.pointer (some ⟨wb, 0, none⟩)] W fun e w' => e = .returned (.int .i64 (rbeginM m).1) ∧ WdDid W w' base wb (rbeginM m).2 B := by
 have H := hid h.did
 obtain ⟨fs, fn, sv, l, hA, hB⟩ := h
 obtain ⟨ao1, cap1, ao2, cap2, ao3, cap3, rfl, rfl, rfl⟩ := hA.shapes
 obtain ⟨⟨P1, F1, K1, R1⟩, inn, ⟨P2, F2, K2, R2⟩, S⟩ := m
 obtain ⟨a0, a1, a2, a3, a4, a5, a6, a7, rfl⟩ := roots8 hA.l1
 obtain ⟨b0, b1, b2, b3, b4, b5, b6, b7, rfl⟩ := roots8 hA.l2
 dsimp only at hA hB
 obtain ⟨n1, hn1⟩ : ∃ n1, n1 = F1.length := ⟨_, rfl⟩
 obtain ⟨n2, hn2⟩ : ∃ n2, n2 = F2.length := ⟨_, rfl⟩
 obtain ⟨n3, hn3⟩ : ∃ n3, n3 = l.length := ⟨_, rfl⟩
 rw [← hn1, ← hn2, ← hn3] at hA hB
 have hN1 := hid hn1
 have hN2 := hid hn2
 have hN3 := hid hn3
 have hblk : W.heap[wb]? = some (.cells #[.int .i64 P1, .slice ao1 n1 cap1, .int .u64 K1, .int .i64 a0, .int .i64 a1, .int .i64 a2, .int .i64 a3, .int .i64 a4, .int .i64 a5, .int .i64 a6, .int .i64 a7, .bool inn, .int .i64 P2, .slice ao2 n2 cap2, .int .u64 K2, .int .i64 b0, .int .i64 b1, .int .i64 b2, .int .i64 b3, .int .i64 b4, .int .i64 b5, .int .i64 b6, .int .i64 b7, .slice ao3 n3 cap3] 56 (0, 0)) := hA.blk
 obtain ⟨x0, x1, x2, x3, x4, x5, x6, x7, x8, x9, x10, x11, x12, x13, x14, x15, x16, x17, x18, x19, x20, x21, x22, x23, xf⟩ := cells24w hblk
 have Hwl := hid (lt_of_block hblk)
 have HA := hid hA
 have HB := hid hB
 have Hblk := hid hblk
 unfold rbeginM
 dsimp only
 clear hA hB hblk hn1 hn2 hn3
 cases inn
 ·rw [if_neg (by simp)]
  have hkeep := fun (w1 : World) (hb : ∀ k, k ≠ wb → w1.heap[k]? = W.heap[k]?) => (row_keep HA.out.rs (fun k hk => hb k (row_neT HA.out.rs Hblk.out (by decide) hk)) : IRow w1 base (.slice ao1 n1 cap1) F1)
  have CP := fun (w1 : World) (hb : ∀ k, k ≠ wb → w1.heap[k]? = W.heap[k]?) (hbs : base ≤ w1.heap.size) => rcopied_any (s := ⟨P1, F1, K1, [a0, a1, a2, a3, a4, a5, a6, a7]⟩) (hkeep w1 hb) rfl hl hbs
  unfold rstV rstCells at CP
  simp only [List.map_cons, List.map_nil] at CP
  have CP := hid CP
  have HBs := hid hbase
  clear hkeep hl hbase
  by_cases hp0 : P1 = 0
  ·subst hp0
   go_enter Tryz.func38, Tryz.ntmps38
   go_wp2_with (first
    | (go_at_call 68; refine (CP.out _ (fun k hk => Below.heap_setCell W ⟨wb, 11, none⟩ (.bool true) k hk) (by simpa using HBs.out)).mono ?_; rintro e w1 ⟨fv, rfl, hrow, hb1⟩; obtain ⟨ao4, cap4, rfl, -⟩ := hrow.shape; rw [← hN1.out] at hrow ⊢; have Hrow := hid hrow; have HB1 := hid hb1; clear hrow hb1; obtain ⟨x0, x1, x2, x3, x4, x5, x6, x7, x8, x9, x10, x11, x12, x13, x14, x15, x16, x17, x18, x19, x20, x21, x22, x23, xf⟩ := cells24w (((HB1.out.block wb (by simpa using Hwl.out)).trans (heap_setCell_same Hblk.out 11 (.bool true))).trans rfl))
    | go_in)
   go_ret
   have hf1 := ((Frm.refl (fun k => k = wb) W).setCell (p := ⟨wb, 11, none⟩) (.inl rfl) (.bool true)).trans (Frm.of_below HB1.out)
   have hwl2 : wb < (W.setCell ⟨wb, 11, none⟩ (.bool true)).heap.size := by simpa using Hwl.out
   have hblk1 := (HB1.out.block wb hwl2).trans (heap_setCell_same Hblk.out 11 (.bool true))
   have hf := ((((((((((((hf1.setCell (p := ⟨wb, 12, none⟩) (.inl rfl) (.int .i64 0)).setCell (p := ⟨wb, 13, none⟩) (.inl rfl) (.slice ao4 n1 cap4)).setCell (p := ⟨wb, 14, none⟩) (.inl rfl) (.int .u64 K1)).setCell (p := ⟨wb, 15, none⟩) (.inl rfl) (.int .i64 a0)).setCell (p := ⟨wb, 16, none⟩) (.inl rfl) (.int .i64 a1)).setCell (p := ⟨wb, 17, none⟩) (.inl rfl) (.int .i64 a2)).setCell (p := ⟨wb, 18, none⟩) (.inl rfl) (.int .i64 a3)).setCell (p := ⟨wb, 19, none⟩) (.inl rfl) (.int .i64 a4)).setCell (p := ⟨wb, 20, none⟩) (.inl rfl) (.int .i64 a5)).setCell (p := ⟨wb, 21, none⟩) (.inl rfl) (.int .i64 a6)).setCell (p := ⟨wb, 22, none⟩) (.inl rfl) (.int .i64 a7)).setCell (p := ⟨wb, 12, none⟩) (.inl rfl) (.int .i64 1))
   have hnew : ∀ k, (Value.slice ao4 n1 cap4).ownBlock = some k → W.heap.size ≤ k ∧ k < w1.heap.size := fun k hk => by
    have := row_base Hrow.out hk
    simpa using this
   refine ⟨rfl, wd_now (l' := l) HA.out HB.out hf ?_ (fun k hk => (hnew k hk).1) ?_ rfl rfl ?_ HA.out.ls (fun x hx => hx) (fun k hk => hk)⟩
   ·have hr : IRow w1 base (.slice ao4 n1 cap4) F1 := row_low Hrow.out (by simpa using HBs.out)
    exact row_keep hr (fun k hk => (show Frm (fun k => k = wb) w1 _ from (((((((((((((Frm.refl (fun k => k = wb) w1).setCell (p := ⟨wb, 12, none⟩) (.inl rfl) (.int .i64 0)).setCell (p := ⟨wb, 13, none⟩) (.inl rfl) (.slice ao4 n1 cap4)).setCell (p := ⟨wb, 14, none⟩) (.inl rfl) (.int .u64 K1)).setCell (p := ⟨wb, 15, none⟩) (.inl rfl) (.int .i64 a0)).setCell (p := ⟨wb, 16, none⟩) (.inl rfl) (.int .i64 a1)).setCell (p := ⟨wb, 17, none⟩) (.inl rfl) (.int .i64 a2)).setCell (p := ⟨wb, 18, none⟩) (.inl rfl) (.int .i64 a3)).setCell (p := ⟨wb, 19, none⟩) (.inl rfl) (.int .i64 a4)).setCell (p := ⟨wb, 20, none⟩) (.inl rfl) (.int .i64 a5)).setCell (p := ⟨wb, 21, none⟩) (.inl rfl) (.int .i64 a6)).setCell (p := ⟨wb, 22, none⟩) (.inl rfl) (.int .i64 a7)).setCell (p := ⟨wb, 12, none⟩) (.inl rfl) (.int .i64 1))).block k (hnew k hk).2 (by have h1 := (hnew k hk).1; have h2 := Hwl.out; omega))
   ·rw [(heap_setCell_same (heap_setCell_same (heap_setCell_same (heap_setCell_same (heap_setCell_same (heap_setCell_same (heap_setCell_same (heap_setCell_same (heap_setCell_same (heap_setCell_same (heap_setCell_same (heap_setCell_same hblk1 12 (.int .i64 0)) 13 (.slice ao4 n1 cap4)) 14 (.int .u64 K1)) 15 (.int .i64 a0)) 16 (.int .i64 a1)) 17 (.int .i64 a2)) 18 (.int .i64 a3)) 19 (.int .i64 a4)) 20 (.int .i64 a5)) 21 (.int .i64 a6)) 22 (.int .i64 a7)) 12 (.int .i64 1))]
    simp only [List.setIfInBounds_toArray, List.set_cons_zero, List.set_cons_succ]
    rfl
   ·exact (HA.out.rows (fun k hk hne => hf.block k hk hne)).2.2.1
  ·have bp : (P1 == 0) = false := by simp [hp0]
   have HP0 := hid hp0
   clear hp0
   go_enter Tryz.func38, Tryz.ntmps38
   go_wp2_with (first
    | (go_at_call 68; refine (CP.out _ (fun k hk => Below.heap_setCell W ⟨wb, 11, none⟩ (.bool true) k hk) (by simpa using HBs.out)).mono ?_; rintro e w1 ⟨fv, rfl, hrow, hb1⟩; obtain ⟨ao4, cap4, rfl, -⟩ := hrow.shape; rw [← hN1.out] at hrow ⊢; have Hrow := hid hrow; have HB1 := hid hb1; clear hrow hb1; obtain ⟨x0, x1, x2, x3, x4, x5, x6, x7, x8, x9, x10, x11, x12, x13, x14, x15, x16, x17, x18, x19, x20, x21, x22, x23, xf⟩ := cells24w (((HB1.out.block wb (by simpa using Hwl.out)).trans (heap_setCell_same Hblk.out 11 (.bool true))).trans rfl))
    | go_in)
   go_ret
   have hf1 := ((Frm.refl (fun k => k = wb) W).setCell (p := ⟨wb, 11, none⟩) (.inl rfl) (.bool true)).trans (Frm.of_below HB1.out)
   have hwl2 : wb < (W.setCell ⟨wb, 11, none⟩ (.bool true)).heap.size := by simpa using Hwl.out
   have hblk1 := (HB1.out.block wb hwl2).trans (heap_setCell_same Hblk.out 11 (.bool true))
   have hf := (((((((((((hf1.setCell (p := ⟨wb, 12, none⟩) (.inl rfl) (.int .i64 P1)).setCell (p := ⟨wb, 13, none⟩) (.inl rfl) (.slice ao4 n1 cap4)).setCell (p := ⟨wb, 14, none⟩) (.inl rfl) (.int .u64 K1)).setCell (p := ⟨wb, 15, none⟩) (.inl rfl) (.int .i64 a0)).setCell (p := ⟨wb, 16, none⟩) (.inl rfl) (.int .i64 a1)).setCell (p := ⟨wb, 17, none⟩) (.inl rfl) (.int .i64 a2)).setCell (p := ⟨wb, 18, none⟩) (.inl rfl) (.int .i64 a3)).setCell (p := ⟨wb, 19, none⟩) (.inl rfl) (.int .i64 a4)).setCell (p := ⟨wb, 20, none⟩) (.inl rfl) (.int .i64 a5)).setCell (p := ⟨wb, 21, none⟩) (.inl rfl) (.int .i64 a6)).setCell (p := ⟨wb, 22, none⟩) (.inl rfl) (.int .i64 a7))
   have hnew : ∀ k, (Value.slice ao4 n1 cap4).ownBlock = some k → W.heap.size ≤ k ∧ k < w1.heap.size := fun k hk => by
    have := row_base Hrow.out hk
    simpa using this
   refine ⟨rfl, wd_now (l' := l) HA.out HB.out hf ?_ (fun k hk => (hnew k hk).1) ?_ rfl rfl ?_ HA.out.ls (fun x hx => hx) (fun k hk => hk)⟩
   ·have hr : IRow w1 base (.slice ao4 n1 cap4) F1 := row_low Hrow.out (by simpa using HBs.out)
    exact row_keep hr (fun k hk => (show Frm (fun k => k = wb) w1 _ from ((((((((((((Frm.refl (fun k => k = wb) w1).setCell (p := ⟨wb, 12, none⟩) (.inl rfl) (.int .i64 P1)).setCell (p := ⟨wb, 13, none⟩) (.inl rfl) (.slice ao4 n1 cap4)).setCell (p := ⟨wb, 14, none⟩) (.inl rfl) (.int .u64 K1)).setCell (p := ⟨wb, 15, none⟩) (.inl rfl) (.int .i64 a0)).setCell (p := ⟨wb, 16, none⟩) (.inl rfl) (.int .i64 a1)).setCell (p := ⟨wb, 17, none⟩) (.inl rfl) (.int .i64 a2)).setCell (p := ⟨wb, 18, none⟩) (.inl rfl) (.int .i64 a3)).setCell (p := ⟨wb, 19, none⟩) (.inl rfl) (.int .i64 a4)).setCell (p := ⟨wb, 20, none⟩) (.inl rfl) (.int .i64 a5)).setCell (p := ⟨wb, 21, none⟩) (.inl rfl) (.int .i64 a6)).setCell (p := ⟨wb, 22, none⟩) (.inl rfl) (.int .i64 a7))).block k (hnew k hk).2 (by have h1 := (hnew k hk).1; have h2 := Hwl.out; omega))
   ·rw [(heap_setCell_same (heap_setCell_same (heap_setCell_same (heap_setCell_same (heap_setCell_same (heap_setCell_same (heap_setCell_same (heap_setCell_same (heap_setCell_same (heap_setCell_same (heap_setCell_same hblk1 12 (.int .i64 P1)) 13 (.slice ao4 n1 cap4)) 14 (.int .u64 K1)) 15 (.int .i64 a0)) 16 (.int .i64 a1)) 17 (.int .i64 a2)) 18 (.int .i64 a3)) 19 (.int .i64 a4)) 20 (.int .i64 a5)) 21 (.int .i64 a6)) 22 (.int .i64 a7))]
    simp only [List.setIfInBounds_toArray, List.set_cons_zero, List.set_cons_succ]
    rfl
   ·exact (HA.out.rows (fun k hk hne => hf.block k hk hne)).2.2.1
 ·rw [if_pos rfl]
  go_enter Tryz.func38, Tryz.ntmps38
  go_wp2_with fail
  go_ret
  exact ⟨rfl, H.out⟩
set_option maxHeartbeats 8000000 in
set_option maxRecDepth 20000 in
theorem ralloc_any (h : WdX W base wb m B) (hP : m.inn = true → 0 ≤ m.now.pages ∧ m.now.pages ≤ 256) : Calls Tryz.prog 39 #[.pointer (some ⟨wb, 0, none⟩)] W fun e w' => e = .returned (.tuple #[.int .i64 (rallocM m).1, .int .i64 (rallocM m).2.1]) ∧ WdDid W w' base wb (rallocM m).2.2 B := by
 have H := hid h.did
 obtain ⟨fs, fn, sv, l, hA, hB⟩ := h
 obtain ⟨ao1, cap1, ao2, cap2, ao3, cap3, rfl, rfl, rfl⟩ := hA.shapes
 obtain ⟨⟨P1, F1, K1, R1⟩, inn, ⟨P2, F2, K2, R2⟩, S⟩ := m
 obtain ⟨a0, a1, a2, a3, a4, a5, a6, a7, rfl⟩ := roots8 hA.l1
 obtain ⟨b0, b1, b2, b3, b4, b5, b6, b7, rfl⟩ := roots8 hA.l2
 dsimp only at hA hB
 obtain ⟨n1, hn1⟩ : ∃ n1, n1 = F1.length := ⟨_, rfl⟩
 obtain ⟨n2, hn2⟩ : ∃ n2, n2 = F2.length := ⟨_, rfl⟩
 obtain ⟨n3, hn3⟩ : ∃ n3, n3 = l.length := ⟨_, rfl⟩
 rw [← hn1, ← hn2, ← hn3] at hA hB
 have hN1 := hid hn1
 have hN2 := hid hn2
 have hN3 := hid hn3
 have hblk : W.heap[wb]? = some (.cells #[.int .i64 P1, .slice ao1 n1 cap1, .int .u64 K1, .int .i64 a0, .int .i64 a1, .int .i64 a2, .int .i64 a3, .int .i64 a4, .int .i64 a5, .int .i64 a6, .int .i64 a7, .bool inn, .int .i64 P2, .slice ao2 n2 cap2, .int .u64 K2, .int .i64 b0, .int .i64 b1, .int .i64 b2, .int .i64 b3, .int .i64 b4, .int .i64 b5, .int .i64 b6, .int .i64 b7, .slice ao3 n3 cap3] 56 (0, 0)) := hA.blk
 obtain ⟨x0, x1, x2, x3, x4, x5, x6, x7, x8, x9, x10, x11, x12, x13, x14, x15, x16, x17, x18, x19, x20, x21, x22, x23, xf⟩ := cells24w hblk
 have Hwl := hid (lt_of_block hblk)
 have HA := hid hA
 have HB := hid hB
 have Hblk := hid hblk
 unfold rallocM
 dsimp only
 clear hA hB hblk hn1 hn2 hn3
 cases inn
 ·rw [if_pos rfl]
  go_enter Tryz.func39, Tryz.ntmps39
  go_wp2_with fail
  go_ret2
  exact ⟨rfl, H.out⟩
 rw [if_neg (by simp)]
 have hP := hP rfl
 have hw : B wb := HB.out wb (.inl rfl)
 rcases List.eq_nil_or_concat F2 with hF | ⟨L, x, hF⟩
 ·have hn0 : n2 = 0 := by have := hN2.out; rw [hF] at this; exact this
  subst hn0
  rw [if_neg (by rw [hF]; simp)]
  have HF := hid hF
  clear hF
  by_cases hp : P2 = 256
  ·subst hp
   rw [if_pos rfl]
   clear hP
   go_enter Tryz.func39, Tryz.ntmps39
   go_wp2_with fail
   go_ret2
   exact ⟨rfl, H.out⟩
  ·have bp : (P2 == 256) = false := by simp [hp]
   rw [if_neg hp]
   have hw1 : IntKind.i64.wrap (P2 + 1) = P2 + 1 := IntWalk.i64_in _ (by dsimp only at hP; omega)
   clear hP hp
   go_enter Tryz.func39, Tryz.ntmps39
   go_wp2_with fail
   go_ret2
   have hf := ((Frm.refl (fun k => k = wb) W).setCell (p := ⟨wb, 12, none⟩) (.inl rfl) (.int .i64 (P2 + 1)))
   obtain ⟨q1, q2, q3, q4⟩ := HA.out.rows (fun k hk hne => hf.block k hk hne)
   refine ⟨rfl, ⟨_, _, _, l, ⟨?_, HA.out.ge, HA.out.l1, HA.out.l2, HA.out.l3, q1, q2, q3, HA.out.ls, q4, HA.out.apart⟩, fun k hk => .inl (HB.out k hk)⟩, hf.mono (fun k e => by rw [e]; exact hw)⟩
   rw [(heap_setCell_same Hblk.out 12 (.int .i64 (P2 + 1)))]
   simp only [List.setIfInBounds_toArray, List.set_cons_zero, List.set_cons_succ]
   rw [hN3.out]
   rfl
 ·have hz : n2 = L.length + 1 := by have := hN2.out; rw [hF] at this; simpa using this
  obtain ⟨z, hz0⟩ : ∃ z, z = L.length := ⟨_, rfl⟩
  rw [← hz0] at hz
  have hcell := HA.out.rn.shape
  obtain ⟨ao, cap, he, hle, hmx, -, hc⟩ := hcell
  injection he with he1 he2 he3
  subst he1 he3
  obtain ⟨q, hq, -, -, hcz⟩ := hc z (by rw [← hN2.out]; omega)
  subst hq
  have hxz : (F2[z]'(by rw [← hN2.out]; omega)) = x := by simp [hF, hz0]
  have hle' : n2 ≤ cap2 := by rw [hN2.out]; exact hle
  dsimp only at hcz hmx
  rw [hxz] at hcz
  have hcut : ∀ W' : World, (∀ k, k < W.heap.size → k ≠ wb → W'.heap[k]? = W.heap[k]?) → IRow W' base (.slice (some ⟨q, 0, none⟩) z cap2) L := fun W' hh => by
   have h0 : W'.ownsRow base 3 1 (.slice (some ⟨q, 0, none⟩) n2 cap2) n2 (intsN F2) := by
    have := (HA.out.rows hh).2.1
    rw [hN2.out] at this ⊢
    exact this
   have h1 := row_cutW h0 (k := z) (by omega)
   have e : (intsN F2).take (z * 1) = intsN L := by rw [hF, Nat.mul_one, hz0]; unfold intsN; simp
   rw [e] at h1
   unfold IRow
   rw [← hz0]
   exact h1
  have hl : L.length = z := hz0.symm
  rw [if_pos (by rw [hF]; simp)]
  have hM1 : F2.getLast?.getD 0 = x := by rw [hF]; simp
  have hM2 : F2.dropLast = L := by rw [hF]; simp
  rw [hM1, hM2]
  have HCut := hid hcut
  have c1 : decide ((0 : Int) < (n2 : Int)) = true := by simp; omega
  have c1' : (0 : Int) < (n2 : Int) := by omega
  have c1n : 0 < n2 := by omega
  have c2 : IntKind.i64.wrap ((n2 : Int) - 1) = (z : Int) := by rw [IntWalk.i64_in _ (by have h9 : cap2 ≤ 9223372036854775807 := hmx; omega)]; omega
  have c3 : z < n2 := by omega
  have c4 : z ≤ cap2 := by omega
  clear hcut hc hle he2 hxz hM1 hM2 hF hz hz0 hl hP hmx hle'
  go_enter Tryz.func39, Tryz.ntmps39
  go_wp2_with fail
  go_ret2
  have hf := ((Frm.refl (fun k => k = wb) W).setCell (p := ⟨wb, 13, none⟩) (.inl rfl) (.slice (some ⟨q, 0, none⟩) z cap2))
  obtain ⟨q1, -, q3, q4⟩ := HA.out.rows (fun k hk hne => hf.block k hk hne)
  refine ⟨rfl, ⟨_, .slice (some ⟨q, 0, none⟩) z cap2, _, l, ⟨?_, HA.out.ge, HA.out.l1, HA.out.l2, HA.out.l3, q1, HCut.out _ (fun k hk hne => hf.block k hk hne), q3, HA.out.ls, q4, HA.out.apart⟩, fun k hk => .inl (HB.out k hk)⟩, hf.mono (fun k e => by rw [e]; exact hw)⟩
  rw [(heap_setCell_same Hblk.out 13 (.slice (some ⟨q, 0, none⟩) z cap2))]
  simp only [List.setIfInBounds_toArray, List.set_cons_zero, List.set_cons_succ]
  rw [hN3.out]
  rfl
set_option maxHeartbeats 8000000 in
set_option maxRecDepth 20000 in
theorem rfree_any (h : WdX W base wb m B) (n : Int) (hP : m.inn = true → 0 ≤ m.now.pages ∧ m.now.pages ≤ 256) (hl : m.inn = true → m.now.free.length ≤ 900) (hbase : base ≤ W.heap.size) : Calls Tryz.prog 40 #[.pointer (some ⟨wb, 0, none⟩), .int .i64 n] W fun e w' => e = .returned (.int .i64 (rfreeM m n).1) ∧ WdDid W w' base wb (rfreeM m n).2 B := by
 have H := hid h.did
 obtain ⟨fs, fn, sv, l, hA, hB⟩ := h
 obtain ⟨ao1, cap1, ao2, cap2, ao3, cap3, rfl, rfl, rfl⟩ := hA.shapes
 obtain ⟨⟨P1, F1, K1, R1⟩, inn, ⟨P2, F2, K2, R2⟩, S⟩ := m
 obtain ⟨a0, a1, a2, a3, a4, a5, a6, a7, rfl⟩ := roots8 hA.l1
 obtain ⟨b0, b1, b2, b3, b4, b5, b6, b7, rfl⟩ := roots8 hA.l2
 dsimp only at hA hB
 obtain ⟨n1, hn1⟩ : ∃ n1, n1 = F1.length := ⟨_, rfl⟩
 obtain ⟨n2, hn2⟩ : ∃ n2, n2 = F2.length := ⟨_, rfl⟩
 obtain ⟨n3, hn3⟩ : ∃ n3, n3 = l.length := ⟨_, rfl⟩
 rw [← hn1, ← hn2, ← hn3] at hA hB
 have hN1 := hid hn1
 have hN2 := hid hn2
 have hN3 := hid hn3
 have hblk : W.heap[wb]? = some (.cells #[.int .i64 P1, .slice ao1 n1 cap1, .int .u64 K1, .int .i64 a0, .int .i64 a1, .int .i64 a2, .int .i64 a3, .int .i64 a4, .int .i64 a5, .int .i64 a6, .int .i64 a7, .bool inn, .int .i64 P2, .slice ao2 n2 cap2, .int .u64 K2, .int .i64 b0, .int .i64 b1, .int .i64 b2, .int .i64 b3, .int .i64 b4, .int .i64 b5, .int .i64 b6, .int .i64 b7, .slice ao3 n3 cap3] 56 (0, 0)) := hA.blk
 obtain ⟨x0, x1, x2, x3, x4, x5, x6, x7, x8, x9, x10, x11, x12, x13, x14, x15, x16, x17, x18, x19, x20, x21, x22, x23, xf⟩ := cells24w hblk
 have Hwl := hid (lt_of_block hblk)
 have HA := hid hA
 have HB := hid hB
 have Hblk := hid hblk
 unfold rfreeM
 dsimp only
 clear hA hB hblk hn1 hn2 hn3
 cases inn
 ·rw [if_pos rfl]
  go_enter Tryz.func40, Tryz.ntmps40
  go_wp2_with fail
  go_ret
  exact ⟨rfl, H.out⟩
 rw [if_neg (by simp)]
 have hP := hP rfl
 have hl := hl rfl
 dsimp only at hP hl
 by_cases h2 : n < 2
 ·have b1 : decide (n < 2) = true := by simpa using h2
  rw [if_pos (.inl h2)]
  clear h2 hP hl hbase
  go_enter Tryz.func40, Tryz.ntmps40
  go_wp2_with fail
  go_ret
  exact ⟨rfl, H.out⟩
 have b1 : decide (n < 2) = false := by simpa using h2
 by_cases hp : P2 < n
 ·have b2 : decide (P2 < n) = true := by simpa using hp
  rw [if_pos (.inr hp)]
  clear h2 hp hP hl hbase
  go_enter Tryz.func40, Tryz.ntmps40
  go_wp2_with fail
  go_ret
  exact ⟨rfl, H.out⟩
 have b2 : decide (P2 < n) = false := by simpa using hp
 rw [if_neg (by omega)]
 have hw : B wb := HB.out wb (.inl rfl)
 have hk : n = ((n.toNat : Nat) : Int) := by omega
 have hk3 : ∀ w3 : World, Below W.heap.size W w3 → w3.ownsRow base 3 1 (.slice ao2 n2 cap2) n2 (intsN F2) := fun w3 hb => by
  have h0 := row_keep HA.out.rn (w' := w3) (fun k hk => hb.block k (row_base HA.out.rn hk).2)
  have h1 : w3.ownsRow base 3 1 (.slice ao2 n2 cap2) F2.length (intsN F2) := h0
  rw [← hN2.out] at h1
  exact h1
 have HK := hid hk3
 have Hkn := hid hk
 have hl9 : n2 ≤ 900 := by rw [hN2.out]; exact hl
 obtain ⟨i0, hi, hz0, hz1, hz2⟩ := info_parts (P := Tryz.prog) (e := 3) (z := .int .i64 0) (size := 1) (bytes := 8) (by kernel_rfl)
 have hwl := Hwl.out
 clear hk3 hk hP hl h2 hp
 go_enter Tryz.func40, Tryz.ntmps40
 go_wp2_with (first
  | (at_builtin; go_must (refine wpList_append_own_at _ rfl _ _ 51 rfl base 3 i0 _ 1 8 Tryz.underlying51 hi hz0 hz1 hz2 rfl (by decide) (.slice ao2 n2 cap2) n2 (intsN F2) rfl (HK.out _ ((Below.refl _ W).alloc (Nat.le_refl _) _)) ⟨W.heap.size, 0, none⟩ 1 1 [.int .i64 n] rfl rfl (World.news_of_block (w := W.alloc (.cells #[.int .i64 n] 3)) (cs := #[.int .i64 n]) (t := 3) (fr := (0, 0)) (heap_alloc_new _ _)) (by intro u hu; simp at hu; rw [hu]; rfl) (by simp only [maxLen]; omega) (by omega) (by simp; omega) ?_); intro v' w4 hown hgr h5' hat; have HOwn := hid hown; obtain ⟨ao4, cap4, rfl⟩ : ∃ ao4 cap4, v' = .slice ao4 (n2 + 1) cap4 := (row_form hown).elim (fun e => by omega) (fun ⟨q, c, e⟩ => ⟨_, c, e⟩); have hnewb : ∀ k, (Value.slice ao2 n2 cap2).ownBlock = some k → k ≠ wb := fun k hk => row_neT HA.out.rn Hblk.out (by decide) hk; have hblk4 := (hgr.block wb (by simp; omega) (fun e => hnewb wb e.symm rfl)).trans (heap_alloc_old Hblk.out); have x13' := (cell_of_block hblk4 13).trans rfl; have xf13 := free_of_block hblk4 13; have HGr := hid hgr; have HAt := hid hat; have Hblk4 := hid hblk4; clear hown hgr hat h5' hnewb hblk4)
  | go_in)
 go_ret
 have hgr := HGr.out
 have hb1 : Below W.heap.size W (W.alloc (.cells #[.int .i64 n] 3)) := (Below.refl _ W).alloc (Nat.le_refl _) _
 have hf1 : Frm (fun k => k = wb ∨ (Value.slice ao2 n2 cap2).ownBlock = some k) W w4 :=
  (Frm.of_below hb1).trans ⟨hgr.os, hgr.tape, hgr.output, hgr.size, fun k hk hn => hgr.block k hk (fun e => hn (.inr e.symm))⟩
 have hf := hf1.setCell (p := ⟨wb, 13, none⟩) (.inl (.inl rfl)) (.slice ao4 (n2 + 1) cap4)
 have hap := HA.out.apart rfl
 have hs4 : (w4.setCell ⟨wb, 13, none⟩ (.slice ao4 (n2 + 1) cap4)).heap.size = w4.heap.size := by simp
 refine ⟨rfl, ⟨⟨.slice ao1 n1 cap1, .slice ao4 (n2 + 1) cap4, .slice ao3 n3 cap3, l, ⟨?_, HA.out.ge, HA.out.l1, HA.out.l2, HA.out.l3, ?_, ?_, ?_, HA.out.ls, fun x hx => ?_, fun _ k hk => ?_⟩, fun k hk => ?_⟩, hf.mono (fun k e => ?_)⟩⟩
 ·rw [heap_setCell_same Hblk4.out 13 (.slice ao4 (n2 + 1) cap4)]
  simp only [List.setIfInBounds_toArray, List.set_cons_zero, List.set_cons_succ]
  rw [hN3.out]
  rfl
 ·exact row_keep HA.out.rs (fun k hk => hf.block k (row_base HA.out.rs hk).2 (fun e => e.elim (row_neT HA.out.rs Hblk.out (by decide) hk) (fun e => (hap k e).1 hk)))
 ·have h1 := IRow.more HOwn.out Hkn.out hN2.out
  exact row_keep h1 (fun k hk => Below.heap_setCell _ ⟨wb, 13, none⟩ _ k (row_neT h1 Hblk4.out (by decide) hk))
 ·exact row_keep HA.out.rv (fun k hk => hf.block k (row_base HA.out.rv hk).2 (fun e => e.elim (row_neT HA.out.rv Hblk.out (by decide) hk) (fun e => row_two HA.out.rv HA.out.rn (by decide) hk e)))
 ·exact row_keep (HA.out.lf x hx) (fun k hk => hf.block k (row_base (HA.out.lf x hx) hk).2 (fun e => e.elim (row_neT (HA.out.lf x hx) Hblk.out (by decide) hk) (fun e => (hap k e).2 x hx hk)))
 ·rcases HAt.out with e | e
  ·exact hap k (e ▸ hk)
  ·rw [hk] at e
   have e : k = _ := Option.some.inj e
   have hsz : W.heap.size ≤ k := by rw [e]; simp
   exact ⟨fun e2 => by have := (row_base HA.out.rs e2).2; omega, fun x hx e2 => by have := (row_base (HA.out.lf x hx) e2).2; omega⟩
 ·rcases hk with e | e | e | e | ⟨x, hx, e⟩
  ·exact .inl (e ▸ hw)
  ·exact .inl (HB.out k (.inr (.inl e)))
  ·rcases HAt.out with e2 | e2
   ·exact .inl (HB.out k (.inr (.inr (.inl (e2 ▸ e)))))
   ·rw [e] at e2
    have e2 : k = _ := Option.some.inj e2
    refine .inr ⟨by rw [e2]; simp, ?_⟩
    rw [hs4]
    exact (row_base HOwn.out e).2
  ·exact .inl (HB.out k (.inr (.inr (.inr (.inl e)))))
  ·exact .inl (HB.out k (.inr (.inr (.inr (.inr ⟨x, hx, e⟩)))))
 ·rcases e with e | e
  ·rw [e]; exact hw
  ·exact HB.out k (.inr (.inr (.inl e)))
set_option maxHeartbeats 8000000 in
set_option maxRecDepth 20000 in
theorem rroot_any (h : WdX W base wb m B) (i n : Int) : Calls Tryz.prog 41 #[.pointer (some ⟨wb, 0, none⟩), .int .i64 i, .int .i64 n] W fun e w' => e = .returned (.int .i64 (rrootM m i n).1) ∧ WdDid W w' base wb (rrootM m i n).2 B := by
 have H := hid h.did
 obtain ⟨fs, fn, sv, l, hA, hB⟩ := h
 obtain ⟨ao1, cap1, ao2, cap2, ao3, cap3, rfl, rfl, rfl⟩ := hA.shapes
 obtain ⟨⟨P1, F1, K1, R1⟩, inn, ⟨P2, F2, K2, R2⟩, S⟩ := m
 obtain ⟨a0, a1, a2, a3, a4, a5, a6, a7, rfl⟩ := roots8 hA.l1
 obtain ⟨b0, b1, b2, b3, b4, b5, b6, b7, rfl⟩ := roots8 hA.l2
 dsimp only at hA hB
 obtain ⟨n1, hn1⟩ : ∃ n1, n1 = F1.length := ⟨_, rfl⟩
 obtain ⟨n2, hn2⟩ : ∃ n2, n2 = F2.length := ⟨_, rfl⟩
 obtain ⟨n3, hn3⟩ : ∃ n3, n3 = l.length := ⟨_, rfl⟩
 rw [← hn1, ← hn2, ← hn3] at hA hB
 have hN1 := hid hn1
 have hN2 := hid hn2
 have hN3 := hid hn3
 have hblk : W.heap[wb]? = some (.cells #[.int .i64 P1, .slice ao1 n1 cap1, .int .u64 K1, .int .i64 a0, .int .i64 a1, .int .i64 a2, .int .i64 a3, .int .i64 a4, .int .i64 a5, .int .i64 a6, .int .i64 a7, .bool inn, .int .i64 P2, .slice ao2 n2 cap2, .int .u64 K2, .int .i64 b0, .int .i64 b1, .int .i64 b2, .int .i64 b3, .int .i64 b4, .int .i64 b5, .int .i64 b6, .int .i64 b7, .slice ao3 n3 cap3] 56 (0, 0)) := hA.blk
 obtain ⟨x0, x1, x2, x3, x4, x5, x6, x7, x8, x9, x10, x11, x12, x13, x14, x15, x16, x17, x18, x19, x20, x21, x22, x23, xf⟩ := cells24w hblk
 have Hwl := hid (lt_of_block hblk)
 have HA := hid hA
 have HB := hid hB
 have Hblk := hid hblk
 unfold rrootM
 dsimp only
 clear hA hB hblk hn1 hn2 hn3
 cases inn
 ·rw [if_pos rfl]
  go_enter Tryz.func41, Tryz.ntmps41
  go_wp2_with fail
  go_ret
  exact ⟨rfl, H.out⟩
 rw [if_neg (by simp)]
 by_cases hi0 : i < 0
 ·have b9 : decide (i < 0) = true := by simpa using hi0
  rw [if_pos (.inl hi0)]
  clear hi0
  go_enter Tryz.func41, Tryz.ntmps41
  go_wp2_with fail
  go_ret
  exact ⟨rfl, H.out⟩
 have b9 : decide (i < 0) = false := by simpa using hi0
 by_cases hi8 : 8 ≤ i
 ·have b10 : decide (8 ≤ i) = true := by simpa using hi8
  rw [if_pos (.inr (.inl hi8))]
  clear hi0 hi8
  go_enter Tryz.func41, Tryz.ntmps41
  go_wp2_with fail
  go_ret
  exact ⟨rfl, H.out⟩
 have b10 : decide (8 ≤ i) = false := by simpa using hi8
 by_cases hn0 : n < 0
 ·have b11 : decide (n < 0) = true := by simpa using hn0
  rw [if_pos (.inr (.inr (.inl hn0)))]
  clear hi0 hi8 hn0
  go_enter Tryz.func41, Tryz.ntmps41
  go_wp2_with fail
  go_ret
  exact ⟨rfl, H.out⟩
 have b11 : decide (n < 0) = false := by simpa using hn0
 by_cases hp : P2 < n
 ·have b12 : decide (P2 < n) = true := by simpa using hp
  rw [if_pos (.inr (.inr (.inr hp)))]
  clear hi0 hi8 hn0 hp
  go_enter Tryz.func41, Tryz.ntmps41
  go_wp2_with fail
  go_ret
  exact ⟨rfl, H.out⟩
 have b12 : decide (P2 < n) = false := by simpa using hp
 rw [if_neg (by omega)]
 have hw : B wb := HB.out wb (.inl rfl)
 have hi : i = 0 ∨ i = 1 ∨ i = 2 ∨ i = 3 ∨ i = 4 ∨ i = 5 ∨ i = 6 ∨ i = 7 := by omega
 clear hi0 hi8 hn0 hp b9 b10
 rcases hi with rfl | rfl | rfl | rfl | rfl | rfl | rfl | rfl
 ·go_enter Tryz.func41, Tryz.ntmps41
  go_wp2_with fail
  go_ret
  have hf := ((Frm.refl (fun k => k = wb) W).setCell (p := ⟨wb, 15, none⟩) (.inl rfl) (.int .i64 n))
  obtain ⟨q1, q2, q3, q4⟩ := HA.out.rows (fun k hk hne => hf.block k hk hne)
  refine ⟨rfl, ⟨⟨.slice ao1 n1 cap1, .slice ao2 n2 cap2, .slice ao3 n3 cap3, l, ⟨?_, HA.out.ge, HA.out.l1, rfl, HA.out.l3, q1, q2, q3, HA.out.ls, q4, HA.out.apart⟩, fun k hk => .inl (HB.out k hk)⟩, hf.mono (fun k e => by rw [e]; exact hw)⟩⟩
  rw [(heap_setCell_same Hblk.out 15 (.int .i64 n))]
  simp only [List.setIfInBounds_toArray, List.set_cons_zero, List.set_cons_succ]
  rfl
 ·go_enter Tryz.func41, Tryz.ntmps41
  go_wp2_with fail
  go_ret
  have hf := ((Frm.refl (fun k => k = wb) W).setCell (p := ⟨wb, 16, none⟩) (.inl rfl) (.int .i64 n))
  obtain ⟨q1, q2, q3, q4⟩ := HA.out.rows (fun k hk hne => hf.block k hk hne)
  refine ⟨rfl, ⟨⟨.slice ao1 n1 cap1, .slice ao2 n2 cap2, .slice ao3 n3 cap3, l, ⟨?_, HA.out.ge, HA.out.l1, rfl, HA.out.l3, q1, q2, q3, HA.out.ls, q4, HA.out.apart⟩, fun k hk => .inl (HB.out k hk)⟩, hf.mono (fun k e => by rw [e]; exact hw)⟩⟩
  rw [(heap_setCell_same Hblk.out 16 (.int .i64 n))]
  simp only [List.setIfInBounds_toArray, List.set_cons_zero, List.set_cons_succ]
  rfl
 ·go_enter Tryz.func41, Tryz.ntmps41
  go_wp2_with fail
  go_ret
  have hf := ((Frm.refl (fun k => k = wb) W).setCell (p := ⟨wb, 17, none⟩) (.inl rfl) (.int .i64 n))
  obtain ⟨q1, q2, q3, q4⟩ := HA.out.rows (fun k hk hne => hf.block k hk hne)
  refine ⟨rfl, ⟨⟨.slice ao1 n1 cap1, .slice ao2 n2 cap2, .slice ao3 n3 cap3, l, ⟨?_, HA.out.ge, HA.out.l1, rfl, HA.out.l3, q1, q2, q3, HA.out.ls, q4, HA.out.apart⟩, fun k hk => .inl (HB.out k hk)⟩, hf.mono (fun k e => by rw [e]; exact hw)⟩⟩
  rw [(heap_setCell_same Hblk.out 17 (.int .i64 n))]
  simp only [List.setIfInBounds_toArray, List.set_cons_zero, List.set_cons_succ]
  rfl
 ·go_enter Tryz.func41, Tryz.ntmps41
  go_wp2_with fail
  go_ret
  have hf := ((Frm.refl (fun k => k = wb) W).setCell (p := ⟨wb, 18, none⟩) (.inl rfl) (.int .i64 n))
  obtain ⟨q1, q2, q3, q4⟩ := HA.out.rows (fun k hk hne => hf.block k hk hne)
  refine ⟨rfl, ⟨⟨.slice ao1 n1 cap1, .slice ao2 n2 cap2, .slice ao3 n3 cap3, l, ⟨?_, HA.out.ge, HA.out.l1, rfl, HA.out.l3, q1, q2, q3, HA.out.ls, q4, HA.out.apart⟩, fun k hk => .inl (HB.out k hk)⟩, hf.mono (fun k e => by rw [e]; exact hw)⟩⟩
  rw [(heap_setCell_same Hblk.out 18 (.int .i64 n))]
  simp only [List.setIfInBounds_toArray, List.set_cons_zero, List.set_cons_succ]
  rfl
 ·go_enter Tryz.func41, Tryz.ntmps41
  go_wp2_with fail
  go_ret
  have hf := ((Frm.refl (fun k => k = wb) W).setCell (p := ⟨wb, 19, none⟩) (.inl rfl) (.int .i64 n))
  obtain ⟨q1, q2, q3, q4⟩ := HA.out.rows (fun k hk hne => hf.block k hk hne)
  refine ⟨rfl, ⟨⟨.slice ao1 n1 cap1, .slice ao2 n2 cap2, .slice ao3 n3 cap3, l, ⟨?_, HA.out.ge, HA.out.l1, rfl, HA.out.l3, q1, q2, q3, HA.out.ls, q4, HA.out.apart⟩, fun k hk => .inl (HB.out k hk)⟩, hf.mono (fun k e => by rw [e]; exact hw)⟩⟩
  rw [(heap_setCell_same Hblk.out 19 (.int .i64 n))]
  simp only [List.setIfInBounds_toArray, List.set_cons_zero, List.set_cons_succ]
  rfl
 ·go_enter Tryz.func41, Tryz.ntmps41
  go_wp2_with fail
  go_ret
  have hf := ((Frm.refl (fun k => k = wb) W).setCell (p := ⟨wb, 20, none⟩) (.inl rfl) (.int .i64 n))
  obtain ⟨q1, q2, q3, q4⟩ := HA.out.rows (fun k hk hne => hf.block k hk hne)
  refine ⟨rfl, ⟨⟨.slice ao1 n1 cap1, .slice ao2 n2 cap2, .slice ao3 n3 cap3, l, ⟨?_, HA.out.ge, HA.out.l1, rfl, HA.out.l3, q1, q2, q3, HA.out.ls, q4, HA.out.apart⟩, fun k hk => .inl (HB.out k hk)⟩, hf.mono (fun k e => by rw [e]; exact hw)⟩⟩
  rw [(heap_setCell_same Hblk.out 20 (.int .i64 n))]
  simp only [List.setIfInBounds_toArray, List.set_cons_zero, List.set_cons_succ]
  rfl
 ·go_enter Tryz.func41, Tryz.ntmps41
  go_wp2_with fail
  go_ret
  have hf := ((Frm.refl (fun k => k = wb) W).setCell (p := ⟨wb, 21, none⟩) (.inl rfl) (.int .i64 n))
  obtain ⟨q1, q2, q3, q4⟩ := HA.out.rows (fun k hk hne => hf.block k hk hne)
  refine ⟨rfl, ⟨⟨.slice ao1 n1 cap1, .slice ao2 n2 cap2, .slice ao3 n3 cap3, l, ⟨?_, HA.out.ge, HA.out.l1, rfl, HA.out.l3, q1, q2, q3, HA.out.ls, q4, HA.out.apart⟩, fun k hk => .inl (HB.out k hk)⟩, hf.mono (fun k e => by rw [e]; exact hw)⟩⟩
  rw [(heap_setCell_same Hblk.out 21 (.int .i64 n))]
  simp only [List.setIfInBounds_toArray, List.set_cons_zero, List.set_cons_succ]
  rfl
 ·go_enter Tryz.func41, Tryz.ntmps41
  go_wp2_with fail
  go_ret
  have hf := ((Frm.refl (fun k => k = wb) W).setCell (p := ⟨wb, 22, none⟩) (.inl rfl) (.int .i64 n))
  obtain ⟨q1, q2, q3, q4⟩ := HA.out.rows (fun k hk hne => hf.block k hk hne)
  refine ⟨rfl, ⟨⟨.slice ao1 n1 cap1, .slice ao2 n2 cap2, .slice ao3 n3 cap3, l, ⟨?_, HA.out.ge, HA.out.l1, rfl, HA.out.l3, q1, q2, q3, HA.out.ls, q4, HA.out.apart⟩, fun k hk => .inl (HB.out k hk)⟩, hf.mono (fun k e => by rw [e]; exact hw)⟩⟩
  rw [(heap_setCell_same Hblk.out 22 (.int .i64 n))]
  simp only [List.setIfInBounds_toArray, List.set_cons_zero, List.set_cons_succ]
  rfl
set_option maxHeartbeats 8000000 in
set_option maxRecDepth 20000 in
theorem rback_any (h : WdX W base wb m B) (k0 : Int) (hl : ∀ s ∈ m.saves, s.free.length ≤ 900) (hbase : base ≤ W.heap.size) : Calls Tryz.prog 46 #[.pointer (some ⟨wb, 0, none⟩), .int .i64 k0] W fun e w' => e = .returned (.int .i64 (rbackM m k0).1) ∧ WdDid W w' base wb (rbackM m k0).2 B := by
 have H := hid h.did
 obtain ⟨fs, fn, sv, l, hA, hB⟩ := h
 obtain ⟨ao1, cap1, ao2, cap2, ao3, cap3, rfl, rfl, rfl⟩ := hA.shapes
 obtain ⟨⟨P1, F1, K1, R1⟩, inn, ⟨P2, F2, K2, R2⟩, S⟩ := m
 obtain ⟨a0, a1, a2, a3, a4, a5, a6, a7, rfl⟩ := roots8 hA.l1
 obtain ⟨b0, b1, b2, b3, b4, b5, b6, b7, rfl⟩ := roots8 hA.l2
 dsimp only at hA hB
 obtain ⟨n1, hn1⟩ : ∃ n1, n1 = F1.length := ⟨_, rfl⟩
 obtain ⟨n2, hn2⟩ : ∃ n2, n2 = F2.length := ⟨_, rfl⟩
 obtain ⟨n3, hn3⟩ : ∃ n3, n3 = l.length := ⟨_, rfl⟩
 rw [← hn1, ← hn2, ← hn3] at hA hB
 have hN1 := hid hn1
 have hN2 := hid hn2
 have hN3 := hid hn3
 have hblk : W.heap[wb]? = some (.cells #[.int .i64 P1, .slice ao1 n1 cap1, .int .u64 K1, .int .i64 a0, .int .i64 a1, .int .i64 a2, .int .i64 a3, .int .i64 a4, .int .i64 a5, .int .i64 a6, .int .i64 a7, .bool inn, .int .i64 P2, .slice ao2 n2 cap2, .int .u64 K2, .int .i64 b0, .int .i64 b1, .int .i64 b2, .int .i64 b3, .int .i64 b4, .int .i64 b5, .int .i64 b6, .int .i64 b7, .slice ao3 n3 cap3] 56 (0, 0)) := hA.blk
 obtain ⟨x0, x1, x2, x3, x4, x5, x6, x7, x8, x9, x10, x11, x12, x13, x14, x15, x16, x17, x18, x19, x20, x21, x22, x23, xf⟩ := cells24w hblk
 have Hwl := hid (lt_of_block hblk)
 have HA := hid hA
 have HB := hid hB
 have Hblk := hid hblk
 unfold rbackM
 dsimp only
 clear hA hB hblk hn1 hn2 hn3
 cases inn
 ·rw [if_pos rfl]
  go_enter Tryz.func46, Tryz.ntmps46
  go_wp2_with fail
  go_ret
  exact ⟨rfl, H.out⟩
 rw [if_neg (by simp)]
 have hls : l.map (·.1) = S := HA.out.ls
 have hS : S.length = n3 := by rw [hN3.out, ← hls]; simp
 rw [hS]
 by_cases h1 : k0 < 1
 ·have b1 : decide (k0 < 1) = true := by simpa using h1
  rw [if_pos (.inl h1)]
  clear h1 hl hbase hls hS
  go_enter Tryz.func46, Tryz.ntmps46
  go_wp2_with fail
  go_ret
  exact ⟨rfl, H.out⟩
 have b1 : decide (k0 < 1) = false := by simpa using h1
 by_cases h2 : (n3 : Int) < k0
 ·have b2 : decide ((n3 : Int) < k0) = true := by simpa using h2
  rw [if_pos (.inr h2)]
  clear h1 h2 hl hbase hls hS
  go_enter Tryz.func46, Tryz.ntmps46
  go_wp2_with fail
  go_ret
  exact ⟨rfl, H.out⟩
 rw [if_neg (by omega)]
 obtain ⟨k, rfl⟩ : ∃ k : Nat, k0 = (k : Int) := ⟨k0.toNat, by omega⟩
 obtain ⟨j, rfl⟩ : ∃ j, k = j + 1 := ⟨k - 1, by omega⟩
 obtain ⟨k, hk⟩ : ∃ k, k = j + 1 := ⟨_, rfl⟩
 rw [← hk] at b1 h1 h2 ⊢
 have hkn : k ≤ n3 := by omega
 have hjn : j < n3 := by omega
 have hjl : j < l.length := by rw [← hN3.out]; exact hjn
 rw [Int.toNat_natCast, show k - 1 = j by omega]
 obtain ⟨q, cap, cur, he, hqb, hq, hlc, hmx, hcs, ht⟩ := HA.out.rv.2.resolve_left (fun e => by have := e.2; omega)
 injection he with he1 he2 he3
 subst he1 he3
 obtain ⟨⟨P3, F3, K3, R3⟩, fv3, hx⟩ : ∃ s fv, l[j] = (s, fv) := ⟨_, _, rfl⟩
 have hmem : ((⟨P3, F3, K3, R3⟩ : RSt), fv3) ∈ l := by rw [← hx]; exact List.getElem_mem hjl
 have hr8 := HA.out.l3 _ hmem
 obtain ⟨c0, c1, c2, c3, c4, c5, c6, c7, rfl⟩ := roots8 hr8
 have hfree : IRow W base fv3 F3 := HA.out.lf _ hmem
 obtain ⟨ao5, cap5, rfl, -⟩ := hfree.shape
 obtain ⟨n4, hn4⟩ : ∃ n4, n4 = F3.length := ⟨_, rfl⟩
 have hNow : S.getD j rst0 = ⟨P3, F3, K3, [c0, c1, c2, c3, c4, c5, c6, c7]⟩ := by
  rw [List.getD_eq_getElem?_getD, ← hls, List.getElem?_map, List.getElem?_eq_getElem hjl, hx]
  rfl
 rw [hNow]
 have hcell : ∀ (o : Nat) (u : Value), o < 11 → (rstCells ⟨P3, F3, K3, [c0, c1, c2, c3, c4, c5, c6, c7]⟩ (.slice ao5 F3.length cap5))[o]? = some u → W.cell? ⟨q, j * 11 + o, none⟩ = some u := fun o u ho hu => by
  rw [cell_of_block hq, ← Array.getElem?_toList]
  have h3 : (cur.toList.take (l.length * 11))[j * 11 + o]? = cur.toList[j * 11 + o]? := List.getElem?_take_of_lt (by omega)
  rw [← h3, ht, savesC_at l j o hjl ho (fun x hx => HA.out.l3 x hx), hx]
  exact hu
 rw [← hn4] at hcell
 have e0 : W.cell? ⟨q, j * 11, none⟩ = some (.int .i64 P3) := hcell 0 _ (by decide) rfl
 have e1 := hcell 1 _ (by decide) rfl
 have e2 := hcell 2 _ (by decide) rfl
 have e3 := hcell 3 _ (by decide) rfl
 have e4 := hcell 4 _ (by decide) rfl
 have e5 := hcell 5 _ (by decide) rfl
 have e6 := hcell 6 _ (by decide) rfl
 have e7 := hcell 7 _ (by decide) rfl
 have e8 := hcell 8 _ (by decide) rfl
 have e9 := hcell 9 _ (by decide) rfl
 have e10 := hcell 10 _ (by decide) rfl
 have CP := fun (w1 : World) (hb : Below W.heap.size W w1) (hbs : base ≤ w1.heap.size) => rcopied_any (W := w1) (s := ⟨P3, F3, K3, [c0, c1, c2, c3, c4, c5, c6, c7]⟩) (row_keep hfree (fun k hk => hb.block k (row_base hfree hk).2)) rfl (hl _ (by rw [← hls]; exact List.mem_map.2 ⟨_, hmem, rfl⟩)) hbs
 unfold rstV rstCells at CP
 simp only [List.map_cons, List.map_nil, ← hn4] at CP
 have CP := hid CP
 have HBs := hid hbase
 have hcut : ∀ W' : World, (∀ k, k < W.heap.size → k ≠ wb → W'.heap[k]? = W.heap[k]?) → W'.ownsRow base 53 11 (.slice (some ⟨q, 0, none⟩) k cap3) (l.take k).length (savesC (l.take k)) := fun W' hh => by
  have h9 := (HA.out.rows hh).2.2.1
  rw [← hN3.out] at h9
  have h0 := row_cutW h9 (k := k) hkn
  have e : (l.take k).length = k := by rw [List.length_take, ← hN3.out]; omega
  rw [e, savesC_take l k (fun x hx => HA.out.l3 x hx)]
  exact h0
 have HCut := hid hcut
 have Hn4 := hid hn4
 have Hls := hid hls
 have b2 : decide ((n3 : Int) < (k : Int)) = false := by simp; omega
 have g1 : ¬ n3 < k := by omega
 have g2 : IntKind.i64.wrap ((k : Int) - 1) = (j : Int) := by
  have h9 : cap3 ≤ 9223372036854775807 := hmx
  have h10 : n3 ≤ cap3 := by rw [hN3.out]; exact hlc
  rw [IntWalk.i64_in _ (by omega)]; omega
 have g3 : k ≤ cap3 := by rw [hN3.out] at hkn; omega
 have Hq := hid hq
 have hsv := HA.out.rv
 have hqwb : q ≠ wb := row_neT hsv Hblk.out (by decide) rfl
 clear hcut hcell hfree hl hbase hmem hx hr8 hNow hls hS ht hcs hmx hlc hq he2 h1 h2 hk hn4 hjl hsv hkn
 go_enter Tryz.func46, Tryz.ntmps46
 go_wp2_with (first
  | (go_at_call 68; go_must (refine (CP.out _ (Below.refl _ W) HBs.out).mono ?_); rintro e w1 ⟨fv, rfl, hrow, hb1⟩; obtain ⟨ao4, cap4, rfl, -⟩ := hrow.shape; rw [← Hn4.out] at hrow ⊢; have Hrow := hid hrow; have HB1 := hid hb1; clear hrow hb1; obtain ⟨x0, x1, x2, x3, x4, x5, x6, x7, x8, x9, x10, x11, x12, x13, x14, x15, x16, x17, x18, x19, x20, x21, x22, x23, xf⟩ := cells24w ((HB1.out.block wb Hwl.out).trans Hblk.out))
  | go_in)
 go_ret
 have hf1 := Frm.of_below (S := fun k => k = wb) HB1.out
 have hblk1 := (HB1.out.block wb Hwl.out).trans Hblk.out
 have hf := ((((((((((((hf1.setCell (p := ⟨wb, 12, none⟩) (.inl rfl) (.int .i64 P3)).setCell (p := ⟨wb, 13, none⟩) (.inl rfl) (.slice ao4 n4 cap4)).setCell (p := ⟨wb, 14, none⟩) (.inl rfl) (.int .u64 K3)).setCell (p := ⟨wb, 15, none⟩) (.inl rfl) (.int .i64 c0)).setCell (p := ⟨wb, 16, none⟩) (.inl rfl) (.int .i64 c1)).setCell (p := ⟨wb, 17, none⟩) (.inl rfl) (.int .i64 c2)).setCell (p := ⟨wb, 18, none⟩) (.inl rfl) (.int .i64 c3)).setCell (p := ⟨wb, 19, none⟩) (.inl rfl) (.int .i64 c4)).setCell (p := ⟨wb, 20, none⟩) (.inl rfl) (.int .i64 c5)).setCell (p := ⟨wb, 21, none⟩) (.inl rfl) (.int .i64 c6)).setCell (p := ⟨wb, 22, none⟩) (.inl rfl) (.int .i64 c7)).setCell (p := ⟨wb, 23, none⟩) (.inl rfl) (.slice (some ⟨q, 0, none⟩) k cap3))
 have hnew : ∀ k, (Value.slice ao4 n4 cap4).ownBlock = some k → W.heap.size ≤ k ∧ k < w1.heap.size := fun k hk => row_base Hrow.out hk
 have hX := wd_now (m' := ⟨⟨P1, F1, K1, [a0, a1, a2, a3, a4, a5, a6, a7]⟩, true, ⟨P3, F3, K3, [c0, c1, c2, c3, c4, c5, c6, c7]⟩, S.take k⟩) (fn' := .slice ao4 n4 cap4) (sv' := .slice (some ⟨q, 0, none⟩) k cap3) (l' := l.take k) HA.out HB.out hf ?_ (fun k hk => (hnew k hk).1) ?_ rfl rfl ?_ ?_ (fun x hx => List.mem_of_mem_take hx) (fun k hk => hk)
 ·exact ⟨rfl, hX⟩
 ·have hr : IRow w1 base (.slice ao4 n4 cap4) F3 := row_low Hrow.out HBs.out
  have hfr := (((((((((((((Frm.refl (fun k => k = wb) w1).setCell (p := ⟨wb, 12, none⟩) (.inl rfl) (.int .i64 P3)).setCell (p := ⟨wb, 13, none⟩) (.inl rfl) (.slice ao4 n4 cap4)).setCell (p := ⟨wb, 14, none⟩) (.inl rfl) (.int .u64 K3)).setCell (p := ⟨wb, 15, none⟩) (.inl rfl) (.int .i64 c0)).setCell (p := ⟨wb, 16, none⟩) (.inl rfl) (.int .i64 c1)).setCell (p := ⟨wb, 17, none⟩) (.inl rfl) (.int .i64 c2)).setCell (p := ⟨wb, 18, none⟩) (.inl rfl) (.int .i64 c3)).setCell (p := ⟨wb, 19, none⟩) (.inl rfl) (.int .i64 c4)).setCell (p := ⟨wb, 20, none⟩) (.inl rfl) (.int .i64 c5)).setCell (p := ⟨wb, 21, none⟩) (.inl rfl) (.int .i64 c6)).setCell (p := ⟨wb, 22, none⟩) (.inl rfl) (.int .i64 c7)).setCell (p := ⟨wb, 23, none⟩) (.inl rfl) (.slice (some ⟨q, 0, none⟩) k cap3))
  have hne : ∀ k, (Value.slice ao4 n4 cap4).ownBlock = some k → k ≠ wb := fun k hk => Nat.ne_of_gt (Nat.lt_of_lt_of_le Hwl.out (hnew k hk).1)
  exact row_keep hr (fun k hk => hfr.block k (hnew k hk).2 (hne k hk))
 ·rw [(heap_setCell_same (heap_setCell_same (heap_setCell_same (heap_setCell_same (heap_setCell_same (heap_setCell_same (heap_setCell_same (heap_setCell_same (heap_setCell_same (heap_setCell_same (heap_setCell_same (heap_setCell_same hblk1 12 (.int .i64 P3)) 13 (.slice ao4 n4 cap4)) 14 (.int .u64 K3)) 15 (.int .i64 c0)) 16 (.int .i64 c1)) 17 (.int .i64 c2)) 18 (.int .i64 c3)) 19 (.int .i64 c4)) 20 (.int .i64 c5)) 21 (.int .i64 c6)) 22 (.int .i64 c7)) 23 (.slice (some ⟨q, 0, none⟩) k cap3))]
  simp only [List.setIfInBounds_toArray, List.set_cons_zero, List.set_cons_succ]
  rfl
 ·exact HCut.out _ (fun k hk hne => hf.block k hk hne)
 ·show (l.take k).map (·.1) = S.take k
  rw [← Hls.out, List.map_take]
set_option maxHeartbeats 8000000 in
set_option maxRecDepth 20000 in
theorem rheader_any (h : IRow W base fv s.free) (hr : s.roots.length = 8) (hl : s.free.length ≤ 900) : Calls Tryz.prog 20 #[rstV s fv] W fun e w' => e = .returned (.agg (.int .i64 ((s.free.getLast?.getD 0 : Nat) : Int) :: .int .i64 (s.free.length : Int) :: .int .u64 s.commits :: s.roots.map (.int .i64 ·)).toArray) ∧ Below W.heap.size W w' := by
 obtain ⟨P, F, K, r⟩ := s
 obtain ⟨a0, a1, a2, a3, a4, a5, a6, a7, rfl⟩ := roots8 hr
 obtain ⟨ao, cap, rfl, hle, hmx, -, hc⟩ := h.shape
 dsimp only at h hl hle hc ⊢
 unfold rstV rstCells
 simp only [List.map_cons, List.map_nil]
 have hb1 : Below W.heap.size W ((W.alloc (.cells #[.int .i64 P, .slice ao F.length cap, .int .u64 K, .int .i64 a0, .int .i64 a1, .int .i64 a2, .int .i64 a3, .int .i64 a4, .int .i64 a5, .int .i64 a6, .int .i64 a7] 53)).alloc (.cells #[.int .i64 0, .int .i64 0, .int .u64 0, .int .i64 0, .int .i64 0, .int .i64 0, .int .i64 0, .int .i64 0, .int .i64 0, .int .i64 0, .int .i64 0] 38)) := ((Below.refl _ W).alloc (Nat.le_refl _) _).alloc (by simp) _
 rcases List.eq_nil_or_concat F with hF | ⟨L, x, hF⟩
 ·subst hF
  simp only [List.length_nil] at h hl hle hb1 ⊢
  clear hc
  go_enter Tryz.func20, Tryz.ntmps20
  go_wp2_with fail
  have hy : ((W.alloc (.cells #[.int .i64 P, .slice ao 0 cap, .int .u64 K, .int .i64 a0, .int .i64 a1, .int .i64 a2, .int .i64 a3, .int .i64 a4, .int .i64 a5, .int .i64 a6, .int .i64 a7] 53)).alloc (.cells #[.int .i64 0, .int .i64 0, .int .u64 K, .int .i64 a0, .int .i64 a1, .int .i64 a2, .int .i64 a3, .int .i64 a4, .int .i64 a5, .int .i64 a6, .int .i64 a7] 38)).heap[W.heap.size + 1]? = some (.cells #[.int .i64 0, .int .i64 0, .int .u64 K, .int .i64 a0, .int .i64 a1, .int .i64 a2, .int .i64 a3, .int .i64 a4, .int .i64 a5, .int .i64 a6, .int .i64 a7] 38 (0, 0)) := by
   have := heap_alloc_new (W.alloc (.cells #[.int .i64 P, .slice ao 0 cap, .int .u64 K, .int .i64 a0, .int .i64 a1, .int .i64 a2, .int .i64 a3, .int .i64 a4, .int .i64 a5, .int .i64 a6, .int .i64 a7] 53)) (.cells #[.int .i64 0, .int .i64 0, .int .u64 K, .int .i64 a0, .int .i64 a1, .int .i64 a2, .int .i64 a3, .int .i64 a4, .int .i64 a5, .int .i64 a6, .int .i64 a7] 38)
   simpa using this
  have hy := heap_alloc_old (o := .cells #[.int .i64 0, .int .i64 0, .int .u64 K, .int .i64 a0, .int .i64 a1, .int .i64 a2, .int .i64 a3, .int .i64 a4, .int .i64 a5, .int .i64 a6, .int .i64 a7] 38) hy
  obtain ⟨y0, y1, y2, y3, y4, y5, y6, y7, y8, y9, y10, yf⟩ := cells11w hy
  refine bodyPost_ret (v := .agg #[.int .i64 0, .int .i64 0, .int .u64 K, .int .i64 a0, .int .i64 a1, .int .i64 a2, .int .i64 a3, .int .i64 a4, .int .i64 a5, .int .i64 a6, .int .i64 a7]) (by simp [results, Tryz.results20, go_sem, y0, y1, y2, y3, y4, y5, y6, y7, y8, y9, y10, yf]) rfl ⟨rfl, ?_⟩
  exact (((Below.refl _ W).alloc (Nat.le_refl _) _).alloc (by simp) _).alloc (by simp; omega) _
 ·have hz : F.length = L.length + 1 := by rw [hF]; simp
  obtain ⟨z, hz0⟩ : ∃ z, z = L.length := ⟨_, rfl⟩
  rw [← hz0] at hz
  obtain ⟨q, hq, -, hqW, hcz⟩ := hc z (by omega)
  subst hq
  have hxz : (F[z]'(by omega)) = x := by simp [hF, hz0]
  rw [hxz] at hcz
  obtain ⟨n, hn⟩ : ∃ n, n = F.length := ⟨_, rfl⟩
  have hM1 : F.getLast?.getD 0 = x := by rw [hF]; simp
  rw [hM1, ← hn]
  rw [← hn] at hz hle hl
  have c1 : decide ((0 : Int) < (n : Int)) = true := by simp; omega
  have c1' : (0 : Int) < (n : Int) := by omega
  have c1n : 0 < n := by omega
  have c2 : IntKind.i64.wrap ((n : Int) - 1) = (z : Int) := by rw [IntWalk.i64_in _ (by omega)]; omega
  have c3 : z < n := by omega
  have hq1 : q < W.heap.size + 1 := by omega
  have hq2 : q < W.heap.size + 1 + 1 := by omega
  clear hc hM1 hF hz hz0 hxz hn hb1 h hr hle hmx
  go_enter Tryz.func20, Tryz.ntmps20
  go_wp2_with fail
  have hy : ((W.alloc (.cells #[.int .i64 P, .slice (some ⟨q, 0, none⟩) n cap, .int .u64 K, .int .i64 a0, .int .i64 a1, .int .i64 a2, .int .i64 a3, .int .i64 a4, .int .i64 a5, .int .i64 a6, .int .i64 a7] 53)).alloc (.cells #[.int .i64 (x : Int), .int .i64 (n : Int), .int .u64 K, .int .i64 a0, .int .i64 a1, .int .i64 a2, .int .i64 a3, .int .i64 a4, .int .i64 a5, .int .i64 a6, .int .i64 a7] 38)).heap[W.heap.size + 1]? = some (.cells #[.int .i64 (x : Int), .int .i64 (n : Int), .int .u64 K, .int .i64 a0, .int .i64 a1, .int .i64 a2, .int .i64 a3, .int .i64 a4, .int .i64 a5, .int .i64 a6, .int .i64 a7] 38 (0, 0)) := by
   have := heap_alloc_new (W.alloc (.cells #[.int .i64 P, .slice (some ⟨q, 0, none⟩) n cap, .int .u64 K, .int .i64 a0, .int .i64 a1, .int .i64 a2, .int .i64 a3, .int .i64 a4, .int .i64 a5, .int .i64 a6, .int .i64 a7] 53)) (.cells #[.int .i64 (x : Int), .int .i64 (n : Int), .int .u64 K, .int .i64 a0, .int .i64 a1, .int .i64 a2, .int .i64 a3, .int .i64 a4, .int .i64 a5, .int .i64 a6, .int .i64 a7] 38)
   simpa using this
  have hy := heap_alloc_old (o := .cells #[.int .i64 (x : Int), .int .i64 (n : Int), .int .u64 K, .int .i64 a0, .int .i64 a1, .int .i64 a2, .int .i64 a3, .int .i64 a4, .int .i64 a5, .int .i64 a6, .int .i64 a7] 38) hy
  obtain ⟨y0, y1, y2, y3, y4, y5, y6, y7, y8, y9, y10, yf⟩ := cells11w hy
  refine bodyPost_ret (v := .agg #[.int .i64 (x : Int), .int .i64 (n : Int), .int .u64 K, .int .i64 a0, .int .i64 a1, .int .i64 a2, .int .i64 a3, .int .i64 a4, .int .i64 a5, .int .i64 a6, .int .i64 a7]) (by simp [results, Tryz.results20, go_sem, y0, y1, y2, y3, y4, y5, y6, y7, y8, y9, y10, yf]) rfl ⟨rfl, ?_⟩
  exact (((Below.refl _ W).alloc (Nat.le_refl _) _).alloc (by simp) _).alloc (by simp; omega) _
end
end Go.Proofs.YtlkkclooihjpiaaGreat
