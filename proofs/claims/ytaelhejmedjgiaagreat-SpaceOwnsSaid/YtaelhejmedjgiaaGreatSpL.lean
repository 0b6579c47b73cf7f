import Derived.Test.YtaelhejmedjgiaaGreatSpH
set_option linter.unusedVariables false
set_option linter.unusedSimpArgs false
namespace Go.Proofs.YtaelhejmedjgiaaGreat
open Go.RowKit Go.Maps
set_option maxRecDepth 20000
section
variable {w W W' : World} {pb l b : Nat} {p p' : Pg} {g g' : Lg} {d d' : Dsk} {X X' : Nat → Prop}
end
end Go.Proofs.YtaelhejmedjgiaaGreat
namespace Go.Proofs.YtaelhejmedjgiaaGreat
open Go.RowKit Go.Maps
set_option maxRecDepth 20000
theorem rtext_any {rb : Nat} {l : List UInt8} {W : World} (n : Nat) (hb : W.heap[rb]? = some (.cells #[.string (bs l), .bool true] 121 (0, 0))) (hn : n ≤ l.length) (hl : l.length ≤ 1000) :
  Calls Tryz.prog 57 #[.pointer (some ⟨rb, 0, none⟩), .int .i64 (n : Int)] W fun e w' => e = .returned (.string (bs (l.take n))) ∧ w'.heap[rb]? = some (.cells #[.string (bs (l.drop n)), .bool true] 121 (0, 0)) ∧ Frm (fun j => j = rb) W w' := by
 have c0 : W.cell? ⟨rb, 0, none⟩ = some (.string (bs l)) := (cell_of_block hb 0).trans rfl
 have f0 := free_of_block hb 0
 have b1 : decide (l.length < n) = false := by simp; omega
 have htk : List.take (l.length - n) (List.drop n l) = List.drop n l := List.take_of_length_le (by simp)
 have Hb := hid hb
 clear hb
 go_enter Tryz.func57, Tryz.ntmps57
 go_wp2_with fail
 go_ret
 refine ⟨by first | rfl | simp, ?_, Frm.setCell (S := fun j => j = rb) (Frm.refl _ _) (.inl rfl) _⟩
 exact (heap_setCell_same Hb.out 0 _).trans rfl
theorem wraps_i64 (n : Int) (_h₀ : 0 ≤ n) (_h₁ : n < 2 ^ 63) : IntKind.i64.wrap n = n := IntWalk.i64_in _ (by omega)
theorem or_byte (x c : Int) (h0 : 0 ≤ x) (h1 : x < 16777216) (c0 : 0 ≤ c) (c1 : c < 256) : bits BinOp.or IntKind.i64 (wrap64 (x * 256)) (wrap64 c) = x * 256 + c := by
 have e1 : wrap64 (x * 256) = x * 256 := by unfold wrap64; omega
 have e2 : wrap64 c = c := by unfold wrap64; omega
 rw [e1, e2]
 exact bits_join .i64 63 (by decide) wraps_i64 8 (x * 256) c (by omega) (by omega) (by omega) (by omega) (by omega) (by omega)
theorem pow_small {k : Nat} (h : k ≤ 3) : (256 : Int) ^ k ≤ 16777216 := by
 match k, h with
 | 0, _ => decide
 | 1, _ => decide
 | 2, _ => decide
 | 3, _ => decide
theorem num_step (t : List UInt8) (i : Nat) (h : i < t.length) (h4 : i ≤ 3) : bits BinOp.or IntKind.i64 (wrap64 (num (t.take i) * 256)) (wrap64 (t[i].toNat : Int)) = num (t.take (i + 1)) := by
 have hh := num_hi (t.take i)
 have hp := pow_small (k := (t.take i).length) (by rw [List.length_take]; omega)
 rw [or_byte _ _ (num_lo _) (by omega) (u8_lo _) (u8_hi _), ← num_snoc, List.take_succ_eq_append_getElem h]
theorem conv_bytes (t : List UInt8) (w1 : World) : ∃ cap wa, (convert 9 142 (.string (bs t))).run Tryz.prog w1 = .ok (.slice (some ⟨w1.heap.size, 0, none⟩) t.length cap) wa ∧ wa.rangeAt w1.heap.size 0 (cellsOf t) ∧ Below w1.heap.size w1 wa := by
 refine ⟨grownCap w1 (bs t).size 0 5, _, (run_bytes_of_string _ 9 142 5 _ Tryz.underlying9 Tryz.underlying142 Tryz.underlying5).trans (by rw [bs_size]), bytesRow_range rfl (heap_alloc_new w1.drew _), (Below.refl _ w1).drew.alloc (Nat.le_refl _) _⟩
set_option maxHeartbeats 2000000 in
set_option maxRecDepth 20000 in
theorem rnum_any {rb : Nat} {l : List UInt8} {W : World} (m : Nat) (hm : m ≤ 4) (hb : W.heap[rb]? = some (.cells #[.string (bs l), .bool true] 121 (0, 0))) (hn : m ≤ l.length) (hl : l.length ≤ 1000) :
  Calls Tryz.prog 56 #[.pointer (some ⟨rb, 0, none⟩), .int .i64 (m : Int)] W fun e w' => e = .returned (.int .i64 (num (l.take m))) ∧ w'.heap[rb]? = some (.cells #[.string (bs (l.drop m)), .bool true] 121 (0, 0)) ∧ Frm (fun j => j = rb) W w' := by
 have RT := hid (rtext_any m hb hn hl)
 obtain ⟨t, ht⟩ : ∃ t, t = l.take m := ⟨_, rfl⟩
 have htl : t.length = m := by rw [ht, List.length_take]; omega
 rw [← ht]
 have RT := RT.out
 rw [← ht] at RT
 replace RT := hid RT
 clear hb ht
 go_enter Tryz.func56, Tryz.ntmps56
 go_wp2_with (first
  | (go_at_call 57; refine (RT.out).mono ?_; rintro e w1 ⟨rfl, hr, hf⟩; have Hr1 := hid hr; have Hf1 := hid hf; obtain ⟨cap, wa, hconv, hra, hbel⟩ := conv_bytes t w1; rw [htl] at hconv; have Hra := hid hra; have HB1 := hid hbel; clear hr hf RT hra hbel)
  | go_in)
 go_loopw [5, 13] (fun v5 v13 wr => ∃ i : Nat, i ≤ m ∧ v13 = .int .i64 (i : Int) ∧ v5 = .int .i64 (num (t.take i)) ∧ wr = wa) (fun _ v13 _ => m - (intOf v13).toNat)
 case atStart => exact ⟨0, by omega, rfl, by rw [List.take_zero, num_nil], rfl⟩
 case round =>
  obtain ⟨i, hi, rfl, rfl, rfl⟩ := hrel
  by_cases hlt : i < m
  ·have b1 : decide (i < m) = true := by simpa using hlt
   have c0 := Hra.out i (.int .u8 ((t[i]'(by omega)).toNat : Int)) (by simp [cellsOf, htl, hlt])
   rw [Nat.zero_add] at c0
   have ns := num_step t i (by omega) (by omega)
   go_wp2_with fail
   refine ⟨⟨i + 1, by omega, rfl, rfl, trivial⟩, ?_⟩
   simp [intOf]
   omega
  ·obtain rfl : i = m := by omega
   have tt : t.take i = t := List.take_of_length_le (by omega)
   have b1 : decide (i < i) = false := by simp
   go_wp2_with fail
   go_ret
   rw [tt]
   have hlt2 := lt_of_block Hr1.out
   exact ⟨rfl, (HB1.out.block _ hlt2).trans Hr1.out, ⟨HB1.out.os.trans Hf1.out.os, HB1.out.tape.trans Hf1.out.tape, HB1.out.output.trans Hf1.out.output, Nat.le_trans Hf1.out.size HB1.out.size, fun k hk hn => (HB1.out.block k (Nat.lt_of_lt_of_le hk Hf1.out.size)).trans (Hf1.out.block k hk hn)⟩⟩
end Go.Proofs.YtaelhejmedjgiaaGreat
namespace Go.Proofs.YtaelhejmedjgiaaGreat
open Go.RowKit Go.Maps
set_option maxRecDepth 20000
structure NtSt (w W : World) (l : List UInt8) : Prop where
 res : W.heap[w.heap.size]? = some (.cells #[.int .u8 0, .int .i64 0, .slice none 0 0, .string ⟨#[]⟩] 79 (0, 0))
 left : W.heap[w.heap.size + 1]? = some (.cells #[.string (bs l), .bool true] 121 (0, 0))
 bel : Below w.heap.size w W
theorem nt_num {w W : World} {l : List UInt8} (h : NtSt w W l) (m : Nat) (hm : m ≤ 4) (hn : m ≤ l.length) (hl : l.length ≤ 1000) :
  Calls Tryz.prog 56 #[.pointer (some ⟨w.heap.size + 1, 0, none⟩), .int .i64 (m : Int)] W fun e w' => e = .returned (.int .i64 (num (l.take m))) ∧ NtSt w w' (l.drop m) ∧ (∀ j, j ≠ w.heap.size + 1 → j < W.heap.size → w'.heap[j]? = W.heap[j]?) ∧ W.heap.size ≤ w'.heap.size := by
 refine (rnum_any m hm h.left hn hl).mono ?_
 rintro e w' ⟨rfl, h1, h2⟩
 have hb := h.bel
 exact ⟨rfl, ⟨(h2.block _ (lt_of_block h.res) (by omega)).trans h.res, h1, ⟨h2.os.trans hb.os, h2.tape.trans hb.tape, h2.output.trans hb.output, Nat.le_trans hb.size h2.size, fun j hj => (h2.block j (Nat.lt_of_lt_of_le hj hb.size) (by omega)).trans (hb.block j hj)⟩⟩, fun j hj hl => h2.block j hl hj, h2.size⟩
set_option maxHeartbeats 4000000 in
set_option maxRecDepth 20000 in
theorem ntake_free (f : Int) (h0 : 0 ≤ f) (h1 : f ≤ 256) (w : World) : Calls Tryz.prog 27 #[.string (bs (freePg f))] w fun e w' => e = .returned (.tuple #[.agg (freeCells f), .int .i64 0]) ∧ Below w.heap.size w w' := by
 obtain ⟨s, hs⟩ : ∃ s, s = freePg f := ⟨_, rfl⟩
 have hsl : s.length = 512 := by rw [hs]; rfl
 have b1 : ((s.length : Int) != 512) = false := by simp [hsl]
 have n1 : num (s.take 1) = 4 := by rw [hs]; show num [4] = 4; rw [num_one]; rfl
 have n2 : num ((s.drop 1).take 2) = 0 := by rw [hs]; show num [0, 0] = 0; simp [num]
 have n3 : num (((s.drop 1).drop 2).take 4) = f := by rw [hs]; exact num_four f h0 (by omega)
 have NP := fun W => nput_free f h0 h1 W
 rw [← hs] at NP ⊢
 unfold freeCells at NP ⊢
 replace NP := hid NP
 have N1 := hid n1
 have N2 := hid n2
 have N3 := hid n3
 have Hsl := hid hsl
 clear hs hsl n1 n2 n3 h0 h1
 go_enter Tryz.func27, Tryz.ntmps27
 go_upto_region 5 with fail
 have hst0 : NtSt w ((w.alloc (.cells #[.int .u8 0, .int .i64 0, .slice none 0 0, .string ⟨#[]⟩] 79)).alloc (.cells #[.string (bs s), .bool true] 121)) s := ⟨heap_two_old w _ _, heap_two_new w _ _, ((Below.refl w.heap.size w).alloc (Nat.le_refl _) _).alloc (by simp) _⟩
 obtain ⟨W0, hW0⟩ : ∃ W0, W0 = (w.alloc (.cells #[.int .u8 0, .int .i64 0, .slice none 0 0, .string ⟨#[]⟩] 79)).alloc (.cells #[.string (bs s), .bool true] 121) := ⟨_, rfl⟩
 rw [← hW0] at hst0 ⊢
 have K1 := nt_num hst0 1 (by decide) (by rw [Hsl.out]; decide) (by rw [Hsl.out]; decide)
 rw [N1.out] at K1
 replace K1 := hid K1
 clear hW0 hst0
 go_upto_region 6 with (first
  | (go_at_call 56; refine (K1.out).mono ?_; rintro e w1 ⟨rfl, ht, hk, hz⟩; have T1 := hid ht; clear ht hk hz K1)
  | go_in)
 have hn6 := heap_alloc_new w1 (.cells #[.int .u8 4, .int .i64 0, .slice none 0 0, .string ⟨#[]⟩] 79)
 have hlt6 : w.heap.size + 1 < w1.heap.size := lt_of_block T1.out.left
 have ht6 : NtSt w (w1.alloc (.cells #[.int .u8 4, .int .i64 0, .slice none 0 0, .string ⟨#[]⟩] 79)) (s.drop 1) := ⟨heap_alloc_old T1.out.res, heap_alloc_old T1.out.left, T1.out.bel.alloc T1.out.bel.size _⟩
 obtain ⟨w6, hw6⟩ : ∃ w6, w6 = w1.alloc (.cells #[.int .u8 4, .int .i64 0, .slice none 0 0, .string ⟨#[]⟩] 79) := ⟨_, rfl⟩
 obtain ⟨b6, hb6⟩ : ∃ b6, b6 = w1.heap.size := ⟨_, rfl⟩
 rw [← hw6] at hn6 ht6 ⊢
 rw [← hb6] at hn6 hlt6 ⊢
 have K2 := nt_num ht6 2 (by decide) (by rw [List.length_drop, Hsl.out]; decide) (by rw [List.length_drop, Hsl.out]; decide)
 rw [N2.out] at K2
 replace K2 := hid K2
 have Hn6 := hid hn6
 have Hlt6 := hid hlt6
 clear hw6 hb6 T1 hlt6 hn6 ht6
 go_upto_region 7 with (first
  | (go_at_call 56; refine (K2.out).mono ?_; rintro e w7 ⟨rfl, ht, hk, hz⟩; have T7 := hid ht; have hn7 := (hk b6 (by have := Hlt6.out; omega) (lt_of_block Hn6.out)).trans Hn6.out; obtain ⟨c0, c1, c2, c3⟩ := cells4' hn7; have Hn7 := hid hn7; have K3 := hid (nt_num ht 4 (by decide) (by rw [List.length_drop, List.length_drop, Hsl.out]; decide) (by rw [List.length_drop, List.length_drop, Hsl.out]; decide)); clear ht hk hz hn7 K2)
  | go_in)
 have K3 := K3.out
 rw [N3.out] at K3
 replace K3 := hid K3
 go_upto_region 9 with (first
  | (go_at_call 56; refine (K3.out).mono ?_; rintro e w8 ⟨rfl, ht, hk, hz⟩; have T8 := hid ht; have hn8 := (hk b6 (by have := Hlt6.out; omega) (lt_of_block Hn7.out)).trans Hn7.out; have f8 := free_of_block hn8 1; have Hn8 := hid hn8; clear c0 c1 c2 c3; obtain ⟨c0, c1, c2, c3⟩ := cells4' hn8; clear ht hk hz hn8 K3)
  | go_in)
 clear c0 c1 c2 c3 f8
 have hn9 : (w8.setCell ⟨b6, 1, none⟩ (.int .i64 f)).heap[b6]? = some (.cells #[.int .u8 4, .int .i64 f, .slice none 0 0, .string ⟨#[]⟩] 79 (0, 0)) := (heap_setCell_same Hn8.out 1 (.int .i64 f)).trans rfl
 have hb9 : Below w.heap.size w (w8.setCell ⟨b6, 1, none⟩ (.int .i64 f)) := T8.out.bel.setCell (by show w.heap.size ≤ b6; have := Hlt6.out; omega) _
 have hz9 := (Below.heap_setCell w8 ⟨b6, 1, none⟩ (.int .i64 f) w.heap.size (by show w.heap.size ≠ b6; have := Hlt6.out; omega)).trans T8.out.res
 obtain ⟨w9, hw9⟩ : ∃ w9, w9 = w8.setCell ⟨b6, 1, none⟩ (.int .i64 f) := ⟨_, rfl⟩
 rw [← hw9] at hn9 hb9 hz9 ⊢
 obtain ⟨c0, c1, c2, c3⟩ := cells4' hn9
 have Hn9 := hid hn9
 have Hz9 := hid hz9
 have HB9 := hid hb9
 clear hw9 hn9 hb9 hz9 T8 Hn8
 go_wp2_with (first
  | (go_at_call 28; refine (NP.out _).mono ?_; rintro e w10 ⟨rfl, hb⟩; have HB10 := hid (HB9.out.trans (hb.mono HB9.out.size)); have hn10 := (hb.block _ (lt_of_block Hn9.out)).trans Hn9.out; have hz10 := (hb.block _ (lt_of_block Hz9.out)).trans Hz9.out; clear c0 c1 c2 c3; obtain ⟨c0, c1, c2, c3⟩ := cells4' hn10; obtain ⟨z0, z1, z2, z3⟩ := cells4' hz10; have g0 := free_of_block hz10 0; have g1 := free_of_block hz10 1; have g2 := free_of_block hz10 2; have g3 := free_of_block hz10 3; clear hb hn10 hz10 NP)
  | go_in)
 refine bodyPost_ret (v := .tuple #[.agg #[.int .u8 4, .int .i64 f, .slice none 0 0, .string ⟨#[]⟩], .int .i64 0]) (by simp [results, Tryz.results27, go_sem, z0, z1, z2, z3, g0, g1, g2, g3]) rfl ⟨rfl, ?_⟩
 iterate 4 refine Below.setCell ?_ (by simp) _
 exact HB10.out
end Go.Proofs.YtaelhejmedjgiaaGreat
/- Space over a pager: Alloc where a page is free. -/
namespace Go.Proofs.YtaelhejmedjgiaaGreat
open Go.RowKit Go.Maps
set_option maxRecDepth 20000
def usedH (h : Hdr) (x : Int) : Hdr := { h with free := x, count := h.count - 1 }
def alloc1M (p : Pg) (g : Lg) (d : Dsk) (x : Int) : Int × Int × Pg :=
 if (writeHM p (usedH (readySM p g d).1 x)).1 ≠ 0 then (0, 7, (writeHM p (usedH (readySM p g d).1 x)).2) else ((readySM p g d).1.free, 0, (writeHM p (usedH (readySM p g d).1 x)).2)
section
variable {w W W' : World} {pb l b : Nat} {p p' : Pg} {g g' : Lg} {d d' : Dsk} {X X' : Nat → Prop}
set_option maxHeartbeats 8000000 in
set_option maxRecDepth 20000 in
theorem alloc1_any (h : PgX w W pb l b p g d X) (he : (readySM p g d).2 = 0) (hf : (readySM p g d).1.free ≠ 0) (hc : (readySM p g d).1.count ≠ 0) (x : Int) (hx0 : 0 ≤ x) (hx1 : x ≤ 256) (hpg : preadM p g d (readySM p g d).1.free = (freePg x, 0)) :
  Calls Tryz.prog 9 #[.pointer (some ⟨pb, 0, none⟩)] W fun e w' => e = .returned (.tuple #[.int .i64 (alloc1M p g d x).1, .int .i64 (alloc1M p g d x).2.1]) ∧ PgX w w' pb l b (alloc1M p g d x).2.2 g d X ∧ ∀ k, X k → w'.heap[k]? = W.heap[k]? := by
 have SR := sready_any h
 have hwfQ := readySM_wf p g d
 have hmay := readySM_may he
 have PR := fun (W1 : World) (X1 : Nat → Prop) (hm : PgX w W1 pb l b p g d X1) => px_read hm (readySM p g d).1.free hwfQ.free
 simp only [hpg] at PR
 obtain ⟨R, hR⟩ : ∃ R, R = alloc1M p g d x := ⟨_, rfl⟩
 rw [← hR]
 unfold alloc1M at hR
 obtain ⟨Q, hQ⟩ : ∃ Q, Q = readySM p g d := ⟨_, rfl⟩
 simp only [← hQ] at hR hwfQ SR he hf hc hmay PR
 obtain ⟨H, E⟩ := Q
 obtain ⟨f, c, k, r0, r1, r2, r3, r4, r5, r6, r7, rfl⟩ := hdr_form hwfQ.len
 unfold hdrV hdrCells at SR
 simp only [List.map_cons, List.map_nil] at SR
 replace SR := hid SR
 dsimp only at hR hwfQ he hf hc hmay PR
 subst he
 obtain ⟨hm1, hm2, hm3⟩ := hdrMay_all hmay
 dsimp only at hm2 hm3
 have b1 : ((0 : Int) != 0) = false := rfl
 have b2 : (f == 0) = false := by simp [hf]
 have b3 : (c == 0) = false := by simp [hc]
 obtain ⟨m, hm⟩ : ∃ m, m = c - 1 := ⟨_, rfl⟩
 have hfh : usedH ⟨f, c, k, [r0, r1, r2, r3, r4, r5, r6, r7]⟩ x = ⟨x, m, k, [r0, r1, r2, r3, r4, r5, r6, r7]⟩ := by rw [hm]; rfl
 have hwf2 : (⟨x, m, k, [r0, r1, r2, r3, r4, r5, r6, r7]⟩ : Hdr).Wf := ⟨⟨by show _ ≤ x; omega, by show x ≤ _; omega⟩, ⟨by show _ ≤ m; omega, by show m ≤ _; omega⟩, hwfQ.commits, hwfQ.len, hwfQ.roots⟩
 rw [hfh] at hR
 have hcw : IntKind.i64.wrap (c - 1) = m := (IntWalk.i64_in _ (by omega)).trans hm.symm
 have hcv : wrap64 (c - 1) = m := by unfold wrap64; omega
 obtain ⟨s, hs⟩ : ∃ s, s = freePg x := ⟨_, rfl⟩
 have NT := fun W => ntake_free x hx0 hx1 W
 rw [← hs] at NT PR
 unfold freeCells at NT
 have PR := hid PR
 replace NT := hid NT
 obtain ⟨Wr, hWr⟩ : ∃ Wr, Wr = writeHM p ⟨x, m, k, [r0, r1, r2, r3, r4, r5, r6, r7]⟩ := ⟨_, rfl⟩
 rw [← hWr] at hR
 have SW := fun (W1 : World) (X1 : Nat → Prop) (hm : PgX w W1 pb l b p g d X1) => swrite_any hm ⟨x, m, k, [r0, r1, r2, r3, r4, r5, r6, r7]⟩ hwf2
 simp only [← hWr] at SW
 unfold hdrV hdrCells at SW
 simp only [List.map_cons, List.map_nil] at SW
 replace SW := hid SW
 have HX := hid h
 have HR := hid hR
 clear hR h hf hc hm1 hm2 hm3 hfh hwf2 hWr hm hwfQ hQ hs hx0 hx1 hpg hmay
 go_enter Tryz.func9, Tryz.ntmps9
 go_upto_region 13 with (first
  | (go_at_call 25; refine (SR.out).mono ?_; rintro e w1 ⟨rfl, hx, hk⟩; have HX1 := hid hx; have HK1 := hid hk; have HF1 := hid (px_fin hx ((Below.refl w1.heap.size w1).alloc (Nat.le_refl _) (.cells #[.int .i64 f, .int .i64 c, .int .u64 k, .int .i64 r0, .int .i64 r1, .int .i64 r2, .int .i64 r3, .int .i64 r4, .int .i64 r5, .int .i64 r6, .int .i64 r7] 38))); clear hx hk)
  | (go_at_call 26; refine (PR.out _ _ HF1.out.1).mono ?_; rintro e w3 ⟨rfl, hb3⟩; have Hb3 := hid hb3; have H13 := hid ((hb3.block _ (lt_of_block (heap_alloc_new w1 (.cells #[.int .i64 f, .int .i64 c, .int .u64 k, .int .i64 r0, .int .i64 r1, .int .i64 r2, .int .i64 r3, .int .i64 r4, .int .i64 r5, .int .i64 r6, .int .i64 r7] 38)))).trans (heap_alloc_new w1 (.cells #[.int .i64 f, .int .i64 c, .int .u64 k, .int .i64 r0, .int .i64 r1, .int .i64 r2, .int .i64 r3, .int .i64 r4, .int .i64 r5, .int .i64 r6, .int .i64 r7] 38))); clear hb3)
  | (go_at_call 27; refine (NT.out _).mono ?_; rintro e w4 ⟨rfl, hb4⟩; have Hb4 := hid hb4; have H14 := hid ((hb4.block _ (lt_of_block H13.out)).trans H13.out); clear hb4)
  | go_in)
 obtain ⟨⟨y0, y1, y2⟩, ⟨y3, y4, y5, y6, y7, y8, y9, y10⟩, yf⟩ := cells11 (heap_alloc_old (o := (.cells #[.int .u8 4, .int .i64 x, .slice none 0 0, .string ⟨#[]⟩] 79)) H14.out)
 obtain ⟨n0, n1, n2, n3⟩ := cells4' (heap_alloc_new w4 (.cells #[.int .u8 4, .int .i64 x, .slice none 0 0, .string ⟨#[]⟩] 79))
 have hsz : w1.heap.size < w4.heap.size := lt_of_block H14.out
 have h15 : (w4.alloc (.cells #[.int .u8 4, .int .i64 x, .slice none 0 0, .string ⟨#[]⟩] 79)).heap[w1.heap.size]? = _ := heap_alloc_old H14.out
 have hb5 : Below w1.heap.size w1 (w4.alloc (.cells #[.int .u8 4, .int .i64 x, .slice none 0 0, .string ⟨#[]⟩] 79)) := (((Below.refl w1.heap.size w1).alloc (Nat.le_refl _) _).trans (Hb3.out.mono (by simp))).trans (Hb4.out.mono (by have := Hb3.out.size; simp at this; omega)) |>.alloc (by omega) _
 obtain ⟨yb, hyb⟩ : ∃ yb, yb = w1.heap.size := ⟨_, rfl⟩
 obtain ⟨nb, hnb⟩ : ∃ nb, nb = w4.heap.size := ⟨_, rfl⟩
 obtain ⟨w5, hw5⟩ : ∃ w5, w5 = w4.alloc (.cells #[.int .u8 4, .int .i64 x, .slice none 0 0, .string ⟨#[]⟩] 79) := ⟨_, rfl⟩
 rw [← hyb, ← hw5] at y0 y1 y2 y3 y4 y5 y6 y7 y8 y9 y10 yf h15
 rw [← hnb, ← hw5] at n0 n1 n2 n3
 rw [← hw5] at hb5
 rw [← hyb, ← hnb, ← hw5]
 have H15 := hid h15
 have Hb5 := hid hb5
 have Hyb := hid hyb
 clear hw5 h15 hb5 H14 H13 Hb3 Hb4 hsz hyb hnb
 go_upto_region 17 with fail
 have hyb := Hyb.out
 have h8 : ((w5.setCell ⟨yb, 0, none⟩ (.int .i64 x)).setCell ⟨yb, 1, none⟩ (.int .i64 m)).heap[yb]? = some (.cells #[.int .i64 x, .int .i64 m, .int .u64 k, .int .i64 r0, .int .i64 r1, .int .i64 r2, .int .i64 r3, .int .i64 r4, .int .i64 r5, .int .i64 r6, .int .i64 r7] 38 (0, 0)) :=
  (heap_setCell_same (heap_setCell_same H15.out 0 (.int .i64 x)) 1 (.int .i64 m)).trans rfl
 have hb8 : Below w1.heap.size w1 ((w5.setCell ⟨yb, 0, none⟩ (.int .i64 x)).setCell ⟨yb, 1, none⟩ (.int .i64 m)) := (Hb5.out.setCell (by show _ ≤ yb; omega) _).setCell (by show _ ≤ yb; omega) _
 obtain ⟨w8, hw8⟩ : ∃ w8, w8 = (w5.setCell ⟨yb, 0, none⟩ (.int .i64 x)).setCell ⟨yb, 1, none⟩ (.int .i64 m) := ⟨_, rfl⟩
 rw [← hw8] at h8 hb8
 rw [← hw8]
 have hx8 := px_add (X' := fun k => X k ∨ k = yb) HX1.out hb8 (fun k hk => hk.elim .inl (fun e => .inr (by omega))) (fun k hk => hk.elim (fun e => Nat.lt_of_lt_of_le (HX1.out.xlt k e) hb8.size) (fun e => by rw [e]; exact lt_of_block h8))
 have SW8 := hid (SW.out _ _ hx8)
 have Hb8 := hid hb8
 clear y0 y1 y2 y3 y4 y5 y6 y7 y8 y9 y10 yf
 obtain ⟨⟨y0, y1, y2⟩, ⟨y3, y4, y5, y6, y7, y8, y9, y10⟩, yf⟩ := cells11 h8
 clear hw8 hyb h8 hb8 hx8 HF1 NT PR hcw hcv
 by_cases hE2 : Wr.1 = 0
 rotate_left
 ·have b4 : (Wr.1 != 0) = true := by simp [hE2]
  have hR := HR.out
  rw [if_pos hE2] at hR
  replace HR := hid hR
  clear hR hE2
  go_wp2_with (first
   | (go_at_call 23; refine (SW8.out).mono ?_; rintro e w9 ⟨rfl, hx, hk⟩; have HX9 := hid hx; have HK9 := hid hk; clear hx hk)
   | go_in)
  go_ret2
  rw [HR.out]
  exact ⟨rfl, HX9.out.to (fun k hk => .inl hk), fun k hk => (HK9.out k (.inl hk)).trans ((Hb8.out.block k (HX1.out.xlt k hk)).trans (HK1.out k hk))⟩
 ·have b4 : (Wr.1 != 0) = false := by simp [hE2]
  have hR := HR.out
  rw [if_neg (by simpa using hE2)] at hR
  replace HR := hid hR
  clear hR hE2
  go_wp2_with (first
   | (go_at_call 23; refine (SW8.out).mono ?_; rintro e w9 ⟨rfl, hx, hk⟩; have HX9 := hid hx; have HK9 := hid hk; clear hx hk)
   | go_in)
  go_ret2
  rw [HR.out]
  exact ⟨rfl, HX9.out.to (fun k hk => .inl hk), fun k hk => (HK9.out k (.inl hk)).trans ((Hb8.out.block k (HX1.out.xlt k hk)).trans (HK1.out k hk))⟩
end
end Go.Proofs.YtaelhejmedjgiaaGreat
