/- Space: Take. -/
import Derived.Test.YtlkkclooihjpiaaGreatSpB
set_option linter.unusedVariables false
set_option linter.unusedSimpArgs false
namespace Go.Proofs.YtlkkclooihjpiaaGreat
open Go.RowKit Go.Maps
set_option maxRecDepth 20000
theorem sfour_any (bx : Nat) (s : List UInt8) (k : Nat) (W : World) (hb : W.heap[bx]? = some (.cells #[.string (bs (s.drop k))] 9 (0, 0))) (h4 : k + 4 ≤ s.length) (hs : s.length ≤ 9223372036854775807) :
  Calls Tryz.prog 59 #[.pointer (some ⟨bx, 0, none⟩)] W fun e w' => e = .returned (.int .i64 (at4 s k)) ∧ w'.heap[bx]? = some (.cells #[.string (bs (s.drop (k + 4)))] 9 (0, 0)) ∧ Frm (fun j => j = bx) W w' := by
 have TF := fun W => takeFour_any (s.drop k) W (by rw [List.length_drop]; omega) (by rw [List.length_drop]; omega)
 have hn := at4_range s k
 have hw : IntKind.i64.wrap (at4 s k) = at4 s k := IntWalk.i64_in _ (by omega)
 obtain ⟨n, hn'⟩ : ∃ n, n = at4 s k := ⟨_, rfl⟩
 have hnn : num ((s.drop k).take 4) = n := hn'.symm
 rw [hnn] at TF
 rw [← hn'] at hw ⊢
 have hd : (s.drop k).drop 4 = s.drop (k + 4) := by rw [List.drop_drop]
 obtain ⟨l, hl⟩ : ∃ l, l = s.drop k := ⟨_, rfl⟩
 have hl4 : 4 ≤ l.length := by rw [hl, List.length_drop]; omega
 have hlm : l.length ≤ 9223372036854775807 := by rw [hl, List.length_drop]; omega
 rw [← hl] at TF hb hd
 have htk : List.take (l.length - 4) (List.drop 4 l) = List.drop 4 l := List.take_of_length_le (by simp)
 have Hb := hid hb
 have Hd := hid hd
 replace TF := hid TF
 have c0 : W.cell? ⟨bx, 0, none⟩ = some (.string (bs l)) := (cell_of_block hb 0).trans rfl
 clear hn hn' hnn hl hb hd h4 hs
 go_enter Tryz.func59, Tryz.ntmps59
 go_wp2_with (first
  | (go_at_call 60; refine (TF.out _).mono ?_; rintro e w1 ⟨rfl, hb1⟩; have hx1 := (hb1.block bx (lt_of_block Hb.out)).trans Hb.out; have Hx1 := hid hx1; have c1 : w1.cell? ⟨bx, 0, none⟩ = some (.string (bs l)) := (cell_of_block hx1 0).trans rfl; have f1 := free_of_block hx1 0; have Hb1 := hid hb1; clear hx1 hb1)
  | go_in)
 go_ret
 refine ⟨rfl, ?_, Frm.setCell (S := fun j => j = bx) (p := ⟨bx, 0, none⟩) (Frm.of_below Hb1.out) (.inl rfl) _⟩
 rw [← Hd.out]
 exact (heap_setCell_same (cs := #[.string (bs l)]) Hx1.out 0 _).trans rfl
def rootsTo (s : List UInt8) (i : Nat) : List Int := (List.range 8).map fun j => if j < i then at4 s (24 + 4 * j) else 0
theorem rootsTo_all (s : List UInt8) : rootsTo s 8 = (hdrOf s).roots := by
 unfold rootsTo
 show _ = (List.range 8).map fun i => at4 s (24 + 4 * i)
 refine List.map_congr_left fun j hj => ?_
 rw [if_pos (List.mem_range.1 hj)]
set_option maxHeartbeats 8000000 in
set_option maxRecDepth 20000 in
theorem stake_short (s : List UInt8) (h : s.length ≠ 512) (hs : s.length ≤ 9223372036854775807) (w : World) : Calls Tryz.prog 29 #[.string (bs s)] w fun e w' => e = .returned (.tuple #[hdrV hdr0, .int .i64 7]) ∧ Below w.heap.size w w' := by
 have h1 : ((s.length : Int) != 512) = true := by simp; omega
 have hz := heap_alloc_new w (.cells #[.int .i64 0, .int .i64 0, .int .u64 0, .int .i64 0, .int .i64 0, .int .i64 0, .int .i64 0, .int .i64 0, .int .i64 0, .int .i64 0, .int .i64 0] 38)
 obtain ⟨⟨z0, z1, z2⟩, ⟨z3, z4, z5, z6, z7, z8, z9, z10⟩, zf⟩ := cells11 hz
 have hb := (Below.refl w.heap.size w).alloc (Nat.le_refl _) (.cells #[.int .i64 0, .int .i64 0, .int .u64 0, .int .i64 0, .int .i64 0, .int .i64 0, .int .i64 0, .int .i64 0, .int .i64 0, .int .i64 0, .int .i64 0] 38)
 have HB := hid hb
 clear hb hz h
 go_enter Tryz.func29, Tryz.ntmps29
 go_wp2_with fail
 refine bodyPost_ret (v := .tuple #[hdrV hdr0, .int .i64 7]) (by simp [results, Tryz.results29, go_sem, hdrV, hdrCells, hdr0]) rfl ⟨rfl, ?_⟩
 exact HB.out
structure TkSt (w W : World) (s : List UInt8) (k : Nat) : Prop where
 res : W.heap[w.heap.size]? = some (.cells #[.int .i64 0, .int .i64 0, .int .u64 0, .int .i64 0, .int .i64 0, .int .i64 0, .int .i64 0, .int .i64 0, .int .i64 0, .int .i64 0, .int .i64 0] 38 (0, 0))
 left : W.heap[w.heap.size + 1]? = some (.cells #[.string (bs (s.drop k))] 9 (0, 0))
 bel : Below w.heap.size w W
theorem tk_four {w W : World} {s : List UInt8} {k : Nat} (h : TkSt w W s k) (h4 : k + 4 ≤ s.length) (hs : s.length ≤ 9223372036854775807) :
  Calls Tryz.prog 59 #[.pointer (some ⟨w.heap.size + 1, 0, none⟩)] W fun e w' => e = .returned (.int .i64 (at4 s k)) ∧ TkSt w w' s (k + 4) ∧ (∀ j, j ≠ w.heap.size + 1 → j < W.heap.size → w'.heap[j]? = W.heap[j]?) ∧ W.heap.size ≤ w'.heap.size := by
 refine (sfour_any _ s k W h.left h4 hs).mono ?_
 rintro e w' ⟨rfl, h1, h2⟩
 have hb := h.bel
 exact ⟨rfl, ⟨(h2.block _ (lt_of_block h.res) (by omega)).trans h.res, h1, ⟨h2.os.trans hb.os, h2.tape.trans hb.tape, h2.output.trans hb.output, Nat.le_trans hb.size h2.size, fun j hj => (h2.block j (Nat.lt_of_lt_of_le hj hb.size) (by omega)).trans (hb.block j hj)⟩⟩, fun j hj hl => h2.block j hl hj, h2.size⟩
set_option maxHeartbeats 8000000 in
set_option maxRecDepth 20000 in
theorem stake_full (s : List UInt8) (h : s.length = 512) (w : World) : Calls Tryz.prog 29 #[.string (bs s)] w fun e w' => e = .returned (.tuple #[hdrV (takeH s).1, .int .i64 (takeH s).2]) ∧ Below w.heap.size w w' := by
 have h1 : ((s.length : Int) != 512) = false := by simp [h]
 have hs8 : 8 ≤ s.length := by omega
 have hsm : s.length ≤ 9223372036854775807 := by omega
 have htk : List.take (s.length - 8) (List.drop 8 s) = List.drop 8 s := List.take_of_length_le (by simp)
 have Hlen := hid h
 obtain ⟨R, hRT⟩ : ∃ R, R = takeH s := ⟨_, rfl⟩
 rw [← hRT]
 have HRT := hid hRT
 clear h hRT
 go_enter Tryz.func29, Tryz.ntmps29
 go_upto_region 5 with fail
 have hst0 : TkSt w ((w.alloc (.cells #[.int .i64 0, .int .i64 0, .int .u64 0, .int .i64 0, .int .i64 0, .int .i64 0, .int .i64 0, .int .i64 0, .int .i64 0, .int .i64 0, .int .i64 0] 38)).alloc (.cells #[.string (bs (List.drop 8 s))] 9)) s 8 := ⟨heap_two_old w _ _, heap_two_new w _ _, ((Below.refl w.heap.size w).alloc (Nat.le_refl _) _).alloc (by simp) _⟩
 obtain ⟨W0, hW0⟩ : ∃ W0, W0 = (w.alloc (.cells #[.int .i64 0, .int .i64 0, .int .u64 0, .int .i64 0, .int .i64 0, .int .i64 0, .int .i64 0, .int .i64 0, .int .i64 0, .int .i64 0, .int .i64 0] 38)).alloc (.cells #[.string (bs (List.drop 8 s))] 9) := ⟨_, rfl⟩
 rw [← hW0] at hst0 ⊢
 have K8 := hid (tk_four hst0 (by rw [Hlen.out]; decide) hsm)
 clear hW0 hst0 htk
 go_upto_region 6 with (first
  | (go_at_call 59; refine (K8.out).mono ?_; rintro e w1 ⟨rfl, ht, hk, hz⟩; have K12 := hid (tk_four ht (by rw [Hlen.out]; decide) hsm); clear ht hk hz K8)
  | (go_at_call 59; refine (K12.out).mono ?_; rintro e w2 ⟨rfl, ht, hk, hz⟩; have T16 := hid ht; clear ht hk hz K12)
  | go_in)
 obtain ⟨f, hf⟩ : ∃ f, f = at4 s 8 := ⟨_, rfl⟩
 obtain ⟨c, hc⟩ : ∃ c, c = at4 s 12 := ⟨_, rfl⟩
 have hn6 := heap_alloc_new w2 (.cells #[.int .i64 (at4 s 8), .int .i64 (at4 s 12), .int .u64 0, .int .i64 0, .int .i64 0, .int .i64 0, .int .i64 0, .int .i64 0, .int .i64 0, .int .i64 0, .int .i64 0] 38)
 have hlt6 : w.heap.size + 1 < w2.heap.size := lt_of_block T16.out.left
 have ht6 : TkSt w (w2.alloc (.cells #[.int .i64 (at4 s 8), .int .i64 (at4 s 12), .int .u64 0, .int .i64 0, .int .i64 0, .int .i64 0, .int .i64 0, .int .i64 0, .int .i64 0, .int .i64 0, .int .i64 0] 38)) s 16 := ⟨heap_alloc_old T16.out.res, heap_alloc_old T16.out.left, T16.out.bel.alloc T16.out.bel.size _⟩
 obtain ⟨w6, hw6⟩ : ∃ w6, w6 = w2.alloc (.cells #[.int .i64 (at4 s 8), .int .i64 (at4 s 12), .int .u64 0, .int .i64 0, .int .i64 0, .int .i64 0, .int .i64 0, .int .i64 0, .int .i64 0, .int .i64 0, .int .i64 0] 38) := ⟨_, rfl⟩
 obtain ⟨b6, hb6⟩ : ∃ b6, b6 = w2.heap.size := ⟨_, rfl⟩
 rw [← hw6] at hn6 ht6 ⊢
 rw [← hb6] at hn6 hlt6 ⊢
 rw [← hf, ← hc] at hn6 ⊢
 have Hf := hid hf
 have Hc := hid hc
 have Hn6 := hid hn6
 have Ht6 := hid ht6
 have Hlt6 := hid hlt6
 clear hw6 hb6 hf hc T16 hlt6
 have TE := hid (fun W => takeEight_any (s.drop 16) W (by rw [List.length_drop, Hlen.out]; decide) (by rw [List.length_drop]; omega))
 have cl : w6.cell? ⟨w.heap.size + 1, 0, none⟩ = some (.string (bs (s.drop 16))) := (cell_of_block ht6.left 0).trans rfl
 have hd24 : (s.drop 16).drop 8 = s.drop 24 := by rw [List.drop_drop]
 obtain ⟨l16, hl16⟩ : ∃ l16, l16 = s.drop 16 := ⟨_, rfl⟩
 have hl16l : 8 ≤ l16.length := by rw [hl16, List.length_drop, Hlen.out]; decide
 have hl16m : l16.length ≤ 9223372036854775807 := by rw [hl16, List.length_drop]; omega
 have htk16 : List.take (l16.length - 8) (List.drop 8 l16) = List.drop 8 l16 := List.take_of_length_le (by simp)
 rw [← hl16] at TE cl hd24
 obtain ⟨k, hk⟩ : ∃ k, k = num (l16.take 8) := ⟨_, rfl⟩
 have TE := TE.out
 simp only [← hk] at TE
 replace TE := hid TE
 have Hk := hid hk
 have Hl16 := hid hl16
 have Hd24 := hid hd24
 clear hk hl16 hd24 hn6 ht6
 go_upto_region 8 with (first
  | (go_at_call 61; refine (TE.out _).mono ?_; rintro e w7 ⟨rfl, hb7⟩; have hx7 := (hb7.block _ (lt_of_block Ht6.out.left)).trans Ht6.out.left; have h67 := (hb7.block _ (lt_of_block Hn6.out)).trans Hn6.out; have Hr7 := hid ((hb7.block _ (lt_of_block Ht6.out.res)).trans Ht6.out.res); have Hx7 := hid hx7; have H67 := hid h67; have Hb7 := hid (Ht6.out.bel.trans (hb7.mono Ht6.out.bel.size)); rw [← Hl16.out] at hx7; have cx7 : w7.cell? ⟨w.heap.size + 1, 0, none⟩ = some (.string (bs l16)) := (cell_of_block hx7 0).trans rfl; have fx7 := free_of_block hx7 0; have c67 : w7.cell? ⟨b6, 2, none⟩ = some (.int .u64 0) := (cell_of_block h67 2).trans rfl; have f67 := free_of_block h67 2; have hne := Hlt6.out; clear hb7 hx7 h67)
  | go_in)
 have h68 := heap_setCell_same H67.out 2 (.int .u64 k)
 have hst8 : TkSt w ((w7.setCell ⟨b6, 2, none⟩ (.int .u64 k)).setCell ⟨w.heap.size + 1, 0, none⟩ (.string (bs (List.drop 8 l16)))) s 24 := by
  have hx := (Below.heap_setCell w7 ⟨b6, 2, none⟩ (.int .u64 k) (w.heap.size + 1) (by show w.heap.size + 1 ≠ b6; omega)).trans Hx7.out
  refine ⟨(Below.heap_setCell _ ⟨w.heap.size + 1, 0, none⟩ _ w.heap.size (by show w.heap.size ≠ w.heap.size + 1; omega)).trans ((Below.heap_setCell w7 ⟨b6, 2, none⟩ _ w.heap.size (by show w.heap.size ≠ b6; omega)).trans Hr7.out), ?_, (Hb7.out.setCell (by show w.heap.size ≤ b6; omega) _).setCell (by show w.heap.size ≤ w.heap.size + 1; omega) _⟩
  rw [← Hd24.out]
  exact (heap_setCell_same hx 0 _).trans rfl
 have h68' : ((w7.setCell ⟨b6, 2, none⟩ (.int .u64 k)).setCell ⟨w.heap.size + 1, 0, none⟩ (.string (bs (List.drop 8 l16)))).heap[b6]? = some (.cells #[.int .i64 f, .int .i64 c, .int .u64 k, .int .i64 0, .int .i64 0, .int .i64 0, .int .i64 0, .int .i64 0, .int .i64 0, .int .i64 0, .int .i64 0] 38 (0, 0)) := (Below.heap_setCell _ ⟨w.heap.size + 1, 0, none⟩ _ b6 (by show b6 ≠ w.heap.size + 1; omega)).trans (h68.trans rfl)
 obtain ⟨w8, hw8⟩ : ∃ w8, w8 = (w7.setCell ⟨b6, 2, none⟩ (.int .u64 k)).setCell ⟨w.heap.size + 1, 0, none⟩ (.string (bs (List.drop 8 l16))) := ⟨_, rfl⟩
 rw [← hw8] at hst8 h68' ⊢
 have HST8 := hid hst8
 have H68 := hid h68'
 clear hst8 h68' h68 hw8 htk16 hl16l hl16m TE cl cx7 fx7 c67 f67 hne Hr7 Hx7 H67 Hb7 Ht6 Hn6 Hd24
 go_wp2_with fail
 go_loopw [30] (fun v30 wr => ∃ i : Nat, i ≤ 8 ∧ v30 = .int .i64 (i : Int) ∧ TkSt w wr s (24 + 4 * i) ∧ wr.heap[b6]? = some (.cells (hdrCells ⟨f, c, k, rootsTo s i⟩).toArray 38 (0, 0))) (fun v30 _ => 8 - (intOf v30).toNat)
 case atStart => exact ⟨0, by omega, rfl, HST8.out, H68.out.trans rfl⟩
 case round =>
  obtain ⟨i, hi, rfl, hst, hrow⟩ := hrel
  have Hst := hid hst
  have Hrow := hid hrow
  clear hst hrow
  by_cases hlt : i < 8
  ·have hi8 : i = 0 ∨ i = 1 ∨ i = 2 ∨ i = 3 ∨ i = 4 ∨ i = 5 ∨ i = 6 ∨ i = 7 := by omega
   have K := hid (tk_four Hst.out (by rw [Hlen.out]; omega) hsm)
   obtain ⟨x, hx⟩ : ∃ x, x = at4 s (24 + 4 * i) := ⟨_, rfl⟩
   have Hx := hid hx
   have K2 := K.out
   rw [← hx] at K2
   have KK := hid K2
   clear K K2 hx hi hlt
   rcases hi8 with rfl | rfl | rfl | rfl | rfl | rfl | rfl | rfl
   ·go_wp2_with (first | (go_at_call 59; refine (KK.out).mono ?_; rintro e w9 ⟨rfl, ht, hk, hz⟩; have hr9 := (hk b6 (by have := Hlt6.out; omega) (lt_of_block Hrow.out)).trans Hrow.out; have HR9 := hid hr9; have c9 : w9.cell? ⟨b6, 3, none⟩ = some (.int .i64 0) := (cell_of_block hr9 3).trans rfl; have f9 := free_of_block hr9 3; have HT9 := hid ht; clear ht hk hz hr9) | go_in)
    go_roundw
    case rel =>
     have hlt6 := Hlt6.out
     refine ⟨1, by omega, by first | rfl | trivial, ⟨(Below.heap_setCell _ ⟨b6, 3, none⟩ _ w.heap.size (by show w.heap.size ≠ b6; omega)).trans HT9.out.res, (Below.heap_setCell _ ⟨b6, 3, none⟩ _ (w.heap.size + 1) (by show w.heap.size + 1 ≠ b6; omega)).trans HT9.out.left, HT9.out.bel.setCell (by show w.heap.size ≤ b6; omega) _⟩, ?_⟩
     rw [Hx.out]
     exact (heap_setCell_same HR9.out 3 _).trans rfl
    case measure => simp [intOf]
   ·go_wp2_with (first | (go_at_call 59; refine (KK.out).mono ?_; rintro e w9 ⟨rfl, ht, hk, hz⟩; have hr9 := (hk b6 (by have := Hlt6.out; omega) (lt_of_block Hrow.out)).trans Hrow.out; have HR9 := hid hr9; have c9 : w9.cell? ⟨b6, 4, none⟩ = some (.int .i64 0) := (cell_of_block hr9 4).trans rfl; have f9 := free_of_block hr9 4; have HT9 := hid ht; clear ht hk hz hr9) | go_in)
    go_roundw
    case rel =>
     have hlt6 := Hlt6.out
     refine ⟨2, by omega, by first | rfl | trivial, ⟨(Below.heap_setCell _ ⟨b6, 4, none⟩ _ w.heap.size (by show w.heap.size ≠ b6; omega)).trans HT9.out.res, (Below.heap_setCell _ ⟨b6, 4, none⟩ _ (w.heap.size + 1) (by show w.heap.size + 1 ≠ b6; omega)).trans HT9.out.left, HT9.out.bel.setCell (by show w.heap.size ≤ b6; omega) _⟩, ?_⟩
     rw [Hx.out]
     exact (heap_setCell_same HR9.out 4 _).trans rfl
    case measure => simp [intOf]
   ·go_wp2_with (first | (go_at_call 59; refine (KK.out).mono ?_; rintro e w9 ⟨rfl, ht, hk, hz⟩; have hr9 := (hk b6 (by have := Hlt6.out; omega) (lt_of_block Hrow.out)).trans Hrow.out; have HR9 := hid hr9; have c9 : w9.cell? ⟨b6, 5, none⟩ = some (.int .i64 0) := (cell_of_block hr9 5).trans rfl; have f9 := free_of_block hr9 5; have HT9 := hid ht; clear ht hk hz hr9) | go_in)
    go_roundw
    case rel =>
     have hlt6 := Hlt6.out
     refine ⟨3, by omega, by first | rfl | trivial, ⟨(Below.heap_setCell _ ⟨b6, 5, none⟩ _ w.heap.size (by show w.heap.size ≠ b6; omega)).trans HT9.out.res, (Below.heap_setCell _ ⟨b6, 5, none⟩ _ (w.heap.size + 1) (by show w.heap.size + 1 ≠ b6; omega)).trans HT9.out.left, HT9.out.bel.setCell (by show w.heap.size ≤ b6; omega) _⟩, ?_⟩
     rw [Hx.out]
     exact (heap_setCell_same HR9.out 5 _).trans rfl
    case measure => simp [intOf]
   ·go_wp2_with (first | (go_at_call 59; refine (KK.out).mono ?_; rintro e w9 ⟨rfl, ht, hk, hz⟩; have hr9 := (hk b6 (by have := Hlt6.out; omega) (lt_of_block Hrow.out)).trans Hrow.out; have HR9 := hid hr9; have c9 : w9.cell? ⟨b6, 6, none⟩ = some (.int .i64 0) := (cell_of_block hr9 6).trans rfl; have f9 := free_of_block hr9 6; have HT9 := hid ht; clear ht hk hz hr9) | go_in)
    go_roundw
    case rel =>
     have hlt6 := Hlt6.out
     refine ⟨4, by omega, by first | rfl | trivial, ⟨(Below.heap_setCell _ ⟨b6, 6, none⟩ _ w.heap.size (by show w.heap.size ≠ b6; omega)).trans HT9.out.res, (Below.heap_setCell _ ⟨b6, 6, none⟩ _ (w.heap.size + 1) (by show w.heap.size + 1 ≠ b6; omega)).trans HT9.out.left, HT9.out.bel.setCell (by show w.heap.size ≤ b6; omega) _⟩, ?_⟩
     rw [Hx.out]
     exact (heap_setCell_same HR9.out 6 _).trans rfl
    case measure => simp [intOf]
   ·go_wp2_with (first | (go_at_call 59; refine (KK.out).mono ?_; rintro e w9 ⟨rfl, ht, hk, hz⟩; have hr9 := (hk b6 (by have := Hlt6.out; omega) (lt_of_block Hrow.out)).trans Hrow.out; have HR9 := hid hr9; have c9 : w9.cell? ⟨b6, 7, none⟩ = some (.int .i64 0) := (cell_of_block hr9 7).trans rfl; have f9 := free_of_block hr9 7; have HT9 := hid ht; clear ht hk hz hr9) | go_in)
    go_roundw
    case rel =>
     have hlt6 := Hlt6.out
     refine ⟨5, by omega, by first | rfl | trivial, ⟨(Below.heap_setCell _ ⟨b6, 7, none⟩ _ w.heap.size (by show w.heap.size ≠ b6; omega)).trans HT9.out.res, (Below.heap_setCell _ ⟨b6, 7, none⟩ _ (w.heap.size + 1) (by show w.heap.size + 1 ≠ b6; omega)).trans HT9.out.left, HT9.out.bel.setCell (by show w.heap.size ≤ b6; omega) _⟩, ?_⟩
     rw [Hx.out]
     exact (heap_setCell_same HR9.out 7 _).trans rfl
    case measure => simp [intOf]
   ·go_wp2_with (first | (go_at_call 59; refine (KK.out).mono ?_; rintro e w9 ⟨rfl, ht, hk, hz⟩; have hr9 := (hk b6 (by have := Hlt6.out; omega) (lt_of_block Hrow.out)).trans Hrow.out; have HR9 := hid hr9; have c9 : w9.cell? ⟨b6, 8, none⟩ = some (.int .i64 0) := (cell_of_block hr9 8).trans rfl; have f9 := free_of_block hr9 8; have HT9 := hid ht; clear ht hk hz hr9) | go_in)
    go_roundw
    case rel =>
     have hlt6 := Hlt6.out
     refine ⟨6, by omega, by first | rfl | trivial, ⟨(Below.heap_setCell _ ⟨b6, 8, none⟩ _ w.heap.size (by show w.heap.size ≠ b6; omega)).trans HT9.out.res, (Below.heap_setCell _ ⟨b6, 8, none⟩ _ (w.heap.size + 1) (by show w.heap.size + 1 ≠ b6; omega)).trans HT9.out.left, HT9.out.bel.setCell (by show w.heap.size ≤ b6; omega) _⟩, ?_⟩
     rw [Hx.out]
     exact (heap_setCell_same HR9.out 8 _).trans rfl
    case measure => simp [intOf]
   ·go_wp2_with (first | (go_at_call 59; refine (KK.out).mono ?_; rintro e w9 ⟨rfl, ht, hk, hz⟩; have hr9 := (hk b6 (by have := Hlt6.out; omega) (lt_of_block Hrow.out)).trans Hrow.out; have HR9 := hid hr9; have c9 : w9.cell? ⟨b6, 9, none⟩ = some (.int .i64 0) := (cell_of_block hr9 9).trans rfl; have f9 := free_of_block hr9 9; have HT9 := hid ht; clear ht hk hz hr9) | go_in)
    go_roundw
    case rel =>
     have hlt6 := Hlt6.out
     refine ⟨7, by omega, by first | rfl | trivial, ⟨(Below.heap_setCell _ ⟨b6, 9, none⟩ _ w.heap.size (by show w.heap.size ≠ b6; omega)).trans HT9.out.res, (Below.heap_setCell _ ⟨b6, 9, none⟩ _ (w.heap.size + 1) (by show w.heap.size + 1 ≠ b6; omega)).trans HT9.out.left, HT9.out.bel.setCell (by show w.heap.size ≤ b6; omega) _⟩, ?_⟩
     rw [Hx.out]
     exact (heap_setCell_same HR9.out 9 _).trans rfl
    case measure => simp [intOf]
   ·go_wp2_with (first | (go_at_call 59; refine (KK.out).mono ?_; rintro e w9 ⟨rfl, ht, hk, hz⟩; have hr9 := (hk b6 (by have := Hlt6.out; omega) (lt_of_block Hrow.out)).trans Hrow.out; have HR9 := hid hr9; have c9 : w9.cell? ⟨b6, 10, none⟩ = some (.int .i64 0) := (cell_of_block hr9 10).trans rfl; have f9 := free_of_block hr9 10; have HT9 := hid ht; clear ht hk hz hr9) | go_in)
    go_roundw
    case rel =>
     have hlt6 := Hlt6.out
     refine ⟨8, by omega, by first | rfl | trivial, ⟨(Below.heap_setCell _ ⟨b6, 10, none⟩ _ w.heap.size (by show w.heap.size ≠ b6; omega)).trans HT9.out.res, (Below.heap_setCell _ ⟨b6, 10, none⟩ _ (w.heap.size + 1) (by show w.heap.size + 1 ≠ b6; omega)).trans HT9.out.left, HT9.out.bel.setCell (by show w.heap.size ≤ b6; omega) _⟩, ?_⟩
     rw [Hx.out]
     exact (heap_setCell_same HR9.out 10 _).trans rfl
    case measure => simp [intOf]
  ·obtain rfl : i = 8 := by omega
   have hr8 := Hrow.out
   have hH : (⟨f, c, k, rootsTo s 8⟩ : Hdr) = hdrOf s := by rw [Hf.out, Hc.out, Hk.out, Hl16.out, rootsTo_all]; rfl
   rw [hH] at hr8
   have SP := fun W => sput_any (hdrOf s) (hdrOf_wf s) W
   have hT : takeH s = if putH (hdrOf s) = (s, 0) then (hdrOf s, 0) else (hdr0, 7) := by unfold takeH; rw [if_neg (by rw [Hlen.out]; simp)]
   obtain ⟨P, hP⟩ : ∃ P, P = putH (hdrOf s) := ⟨_, rfl⟩
   simp only [← hP] at SP hT
   obtain ⟨HH, hHH⟩ : ∃ HH, HH = hdrOf s := ⟨_, rfl⟩
   rw [← hHH] at hr8 hT
   simp only [← hHH] at SP
   have hHl : HH.roots.length = 8 := by rw [hHH]; exact (hdrOf_wf s).len
   clear hH hHH hP Hf Hc Hk Hl16 Hrow
   obtain ⟨f', c', k', r0, r1, r2, r3, r4, r5, r6, r7, rfl⟩ := hdr_form hHl
   have hR2 := HRT.out.trans hT
   unfold hdrV hdrCells at SP
   unfold hdrCells at hr8
   simp only [List.map_cons, List.map_nil] at SP hr8
   replace SP := hid SP
   obtain ⟨⟨d0, d1, d2⟩, ⟨d3, d4, d5, d6, d7, d8, d9, d10⟩, df⟩ := cells11 hr8
   have Hr8 := hid hr8
   have Hst8 := hid Hst.out
   clear hT hHl hr8 hi
   obtain ⟨t, E⟩ := P
   dsimp only at SP
   by_cases he : E = 0
   rotate_left
   ·have b1 : (E != 0) = true := by simp [he]
    rw [if_neg (fun e => he (Prod.mk.inj e).2)] at hR2
    have HR2 := hid hR2
    clear he hR2
    go_wp2_with (first
     | (go_at_call 62; refine (SP.out _).mono ?_; rintro e w12 ⟨rfl, hb12⟩; have hr12 := (hb12.block _ (lt_of_block Hr8.out)).trans Hr8.out; have hz12 := (hb12.block _ (lt_of_block Hst8.out.res)).trans Hst8.out.res; have HB12 := hid (Hst8.out.bel.trans (hb12.mono Hst8.out.bel.size)); clear d0 d1 d2 d3 d4 d5 d6 d7 d8 d9 d10 df; obtain ⟨⟨d0, d1, d2⟩, ⟨d3, d4, d5, d6, d7, d8, d9, d10⟩, df⟩ := cells11 hr12; obtain ⟨⟨z0, z1, z2⟩, ⟨z3, z4, z5, z6, z7, z8, z9, z10⟩, zf⟩ := cells11 hz12; clear hr12 hz12 hb12)
     | go_in)
    rw [HR2.out]
    refine bodyPost_ret (v := .tuple #[hdrV hdr0, .int .i64 7]) (by simp [results, Tryz.results29, go_sem, hdrV, hdrCells, hdr0, z0, z1, z2, z3, z4, z5, z6, z7, z8, z9, z10, zf]) rfl ⟨rfl, ?_⟩
    iterate 11 refine Below.setCell ?_ (by simp) _
    exact HB12.out
   have b1 : (E != 0) = false := by simp [he]
   by_cases ht : t = s
   ·have b2 : (t != s) = false := by simp [ht]
    have b3 : (t == s) = true := by simp [ht]
    rw [if_pos (by rw [ht, he])] at hR2
    have HR2 := hid hR2
    clear he ht hR2
    go_wp2_with (first
     | (go_at_call 62; refine (SP.out _).mono ?_; rintro e w12 ⟨rfl, hb12⟩; have hr12 := (hb12.block _ (lt_of_block Hr8.out)).trans Hr8.out; have hz12 := (hb12.block _ (lt_of_block Hst8.out.res)).trans Hst8.out.res; have HB12 := hid (Hst8.out.bel.trans (hb12.mono Hst8.out.bel.size)); clear d0 d1 d2 d3 d4 d5 d6 d7 d8 d9 d10 df; obtain ⟨⟨d0, d1, d2⟩, ⟨d3, d4, d5, d6, d7, d8, d9, d10⟩, df⟩ := cells11 hr12; obtain ⟨⟨z0, z1, z2⟩, ⟨z3, z4, z5, z6, z7, z8, z9, z10⟩, zf⟩ := cells11 hz12; clear hr12 hz12 hb12)
     | go_in)
    rw [HR2.out]
    refine bodyPost_ret (v := .tuple #[.agg #[.int .i64 f', .int .i64 c', .int .u64 k', .int .i64 r0, .int .i64 r1, .int .i64 r2, .int .i64 r3, .int .i64 r4, .int .i64 r5, .int .i64 r6, .int .i64 r7], .int .i64 0]) (by simp [results, Tryz.results29, go_sem, z0, z1, z2, z3, z4, z5, z6, z7, z8, z9, z10, zf]) rfl ⟨rfl, ?_⟩
    iterate 11 refine Below.setCell ?_ (by simp) _
    exact HB12.out
   ·have b2 : (t != s) = true := by simp [ht]
    have b3 : (t == s) = false := by simp [ht]
    rw [if_neg (fun e => ht (Prod.mk.inj e).1)] at hR2
    have HR2 := hid hR2
    clear he ht hR2
    go_wp2_with (first
     | (go_at_call 62; refine (SP.out _).mono ?_; rintro e w12 ⟨rfl, hb12⟩; have hr12 := (hb12.block _ (lt_of_block Hr8.out)).trans Hr8.out; have hz12 := (hb12.block _ (lt_of_block Hst8.out.res)).trans Hst8.out.res; have HB12 := hid (Hst8.out.bel.trans (hb12.mono Hst8.out.bel.size)); clear d0 d1 d2 d3 d4 d5 d6 d7 d8 d9 d10 df; obtain ⟨⟨d0, d1, d2⟩, ⟨d3, d4, d5, d6, d7, d8, d9, d10⟩, df⟩ := cells11 hr12; obtain ⟨⟨z0, z1, z2⟩, ⟨z3, z4, z5, z6, z7, z8, z9, z10⟩, zf⟩ := cells11 hz12; clear hr12 hz12 hb12)
     | go_in)
    rw [HR2.out]
    refine bodyPost_ret (v := .tuple #[hdrV hdr0, .int .i64 7]) (by simp [results, Tryz.results29, go_sem, hdrV, hdrCells, hdr0, z0, z1, z2, z3, z4, z5, z6, z7, z8, z9, z10, zf]) rfl ⟨rfl, ?_⟩
    iterate 11 refine Below.setCell ?_ (by simp) _
    exact HB12.out
theorem stake_any (s : List UInt8) (hs : s.length ≤ 9223372036854775807) (w : World) : Calls Tryz.prog 29 #[.string (bs s)] w fun e w' => e = .returned (.tuple #[hdrV (takeH s).1, .int .i64 (takeH s).2]) ∧ Below w.heap.size w w' := by
 by_cases h : s.length = 512
 ·exact stake_full s h w
 ·have := stake_short s h hs w
  unfold takeH
  rw [if_pos h]
  exact this
end Go.Proofs.YtlkkclooihjpiaaGreat
