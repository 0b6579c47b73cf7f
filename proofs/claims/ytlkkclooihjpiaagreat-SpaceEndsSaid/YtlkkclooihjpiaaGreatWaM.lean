/- Open of a log that has a head. -/
import Derived.Test.YtlkkclooihjpiaaGreatWaL
set_option linter.unusedVariables false
set_option linter.unusedSimpArgs false
namespace Go.Proofs.YtlkkclooihjpiaaGreat
open Go.RowKit Go.Maps
set_option maxRecDepth 20000
theorem openN_succ (d : Dsk) (salt : Int) (c i : Nat) (l : List Fr) (p : Int × Int) : openN d salt (c + 1) i l p = if (readM d 1 (1 + 9 * (i : Int)) 9).2 ≠ 0 then none else if (tkFr p salt (readM d 1 (1 + 9 * (i : Int)) 9).1).e ≠ 0 then none
  else openN d salt c (i + 1) (l ++ [(tkFr p salt (readM d 1 (1 + 9 * (i : Int)) 9).1).f]) (tkFr p salt (readM d 1 (1 + 9 * (i : Int)) 9).1).q := rfl
theorem tkHd_wf (s : List UInt8) (hl : s.length = 64) (h : (tkHd s).2 = 0) : HdWf (tkHd s).1 ∧ (0 ≤ (tkHd s).1.frames ∧ (tkHd s).1.frames ≤ 256) ∧ (0 ≤ (tkHd s).1.pages ∧ (tkHd s).1.pages ≤ 256) := by
 have hm := (tkHd_ok s hl h).2
 unfold hdMay inB at hm
 simp at hm
 refine ⟨?_, ⟨hm.1.1, hm.1.2⟩, ⟨hm.2.1, hm.2.2⟩⟩
 unfold tkHd at h ⊢
 split
 ·unfold HdWf zeroHd; decide
 split
 ·unfold HdWf zeroHd; decide
 split
 ·unfold HdWf hdOf
  have h1 := num_lo ((s.drop 8).take 8)
  have h2 := num_hi ((s.drop 8).take 8)
  have h3 : ((s.drop 8).take 8).length = 8 := by simp; omega
  rw [h3] at h2
  exact ⟨h1, h2⟩
 ·unfold HdWf zeroHd; decide
theorem tkFr_good (p : Int × Int) (salt : Int) (s : List UInt8) (hp : PairWf p) (h : (tkFr p salt s).e = 0) : frOk (tkFr p salt s).f = true ∧ PairWf (tkFr p salt s).q := by
 unfold tkFr at h ⊢
 split at h
 ·cases h
 rename_i h1
 rw [if_neg h1]
 split at h
 ·cases h
 rename_i h2
 rw [if_neg h2]
 split at h
 ·rename_i h3
  rw [if_pos h3]
  split at h
  ·rename_i h4
   rw [if_pos h4]
   refine ⟨?_, sumAdd_bd _ _ (sumAdd_bd _ _ hp.1 hp.2).1 (sumAdd_bd _ _ hp.1 hp.2).2⟩
   simp only [Bool.or_eq_true, Bool.not_eq_true', not_or, Bool.not_eq_false] at h2
   unfold frOk
   simp only [h2.2, Bool.true_and, decide_eq_true_eq]
   unfold frOf
   simp
   omega
  ·cases h
 ·cases h
theorem readM_length {d : Dsk} (h : d.Ok) (a n : Int) (hn : n ≤ 1000) : (readM d 1 a n).1.length ≤ 64000 := by
 unfold readM
 split
 ·simp
 split
 ·simp
 ·rename_i h1 h2
  have := flat_take (l := d.now 1) (h.ns 1 (by omega)) (a := a.toNat) (i := n.toNat) (by
   have e : ((1 : Int).toNat) = 1 := rfl
   rw [e] at h2
   omega)
  have e : ((1 : Int).toNat) = 1 := rfl
  simp only [e, this]
  omega
theorem first_len {d : Dsk} (h : d.Ok) (ho : d.off = false) : (firstM d).length = 64 := by
 unfold firstM
 split
 ·rename_i h1
  unfold readM readyM
  rw [ho]
  have e : ((1 : Int).toNat) = 1 := rfl
  simp only [e]
  rw [if_neg (by simp), if_neg (by omega)]
  exact flat_take (l := d.now 1) (h.ns 1 (by omega)) (a := (0 : Int).toNat) (i := (1 : Int).toNat) (by simp; omega)
 ·simp [zeros]
section
variable {P : Program} {l : List Oper} {Q : Exit → Act → World → Prop} {md : Region.Mode} {S : World → Prop}
theorem held_three (i j k : Nat) {oi oj ok : Oper} {fuel : Nat} {listed : Array Bool} {a : Act} {w : World} (hr : Region.ready md l.toArray listed = [i, j, k]) (hi : l[i]? = some oi) (hj : l[j]? = some oj) (hk : l[k]? = some ok)
  (h1 : ∀ K' : Act → World → Prop, Shut (∀ a w, S w → (S w → wpAnyH P md l.toArray Q S fuel (listed.setIfInBounds i true) a w) → K' a w) → if Region.wanted oi (yielded l.toArray a.tmps) = true then Oper.wp P oi a w K' Q else K' (a.put oi.dst undef) w)
  (h2 : ∀ K' : Act → World → Prop, Shut (∀ a w, S w → (S w → wpAnyH P md l.toArray Q S fuel (listed.setIfInBounds j true) a w) → K' a w) → if Region.wanted oj (yielded l.toArray a.tmps) = true then Oper.wp P oj a w K' Q else K' (a.put oj.dst undef) w)
  (h3 : ∀ K' : Act → World → Prop, Shut (∀ a w, S w → (S w → wpAnyH P md l.toArray Q S fuel (listed.setIfInBounds k true) a w) → K' a w) → if Region.wanted ok (yielded l.toArray a.tmps) = true then Oper.wp P ok a w K' Q else K' (a.put ok.dst undef) w) :
  wpAnyH P md l.toArray Q S (fuel + 1) listed a w :=
 wpAnyH_ready hr (by simp) (AllReadyH.cons (by simpa using hi) h1 (AllReadyH.cons (by simpa using hj) h2 (AllReadyH.cons (by simpa using hk) h3 AllReadyH.nil)))
end
section
variable {w w' : World} {b : Nat} {F : Foot} {d : Dsk}
set_option maxHeartbeats 4000000 in
set_option maxRecDepth 20000 in
theorem lopen_head (h : DiskAt w b F d) (ho : d.off = false) (hf : firstM d ≠ zeros 64) : Calls Tryz.prog 26 #[.pointer (some ⟨b, 0, none⟩)] w fun e w' => OpenGave w b F d (lopenM d) e w' := by
 have h1 : (d.now 1).length ≠ 0 := fun e => hf (by unfold firstM; rw [e, if_neg (by omega)])
 obtain ⟨t, ht⟩ : ∃ t, t = firstM d := ⟨_, rfl⟩
 obtain ⟨Z, hZ⟩ : ∃ Z, Z = List.replicate 64 (0 : UInt8) := ⟨_, rfl⟩
 have htl : t.length = 64 := by rw [ht]; exact first_len h.ok ho
 have hne : t ≠ Z := by rw [ht, hZ]; exact hf
 have hM : lopenM d = if (tkHd t).2 ≠ 0 then ((none, 7) : Option Lg × Int)
  else match openN d (tkHd t).1.number (tkHd t).1.frames.toNat 0 [] (startP (tkHd t).1.number) with
   | none => (none, 7)
   | some x => if 0 < (tkHd t).1.frames ∧ lastCommit x.1 ≠ (tkHd t).1.pages then (none, 7) else (some (⟨(tkHd t).1, true, x.1, x.2, false, false⟩ : Lg), 0) := by
  unfold lopenM
  rw [ho, if_neg (by simp), if_neg hf, ← ht]
  rfl
 obtain ⟨M, hMM⟩ : ∃ M, M = lopenM d := ⟨_, rfl⟩
 rw [← hMM] at hM ⊢
 have O := on_any h
 rw [ho] at O
 have O := hid O
 have SZ1 : ∀ W, Below w.heap.size w W → Calls Tryz.prog 52 #[.pointer (some ⟨b, 0, none⟩), .int .i64 1] W fun e w' => e = .returned (.int .i64 ((d.now 1).length : Nat)) ∧ w' = W := fun W hb => by
  have := size_any (h.below hb) 1
  rwa [if_pos (by omega)] at this
 have RD : ∀ W, Below w.heap.size w W → Calls Tryz.prog 53 #[.pointer (some ⟨b, 0, none⟩), .int .i64 1, .int .i64 0, .int .i64 1] W fun e w' => e = .returned (.tuple #[.string (bs t), .int .i64 (readM d 1 0 1).2]) ∧ Below W.heap.size W w' := fun W hb => by
  have := read_any (h.below hb) 1 0 1 (by omega)
  rwa [← first_read h ho h1, ← ht] at this
 have RN : ∀ W (i : Nat), i ≤ 1000 → Below w.heap.size w W → Calls Tryz.prog 53 #[.pointer (some ⟨b, 0, none⟩), .int .i64 1, .int .i64 (1 + 9 * (i : Int)), .int .i64 9] W fun e w' => e = .returned (.tuple #[.string (bs (readM d 1 (1 + 9 * (i : Int)) 9).1), .int .i64 (readM d 1 (1 + 9 * (i : Int)) 9).2]) ∧ Below W.heap.size W w' := fun W i hi hb => read_any (h.below hb) 1 (1 + 9 * (i : Int)) 9 (by omega)
 have NT : ∀ W, Calls Tryz.prog 51 #[.int .i64 64] W fun e w' => e = .returned (.string (bs Z)) ∧ Below W.heap.size W w' := fun W => by rw [hZ]; exact wnoughts_any 64 W (by omega)
 have TH := fun W => takeHead_any t W (by omega)
 have hb0 := (Below.refl w.heap.size w).alloc (Nat.le_refl _) (.cells (logCells b zeroLg (.slice none 0 0)).toArray 110)
 have hl0 := heap_alloc_new w (.cells (logCells b zeroLg (.slice none 0 0)).toArray 110)
 obtain ⟨s1, hs1⟩ : ∃ s1, s1 = (d.now 1).length := ⟨_, rfl⟩
 rw [← hs1] at SZ1 h1
 have hwf := tkHd_wf t htl
 obtain ⟨x, hx⟩ : ∃ x, x = tkHd t := ⟨_, rfl⟩
 rw [← hx] at hM TH hwf
 obtain ⟨hd, e⟩ := x
 simp only at hM TH hwf
 unfold hdV at TH
 have hst : (t == Z) = false := beq_eq_false_iff_ne.2 hne
 have H := hid h
 have HM := hid hM
 have SZ1 := hid SZ1
 have RD := hid RD
 have RN := hid RN
 have NT := hid NT
 have TH := hid TH
 have HB0 := hid hb0
 have HL0 := hid hl0
 have Hwf := hid hwf
 have hlt := h.lt
 have h1p : (0 : Int) < (s1 : Int) := by omega
 have h1n : 0 < s1 := by omega
 clear h ho hM hMM hb0 hl0 hZ hf hs1 htl hne ht hwf hx h1
 go_enter Tryz.func26, Tryz.ntmps26
 go_upto_region 7 with (first
  | (go_at_call 50; refine (O.out).mono ?_; rintro e w1 ⟨rfl, hw⟩; obtain rfl := hw.symm)
  | (go_at_call 51; refine (NT.out _).mono ?_; rintro e w2 ⟨rfl, hb2⟩)
  | go_in)
 have hw2 : Below w.heap.size w w2 := HB0.out.trans (hb2.mono HB0.out.size)
 have hl2 : w2.heap[w.heap.size]? = some (.cells (logCells b zeroLg (.slice none 0 0)).toArray 110 (0, 0)) := (hb2.block _ (lt_of_block HL0.out)).trans HL0.out
 obtain ⟨lb, hlb⟩ : ∃ lb, lb = w.heap.size := ⟨_, rfl⟩
 rw [← hlb] at hl2 ⊢
 have Hlb := hid hlb
 have Hb2 := hid hw2
 have Hl2 := hid hl2
 clear hb2 hw2 hl2 hlb
 go_upto_region 15 with (first
  | (go_at_call 52; refine (SZ1.out _ Hb2.out).mono ?_; rintro e w3 ⟨rfl, hw⟩; obtain rfl := hw.symm)
  | (go_at_call 53; refine (RD.out _ Hb2.out).mono ?_; rintro e w3 ⟨rfl, hb3⟩)
  | (go_at_call 51; refine (NT.out _).mono ?_; rintro e w4 ⟨rfl, hb4⟩)
  | go_in)
 have hw3 : Below w.heap.size w w3 := Hb2.out.trans (hb3.mono Hb2.out.size)
 have hl3 := (hb3.block _ (lt_of_block Hl2.out)).trans Hl2.out
 have hw4 : Below w.heap.size w w4 := hw3.trans (hb4.mono hw3.size)
 have hl4 := (hb4.block _ (lt_of_block hl3)).trans hl3
 have Hw4 := hid hw4
 have Hl4 := hid hl4
 clear hw3 hl3 hw4 hl4 hb3 hb4 h1p h1n hst SZ1 RD NT O
 by_cases he : e = 0
 ·subst he
  go_upto_region 18 with (first
   | (go_at_call 55; refine (TH.out _).mono ?_; rintro e w5 ⟨rfl, hb5⟩)
   | go_in)
  have hw5 : Below w.heap.size w w5 := Hw4.out.trans (hb5.mono Hw4.out.size)
  have hl5 := (hb5.block _ (lt_of_block Hl4.out)).trans Hl4.out
  have hw6 := hw5.alloc hw5.size (.cells #[.int .u64 hd.number, .int .i64 hd.frames, .int .i64 hd.pages] 104)
  have hl6 := heap_alloc_old (o := .cells #[.int .u64 hd.number, .int .i64 hd.frames, .int .i64 hd.pages] 104) hl5
  have hh6 := heap_alloc_new w5 (.cells #[.int .u64 hd.number, .int .i64 hd.frames, .int .i64 hd.pages] 104)
  have hs6 : (w5.alloc (.cells #[.int .u64 hd.number, .int .i64 hd.frames, .int .i64 hd.pages] 104)).heap.size = w5.heap.size + 1 := by simp
  obtain ⟨w6, hw6'⟩ : ∃ w6, w6 = w5.alloc (.cells #[.int .u64 hd.number, .int .i64 hd.frames, .int .i64 hd.pages] 104) := ⟨_, rfl⟩
  rw [← hw6'] at hw6 hl6 hh6 hs6 ⊢
  obtain ⟨HB, hHB⟩ : ∃ HB, HB = w5.heap.size := ⟨_, rfl⟩
  rw [← hHB] at hh6 hs6 ⊢
  have hlbHB : lb < HB := by rw [hHB]; exact lt_of_block hl5
  have HM2 := HM.out
  rw [if_neg (by simp)] at HM2
  replace HM2 := hid HM2
  have Hw6 := hid hw6
  have Hl6 := hid hl6
  have Hh6 := hid hh6
  have Hs6 := hid hs6
  have HlbHB := hid hlbHB
  have hwf := Hwf.out trivial
  have hst := fun W => start_any hd.number W hwf.1.1 hwf.1.2
  unfold pairV at hst
  have Hst := hid hst
  have Hwf := hid hwf
  have HS18 := hid (show ∀ W : World, W.heap[HB]? = w6.heap[HB]? → W.cell? ⟨HB, 0, none⟩ = some (.int .u64 hd.number) ∧ W.cell? ⟨HB, 1, none⟩ = some (.int .i64 hd.frames) ∧ W.cell? ⟨HB, 2, none⟩ = some (.int .i64 hd.pages) from fun W e => by
   have b1 := e.trans hh6
   exact ⟨by rw [cell_of_block b1]; rfl, by rw [cell_of_block b1]; rfl, by rw [cell_of_block b1]; rfl⟩)
  clear hw6 hl6 hh6 hs6 hlbHB hst hwf hw5 hl5 hb5 hHB hw6' HM TH
  go_upto_region 18 with fail
  refine wp_region_held_drew (S := fun W => W.cell? ⟨HB, 0, none⟩ = some (.int .u64 hd.number) ∧ W.cell? ⟨HB, 1, none⟩ = some (.int .i64 hd.frames) ∧ W.cell? ⟨HB, 2, none⟩ = some (.int .i64 hd.pages)) (by kernel_rfl) (HS18.out w6.drew rfl) (fun hHeld => ?_)
  refine held_take (v := ?p18v0) 0 rfl (by kernel_rfl) (by kernel_rfl) (by kernel_rfl) (fun _ _ _ h => h) (by rfl) hHeld ?p18y0 ?p18r0
  case p18y0 => (intro W hSw; obtain ⟨y0, y1, y2⟩ := hSw; go_simp; with_reducible rfl)
  simp only [Act.put, List.setIfInBounds_toArray, List.set_cons_zero, List.set_cons_succ]
  refine held_take (v := ?p18v1) 1 rfl (by kernel_rfl) (by kernel_rfl) (by kernel_rfl) (fun _ _ _ h => h) (by rfl) hHeld ?p18y1 ?p18r1
  case p18y1 => (intro W hSw; obtain ⟨y0, y1, y2⟩ := hSw; go_simp; with_reducible rfl)
  simp only [Act.put, List.setIfInBounds_toArray, List.set_cons_zero, List.set_cons_succ]
  refine held_take (v := ?p18v2) 2 rfl (by kernel_rfl) (by kernel_rfl) (by kernel_rfl) (fun _ _ _ h => h) (by rfl) hHeld ?p18y2 ?p18r2
  case p18y2 => (intro W hSw; obtain ⟨y0, y1, y2⟩ := hSw; go_simp; with_reducible rfl)
  simp only [Act.put, List.setIfInBounds_toArray, List.set_cons_zero, List.set_cons_succ]
  refine held_take (v := ?p18v3) 3 rfl (by kernel_rfl) (by kernel_rfl) (by kernel_rfl) (fun _ _ _ h => h) (by rfl) hHeld ?p18y3 ?p18r3
  case p18y3 => (intro W hSw; obtain ⟨y0, y1, y2⟩ := hSw; go_simp; with_reducible rfl)
  simp only [Act.put, List.setIfInBounds_toArray, List.set_cons_zero, List.set_cons_succ]
  refine held_take (v := ?p18v4) 4 rfl (by kernel_rfl) (by kernel_rfl) (by kernel_rfl) (fun _ _ _ h => h) (by rfl) hHeld ?p18y4 ?p18r4
  case p18y4 => (intro W hSw; obtain ⟨y0, y1, y2⟩ := hSw; go_simp; with_reducible rfl)
  simp only [Act.put, List.setIfInBounds_toArray, List.set_cons_zero, List.set_cons_succ]
  refine held_take (v := ?p18v5) 5 rfl (by kernel_rfl) (by kernel_rfl) (by kernel_rfl) (fun _ _ _ h => h) (by rfl) hHeld ?p18y5 ?p18r5
  case p18y5 => (intro W hSw; obtain ⟨y0, y1, y2⟩ := hSw; go_simp; with_reducible rfl)
  simp only [Act.put, List.setIfInBounds_toArray, List.set_cons_zero, List.set_cons_succ]
  refine held_one 6 (by kernel_rfl) rfl (fun K hK => ?_)
  go_simp
  refine (Hst.out _).mono ?_
  rintro e w7 ⟨rfl, hb7⟩
  have hb7 := below_undrew hb7
  have hl7 := (hb7.block _ (lt_of_block Hl6.out)).trans Hl6.out
  have hh7 := hb7.block _ (lt_of_block Hh6.out)
  have hw7 : Below w.heap.size w w7 := Hw6.out.trans (hb7.mono Hw6.out.size)
  have hs7 := hb7.size
  try dsimp only
  refine hK.out _ _ (HS18.out _ hh7) (fun hHeld => ?_)
  clear hK K
  try simp only [Act.put, List.setIfInBounds_toArray, List.set_cons_zero, List.set_cons_succ]
  have a1 : w7.cell? ⟨lb, 1, none⟩ = some (.int .u64 0) := (cell_of_block hl7 1).trans rfl
  have a2 : w7.cell? ⟨lb, 2, none⟩ = some (.int .i64 0) := (cell_of_block hl7 2).trans rfl
  have a3 : w7.cell? ⟨lb, 3, none⟩ = some (.int .i64 0) := (cell_of_block hl7 3).trans rfl
  have af1 := free_of_block hl7 1
  have af2 := free_of_block hl7 2
  have af3 := free_of_block hl7 3
  clear hb7
  refine held_take (v := ?q18v7) 7 rfl (by kernel_rfl) (by kernel_rfl) (by kernel_rfl) (fun _ _ _ h => h) (by rfl) hHeld ?q18y7 ?q18r7
  case q18y7 => (intro W hSw; obtain ⟨y0, y1, y2⟩ := hSw; go_simp; with_reducible rfl)
  simp only [Act.put, List.setIfInBounds_toArray, List.set_cons_zero, List.set_cons_succ]
  refine held_take (v := ?q18v8) 8 rfl (by kernel_rfl) (by kernel_rfl) (by kernel_rfl) (fun _ _ _ h => h) (by rfl) hHeld ?q18y8 ?q18r8
  case q18y8 => (intro W hSw; obtain ⟨y0, y1, y2⟩ := hSw; go_simp; with_reducible rfl)
  simp only [Act.put, List.setIfInBounds_toArray, List.set_cons_zero, List.set_cons_succ]
  refine held_one 9 (by kernel_rfl) rfl (fun K hK => ?_)
  go_simp
  have hnHB : HB ≠ lb := by have := HlbHB.out; omega
  obtain ⟨wa, hwa⟩ : ∃ wa, wa = ((w7.setCell ⟨lb, 1, none⟩ (.int .u64 hd.number)).setCell ⟨lb, 2, none⟩ (.int .i64 hd.frames)).setCell ⟨lb, 3, none⟩ (.int .i64 hd.pages) := ⟨_, rfl⟩
  rw [← hwa]
  have sha : wa.heap[HB]? = w6.heap[HB]? := by
   rw [hwa, Below.heap_setCell _ ⟨lb, _, none⟩ _ HB hnHB, Below.heap_setCell _ ⟨lb, _, none⟩ _ HB hnHB, Below.heap_setCell _ ⟨lb, _, none⟩ _ HB hnHB]
   exact hh7
  have bka : wa.heap[lb]? = some (.cells (logCells b (⟨hd, false, [], (0, 0), false, false⟩ : Lg) (.slice none 0 0)).toArray 110 (0, 0)) := by
   rw [hwa]
   exact (heap_setCell_same (heap_setCell_same (heap_setCell_same hl7 1 (.int .u64 hd.number)) 2 (.int .i64 hd.frames)) 3 (.int .i64 hd.pages)).trans rfl
  have wwa : Below w.heap.size w wa := by
   rw [hwa]
   exact ((hw7.setCell (p := ⟨lb, 1, none⟩) (by rw [Hlb.out]; exact Nat.le_refl _) _).setCell (p := ⟨lb, 2, none⟩) (by rw [Hlb.out]; exact Nat.le_refl _) _).setCell (p := ⟨lb, 3, none⟩) (by rw [Hlb.out]; exact Nat.le_refl _) _
  have sza : w6.heap.size ≤ wa.heap.size := by rw [hwa]; simpa using hs7
  clear hwa a1 a2 a3 af1 af2 af3 hl7 hh7 hw7 hs7
  refine hK.out _ _ (HS18.out _ sha) (fun hHeld => ?_)
  clear hK K
  try simp only [Act.put, List.setIfInBounds_toArray, List.set_cons_zero, List.set_cons_succ]
  have a4 : wa.cell? ⟨lb, 4, none⟩ = some (.bool false) := (cell_of_block bka 4).trans rfl
  have af4 := free_of_block bka 4
  refine held_take (v := ?r18v10) 10 rfl (by kernel_rfl) (by kernel_rfl) (by kernel_rfl) (fun _ _ _ h => h) (by rfl) hHeld ?r18y10 ?r18r10
  case r18y10 => (intro W hSw; obtain ⟨y0, y1, y2⟩ := hSw; go_simp; with_reducible rfl)
  simp only [Act.put, List.setIfInBounds_toArray, List.set_cons_zero, List.set_cons_succ]
  refine held_take (v := ?r18v11) 11 rfl (by kernel_rfl) (by kernel_rfl) (by kernel_rfl) (fun _ _ _ h => h) (by rfl) hHeld ?r18y11 ?r18r11
  case r18y11 => (intro W hSw; obtain ⟨y0, y1, y2⟩ := hSw; go_simp; with_reducible rfl)
  simp only [Act.put, List.setIfInBounds_toArray, List.set_cons_zero, List.set_cons_succ]
  refine held_one 12 (by kernel_rfl) rfl (fun K hK => ?_)
  go_simp
  obtain ⟨wb, hwb⟩ : ∃ wb, wb = wa.setCell ⟨lb, 4, none⟩ (.bool true) := ⟨_, rfl⟩
  rw [← hwb]
  have shb : wb.heap[HB]? = w6.heap[HB]? := by
   rw [hwb, Below.heap_setCell _ ⟨lb, _, none⟩ _ HB hnHB]
   exact sha
  have bkb : wb.heap[lb]? = some (.cells (logCells b (⟨hd, true, [], (0, 0), false, false⟩ : Lg) (.slice none 0 0)).toArray 110 (0, 0)) := by
   rw [hwb]
   exact (heap_setCell_same bka 4 (.bool true)).trans rfl
  have wwb : Below w.heap.size w wb := by
   rw [hwb]
   exact wwa.setCell (p := ⟨lb, 4, none⟩) (by rw [Hlb.out]; exact Nat.le_refl _) _
  have szb : w6.heap.size ≤ wb.heap.size := by rw [hwb]; simpa using sza
  clear hwb a4 af4 sha bka wwa sza
  refine hK.out _ _ (HS18.out _ shb) (fun hHeld => ?_)
  clear hK K
  try simp only [Act.put, List.setIfInBounds_toArray, List.set_cons_zero, List.set_cons_succ]
  have a6 : wb.cell? ⟨lb, 6, none⟩ = some (.int .u32 0) := (cell_of_block bkb 6).trans rfl
  have a7 : wb.cell? ⟨lb, 7, none⟩ = some (.int .u32 0) := (cell_of_block bkb 7).trans rfl
  have af6 := free_of_block bkb 6
  have af7 := free_of_block bkb 7
  refine held_take (v := ?s18v13) 13 rfl (by kernel_rfl) (by kernel_rfl) (by kernel_rfl) (fun _ _ _ h => h) (by rfl) hHeld ?s18y13 ?s18r13
  case s18y13 => (intro W hSw; obtain ⟨y0, y1, y2⟩ := hSw; go_simp; with_reducible rfl)
  simp only [Act.put, List.setIfInBounds_toArray, List.set_cons_zero, List.set_cons_succ]
  refine held_take (v := ?s18v14) 14 rfl (by kernel_rfl) (by kernel_rfl) (by kernel_rfl) (fun _ _ _ h => h) (by rfl) hHeld ?s18y14 ?s18r14
  case s18y14 => (intro W hSw; obtain ⟨y0, y1, y2⟩ := hSw; go_simp; with_reducible rfl)
  simp only [Act.put, List.setIfInBounds_toArray, List.set_cons_zero, List.set_cons_succ]
  refine held_one 15 (by kernel_rfl) rfl (fun K hK => ?_)
  go_simp
  obtain ⟨wc, hwc⟩ : ∃ wc, wc = (wb.setCell ⟨lb, 6, none⟩ (.int .u32 (startP hd.number).1)).setCell ⟨lb, 7, none⟩ (.int .u32 (startP hd.number).2) := ⟨_, rfl⟩
  rw [← hwc]
  have shc : wc.heap[HB]? = w6.heap[HB]? := by
   rw [hwc, Below.heap_setCell _ ⟨lb, _, none⟩ _ HB hnHB, Below.heap_setCell _ ⟨lb, _, none⟩ _ HB hnHB]
   exact shb
  have bkc : wc.heap[lb]? = some (.cells (logCells b (⟨hd, true, [], startP hd.number, false, false⟩ : Lg) (.slice none 0 0)).toArray 110 (0, 0)) := by
   rw [hwc]
   exact (heap_setCell_same (heap_setCell_same bkb 6 (.int .u32 (startP hd.number).1)) 7 (.int .u32 (startP hd.number).2)).trans rfl
  have wwc : Below w.heap.size w wc := by
   rw [hwc]
   exact (wwb.setCell (p := ⟨lb, 6, none⟩) (by rw [Hlb.out]; exact Nat.le_refl _) _).setCell (p := ⟨lb, 7, none⟩) (by rw [Hlb.out]; exact Nat.le_refl _) _
  have szc : w6.heap.size ≤ wc.heap.size := by rw [hwc]; simpa using szb
  clear hwc a6 a7 af6 af7 shb bkb wwb szb
  refine hK.out _ _ (HS18.out _ shc) (fun hHeld => ?_)
  clear hK K
  try simp only [Act.put, List.setIfInBounds_toArray, List.set_cons_zero, List.set_cons_succ]
  refine wpAnyH_done (by kernel_rfl) ?_ _
  obtain ⟨c0, c1, c2⟩ := HS18.out _ shc
  have Hbkc := hid bkc
  have Hshc := hid (shc.trans Hh6.out)
  have Hwwc := hid wwc
  have Hszc := hid (show HB < wc.heap.size by have := Hs6.out; omega)
  clear bkc shc wwc szc hHeld
  obtain ⟨fr, hfr⟩ : ∃ fr : Nat, hd.frames = (fr : Int) := ⟨hd.frames.toNat, by have := Hwf.out; omega⟩
  have hfr2 : fr ≤ 256 := by have := Hwf.out; omega
  rw [hfr] at c1
  have Hfr := hid hfr
  have Hfr2 := hid hfr2
  clear hfr hfr2
  go_wp2_with fail
  go_loopw [77] (fun v77 wr => ∃ (i : Nat) (li : List Fr) (pi : Int × Int) (lv : Value), i ≤ fr ∧ v77 = .int .i64 (i : Int) ∧ Below w.heap.size w wr ∧ wr.heap[HB]? = some (.cells #[.int .u64 hd.number, .int .i64 hd.frames, .int .i64 hd.pages] 104 (0, 0)) ∧ HB < wr.heap.size ∧
   wr.heap[lb]? = some (.cells (logCells b (⟨hd, true, li, pi, false, false⟩ : Lg) lv).toArray 110 (0, 0)) ∧ wr.ownsRow (HB + 1) 118 3 lv i (frsCells li) ∧ li.length = i ∧ PairWf pi ∧ (∀ f ∈ li, frOk f = true) ∧
   openN d hd.number fr 0 [] (startP hd.number) = openN d hd.number (fr - i) i li pi) (fun v77 _ => fr - (intOf v77).toNat)
  case atStart => exact ⟨0, [], startP hd.number, .slice none 0 0, Nat.zero_le _, rfl, Hwwc.out, Hshc.out, Hszc.out, Hbkc.out, World.ownsRow_nil _ _ _ _, rfl, sumAdd_bd _ _ (by decide) (by decide), (fun f hf => by cases hf), rfl⟩
  case round =>
   obtain ⟨i, li, pi, lv, hi, rfl, hbw, hhb, hhs, hlbk, hrow, hll, hpw, hlo, hop⟩ := hrel
   have Hbw := hid hbw
   have Hhb := hid hhb
   have Hhs := hid hhs
   have Hlbk := hid hlbk
   have Hrow := hid hrow
   have Hll := hid hll
   have Hpw := hid hpw
   have Hlo := hid hlo
   have Hop := hid hop
   clear hbw hhb hhs hlbk hrow hll hpw hlo hop c0 c1 c2 hnHB
   by_cases hlt : i < fr
   ·have hi7 : IntKind.i64.wrap (9 * (i : Int)) = 9 * (i : Int) := IntWalk.i64_in _ (by have := Hfr2.out; omega)
    have hi8 : IntKind.i64.wrap (1 + 9 * (i : Int)) = 1 + 9 * (i : Int) := IntWalk.i64_in _ (by have := Hfr2.out; omega)
    have RDi := RN.out wr i (by have := Hfr2.out; omega) Hbw.out
    obtain ⟨c, hc⟩ : ∃ c, fr - i = c + 1 := ⟨fr - i - 1, by omega⟩
    have hop := Hop.out
    rw [hc, openN_succ] at hop
    have hrl := readM_length H.out.ok (1 + 9 * (i : Int)) 9 (by omega)
    obtain ⟨rr, hrr⟩ : ∃ rr, rr = readM d 1 (1 + 9 * (i : Int)) 9 := ⟨_, rfl⟩
    rw [← hrr] at RDi hop hrl
    obtain ⟨rs, re⟩ := rr
    simp only at RDi hop hrl
    have RDi := hid RDi
    have Hop2 := hid hop
    have Hrl := hid hrl
    have Hc := hid hc
    clear hrr hop hrl hc
    have hlt2 : (i : Int) < 9223372036854775807 := by have := Hfr2.out; omega
    by_cases hre : re = 0
    ·have hre0 : (re != 0) = false := by simp [hre]
     have hop := Hop2.out
     rw [if_neg (by simpa using hre)] at hop
     have Hop2 := hid hop
     clear hop
     go_upto_region 25 with (first
      | (go_at_call 53; refine (RDi.out).mono ?_; rintro e wz ⟨rfl, hbz⟩)
      | go_in)
     have hlz := (hbz.block _ (lt_of_block Hlbk.out)).trans Hlbk.out
     have hhz := (hbz.block _ Hhs.out).trans Hhb.out
     have hrz := row_keep Hrow.out fun j hj => hbz.block j (row_base Hrow.out hj).2
     have hwz : Below w.heap.size w wz := Hbw.out.trans (hbz.mono Hbw.out.size)
     have hhsz : HB < wz.heap.size := by have := hbz.size; have := Hhs.out; omega
     have HSK := hid (show ∀ W : World, Below wz.heap.size wz W → W.cell? ⟨lb, 6, none⟩ = some (.int .u32 pi.1) ∧ W.cell? ⟨lb, 7, none⟩ = some (.int .u32 pi.2) ∧ W.cell? ⟨HB, 0, none⟩ = some (.int .u64 hd.number) from fun W hW => by
      have b1 := (hW.block _ (lt_of_block hlz)).trans hlz
      have b2 := (hW.block _ (lt_of_block hhz)).trans hhz
      exact ⟨by rw [cell_of_block b1]; rfl, by rw [cell_of_block b1]; rfl, by rw [cell_of_block b2]; rfl⟩)
     have tk := fun W => takeFr_any pi hd.number rs W Hpw.out Hwf.out.1.1 Hwf.out.1.2 (by have := Hrl.out; omega)
     have hgood := tkFr_good pi hd.number rs Hpw.out
     obtain ⟨A, hA⟩ : ∃ A, A = tkFr pi hd.number rs := ⟨_, rfl⟩
     simp only [← hA] at tk
     rw [← hA] at hgood
     have Hop3 := Hop2.out
     rw [← hA] at Hop3
     unfold pairV frV at tk
     have TK := hid tk
     have Hgood := hid hgood
     replace Hop3 := hid Hop3
     have Hlz := hid hlz
     have Hhz := hid hhz
     have Hrz := hid hrz
     have Hwz := hid hwz
     have Hhsz := hid hhsz
     clear tk hgood hA hlz hhz hrz hwz hhsz hbz Hop2 RDi hi7 hi8
     go_cut [11, 12, 13, 77] from 77 to 118 (fun v11 v12 v13 v77 wy => ∃ wx k1 k2, wx = wy ∧ v77 = .int .i64 (i : Int) ∧ v11 = .int .i64 A.e ∧ v12 = .pointer (some ⟨k1, 0, none⟩) ∧ v13 = .pointer (some ⟨k2, 0, none⟩) ∧ wx.heap[k1]? = some (.cells #[.int .i64 A.f.page, .int .i64 A.f.commit, .string (bs A.f.data)] 118 (0, 0)) ∧ wx.heap[k2]? = some (.cells #[.int .u32 A.q.1, .int .u32 A.q.2] 108 (0, 0)) ∧ wz.heap.size ≤ k1 ∧ wz.heap.size ≤ k2 ∧ Below wz.heap.size wz wx)
     case first =>
      refine wp_region_held_drew (S := fun W => W.cell? ⟨lb, 6, none⟩ = some (.int .u32 pi.1) ∧ W.cell? ⟨lb, 7, none⟩ = some (.int .u32 pi.2) ∧ W.cell? ⟨HB, 0, none⟩ = some (.int .u64 hd.number)) (by kernel_rfl) (HSK.out wz.drew (Below.refl _ _).drew) (fun hHeld => ?_)
      refine held_take (v := ?t25v0) 0 rfl (by kernel_rfl) (by kernel_rfl) (by kernel_rfl) (fun _ _ _ h => h) (by rfl) hHeld ?t25y0 ?t25r0
      case t25y0 => (intro W hSw; obtain ⟨y0, y1, y2⟩ := hSw; go_simp; with_reducible rfl)
      simp only [Act.put, List.setIfInBounds_toArray, List.set_cons_zero, List.set_cons_succ]
      refine held_take (v := ?t25v1) 1 rfl (by kernel_rfl) (by kernel_rfl) (by kernel_rfl) (fun _ _ _ h => h) (by rfl) hHeld ?t25y1 ?t25r1
      case t25y1 => (intro W hSw; obtain ⟨y0, y1, y2⟩ := hSw; go_simp; with_reducible rfl)
      simp only [Act.put, List.setIfInBounds_toArray, List.set_cons_zero, List.set_cons_succ]
      refine held_take (v := ?t25v2) 2 rfl (by kernel_rfl) (by kernel_rfl) (by kernel_rfl) (fun _ _ _ h => h) (by rfl) hHeld ?t25y2 ?t25r2
      case t25y2 => (intro W hSw; obtain ⟨y0, y1, y2⟩ := hSw; go_simp; with_reducible rfl)
      simp only [Act.put, List.setIfInBounds_toArray, List.set_cons_zero, List.set_cons_succ]
      refine held_take (v := ?t25v3) 3 rfl (by kernel_rfl) (by kernel_rfl) (by kernel_rfl) (fun _ _ _ h => h) (by rfl) hHeld ?t25y3 ?t25r3
      case t25y3 => (intro W hSw; obtain ⟨y0, y1, y2⟩ := hSw; go_simp; with_reducible rfl)
      simp only [Act.put, List.setIfInBounds_toArray, List.set_cons_zero, List.set_cons_succ]
      refine held_take (v := ?t25v4) 4 rfl (by kernel_rfl) (by kernel_rfl) (by kernel_rfl) (fun _ _ _ h => h) (by rfl) hHeld ?t25y4 ?t25r4
      case t25y4 => (intro W hSw; obtain ⟨y0, y1, y2⟩ := hSw; go_simp; with_reducible rfl)
      simp only [Act.put, List.setIfInBounds_toArray, List.set_cons_zero, List.set_cons_succ]
      refine held_take (v := ?t25v5) 5 rfl (by kernel_rfl) (by kernel_rfl) (by kernel_rfl) (fun _ _ _ h => h) (by rfl) hHeld ?t25y5 ?t25r5
      case t25y5 => (intro W hSw; obtain ⟨y0, y1, y2⟩ := hSw; go_simp; with_reducible rfl)
      simp only [Act.put, List.setIfInBounds_toArray, List.set_cons_zero, List.set_cons_succ]
      refine held_take (v := ?t25v6) 6 rfl (by kernel_rfl) (by kernel_rfl) (by kernel_rfl) (fun _ _ _ h => h) (by rfl) hHeld ?t25y6 ?t25r6
      case t25y6 => (intro W hSw; obtain ⟨y0, y1, y2⟩ := hSw; go_simp; with_reducible rfl)
      simp only [Act.put, List.setIfInBounds_toArray, List.set_cons_zero, List.set_cons_succ]
      refine held_three 7 12 13 (by kernel_rfl) rfl rfl rfl (fun K hK => ?_) (fun K hK => ?_) (fun K hK => ?_)
      ·go_simp
       refine (TK.out _).mono ?_
       rintro e w3 ⟨rfl, hb3⟩
       have hb3 := below_undrew hb3
       have hb3r : Below wz.heap.size wz w3 := hb3
       try dsimp only
       refine hK.out _ _ (HSK.out _ hb3r) (fun hHeld => ?_)
       clear hK K
       try simp only [Act.put, List.setIfInBounds_toArray, List.set_cons_zero, List.set_cons_succ]
       refine held_take (v := ?s1v8) 8 rfl (by kernel_rfl) (by kernel_rfl) (by kernel_rfl) (fun _ _ _ h => h) (by rfl) hHeld ?s1y8 ?s1r8
       case s1y8 => (intro W hSw; obtain ⟨y0, y1, y2⟩ := hSw; go_simp; with_reducible rfl)
       simp only [Act.put, List.setIfInBounds_toArray, List.set_cons_zero, List.set_cons_succ]
       refine held_take (v := ?s1v9) 9 rfl (by kernel_rfl) (by kernel_rfl) (by kernel_rfl) (fun _ _ _ h => h) (by rfl) hHeld ?s1y9 ?s1r9
       case s1y9 => (intro W hSw; obtain ⟨y0, y1, y2⟩ := hSw; go_simp; with_reducible rfl)
       simp only [Act.put, List.setIfInBounds_toArray, List.set_cons_zero, List.set_cons_succ]
       refine held_take (v := ?s1v10) 10 rfl (by kernel_rfl) (by kernel_rfl) (by kernel_rfl) (fun _ _ _ h => h) (by rfl) hHeld ?s1y10 ?s1r10
       case s1y10 => (intro W hSw; obtain ⟨y0, y1, y2⟩ := hSw; go_simp; with_reducible rfl)
       simp only [Act.put, List.setIfInBounds_toArray, List.set_cons_zero, List.set_cons_succ]
       refine held_take (v := ?s1v11) 11 rfl (by kernel_rfl) (by kernel_rfl) (by kernel_rfl) (fun _ _ _ h => h) (by rfl) hHeld ?s1y11 ?s1r11
       case s1y11 => (intro W hSw; obtain ⟨y0, y1, y2⟩ := hSw; go_simp; with_reducible rfl)
       simp only [Act.put, List.setIfInBounds_toArray, List.set_cons_zero, List.set_cons_succ]
       refine held_both 12 13 (by kernel_rfl) rfl rfl (fun K hK => ?_) (fun K hK => ?_)
       ·go_simp
        refine hK.out _ _ (HSK.out _ (hb3r.alloc hb3r.size (.cells #[.int .i64 0, .int .i64 0, .string ⟨#[]⟩] 118))) (fun hHeld => ?_)
        clear hK K
        try simp only [Act.put, List.setIfInBounds_toArray, List.set_cons_zero, List.set_cons_succ]
        refine held_one 13 (by kernel_rfl) rfl (fun K hK => ?_)
        go_simp
        refine hK.out _ _ (HSK.out _ ((hb3r.alloc hb3r.size (.cells #[.int .i64 0, .int .i64 0, .string ⟨#[]⟩] 118)).alloc (by simp; have := hb3r.size; omega) (.cells #[.int .u32 0, .int .u32 0] 108))) (fun hHeld => ?_)
        clear hK K
        try simp only [Act.put, List.setIfInBounds_toArray, List.set_cons_zero, List.set_cons_succ]
        obtain ⟨wn, hwn⟩ : ∃ wn, wn = (w3.alloc (.cells #[.int .i64 0, .int .i64 0, .string ⟨#[]⟩] 118)).alloc (.cells #[.int .u32 0, .int .u32 0] 108) := ⟨_, rfl⟩
        obtain ⟨k1, hk1⟩ : ∃ k1, k1 = w3.heap.size := ⟨_, rfl⟩
        obtain ⟨k2, hk2⟩ : ∃ k2, k2 = w3.heap.size + 1 := ⟨_, rfl⟩
        have hne : k1 ≠ k2 := by rw [hk1, hk2]; omega
        have hg1 : wz.heap.size ≤ k1 := by rw [hk1]; exact hb3r.size
        have hg2 : wz.heap.size ≤ k2 := by rw [hk2]; have := hb3r.size; omega
        have hz1 : wn.heap[k1]? = some (.cells #[.int .i64 0, .int .i64 0, .string ⟨#[]⟩] 118 (0, 0)) := by rw [hwn, hk1]; exact heap_alloc_old (heap_alloc_new _ _)
        have hz2 : wn.heap[k2]? = some (.cells #[.int .u32 0, .int .u32 0] 108 (0, 0)) := by rw [hwn, hk2]; exact (by have := heap_alloc_new (w3.alloc (.cells #[.int .i64 0, .int .i64 0, .string ⟨#[]⟩] 118)) (.cells #[.int .u32 0, .int .u32 0] 108); simpa using this)
        have hbn : Below wz.heap.size wz wn := by rw [hwn]; exact (hb3r.alloc hb3r.size (.cells #[.int .i64 0, .int .i64 0, .string ⟨#[]⟩] 118)).alloc (by simp; have := hb3r.size; omega) (.cells #[.int .u32 0, .int .u32 0] 108)
        rw [← hwn]
        try rw [← hk2]
        try rw [← hk1]
        clear hk1 hk2 hwn
        have d0 := cell_of_block hz1 0
        have d1 := cell_of_block hz1 1
        have d2 := cell_of_block hz1 2
        have df := free_of_block hz1
        simp only [List.getElem?_toArray, List.getElem?_cons_succ, List.getElem?_cons_zero] at d0 d1 d2
        refine held_one 14 (by kernel_rfl) rfl (fun K hK => ?_)
        go_simp
        have hm1 := heap_setCell_same (heap_setCell_same (heap_setCell_same hz1 0 (.int .i64 A.f.page)) 1 (.int .i64 A.f.commit)) 2 (.string (bs A.f.data))
        have hm2 : (((wn.setCell ⟨k1, 0, none⟩ (.int .i64 A.f.page)).setCell ⟨k1, 1, none⟩ (.int .i64 A.f.commit)).setCell ⟨k1, 2, none⟩ (.string (bs A.f.data))).heap[k2]? = some (.cells #[.int .u32 0, .int .u32 0] 108 (0, 0)) := by
         rw [Below.heap_setCell _ ⟨k1, _, none⟩ _ k2 (Ne.symm hne), Below.heap_setCell _ ⟨k1, _, none⟩ _ k2 (Ne.symm hne), Below.heap_setCell _ ⟨k1, _, none⟩ _ k2 (Ne.symm hne)]
         exact hz2
        have hb2 := ((hbn.setCell (p := ⟨k1, 0, none⟩) hg1 (.int .i64 A.f.page)).setCell (p := ⟨k1, 1, none⟩) hg1 (.int .i64 A.f.commit)).setCell (p := ⟨k1, 2, none⟩) hg1 (.string (bs A.f.data))
        obtain ⟨wo, hwo⟩ : ∃ wo, wo = ((wn.setCell ⟨k1, 0, none⟩ (.int .i64 A.f.page)).setCell ⟨k1, 1, none⟩ (.int .i64 A.f.commit)).setCell ⟨k1, 2, none⟩ (.string (bs A.f.data)) := ⟨_, rfl⟩
        rw [← hwo] at hm1 hm2 hb2 ⊢
        clear hwo d0 d1 d2 df hz1 hz2 hbn
        refine hK.out _ _ (HSK.out _ hb2) (fun hHeld => ?_)
        clear hK K
        try simp only [Act.put, List.setIfInBounds_toArray, List.set_cons_zero, List.set_cons_succ]
        have d0 := cell_of_block hm2 0
        have d1 := cell_of_block hm2 1
        have df := free_of_block hm2
        simp only [List.getElem?_toArray, List.getElem?_cons_succ, List.getElem?_cons_zero] at d0 d1
        refine held_one 15 (by kernel_rfl) rfl (fun K hK => ?_)
        go_simp
        have hn2 := heap_setCell_same (heap_setCell_same hm2 0 (.int .u32 A.q.1)) 1 (.int .u32 A.q.2)
        have hn1 : ((wo.setCell ⟨k2, 0, none⟩ (.int .u32 A.q.1)).setCell ⟨k2, 1, none⟩ (.int .u32 A.q.2)).heap[k1]? = some (.cells #[.int .i64 A.f.page, .int .i64 A.f.commit, .string (bs A.f.data)] 118 (0, 0)) := by
         rw [Below.heap_setCell _ ⟨k2, _, none⟩ _ k1 hne, Below.heap_setCell _ ⟨k2, _, none⟩ _ k1 hne]
         exact hm1
        have hb3' := (hb2.setCell (p := ⟨k2, 0, none⟩) hg2 (.int .u32 A.q.1)).setCell (p := ⟨k2, 1, none⟩) hg2 (.int .u32 A.q.2)
        obtain ⟨wp, hwp⟩ : ∃ wp, wp = (wo.setCell ⟨k2, 0, none⟩ (.int .u32 A.q.1)).setCell ⟨k2, 1, none⟩ (.int .u32 A.q.2) := ⟨_, rfl⟩
        rw [← hwp] at hn1 hn2 hb3' ⊢
        clear hwp d0 d1 df hm1 hm2 hb2
        refine hK.out _ _ (HSK.out _ hb3') (fun hHeld => ?_)
        clear hK K
        try simp only [Act.put, List.setIfInBounds_toArray, List.set_cons_zero, List.set_cons_succ]
        refine held_take (v := ?s2v16) 16 rfl (by kernel_rfl) (by kernel_rfl) (by kernel_rfl) (fun _ _ _ h => h) (by rfl) hHeld ?s2y16 ?s2r16
        case s2y16 => (intro W hSw; obtain ⟨y0, y1, y2⟩ := hSw; go_simp; with_reducible rfl)
        simp only [Act.put, List.setIfInBounds_toArray, List.set_cons_zero, List.set_cons_succ]
        refine wpAnyH_done (by kernel_rfl) ?_ _
        clear hHeld
        go_wp2_with fail
        go_meet
        exact ⟨_, _, _, rfl, rfl, rfl, rfl, rfl, hn1, hn2, hg1, hg2, hb3'⟩
       ·go_simp
        refine hK.out _ _ (HSK.out _ (hb3r.alloc hb3r.size (.cells #[.int .u32 0, .int .u32 0] 108))) (fun hHeld => ?_)
        clear hK K
        try simp only [Act.put, List.setIfInBounds_toArray, List.set_cons_zero, List.set_cons_succ]
        refine held_one 12 (by kernel_rfl) rfl (fun K hK => ?_)
        go_simp
        refine hK.out _ _ (HSK.out _ ((hb3r.alloc hb3r.size (.cells #[.int .u32 0, .int .u32 0] 108)).alloc (by simp; have := hb3r.size; omega) (.cells #[.int .i64 0, .int .i64 0, .string ⟨#[]⟩] 118))) (fun hHeld => ?_)
        clear hK K
        try simp only [Act.put, List.setIfInBounds_toArray, List.set_cons_zero, List.set_cons_succ]
        obtain ⟨wn, hwn⟩ : ∃ wn, wn = (w3.alloc (.cells #[.int .u32 0, .int .u32 0] 108)).alloc (.cells #[.int .i64 0, .int .i64 0, .string ⟨#[]⟩] 118) := ⟨_, rfl⟩
        obtain ⟨k1, hk1⟩ : ∃ k1, k1 = w3.heap.size + 1 := ⟨_, rfl⟩
        obtain ⟨k2, hk2⟩ : ∃ k2, k2 = w3.heap.size := ⟨_, rfl⟩
        have hne : k1 ≠ k2 := by rw [hk1, hk2]; omega
        have hg1 : wz.heap.size ≤ k1 := by rw [hk1]; have := hb3r.size; omega
        have hg2 : wz.heap.size ≤ k2 := by rw [hk2]; exact hb3r.size
        have hz1 : wn.heap[k1]? = some (.cells #[.int .i64 0, .int .i64 0, .string ⟨#[]⟩] 118 (0, 0)) := by rw [hwn, hk1]; exact (by have := heap_alloc_new (w3.alloc (.cells #[.int .u32 0, .int .u32 0] 108)) (.cells #[.int .i64 0, .int .i64 0, .string ⟨#[]⟩] 118); simpa using this)
        have hz2 : wn.heap[k2]? = some (.cells #[.int .u32 0, .int .u32 0] 108 (0, 0)) := by rw [hwn, hk2]; exact heap_alloc_old (heap_alloc_new _ _)
        have hbn : Below wz.heap.size wz wn := by rw [hwn]; exact (hb3r.alloc hb3r.size (.cells #[.int .u32 0, .int .u32 0] 108)).alloc (by simp; have := hb3r.size; omega) (.cells #[.int .i64 0, .int .i64 0, .string ⟨#[]⟩] 118)
        rw [← hwn]
        try rw [← hk1]
        try rw [← hk2]
        clear hk1 hk2 hwn
        have d0 := cell_of_block hz1 0
        have d1 := cell_of_block hz1 1
        have d2 := cell_of_block hz1 2
        have df := free_of_block hz1
        simp only [List.getElem?_toArray, List.getElem?_cons_succ, List.getElem?_cons_zero] at d0 d1 d2
        refine held_one 14 (by kernel_rfl) rfl (fun K hK => ?_)
        go_simp
        have hm1 := heap_setCell_same (heap_setCell_same (heap_setCell_same hz1 0 (.int .i64 A.f.page)) 1 (.int .i64 A.f.commit)) 2 (.string (bs A.f.data))
        have hm2 : (((wn.setCell ⟨k1, 0, none⟩ (.int .i64 A.f.page)).setCell ⟨k1, 1, none⟩ (.int .i64 A.f.commit)).setCell ⟨k1, 2, none⟩ (.string (bs A.f.data))).heap[k2]? = some (.cells #[.int .u32 0, .int .u32 0] 108 (0, 0)) := by
         rw [Below.heap_setCell _ ⟨k1, _, none⟩ _ k2 (Ne.symm hne), Below.heap_setCell _ ⟨k1, _, none⟩ _ k2 (Ne.symm hne), Below.heap_setCell _ ⟨k1, _, none⟩ _ k2 (Ne.symm hne)]
         exact hz2
        have hb2 := ((hbn.setCell (p := ⟨k1, 0, none⟩) hg1 (.int .i64 A.f.page)).setCell (p := ⟨k1, 1, none⟩) hg1 (.int .i64 A.f.commit)).setCell (p := ⟨k1, 2, none⟩) hg1 (.string (bs A.f.data))
        obtain ⟨wo, hwo⟩ : ∃ wo, wo = ((wn.setCell ⟨k1, 0, none⟩ (.int .i64 A.f.page)).setCell ⟨k1, 1, none⟩ (.int .i64 A.f.commit)).setCell ⟨k1, 2, none⟩ (.string (bs A.f.data)) := ⟨_, rfl⟩
        rw [← hwo] at hm1 hm2 hb2 ⊢
        clear hwo d0 d1 d2 df hz1 hz2 hbn
        refine hK.out _ _ (HSK.out _ hb2) (fun hHeld => ?_)
        clear hK K
        try simp only [Act.put, List.setIfInBounds_toArray, List.set_cons_zero, List.set_cons_succ]
        have d0 := cell_of_block hm2 0
        have d1 := cell_of_block hm2 1
        have df := free_of_block hm2
        simp only [List.getElem?_toArray, List.getElem?_cons_succ, List.getElem?_cons_zero] at d0 d1
        refine held_one 15 (by kernel_rfl) rfl (fun K hK => ?_)
        go_simp
        have hn2 := heap_setCell_same (heap_setCell_same hm2 0 (.int .u32 A.q.1)) 1 (.int .u32 A.q.2)
        have hn1 : ((wo.setCell ⟨k2, 0, none⟩ (.int .u32 A.q.1)).setCell ⟨k2, 1, none⟩ (.int .u32 A.q.2)).heap[k1]? = some (.cells #[.int .i64 A.f.page, .int .i64 A.f.commit, .string (bs A.f.data)] 118 (0, 0)) := by
         rw [Below.heap_setCell _ ⟨k2, _, none⟩ _ k1 hne, Below.heap_setCell _ ⟨k2, _, none⟩ _ k1 hne]
         exact hm1
        have hb3' := (hb2.setCell (p := ⟨k2, 0, none⟩) hg2 (.int .u32 A.q.1)).setCell (p := ⟨k2, 1, none⟩) hg2 (.int .u32 A.q.2)
        obtain ⟨wp, hwp⟩ : ∃ wp, wp = (wo.setCell ⟨k2, 0, none⟩ (.int .u32 A.q.1)).setCell ⟨k2, 1, none⟩ (.int .u32 A.q.2) := ⟨_, rfl⟩
        rw [← hwp] at hn1 hn2 hb3' ⊢
        clear hwp d0 d1 df hm1 hm2 hb2
        refine hK.out _ _ (HSK.out _ hb3') (fun hHeld => ?_)
        clear hK K
        try simp only [Act.put, List.setIfInBounds_toArray, List.set_cons_zero, List.set_cons_succ]
        refine held_take (v := ?s3v16) 16 rfl (by kernel_rfl) (by kernel_rfl) (by kernel_rfl) (fun _ _ _ h => h) (by rfl) hHeld ?s3y16 ?s3r16
        case s3y16 => (intro W hSw; obtain ⟨y0, y1, y2⟩ := hSw; go_simp; with_reducible rfl)
        simp only [Act.put, List.setIfInBounds_toArray, List.set_cons_zero, List.set_cons_succ]
        refine wpAnyH_done (by kernel_rfl) ?_ _
        clear hHeld
        go_wp2_with fail
        go_meet
        exact ⟨_, _, _, rfl, rfl, rfl, rfl, rfl, hn1, hn2, hg1, hg2, hb3'⟩
      ·go_simp
       have hba := (Below.refl wz.heap.size wz).alloc (Nat.le_refl _) (.cells #[.int .i64 0, .int .i64 0, .string ⟨#[]⟩] 118)
       refine hK.out _ _ (HSK.out _ hba.drew) (fun hHeld => ?_)
       clear hK K
       try simp only [Act.put, List.setIfInBounds_toArray, List.set_cons_zero, List.set_cons_succ]
       refine held_both 7 13 (by kernel_rfl) rfl rfl (fun K hK => ?_) (fun K hK => ?_)
       ·go_simp
        refine (TK.out _).mono ?_
        rintro e w3 ⟨rfl, hb3⟩
        have hb3 := below_undrew hb3
        have hb3r : Below wz.heap.size wz w3 := hba.trans (hb3.mono hba.size)
        try dsimp only
        refine hK.out _ _ (HSK.out _ hb3r) (fun hHeld => ?_)
        clear hK K
        try simp only [Act.put, List.setIfInBounds_toArray, List.set_cons_zero, List.set_cons_succ]
        refine held_take (v := ?s4v8) 8 rfl (by kernel_rfl) (by kernel_rfl) (by kernel_rfl) (fun _ _ _ h => h) (by rfl) hHeld ?s4y8 ?s4r8
        case s4y8 => (intro W hSw; obtain ⟨y0, y1, y2⟩ := hSw; go_simp; with_reducible rfl)
        simp only [Act.put, List.setIfInBounds_toArray, List.set_cons_zero, List.set_cons_succ]
        refine held_take (v := ?s4v9) 9 rfl (by kernel_rfl) (by kernel_rfl) (by kernel_rfl) (fun _ _ _ h => h) (by rfl) hHeld ?s4y9 ?s4r9
        case s4y9 => (intro W hSw; obtain ⟨y0, y1, y2⟩ := hSw; go_simp; with_reducible rfl)
        simp only [Act.put, List.setIfInBounds_toArray, List.set_cons_zero, List.set_cons_succ]
        refine held_take (v := ?s4v10) 10 rfl (by kernel_rfl) (by kernel_rfl) (by kernel_rfl) (fun _ _ _ h => h) (by rfl) hHeld ?s4y10 ?s4r10
        case s4y10 => (intro W hSw; obtain ⟨y0, y1, y2⟩ := hSw; go_simp; with_reducible rfl)
        simp only [Act.put, List.setIfInBounds_toArray, List.set_cons_zero, List.set_cons_succ]
        refine held_take (v := ?s4v11) 11 rfl (by kernel_rfl) (by kernel_rfl) (by kernel_rfl) (fun _ _ _ h => h) (by rfl) hHeld ?s4y11 ?s4r11
        case s4y11 => (intro W hSw; obtain ⟨y0, y1, y2⟩ := hSw; go_simp; with_reducible rfl)
        simp only [Act.put, List.setIfInBounds_toArray, List.set_cons_zero, List.set_cons_succ]
        refine held_one 13 (by kernel_rfl) rfl (fun K hK => ?_)
        go_simp
        refine hK.out _ _ (HSK.out _ (hb3r.alloc hb3r.size (.cells #[.int .u32 0, .int .u32 0] 108))) (fun hHeld => ?_)
        clear hK K
        try simp only [Act.put, List.setIfInBounds_toArray, List.set_cons_zero, List.set_cons_succ]
        obtain ⟨wn, hwn⟩ : ∃ wn, wn = w3.alloc (.cells #[.int .u32 0, .int .u32 0] 108) := ⟨_, rfl⟩
        obtain ⟨k1, hk1⟩ : ∃ k1, k1 = wz.heap.size := ⟨_, rfl⟩
        obtain ⟨k2, hk2⟩ : ∃ k2, k2 = w3.heap.size := ⟨_, rfl⟩
        have hne : k1 ≠ k2 := by rw [hk1, hk2]; have := hb3.size; simp at this; omega
        have hg1 : wz.heap.size ≤ k1 := by rw [hk1]; exact Nat.le_refl _
        have hg2 : wz.heap.size ≤ k2 := by rw [hk2]; exact hb3r.size
        have hz1 : wn.heap[k1]? = some (.cells #[.int .i64 0, .int .i64 0, .string ⟨#[]⟩] 118 (0, 0)) := by rw [hwn, hk1]; exact heap_alloc_old ((hb3.block _ (by simp)).trans (heap_alloc_new wz _))
        have hz2 : wn.heap[k2]? = some (.cells #[.int .u32 0, .int .u32 0] 108 (0, 0)) := by rw [hwn, hk2]; exact heap_alloc_new _ _
        have hbn : Below wz.heap.size wz wn := by rw [hwn]; exact hb3r.alloc hb3r.size (.cells #[.int .u32 0, .int .u32 0] 108)
        rw [← hwn]
        try rw [← hk1]
        try rw [← hk2]
        clear hk1 hk2 hwn
        have d0 := cell_of_block hz1 0
        have d1 := cell_of_block hz1 1
        have d2 := cell_of_block hz1 2
        have df := free_of_block hz1
        simp only [List.getElem?_toArray, List.getElem?_cons_succ, List.getElem?_cons_zero] at d0 d1 d2
        refine held_one 14 (by kernel_rfl) rfl (fun K hK => ?_)
        go_simp
        have hm1 := heap_setCell_same (heap_setCell_same (heap_setCell_same hz1 0 (.int .i64 A.f.page)) 1 (.int .i64 A.f.commit)) 2 (.string (bs A.f.data))
        have hm2 : (((wn.setCell ⟨k1, 0, none⟩ (.int .i64 A.f.page)).setCell ⟨k1, 1, none⟩ (.int .i64 A.f.commit)).setCell ⟨k1, 2, none⟩ (.string (bs A.f.data))).heap[k2]? = some (.cells #[.int .u32 0, .int .u32 0] 108 (0, 0)) := by
         rw [Below.heap_setCell _ ⟨k1, _, none⟩ _ k2 (Ne.symm hne), Below.heap_setCell _ ⟨k1, _, none⟩ _ k2 (Ne.symm hne), Below.heap_setCell _ ⟨k1, _, none⟩ _ k2 (Ne.symm hne)]
         exact hz2
        have hb2 := ((hbn.setCell (p := ⟨k1, 0, none⟩) hg1 (.int .i64 A.f.page)).setCell (p := ⟨k1, 1, none⟩) hg1 (.int .i64 A.f.commit)).setCell (p := ⟨k1, 2, none⟩) hg1 (.string (bs A.f.data))
        obtain ⟨wo, hwo⟩ : ∃ wo, wo = ((wn.setCell ⟨k1, 0, none⟩ (.int .i64 A.f.page)).setCell ⟨k1, 1, none⟩ (.int .i64 A.f.commit)).setCell ⟨k1, 2, none⟩ (.string (bs A.f.data)) := ⟨_, rfl⟩
        rw [← hwo] at hm1 hm2 hb2 ⊢
        clear hwo d0 d1 d2 df hz1 hz2 hbn
        refine hK.out _ _ (HSK.out _ hb2) (fun hHeld => ?_)
        clear hK K
        try simp only [Act.put, List.setIfInBounds_toArray, List.set_cons_zero, List.set_cons_succ]
        have d0 := cell_of_block hm2 0
        have d1 := cell_of_block hm2 1
        have df := free_of_block hm2
        simp only [List.getElem?_toArray, List.getElem?_cons_succ, List.getElem?_cons_zero] at d0 d1
        refine held_one 15 (by kernel_rfl) rfl (fun K hK => ?_)
        go_simp
        have hn2 := heap_setCell_same (heap_setCell_same hm2 0 (.int .u32 A.q.1)) 1 (.int .u32 A.q.2)
        have hn1 : ((wo.setCell ⟨k2, 0, none⟩ (.int .u32 A.q.1)).setCell ⟨k2, 1, none⟩ (.int .u32 A.q.2)).heap[k1]? = some (.cells #[.int .i64 A.f.page, .int .i64 A.f.commit, .string (bs A.f.data)] 118 (0, 0)) := by
         rw [Below.heap_setCell _ ⟨k2, _, none⟩ _ k1 hne, Below.heap_setCell _ ⟨k2, _, none⟩ _ k1 hne]
         exact hm1
        have hb3' := (hb2.setCell (p := ⟨k2, 0, none⟩) hg2 (.int .u32 A.q.1)).setCell (p := ⟨k2, 1, none⟩) hg2 (.int .u32 A.q.2)
        obtain ⟨wp, hwp⟩ : ∃ wp, wp = (wo.setCell ⟨k2, 0, none⟩ (.int .u32 A.q.1)).setCell ⟨k2, 1, none⟩ (.int .u32 A.q.2) := ⟨_, rfl⟩
        rw [← hwp] at hn1 hn2 hb3' ⊢
        clear hwp d0 d1 df hm1 hm2 hb2
        refine hK.out _ _ (HSK.out _ hb3') (fun hHeld => ?_)
        clear hK K
        try simp only [Act.put, List.setIfInBounds_toArray, List.set_cons_zero, List.set_cons_succ]
        refine held_take (v := ?s5v16) 16 rfl (by kernel_rfl) (by kernel_rfl) (by kernel_rfl) (fun _ _ _ h => h) (by rfl) hHeld ?s5y16 ?s5r16
        case s5y16 => (intro W hSw; obtain ⟨y0, y1, y2⟩ := hSw; go_simp; with_reducible rfl)
        simp only [Act.put, List.setIfInBounds_toArray, List.set_cons_zero, List.set_cons_succ]
        refine wpAnyH_done (by kernel_rfl) ?_ _
        clear hHeld
        go_wp2_with fail
        go_meet
        exact ⟨_, _, _, rfl, rfl, rfl, rfl, rfl, hn1, hn2, hg1, hg2, hb3'⟩
       ·go_simp
        have hbb := hba.alloc (by simp) (.cells #[.int .u32 0, .int .u32 0] 108)
        refine hK.out _ _ (HSK.out _ hbb.drew) (fun hHeld => ?_)
        clear hK K
        try simp only [Act.put, List.setIfInBounds_toArray, List.set_cons_zero, List.set_cons_succ]
        refine held_one 7 (by kernel_rfl) rfl (fun K hK => ?_)
        go_simp
        refine (TK.out _).mono ?_
        rintro e w3 ⟨rfl, hb3⟩
        have hb3 := below_undrew hb3
        have hb3r : Below wz.heap.size wz w3 := hbb.trans (hb3.mono hbb.size)
        try dsimp only
        refine hK.out _ _ (HSK.out _ hb3r) (fun hHeld => ?_)
        clear hK K
        try simp only [Act.put, List.setIfInBounds_toArray, List.set_cons_zero, List.set_cons_succ]
        refine held_take (v := ?s6v8) 8 rfl (by kernel_rfl) (by kernel_rfl) (by kernel_rfl) (fun _ _ _ h => h) (by rfl) hHeld ?s6y8 ?s6r8
        case s6y8 => (intro W hSw; obtain ⟨y0, y1, y2⟩ := hSw; go_simp; with_reducible rfl)
        simp only [Act.put, List.setIfInBounds_toArray, List.set_cons_zero, List.set_cons_succ]
        refine held_take (v := ?s6v9) 9 rfl (by kernel_rfl) (by kernel_rfl) (by kernel_rfl) (fun _ _ _ h => h) (by rfl) hHeld ?s6y9 ?s6r9
        case s6y9 => (intro W hSw; obtain ⟨y0, y1, y2⟩ := hSw; go_simp; with_reducible rfl)
        simp only [Act.put, List.setIfInBounds_toArray, List.set_cons_zero, List.set_cons_succ]
        refine held_take (v := ?s6v10) 10 rfl (by kernel_rfl) (by kernel_rfl) (by kernel_rfl) (fun _ _ _ h => h) (by rfl) hHeld ?s6y10 ?s6r10
        case s6y10 => (intro W hSw; obtain ⟨y0, y1, y2⟩ := hSw; go_simp; with_reducible rfl)
        simp only [Act.put, List.setIfInBounds_toArray, List.set_cons_zero, List.set_cons_succ]
        refine held_take (v := ?s6v11) 11 rfl (by kernel_rfl) (by kernel_rfl) (by kernel_rfl) (fun _ _ _ h => h) (by rfl) hHeld ?s6y11 ?s6r11
        case s6y11 => (intro W hSw; obtain ⟨y0, y1, y2⟩ := hSw; go_simp; with_reducible rfl)
        simp only [Act.put, List.setIfInBounds_toArray, List.set_cons_zero, List.set_cons_succ]
        obtain ⟨wn, hwn⟩ : ∃ wn, wn = w3 := ⟨_, rfl⟩
        obtain ⟨k1, hk1⟩ : ∃ k1, k1 = wz.heap.size := ⟨_, rfl⟩
        obtain ⟨k2, hk2⟩ : ∃ k2, k2 = wz.heap.size + 1 := ⟨_, rfl⟩
        have hne : k1 ≠ k2 := by rw [hk1, hk2]; omega
        have hg1 : wz.heap.size ≤ k1 := by rw [hk1]; omega
        have hg2 : wz.heap.size ≤ k2 := by rw [hk2]; omega
        have hz1 : wn.heap[k1]? = some (.cells #[.int .i64 0, .int .i64 0, .string ⟨#[]⟩] 118 (0, 0)) := by rw [hwn, hk1]; exact (hb3.block wz.heap.size (by simp <;> omega)).trans (heap_alloc_old (heap_alloc_new wz _))
        have hz2 : wn.heap[k2]? = some (.cells #[.int .u32 0, .int .u32 0] 108 (0, 0)) := by rw [hwn, hk2]; exact (hb3.block (wz.heap.size + 1) (by simp)).trans (by have := heap_alloc_new (wz.alloc (.cells #[.int .i64 0, .int .i64 0, .string ⟨#[]⟩] 118)) (.cells #[.int .u32 0, .int .u32 0] 108); simpa using this)
        have hbn : Below wz.heap.size wz wn := by rw [hwn]; exact hb3r
        rw [← hwn]
        try rw [← hk2]
        try rw [← hk1]
        clear hk1 hk2 hwn
        have d0 := cell_of_block hz1 0
        have d1 := cell_of_block hz1 1
        have d2 := cell_of_block hz1 2
        have df := free_of_block hz1
        simp only [List.getElem?_toArray, List.getElem?_cons_succ, List.getElem?_cons_zero] at d0 d1 d2
        refine held_one 14 (by kernel_rfl) rfl (fun K hK => ?_)
        go_simp
        have hm1 := heap_setCell_same (heap_setCell_same (heap_setCell_same hz1 0 (.int .i64 A.f.page)) 1 (.int .i64 A.f.commit)) 2 (.string (bs A.f.data))
        have hm2 : (((wn.setCell ⟨k1, 0, none⟩ (.int .i64 A.f.page)).setCell ⟨k1, 1, none⟩ (.int .i64 A.f.commit)).setCell ⟨k1, 2, none⟩ (.string (bs A.f.data))).heap[k2]? = some (.cells #[.int .u32 0, .int .u32 0] 108 (0, 0)) := by
         rw [Below.heap_setCell _ ⟨k1, _, none⟩ _ k2 (Ne.symm hne), Below.heap_setCell _ ⟨k1, _, none⟩ _ k2 (Ne.symm hne), Below.heap_setCell _ ⟨k1, _, none⟩ _ k2 (Ne.symm hne)]
         exact hz2
        have hb2 := ((hbn.setCell (p := ⟨k1, 0, none⟩) hg1 (.int .i64 A.f.page)).setCell (p := ⟨k1, 1, none⟩) hg1 (.int .i64 A.f.commit)).setCell (p := ⟨k1, 2, none⟩) hg1 (.string (bs A.f.data))
        obtain ⟨wo, hwo⟩ : ∃ wo, wo = ((wn.setCell ⟨k1, 0, none⟩ (.int .i64 A.f.page)).setCell ⟨k1, 1, none⟩ (.int .i64 A.f.commit)).setCell ⟨k1, 2, none⟩ (.string (bs A.f.data)) := ⟨_, rfl⟩
        rw [← hwo] at hm1 hm2 hb2 ⊢
        clear hwo d0 d1 d2 df hz1 hz2 hbn
        refine hK.out _ _ (HSK.out _ hb2) (fun hHeld => ?_)
        clear hK K
        try simp only [Act.put, List.setIfInBounds_toArray, List.set_cons_zero, List.set_cons_succ]
        have d0 := cell_of_block hm2 0
        have d1 := cell_of_block hm2 1
        have df := free_of_block hm2
        simp only [List.getElem?_toArray, List.getElem?_cons_succ, List.getElem?_cons_zero] at d0 d1
        refine held_one 15 (by kernel_rfl) rfl (fun K hK => ?_)
        go_simp
        have hn2 := heap_setCell_same (heap_setCell_same hm2 0 (.int .u32 A.q.1)) 1 (.int .u32 A.q.2)
        have hn1 : ((wo.setCell ⟨k2, 0, none⟩ (.int .u32 A.q.1)).setCell ⟨k2, 1, none⟩ (.int .u32 A.q.2)).heap[k1]? = some (.cells #[.int .i64 A.f.page, .int .i64 A.f.commit, .string (bs A.f.data)] 118 (0, 0)) := by
         rw [Below.heap_setCell _ ⟨k2, _, none⟩ _ k1 hne, Below.heap_setCell _ ⟨k2, _, none⟩ _ k1 hne]
         exact hm1
        have hb3' := (hb2.setCell (p := ⟨k2, 0, none⟩) hg2 (.int .u32 A.q.1)).setCell (p := ⟨k2, 1, none⟩) hg2 (.int .u32 A.q.2)
        obtain ⟨wp, hwp⟩ : ∃ wp, wp = (wo.setCell ⟨k2, 0, none⟩ (.int .u32 A.q.1)).setCell ⟨k2, 1, none⟩ (.int .u32 A.q.2) := ⟨_, rfl⟩
        rw [← hwp] at hn1 hn2 hb3' ⊢
        clear hwp d0 d1 df hm1 hm2 hb2
        refine hK.out _ _ (HSK.out _ hb3') (fun hHeld => ?_)
        clear hK K
        try simp only [Act.put, List.setIfInBounds_toArray, List.set_cons_zero, List.set_cons_succ]
        refine held_take (v := ?s7v16) 16 rfl (by kernel_rfl) (by kernel_rfl) (by kernel_rfl) (fun _ _ _ h => h) (by rfl) hHeld ?s7y16 ?s7r16
        case s7y16 => (intro W hSw; obtain ⟨y0, y1, y2⟩ := hSw; go_simp; with_reducible rfl)
        simp only [Act.put, List.setIfInBounds_toArray, List.set_cons_zero, List.set_cons_succ]
        refine wpAnyH_done (by kernel_rfl) ?_ _
        clear hHeld
        go_wp2_with fail
        go_meet
        exact ⟨_, _, _, rfl, rfl, rfl, rfl, rfl, hn1, hn2, hg1, hg2, hb3'⟩
      ·go_simp
       have hba := (Below.refl wz.heap.size wz).alloc (Nat.le_refl _) (.cells #[.int .u32 0, .int .u32 0] 108)
       refine hK.out _ _ (HSK.out _ hba.drew) (fun hHeld => ?_)
       clear hK K
       try simp only [Act.put, List.setIfInBounds_toArray, List.set_cons_zero, List.set_cons_succ]
       refine held_both 7 12 (by kernel_rfl) rfl rfl (fun K hK => ?_) (fun K hK => ?_)
       ·go_simp
        refine (TK.out _).mono ?_
        rintro e w3 ⟨rfl, hb3⟩
        have hb3 := below_undrew hb3
        have hb3r : Below wz.heap.size wz w3 := hba.trans (hb3.mono hba.size)
        try dsimp only
        refine hK.out _ _ (HSK.out _ hb3r) (fun hHeld => ?_)
        clear hK K
        try simp only [Act.put, List.setIfInBounds_toArray, List.set_cons_zero, List.set_cons_succ]
        refine held_take (v := ?s8v8) 8 rfl (by kernel_rfl) (by kernel_rfl) (by kernel_rfl) (fun _ _ _ h => h) (by rfl) hHeld ?s8y8 ?s8r8
        case s8y8 => (intro W hSw; obtain ⟨y0, y1, y2⟩ := hSw; go_simp; with_reducible rfl)
        simp only [Act.put, List.setIfInBounds_toArray, List.set_cons_zero, List.set_cons_succ]
        refine held_take (v := ?s8v9) 9 rfl (by kernel_rfl) (by kernel_rfl) (by kernel_rfl) (fun _ _ _ h => h) (by rfl) hHeld ?s8y9 ?s8r9
        case s8y9 => (intro W hSw; obtain ⟨y0, y1, y2⟩ := hSw; go_simp; with_reducible rfl)
        simp only [Act.put, List.setIfInBounds_toArray, List.set_cons_zero, List.set_cons_succ]
        refine held_take (v := ?s8v10) 10 rfl (by kernel_rfl) (by kernel_rfl) (by kernel_rfl) (fun _ _ _ h => h) (by rfl) hHeld ?s8y10 ?s8r10
        case s8y10 => (intro W hSw; obtain ⟨y0, y1, y2⟩ := hSw; go_simp; with_reducible rfl)
        simp only [Act.put, List.setIfInBounds_toArray, List.set_cons_zero, List.set_cons_succ]
        refine held_take (v := ?s8v11) 11 rfl (by kernel_rfl) (by kernel_rfl) (by kernel_rfl) (fun _ _ _ h => h) (by rfl) hHeld ?s8y11 ?s8r11
        case s8y11 => (intro W hSw; obtain ⟨y0, y1, y2⟩ := hSw; go_simp; with_reducible rfl)
        simp only [Act.put, List.setIfInBounds_toArray, List.set_cons_zero, List.set_cons_succ]
        refine held_one 12 (by kernel_rfl) rfl (fun K hK => ?_)
        go_simp
        refine hK.out _ _ (HSK.out _ (hb3r.alloc hb3r.size (.cells #[.int .i64 0, .int .i64 0, .string ⟨#[]⟩] 118))) (fun hHeld => ?_)
        clear hK K
        try simp only [Act.put, List.setIfInBounds_toArray, List.set_cons_zero, List.set_cons_succ]
        obtain ⟨wn, hwn⟩ : ∃ wn, wn = w3.alloc (.cells #[.int .i64 0, .int .i64 0, .string ⟨#[]⟩] 118) := ⟨_, rfl⟩
        obtain ⟨k1, hk1⟩ : ∃ k1, k1 = w3.heap.size := ⟨_, rfl⟩
        obtain ⟨k2, hk2⟩ : ∃ k2, k2 = wz.heap.size := ⟨_, rfl⟩
        have hne : k1 ≠ k2 := by rw [hk1, hk2]; have := hb3.size; simp at this; omega
        have hg1 : wz.heap.size ≤ k1 := by rw [hk1]; exact hb3r.size
        have hg2 : wz.heap.size ≤ k2 := by rw [hk2]; exact Nat.le_refl _
        have hz1 : wn.heap[k1]? = some (.cells #[.int .i64 0, .int .i64 0, .string ⟨#[]⟩] 118 (0, 0)) := by rw [hwn, hk1]; exact heap_alloc_new _ _
        have hz2 : wn.heap[k2]? = some (.cells #[.int .u32 0, .int .u32 0] 108 (0, 0)) := by rw [hwn, hk2]; exact heap_alloc_old ((hb3.block _ (by simp)).trans (heap_alloc_new wz _))
        have hbn : Below wz.heap.size wz wn := by rw [hwn]; exact hb3r.alloc hb3r.size (.cells #[.int .i64 0, .int .i64 0, .string ⟨#[]⟩] 118)
        rw [← hwn]
        try rw [← hk1]
        try rw [← hk2]
        clear hk1 hk2 hwn
        have d0 := cell_of_block hz1 0
        have d1 := cell_of_block hz1 1
        have d2 := cell_of_block hz1 2
        have df := free_of_block hz1
        simp only [List.getElem?_toArray, List.getElem?_cons_succ, List.getElem?_cons_zero] at d0 d1 d2
        refine held_one 14 (by kernel_rfl) rfl (fun K hK => ?_)
        go_simp
        have hm1 := heap_setCell_same (heap_setCell_same (heap_setCell_same hz1 0 (.int .i64 A.f.page)) 1 (.int .i64 A.f.commit)) 2 (.string (bs A.f.data))
        have hm2 : (((wn.setCell ⟨k1, 0, none⟩ (.int .i64 A.f.page)).setCell ⟨k1, 1, none⟩ (.int .i64 A.f.commit)).setCell ⟨k1, 2, none⟩ (.string (bs A.f.data))).heap[k2]? = some (.cells #[.int .u32 0, .int .u32 0] 108 (0, 0)) := by
         rw [Below.heap_setCell _ ⟨k1, _, none⟩ _ k2 (Ne.symm hne), Below.heap_setCell _ ⟨k1, _, none⟩ _ k2 (Ne.symm hne), Below.heap_setCell _ ⟨k1, _, none⟩ _ k2 (Ne.symm hne)]
         exact hz2
        have hb2 := ((hbn.setCell (p := ⟨k1, 0, none⟩) hg1 (.int .i64 A.f.page)).setCell (p := ⟨k1, 1, none⟩) hg1 (.int .i64 A.f.commit)).setCell (p := ⟨k1, 2, none⟩) hg1 (.string (bs A.f.data))
        obtain ⟨wo, hwo⟩ : ∃ wo, wo = ((wn.setCell ⟨k1, 0, none⟩ (.int .i64 A.f.page)).setCell ⟨k1, 1, none⟩ (.int .i64 A.f.commit)).setCell ⟨k1, 2, none⟩ (.string (bs A.f.data)) := ⟨_, rfl⟩
        rw [← hwo] at hm1 hm2 hb2 ⊢
        clear hwo d0 d1 d2 df hz1 hz2 hbn
        refine hK.out _ _ (HSK.out _ hb2) (fun hHeld => ?_)
        clear hK K
        try simp only [Act.put, List.setIfInBounds_toArray, List.set_cons_zero, List.set_cons_succ]
        have d0 := cell_of_block hm2 0
        have d1 := cell_of_block hm2 1
        have df := free_of_block hm2
        simp only [List.getElem?_toArray, List.getElem?_cons_succ, List.getElem?_cons_zero] at d0 d1
        refine held_one 15 (by kernel_rfl) rfl (fun K hK => ?_)
        go_simp
        have hn2 := heap_setCell_same (heap_setCell_same hm2 0 (.int .u32 A.q.1)) 1 (.int .u32 A.q.2)
        have hn1 : ((wo.setCell ⟨k2, 0, none⟩ (.int .u32 A.q.1)).setCell ⟨k2, 1, none⟩ (.int .u32 A.q.2)).heap[k1]? = some (.cells #[.int .i64 A.f.page, .int .i64 A.f.commit, .string (bs A.f.data)] 118 (0, 0)) := by
         rw [Below.heap_setCell _ ⟨k2, _, none⟩ _ k1 hne, Below.heap_setCell _ ⟨k2, _, none⟩ _ k1 hne]
         exact hm1
        have hb3' := (hb2.setCell (p := ⟨k2, 0, none⟩) hg2 (.int .u32 A.q.1)).setCell (p := ⟨k2, 1, none⟩) hg2 (.int .u32 A.q.2)
        obtain ⟨wp, hwp⟩ : ∃ wp, wp = (wo.setCell ⟨k2, 0, none⟩ (.int .u32 A.q.1)).setCell ⟨k2, 1, none⟩ (.int .u32 A.q.2) := ⟨_, rfl⟩
        rw [← hwp] at hn1 hn2 hb3' ⊢
        clear hwp d0 d1 df hm1 hm2 hb2
        refine hK.out _ _ (HSK.out _ hb3') (fun hHeld => ?_)
        clear hK K
        try simp only [Act.put, List.setIfInBounds_toArray, List.set_cons_zero, List.set_cons_succ]
        refine held_take (v := ?s9v16) 16 rfl (by kernel_rfl) (by kernel_rfl) (by kernel_rfl) (fun _ _ _ h => h) (by rfl) hHeld ?s9y16 ?s9r16
        case s9y16 => (intro W hSw; obtain ⟨y0, y1, y2⟩ := hSw; go_simp; with_reducible rfl)
        simp only [Act.put, List.setIfInBounds_toArray, List.set_cons_zero, List.set_cons_succ]
        refine wpAnyH_done (by kernel_rfl) ?_ _
        clear hHeld
        go_wp2_with fail
        go_meet
        exact ⟨_, _, _, rfl, rfl, rfl, rfl, rfl, hn1, hn2, hg1, hg2, hb3'⟩
       ·go_simp
        have hbb := hba.alloc (by simp) (.cells #[.int .i64 0, .int .i64 0, .string ⟨#[]⟩] 118)
        refine hK.out _ _ (HSK.out _ hbb.drew) (fun hHeld => ?_)
        clear hK K
        try simp only [Act.put, List.setIfInBounds_toArray, List.set_cons_zero, List.set_cons_succ]
        refine held_one 7 (by kernel_rfl) rfl (fun K hK => ?_)
        go_simp
        refine (TK.out _).mono ?_
        rintro e w3 ⟨rfl, hb3⟩
        have hb3 := below_undrew hb3
        have hb3r : Below wz.heap.size wz w3 := hbb.trans (hb3.mono hbb.size)
        try dsimp only
        refine hK.out _ _ (HSK.out _ hb3r) (fun hHeld => ?_)
        clear hK K
        try simp only [Act.put, List.setIfInBounds_toArray, List.set_cons_zero, List.set_cons_succ]
        refine held_take (v := ?s10v8) 8 rfl (by kernel_rfl) (by kernel_rfl) (by kernel_rfl) (fun _ _ _ h => h) (by rfl) hHeld ?s10y8 ?s10r8
        case s10y8 => (intro W hSw; obtain ⟨y0, y1, y2⟩ := hSw; go_simp; with_reducible rfl)
        simp only [Act.put, List.setIfInBounds_toArray, List.set_cons_zero, List.set_cons_succ]
        refine held_take (v := ?s10v9) 9 rfl (by kernel_rfl) (by kernel_rfl) (by kernel_rfl) (fun _ _ _ h => h) (by rfl) hHeld ?s10y9 ?s10r9
        case s10y9 => (intro W hSw; obtain ⟨y0, y1, y2⟩ := hSw; go_simp; with_reducible rfl)
        simp only [Act.put, List.setIfInBounds_toArray, List.set_cons_zero, List.set_cons_succ]
        refine held_take (v := ?s10v10) 10 rfl (by kernel_rfl) (by kernel_rfl) (by kernel_rfl) (fun _ _ _ h => h) (by rfl) hHeld ?s10y10 ?s10r10
        case s10y10 => (intro W hSw; obtain ⟨y0, y1, y2⟩ := hSw; go_simp; with_reducible rfl)
        simp only [Act.put, List.setIfInBounds_toArray, List.set_cons_zero, List.set_cons_succ]
        refine held_take (v := ?s10v11) 11 rfl (by kernel_rfl) (by kernel_rfl) (by kernel_rfl) (fun _ _ _ h => h) (by rfl) hHeld ?s10y11 ?s10r11
        case s10y11 => (intro W hSw; obtain ⟨y0, y1, y2⟩ := hSw; go_simp; with_reducible rfl)
        simp only [Act.put, List.setIfInBounds_toArray, List.set_cons_zero, List.set_cons_succ]
        obtain ⟨wn, hwn⟩ : ∃ wn, wn = w3 := ⟨_, rfl⟩
        obtain ⟨k1, hk1⟩ : ∃ k1, k1 = wz.heap.size + 1 := ⟨_, rfl⟩
        obtain ⟨k2, hk2⟩ : ∃ k2, k2 = wz.heap.size := ⟨_, rfl⟩
        have hne : k1 ≠ k2 := by rw [hk1, hk2]; omega
        have hg1 : wz.heap.size ≤ k1 := by rw [hk1]; omega
        have hg2 : wz.heap.size ≤ k2 := by rw [hk2]; omega
        have hz1 : wn.heap[k1]? = some (.cells #[.int .i64 0, .int .i64 0, .string ⟨#[]⟩] 118 (0, 0)) := by rw [hwn, hk1]; exact (hb3.block (wz.heap.size + 1) (by simp)).trans (by have := heap_alloc_new (wz.alloc (.cells #[.int .u32 0, .int .u32 0] 108)) (.cells #[.int .i64 0, .int .i64 0, .string ⟨#[]⟩] 118); simpa using this)
        have hz2 : wn.heap[k2]? = some (.cells #[.int .u32 0, .int .u32 0] 108 (0, 0)) := by rw [hwn, hk2]; exact (hb3.block wz.heap.size (by simp <;> omega)).trans (heap_alloc_old (heap_alloc_new wz _))
        have hbn : Below wz.heap.size wz wn := by rw [hwn]; exact hb3r
        rw [← hwn]
        try rw [← hk1]
        try rw [← hk2]
        clear hk1 hk2 hwn
        have d0 := cell_of_block hz1 0
        have d1 := cell_of_block hz1 1
        have d2 := cell_of_block hz1 2
        have df := free_of_block hz1
        simp only [List.getElem?_toArray, List.getElem?_cons_succ, List.getElem?_cons_zero] at d0 d1 d2
        refine held_one 14 (by kernel_rfl) rfl (fun K hK => ?_)
        go_simp
        have hm1 := heap_setCell_same (heap_setCell_same (heap_setCell_same hz1 0 (.int .i64 A.f.page)) 1 (.int .i64 A.f.commit)) 2 (.string (bs A.f.data))
        have hm2 : (((wn.setCell ⟨k1, 0, none⟩ (.int .i64 A.f.page)).setCell ⟨k1, 1, none⟩ (.int .i64 A.f.commit)).setCell ⟨k1, 2, none⟩ (.string (bs A.f.data))).heap[k2]? = some (.cells #[.int .u32 0, .int .u32 0] 108 (0, 0)) := by
         rw [Below.heap_setCell _ ⟨k1, _, none⟩ _ k2 (Ne.symm hne), Below.heap_setCell _ ⟨k1, _, none⟩ _ k2 (Ne.symm hne), Below.heap_setCell _ ⟨k1, _, none⟩ _ k2 (Ne.symm hne)]
         exact hz2
        have hb2 := ((hbn.setCell (p := ⟨k1, 0, none⟩) hg1 (.int .i64 A.f.page)).setCell (p := ⟨k1, 1, none⟩) hg1 (.int .i64 A.f.commit)).setCell (p := ⟨k1, 2, none⟩) hg1 (.string (bs A.f.data))
        obtain ⟨wo, hwo⟩ : ∃ wo, wo = ((wn.setCell ⟨k1, 0, none⟩ (.int .i64 A.f.page)).setCell ⟨k1, 1, none⟩ (.int .i64 A.f.commit)).setCell ⟨k1, 2, none⟩ (.string (bs A.f.data)) := ⟨_, rfl⟩
        rw [← hwo] at hm1 hm2 hb2 ⊢
        clear hwo d0 d1 d2 df hz1 hz2 hbn
        refine hK.out _ _ (HSK.out _ hb2) (fun hHeld => ?_)
        clear hK K
        try simp only [Act.put, List.setIfInBounds_toArray, List.set_cons_zero, List.set_cons_succ]
        have d0 := cell_of_block hm2 0
        have d1 := cell_of_block hm2 1
        have df := free_of_block hm2
        simp only [List.getElem?_toArray, List.getElem?_cons_succ, List.getElem?_cons_zero] at d0 d1
        refine held_one 15 (by kernel_rfl) rfl (fun K hK => ?_)
        go_simp
        have hn2 := heap_setCell_same (heap_setCell_same hm2 0 (.int .u32 A.q.1)) 1 (.int .u32 A.q.2)
        have hn1 : ((wo.setCell ⟨k2, 0, none⟩ (.int .u32 A.q.1)).setCell ⟨k2, 1, none⟩ (.int .u32 A.q.2)).heap[k1]? = some (.cells #[.int .i64 A.f.page, .int .i64 A.f.commit, .string (bs A.f.data)] 118 (0, 0)) := by
         rw [Below.heap_setCell _ ⟨k2, _, none⟩ _ k1 hne, Below.heap_setCell _ ⟨k2, _, none⟩ _ k1 hne]
         exact hm1
        have hb3' := (hb2.setCell (p := ⟨k2, 0, none⟩) hg2 (.int .u32 A.q.1)).setCell (p := ⟨k2, 1, none⟩) hg2 (.int .u32 A.q.2)
        obtain ⟨wp, hwp⟩ : ∃ wp, wp = (wo.setCell ⟨k2, 0, none⟩ (.int .u32 A.q.1)).setCell ⟨k2, 1, none⟩ (.int .u32 A.q.2) := ⟨_, rfl⟩
        rw [← hwp] at hn1 hn2 hb3' ⊢
        clear hwp d0 d1 df hm1 hm2 hb2
        refine hK.out _ _ (HSK.out _ hb3') (fun hHeld => ?_)
        clear hK K
        try simp only [Act.put, List.setIfInBounds_toArray, List.set_cons_zero, List.set_cons_succ]
        refine held_take (v := ?s11v16) 16 rfl (by kernel_rfl) (by kernel_rfl) (by kernel_rfl) (fun _ _ _ h => h) (by rfl) hHeld ?s11y16 ?s11r16
        case s11y16 => (intro W hSw; obtain ⟨y0, y1, y2⟩ := hSw; go_simp; with_reducible rfl)
        simp only [Act.put, List.setIfInBounds_toArray, List.set_cons_zero, List.set_cons_succ]
        refine wpAnyH_done (by kernel_rfl) ?_ _
        clear hHeld
        go_wp2_with fail
        go_meet
        exact ⟨_, _, _, rfl, rfl, rfl, rfl, rfl, hn1, hn2, hg1, hg2, hb3'⟩
     case rest =>
      obtain ⟨wx, k1, k2, rfl, rfl, rfl, rfl, rfl, hk1, hk2, hg1, hg2, hbx⟩ := hcut
      have hlx := (hbx.block _ (lt_of_block Hlz.out)).trans Hlz.out
      have hhx := (hbx.block _ (lt_of_block Hhz.out)).trans Hhz.out
      have hrx := row_keep Hrz.out fun j hj => hbx.block j (row_base Hrz.out hj).2
      have hwx : Below w.heap.size w wx := Hwz.out.trans (hbx.mono Hwz.out.size)
      have Hlx := hid hlx
      have Hhx := hid hhx
      have Hrx := hid hrx
      have Hwx := hid hwx
      have Hk1 := hid hk1
      have Hk2 := hid hk2
      have Hg1 := hid hg1
      have Hg2 := hid hg2
      clear hlx hhx hrx hwx hk1 hk2 hg1 hg2 hbx HSK TK
      by_cases hA0 : A.e = 0
      ·have hA1 : (A.e != 0) = false := by simp [hA0]
       have hop := Hop3.out
       rw [if_neg (by simpa using hA0)] at hop
       have Hop4 := hid hop
       have hgood := Hgood.out hA0
       have Hgd := hid hgood
       clear hop hgood Hop3
       go_upto_region 28 with fail
       have Hzx := hid (show wz.heap.size ≤ wx.heap.size by have := Hg1.out; have := lt_of_block Hk1.out; omega)
       have HS28b := hid (show ∀ W : World, W.heap[k1]? = some (.cells #[.int .i64 A.f.page, .int .i64 A.f.commit, .string (bs A.f.data)] 118 (0, 0)) → W.heap[k2]? = some (.cells #[.int .u32 A.q.1, .int .u32 A.q.2] 108 (0, 0)) → W.cell? ⟨k1, 0, none⟩ = some (.int .i64 A.f.page) ∧ W.cell? ⟨k1, 1, none⟩ = some (.int .i64 A.f.commit) ∧ W.cell? ⟨k1, 2, none⟩ = some (.string (bs A.f.data)) ∧ W.cell? ⟨k2, 0, none⟩ = some (.int .u32 A.q.1) ∧ W.cell? ⟨k2, 1, none⟩ = some (.int .u32 A.q.2) from fun W b1 b2 =>
        ⟨by rw [cell_of_block b1]; rfl, by rw [cell_of_block b1]; rfl, by rw [cell_of_block b1]; rfl, by rw [cell_of_block b2]; rfl, by rw [cell_of_block b2]; rfl⟩)
       have HS28 := hid (fun (W : World) (hW : Below wx.heap.size wx W) => HS28b.out W ((hW.block _ (lt_of_block Hk1.out)).trans Hk1.out) ((hW.block _ (lt_of_block Hk2.out)).trans Hk2.out))
       have a5x : wx.cell? ⟨lb, 5, none⟩ = some lv := (cell_of_block Hlx.out 5).trans rfl
       have lblt : lb < wx.heap.size := lt_of_block Hlx.out
       refine wp_region_held_drew (S := fun W => W.cell? ⟨k1, 0, none⟩ = some (.int .i64 A.f.page) ∧ W.cell? ⟨k1, 1, none⟩ = some (.int .i64 A.f.commit) ∧ W.cell? ⟨k1, 2, none⟩ = some (.string (bs A.f.data)) ∧ W.cell? ⟨k2, 0, none⟩ = some (.int .u32 A.q.1) ∧ W.cell? ⟨k2, 1, none⟩ = some (.int .u32 A.q.2)) (by kernel_rfl) (HS28.out wx.drew (Below.refl _ _).drew) (fun hHeld => ?_)
       refine held_take (v := ?u28v0) 0 rfl (by kernel_rfl) (by kernel_rfl) (by kernel_rfl) (fun _ _ _ h => h) (by rfl) hHeld ?u28y0 ?u28r0
       case u28y0 => (intro W hSw; obtain ⟨y0, y1, y2, y3, y4⟩ := hSw; go_simp; with_reducible rfl)
       simp only [Act.put, List.setIfInBounds_toArray, List.set_cons_zero, List.set_cons_succ]
       refine held_take (v := ?u28v1) 1 rfl (by kernel_rfl) (by kernel_rfl) (by kernel_rfl) (fun _ _ _ h => h) (by rfl) hHeld ?u28y1 ?u28r1
       case u28y1 => (intro W hSw; obtain ⟨y0, y1, y2, y3, y4⟩ := hSw; go_simp; with_reducible rfl)
       simp only [Act.put, List.setIfInBounds_toArray, List.set_cons_zero, List.set_cons_succ]
       refine held_take (v := ?u28v2) 2 rfl (by kernel_rfl) (by kernel_rfl) (by kernel_rfl) (fun _ _ _ h => h) (by rfl) hHeld ?u28y2 ?u28r2
       case u28y2 => (intro W hSw; obtain ⟨y0, y1, y2, y3, y4⟩ := hSw; go_simp; with_reducible rfl)
       simp only [Act.put, List.setIfInBounds_toArray, List.set_cons_zero, List.set_cons_succ]
       refine held_take (v := ?u28v3) 3 rfl (by kernel_rfl) (by kernel_rfl) (by kernel_rfl) (fun _ _ _ h => h) (by rfl) hHeld ?u28y3 ?u28r3
       case u28y3 => (intro W hSw; obtain ⟨y0, y1, y2, y3, y4⟩ := hSw; go_simp; with_reducible rfl)
       simp only [Act.put, List.setIfInBounds_toArray, List.set_cons_zero, List.set_cons_succ]
       refine held_take (v := ?u28v4) 4 rfl (by kernel_rfl) (by kernel_rfl) (by kernel_rfl) (fun _ _ _ h => h) (by rfl) hHeld ?u28y4 ?u28r4
       case u28y4 => (intro W hSw; obtain ⟨y0, y1, y2, y3, y4⟩ := hSw; go_simp; with_reducible rfl)
       simp only [Act.put, List.setIfInBounds_toArray, List.set_cons_zero, List.set_cons_succ]
       refine held_take (v := ?u28v6) 6 rfl (by kernel_rfl) (by kernel_rfl) (by kernel_rfl) (fun _ _ _ h => h) (by rfl) hHeld ?u28y6 ?u28r6
       case u28y6 => (intro W hSw; obtain ⟨y0, y1, y2, y3, y4⟩ := hSw; go_simp; with_reducible rfl)
       simp only [Act.put, List.setIfInBounds_toArray, List.set_cons_zero, List.set_cons_succ]
       refine held_take (v := ?u28v9) 9 rfl (by kernel_rfl) (by kernel_rfl) (by kernel_rfl) (fun _ _ _ h => h) (by rfl) hHeld ?u28y9 ?u28r9
       case u28y9 => (intro W hSw; obtain ⟨y0, y1, y2, y3, y4⟩ := hSw; go_simp; with_reducible rfl)
       simp only [Act.put, List.setIfInBounds_toArray, List.set_cons_zero, List.set_cons_succ]
       refine held_both 5 7 (by kernel_rfl) rfl rfl (fun K hK => ?_) (fun K hK => ?_)
       ·go_simp
        refine hK.out _ _ (HS28.out _ (Below.refl _ _).drew) (fun hHeld => ?_)
        clear hK K
        try simp only [Act.put, List.setIfInBounds_toArray, List.set_cons_zero, List.set_cons_succ]
        clear a5x
        refine held_one 7 (by kernel_rfl) rfl (fun K hK => ?_)
        go_simp
        refine hK.out _ _ (HS28.out _ (((Below.refl wx.heap.size wx).alloc (Nat.le_refl _) _).drew)) (fun hHeld => ?_)
        clear hK K
        try simp only [Act.put, List.setIfInBounds_toArray, List.set_cons_zero, List.set_cons_succ]
        have hnew5 : ((wx.alloc (.cells #[.int .i64 A.f.page, .int .i64 A.f.commit, .string (bs A.f.data)] 118)).drew).heap[wx.heap.size]? = some (.cells #[.int .i64 A.f.page, .int .i64 A.f.commit, .string (bs A.f.data)] 118 (0, 0)) := heap_alloc_new wx _
        have hb5 : Below wx.heap.size wx ((wx.alloc (.cells #[.int .i64 A.f.page, .int .i64 A.f.commit, .string (bs A.f.data)] 118)).drew) := ((Below.refl wx.heap.size wx).alloc (Nat.le_refl _) _).drew
        have hs5 : ((wx.alloc (.cells #[.int .i64 A.f.page, .int .i64 A.f.commit, .string (bs A.f.data)] 118)).drew).heap.size = wx.heap.size + 1 := by simp
        obtain ⟨w5, hw5⟩ : ∃ w5, w5 = (wx.alloc (.cells #[.int .i64 A.f.page, .int .i64 A.f.commit, .string (bs A.f.data)] 118)).drew := ⟨_, rfl⟩
        rw [← hw5] at hnew5 hb5 hs5 ⊢
        clear hw5
        have hrow5 := row_keep Hrx.out fun j hj => hb5.block j (row_base Hrx.out hj).2
        have hlx5 := (hb5.block _ (lt_of_block Hlx.out)).trans Hlx.out
        obtain ⟨i0, hi0, hz0, hz1, hz2⟩ := info_parts (P := Tryz.prog) (e := 118) (z := frV ⟨0, 0, []⟩) (size := 3) (bytes := 32) (by kernel_rfl)
        refine held_one 8 (by kernel_rfl) rfl (fun K hK => ?_)
        refine step_append_lies _ (by rfl) _ _ 105 (by rfl) (HB + 1) 118 i0 _ 3 32 Tryz.underlying105 hi0 hz0 hz1 hz2 rfl (by omega) lv i (frsCells li) (by rfl) hrow5 ⟨wx.heap.size, 0, none⟩ 1 1 (frCells A.f) (by rfl) (by rfl) (World.news_of_block (w := w5) (cs := (frCells A.f).toArray) (t := 118) (fr := (0, 0)) hnew5) (frCells_one A.f) (by omega) (by unfold maxLen; have := Hfr2.out; omega) (by have := Hfr2.out; omega) (by rw [hs5]; have := lt_of_block Hhx.out; omega) (wx.heap.size + 1) hs5 ?_
        intro g7 cap7 w7 hown7 hgrow7 hat7 hlt7
        have hbw7 : ∀ j : Nat, j < wz.heap.size → some j ≠ lv.ownBlock → w7.heap[j]? = wx.heap[j]? := fun j hj hn => by
         have hjx : j < wx.heap.size := by have := Hzx.out; omega
         exact (hgrow7.block j (by rw [hs5]; omega) hn).trans (hb5.block j hjx)
        have hk7 : ∀ j : Nat, wz.heap.size ≤ j → j < wx.heap.size → w7.heap[j]? = wx.heap[j]? := fun j hj hjx => (hgrow7.block j (by rw [hs5]; omega) (fun e => by have := (row_base Hrz.out e.symm).2; omega)).trans (hb5.block j hjx)
        have hnlb : some lb ≠ lv.ownBlock := fun e => by have := (row_base Hrz.out e.symm).1; have := HlbHB.out; omega
        have hnHB : some HB ≠ lv.ownBlock := fun e => by have := (row_base Hrz.out e.symm).1; omega
        have hl7 := (hbw7 lb (lt_of_block Hlz.out) hnlb).trans Hlx.out
        have hh7 := (hbw7 HB (lt_of_block Hhz.out) hnHB).trans Hhx.out
        have hk17 := (hk7 k1 Hg1.out (lt_of_block Hk1.out)).trans Hk1.out
        have hk27 := (hk7 k2 Hg2.out (lt_of_block Hk2.out)).trans Hk2.out
        have hw7 : Below w.heap.size w w7 := by
         have hb := Hwx.out.trans (hb5.mono Hwx.out.size)
         exact ⟨hgrow7.os.trans hb.os, hgrow7.tape.trans hb.tape, hgrow7.output.trans hb.output, Nat.le_trans hb.size hgrow7.size, fun j hj => (hgrow7.block j (by have := hb.size; omega) (fun e => by have := (row_base Hrz.out e.symm).1; have := HlbHB.out; have := Hlb.out; omega)).trans (hb.block j hj)⟩
        have hlen7 : wx.heap.size ≤ w7.heap.size := by have := hgrow7.size; omega
        have Hl7 := hid hl7
        have Hh7 := hid hh7
        have Hk17 := hid hk17
        have Hk27 := hid hk27
        have Hw7 := hid hw7
        have Hown7 := hid hown7
        have Hlen7 := hid hlen7
        refine hK.out _ _ (HS28b.out w7 hk17 hk27) (fun hHeld => ?_)
        clear hK K
        try simp only [Act.put, List.setIfInBounds_toArray, List.set_cons_zero, List.set_cons_succ]
        clear hnew5 hb5 hs5 hrow5 hlx5 hgrow7 hat7 hlt7 hbw7 hk7 hnlb hnHB hl7 hh7 hk17 hk27 hw7 hown7 hlen7
        have a5 : w7.cell? ⟨lb, 5, none⟩ = some lv := (cell_of_block Hl7.out 5).trans rfl
        have af5 := free_of_block Hl7.out 5
        refine held_take (v := ?a28v10) 10 rfl (by kernel_rfl) (by kernel_rfl) (by kernel_rfl) (fun _ _ _ h => h) (by rfl) hHeld ?a28y10 ?a28r10
        case a28y10 => (intro W hSw; obtain ⟨y0, y1, y2, y3, y4⟩ := hSw; go_simp; with_reducible rfl)
        simp only [Act.put, List.setIfInBounds_toArray, List.set_cons_zero, List.set_cons_succ]
        refine held_take (v := ?a28v11) 11 rfl (by kernel_rfl) (by kernel_rfl) (by kernel_rfl) (fun _ _ _ h => h) (by rfl) hHeld ?a28y11 ?a28r11
        case a28y11 => (intro W hSw; obtain ⟨y0, y1, y2, y3, y4⟩ := hSw; go_simp; with_reducible rfl)
        simp only [Act.put, List.setIfInBounds_toArray, List.set_cons_zero, List.set_cons_succ]
        refine held_one 12 (by kernel_rfl) rfl (fun K hK => ?_)
        go_simp
        have hlk1 : k1 ≠ lb := by have := Hg1.out; have := lt_of_block Hlz.out; omega
        have hlk2 : k2 ≠ lb := by have := Hg2.out; have := lt_of_block Hlz.out; omega
        have hlHB : HB ≠ lb := by have := HlbHB.out; omega
        have hm1 : (w7.setCell ⟨lb, 5, none⟩ (.slice (some ⟨g7, 0, none⟩) (i + 1) cap7)).heap[lb]? = some (.cells (logCells b (⟨hd, true, li ++ [A.f], pi, false, false⟩ : Lg) (.slice (some ⟨g7, 0, none⟩) (i + 1) cap7)).toArray 110 (0, 0)) := (heap_setCell_same Hl7.out 5 (.slice (some ⟨g7, 0, none⟩) (i + 1) cap7)).trans rfl
        have ho8 : ∀ j : Nat, j ≠ lb → (w7.setCell ⟨lb, 5, none⟩ (.slice (some ⟨g7, 0, none⟩) (i + 1) cap7)).heap[j]? = w7.heap[j]? := fun j hj => Below.heap_setCell _ ⟨lb, _, none⟩ _ j hj
        have hw8 : Below w.heap.size w (w7.setCell ⟨lb, 5, none⟩ (.slice (some ⟨g7, 0, none⟩) (i + 1) cap7)) := Hw7.out.setCell (p := ⟨lb, 5, none⟩) (by rw [Hlb.out]; exact Nat.le_refl _) _
        have hs8 : (w7.setCell ⟨lb, 5, none⟩ (.slice (some ⟨g7, 0, none⟩) (i + 1) cap7)).heap.size = w7.heap.size := by simp
        obtain ⟨w8, hw8'⟩ : ∃ w8, w8 = w7.setCell ⟨lb, 5, none⟩ (.slice (some ⟨g7, 0, none⟩) (i + 1) cap7) := ⟨_, rfl⟩
        rw [← hw8'] at hm1 ho8 hw8 hs8 ⊢
        clear hw8' a5 af5
        refine hK.out _ _ (HS28b.out w8 ((ho8 _ hlk1).trans Hk17.out) ((ho8 _ hlk2).trans Hk27.out)) (fun hHeld => ?_)
        clear hK K
        try simp only [Act.put, List.setIfInBounds_toArray, List.set_cons_zero, List.set_cons_succ]
        have b6 : w8.cell? ⟨lb, 6, none⟩ = some (.int .u32 pi.1) := (cell_of_block hm1 6).trans rfl
        have b7 : w8.cell? ⟨lb, 7, none⟩ = some (.int .u32 pi.2) := (cell_of_block hm1 7).trans rfl
        have bf6 := free_of_block hm1 6
        have bf7 := free_of_block hm1 7
        refine held_take (v := ?b28v13) 13 rfl (by kernel_rfl) (by kernel_rfl) (by kernel_rfl) (fun _ _ _ h => h) (by rfl) hHeld ?b28y13 ?b28r13
        case b28y13 => (intro W hSw; obtain ⟨y0, y1, y2, y3, y4⟩ := hSw; go_simp; with_reducible rfl)
        simp only [Act.put, List.setIfInBounds_toArray, List.set_cons_zero, List.set_cons_succ]
        refine held_take (v := ?b28v14) 14 rfl (by kernel_rfl) (by kernel_rfl) (by kernel_rfl) (fun _ _ _ h => h) (by rfl) hHeld ?b28y14 ?b28r14
        case b28y14 => (intro W hSw; obtain ⟨y0, y1, y2, y3, y4⟩ := hSw; go_simp; with_reducible rfl)
        simp only [Act.put, List.setIfInBounds_toArray, List.set_cons_zero, List.set_cons_succ]
        refine held_one 15 (by kernel_rfl) rfl (fun K hK => ?_)
        go_simp
        have hm2 : ((w8.setCell ⟨lb, 6, none⟩ (.int .u32 A.q.1)).setCell ⟨lb, 7, none⟩ (.int .u32 A.q.2)).heap[lb]? = some (.cells (logCells b (⟨hd, true, li ++ [A.f], A.q, false, false⟩ : Lg) (.slice (some ⟨g7, 0, none⟩) (i + 1) cap7)).toArray 110 (0, 0)) := (heap_setCell_same (heap_setCell_same hm1 6 (.int .u32 A.q.1)) 7 (.int .u32 A.q.2)).trans rfl
        have ho9 : ∀ j : Nat, j ≠ lb → ((w8.setCell ⟨lb, 6, none⟩ (.int .u32 A.q.1)).setCell ⟨lb, 7, none⟩ (.int .u32 A.q.2)).heap[j]? = w7.heap[j]? := fun j hj => by
         rw [Below.heap_setCell _ ⟨lb, _, none⟩ _ j hj, Below.heap_setCell _ ⟨lb, _, none⟩ _ j hj]
         exact ho8 j hj
        have hw9 : Below w.heap.size w ((w8.setCell ⟨lb, 6, none⟩ (.int .u32 A.q.1)).setCell ⟨lb, 7, none⟩ (.int .u32 A.q.2)) := (hw8.setCell (p := ⟨lb, 6, none⟩) (by rw [Hlb.out]; exact Nat.le_refl _) _).setCell (p := ⟨lb, 7, none⟩) (by rw [Hlb.out]; exact Nat.le_refl _) _
        have hs9 : ((w8.setCell ⟨lb, 6, none⟩ (.int .u32 A.q.1)).setCell ⟨lb, 7, none⟩ (.int .u32 A.q.2)).heap.size = w7.heap.size := by simp [hs8]
        obtain ⟨w9, hw9'⟩ : ∃ w9, w9 = (w8.setCell ⟨lb, 6, none⟩ (.int .u32 A.q.1)).setCell ⟨lb, 7, none⟩ (.int .u32 A.q.2) := ⟨_, rfl⟩
        rw [← hw9'] at hm2 ho9 hw9 hs9 ⊢
        clear hw9' b6 b7 bf6 bf7 hm1 ho8 hw8 hs8
        refine hK.out _ _ (HS28b.out w9 ((ho9 _ hlk1).trans Hk17.out) ((ho9 _ hlk2).trans Hk27.out)) (fun hHeld => ?_)
        clear hK K
        try simp only [Act.put, List.setIfInBounds_toArray, List.set_cons_zero, List.set_cons_succ]
        have hrow9 := row_keep Hown7.out (w' := w9) fun j hj => ho9 j (by have := (row_base Hown7.out hj).1; have := HlbHB.out; omega)
        have hh9 := (ho9 HB hlHB).trans Hh7.out
        have REL := hid (show Below w.heap.size w w9 ∧ w9.heap[HB]? = some (.cells #[.int .u64 hd.number, .int .i64 hd.frames, .int .i64 hd.pages] 104 (0, 0)) ∧ HB < w9.heap.size ∧ w9.heap[lb]? = some (.cells (logCells b (⟨hd, true, li ++ [A.f], A.q, false, false⟩ : Lg) (.slice (some ⟨g7, 0, none⟩) (i + 1) cap7)).toArray 110 (0, 0)) ∧ w9.ownsRow (HB + 1) 118 3 (.slice (some ⟨g7, 0, none⟩) (i + 1) cap7) (i + 1) (frsCells (li ++ [A.f])) ∧ (li ++ [A.f]).length = i + 1 ∧ PairWf A.q ∧ (∀ f ∈ li ++ [A.f], frOk f = true) ∧ openN d hd.number fr 0 [] (startP hd.number) = openN d hd.number (fr - (i + 1)) (i + 1) (li ++ [A.f]) A.q from
         ⟨hw9, hh9, lt_of_block hh9, hm2, by rw [frsCells_snoc]; exact hrow9, by simp [Hll.out], Hgd.out.2, fun f hf => by
          rcases List.mem_append.1 hf with h | h
          ·exact Hlo.out f h
          ·simp at h; subst h; exact Hgd.out.1, by
          have e : fr - (i + 1) = c := by have := Hc.out; omega
          rw [e]
          exact Hop4.out⟩)
        clear hm2 ho9 hw9 hs9 hrow9 hh9 hHeld hlk1 hlk2 hlHB
        refine wpAnyH_done (by kernel_rfl) ?_ _
        go_wp2_with fail
        go_roundw
        case rel => exact ⟨i + 1, _, _, _, hlt, by simp, REL.out⟩
        case measure => (simp [intOf]) <;> omega
       ·go_simp
        refine hK.out _ _ (HS28.out _ (((Below.refl wx.heap.size wx).alloc (Nat.le_refl _) _).drew)) (fun hHeld => ?_)
        clear hK K
        try simp only [Act.put, List.setIfInBounds_toArray, List.set_cons_zero, List.set_cons_succ]
        refine held_one 5 (by kernel_rfl) rfl (fun K hK => ?_)
        go_simp
        refine hK.out _ _ (HS28.out _ (((Below.refl wx.heap.size wx).alloc (Nat.le_refl _) _).drew)) (fun hHeld => ?_)
        clear hK K
        try simp only [Act.put, List.setIfInBounds_toArray, List.set_cons_zero, List.set_cons_succ]
        clear a5x
        have hnew5 : ((wx.alloc (.cells #[.int .i64 A.f.page, .int .i64 A.f.commit, .string (bs A.f.data)] 118)).drew).heap[wx.heap.size]? = some (.cells #[.int .i64 A.f.page, .int .i64 A.f.commit, .string (bs A.f.data)] 118 (0, 0)) := heap_alloc_new wx _
        have hb5 : Below wx.heap.size wx ((wx.alloc (.cells #[.int .i64 A.f.page, .int .i64 A.f.commit, .string (bs A.f.data)] 118)).drew) := ((Below.refl wx.heap.size wx).alloc (Nat.le_refl _) _).drew
        have hs5 : ((wx.alloc (.cells #[.int .i64 A.f.page, .int .i64 A.f.commit, .string (bs A.f.data)] 118)).drew).heap.size = wx.heap.size + 1 := by simp
        obtain ⟨w5, hw5⟩ : ∃ w5, w5 = (wx.alloc (.cells #[.int .i64 A.f.page, .int .i64 A.f.commit, .string (bs A.f.data)] 118)).drew := ⟨_, rfl⟩
        rw [← hw5] at hnew5 hb5 hs5 ⊢
        clear hw5
        have hrow5 := row_keep Hrx.out fun j hj => hb5.block j (row_base Hrx.out hj).2
        have hlx5 := (hb5.block _ (lt_of_block Hlx.out)).trans Hlx.out
        obtain ⟨i0, hi0, hz0, hz1, hz2⟩ := info_parts (P := Tryz.prog) (e := 118) (z := frV ⟨0, 0, []⟩) (size := 3) (bytes := 32) (by kernel_rfl)
        refine held_one 8 (by kernel_rfl) rfl (fun K hK => ?_)
        refine step_append_lies _ (by rfl) _ _ 105 (by rfl) (HB + 1) 118 i0 _ 3 32 Tryz.underlying105 hi0 hz0 hz1 hz2 rfl (by omega) lv i (frsCells li) (by rfl) hrow5 ⟨wx.heap.size, 0, none⟩ 1 1 (frCells A.f) (by rfl) (by rfl) (World.news_of_block (w := w5) (cs := (frCells A.f).toArray) (t := 118) (fr := (0, 0)) hnew5) (frCells_one A.f) (by omega) (by unfold maxLen; have := Hfr2.out; omega) (by have := Hfr2.out; omega) (by rw [hs5]; have := lt_of_block Hhx.out; omega) (wx.heap.size + 1) hs5 ?_
        intro g7 cap7 w7 hown7 hgrow7 hat7 hlt7
        have hbw7 : ∀ j : Nat, j < wz.heap.size → some j ≠ lv.ownBlock → w7.heap[j]? = wx.heap[j]? := fun j hj hn => by
         have hjx : j < wx.heap.size := by have := Hzx.out; omega
         exact (hgrow7.block j (by rw [hs5]; omega) hn).trans (hb5.block j hjx)
        have hk7 : ∀ j : Nat, wz.heap.size ≤ j → j < wx.heap.size → w7.heap[j]? = wx.heap[j]? := fun j hj hjx => (hgrow7.block j (by rw [hs5]; omega) (fun e => by have := (row_base Hrz.out e.symm).2; omega)).trans (hb5.block j hjx)
        have hnlb : some lb ≠ lv.ownBlock := fun e => by have := (row_base Hrz.out e.symm).1; have := HlbHB.out; omega
        have hnHB : some HB ≠ lv.ownBlock := fun e => by have := (row_base Hrz.out e.symm).1; omega
        have hl7 := (hbw7 lb (lt_of_block Hlz.out) hnlb).trans Hlx.out
        have hh7 := (hbw7 HB (lt_of_block Hhz.out) hnHB).trans Hhx.out
        have hk17 := (hk7 k1 Hg1.out (lt_of_block Hk1.out)).trans Hk1.out
        have hk27 := (hk7 k2 Hg2.out (lt_of_block Hk2.out)).trans Hk2.out
        have hw7 : Below w.heap.size w w7 := by
         have hb := Hwx.out.trans (hb5.mono Hwx.out.size)
         exact ⟨hgrow7.os.trans hb.os, hgrow7.tape.trans hb.tape, hgrow7.output.trans hb.output, Nat.le_trans hb.size hgrow7.size, fun j hj => (hgrow7.block j (by have := hb.size; omega) (fun e => by have := (row_base Hrz.out e.symm).1; have := HlbHB.out; have := Hlb.out; omega)).trans (hb.block j hj)⟩
        have hlen7 : wx.heap.size ≤ w7.heap.size := by have := hgrow7.size; omega
        have Hl7 := hid hl7
        have Hh7 := hid hh7
        have Hk17 := hid hk17
        have Hk27 := hid hk27
        have Hw7 := hid hw7
        have Hown7 := hid hown7
        have Hlen7 := hid hlen7
        refine hK.out _ _ (HS28b.out w7 hk17 hk27) (fun hHeld => ?_)
        clear hK K
        try simp only [Act.put, List.setIfInBounds_toArray, List.set_cons_zero, List.set_cons_succ]
        clear hnew5 hb5 hs5 hrow5 hlx5 hgrow7 hat7 hlt7 hbw7 hk7 hnlb hnHB hl7 hh7 hk17 hk27 hw7 hown7 hlen7
        have a5 : w7.cell? ⟨lb, 5, none⟩ = some lv := (cell_of_block Hl7.out 5).trans rfl
        have af5 := free_of_block Hl7.out 5
        refine held_take (v := ?c28v10) 10 rfl (by kernel_rfl) (by kernel_rfl) (by kernel_rfl) (fun _ _ _ h => h) (by rfl) hHeld ?c28y10 ?c28r10
        case c28y10 => (intro W hSw; obtain ⟨y0, y1, y2, y3, y4⟩ := hSw; go_simp; with_reducible rfl)
        simp only [Act.put, List.setIfInBounds_toArray, List.set_cons_zero, List.set_cons_succ]
        refine held_take (v := ?c28v11) 11 rfl (by kernel_rfl) (by kernel_rfl) (by kernel_rfl) (fun _ _ _ h => h) (by rfl) hHeld ?c28y11 ?c28r11
        case c28y11 => (intro W hSw; obtain ⟨y0, y1, y2, y3, y4⟩ := hSw; go_simp; with_reducible rfl)
        simp only [Act.put, List.setIfInBounds_toArray, List.set_cons_zero, List.set_cons_succ]
        refine held_one 12 (by kernel_rfl) rfl (fun K hK => ?_)
        go_simp
        have hlk1 : k1 ≠ lb := by have := Hg1.out; have := lt_of_block Hlz.out; omega
        have hlk2 : k2 ≠ lb := by have := Hg2.out; have := lt_of_block Hlz.out; omega
        have hlHB : HB ≠ lb := by have := HlbHB.out; omega
        have hm1 : (w7.setCell ⟨lb, 5, none⟩ (.slice (some ⟨g7, 0, none⟩) (i + 1) cap7)).heap[lb]? = some (.cells (logCells b (⟨hd, true, li ++ [A.f], pi, false, false⟩ : Lg) (.slice (some ⟨g7, 0, none⟩) (i + 1) cap7)).toArray 110 (0, 0)) := (heap_setCell_same Hl7.out 5 (.slice (some ⟨g7, 0, none⟩) (i + 1) cap7)).trans rfl
        have ho8 : ∀ j : Nat, j ≠ lb → (w7.setCell ⟨lb, 5, none⟩ (.slice (some ⟨g7, 0, none⟩) (i + 1) cap7)).heap[j]? = w7.heap[j]? := fun j hj => Below.heap_setCell _ ⟨lb, _, none⟩ _ j hj
        have hw8 : Below w.heap.size w (w7.setCell ⟨lb, 5, none⟩ (.slice (some ⟨g7, 0, none⟩) (i + 1) cap7)) := Hw7.out.setCell (p := ⟨lb, 5, none⟩) (by rw [Hlb.out]; exact Nat.le_refl _) _
        have hs8 : (w7.setCell ⟨lb, 5, none⟩ (.slice (some ⟨g7, 0, none⟩) (i + 1) cap7)).heap.size = w7.heap.size := by simp
        obtain ⟨w8, hw8'⟩ : ∃ w8, w8 = w7.setCell ⟨lb, 5, none⟩ (.slice (some ⟨g7, 0, none⟩) (i + 1) cap7) := ⟨_, rfl⟩
        rw [← hw8'] at hm1 ho8 hw8 hs8 ⊢
        clear hw8' a5 af5
        refine hK.out _ _ (HS28b.out w8 ((ho8 _ hlk1).trans Hk17.out) ((ho8 _ hlk2).trans Hk27.out)) (fun hHeld => ?_)
        clear hK K
        try simp only [Act.put, List.setIfInBounds_toArray, List.set_cons_zero, List.set_cons_succ]
        have b6 : w8.cell? ⟨lb, 6, none⟩ = some (.int .u32 pi.1) := (cell_of_block hm1 6).trans rfl
        have b7 : w8.cell? ⟨lb, 7, none⟩ = some (.int .u32 pi.2) := (cell_of_block hm1 7).trans rfl
        have bf6 := free_of_block hm1 6
        have bf7 := free_of_block hm1 7
        refine held_take (v := ?d28v13) 13 rfl (by kernel_rfl) (by kernel_rfl) (by kernel_rfl) (fun _ _ _ h => h) (by rfl) hHeld ?d28y13 ?d28r13
        case d28y13 => (intro W hSw; obtain ⟨y0, y1, y2, y3, y4⟩ := hSw; go_simp; with_reducible rfl)
        simp only [Act.put, List.setIfInBounds_toArray, List.set_cons_zero, List.set_cons_succ]
        refine held_take (v := ?d28v14) 14 rfl (by kernel_rfl) (by kernel_rfl) (by kernel_rfl) (fun _ _ _ h => h) (by rfl) hHeld ?d28y14 ?d28r14
        case d28y14 => (intro W hSw; obtain ⟨y0, y1, y2, y3, y4⟩ := hSw; go_simp; with_reducible rfl)
        simp only [Act.put, List.setIfInBounds_toArray, List.set_cons_zero, List.set_cons_succ]
        refine held_one 15 (by kernel_rfl) rfl (fun K hK => ?_)
        go_simp
        have hm2 : ((w8.setCell ⟨lb, 6, none⟩ (.int .u32 A.q.1)).setCell ⟨lb, 7, none⟩ (.int .u32 A.q.2)).heap[lb]? = some (.cells (logCells b (⟨hd, true, li ++ [A.f], A.q, false, false⟩ : Lg) (.slice (some ⟨g7, 0, none⟩) (i + 1) cap7)).toArray 110 (0, 0)) := (heap_setCell_same (heap_setCell_same hm1 6 (.int .u32 A.q.1)) 7 (.int .u32 A.q.2)).trans rfl
        have ho9 : ∀ j : Nat, j ≠ lb → ((w8.setCell ⟨lb, 6, none⟩ (.int .u32 A.q.1)).setCell ⟨lb, 7, none⟩ (.int .u32 A.q.2)).heap[j]? = w7.heap[j]? := fun j hj => by
         rw [Below.heap_setCell _ ⟨lb, _, none⟩ _ j hj, Below.heap_setCell _ ⟨lb, _, none⟩ _ j hj]
         exact ho8 j hj
        have hw9 : Below w.heap.size w ((w8.setCell ⟨lb, 6, none⟩ (.int .u32 A.q.1)).setCell ⟨lb, 7, none⟩ (.int .u32 A.q.2)) := (hw8.setCell (p := ⟨lb, 6, none⟩) (by rw [Hlb.out]; exact Nat.le_refl _) _).setCell (p := ⟨lb, 7, none⟩) (by rw [Hlb.out]; exact Nat.le_refl _) _
        have hs9 : ((w8.setCell ⟨lb, 6, none⟩ (.int .u32 A.q.1)).setCell ⟨lb, 7, none⟩ (.int .u32 A.q.2)).heap.size = w7.heap.size := by simp [hs8]
        obtain ⟨w9, hw9'⟩ : ∃ w9, w9 = (w8.setCell ⟨lb, 6, none⟩ (.int .u32 A.q.1)).setCell ⟨lb, 7, none⟩ (.int .u32 A.q.2) := ⟨_, rfl⟩
        rw [← hw9'] at hm2 ho9 hw9 hs9 ⊢
        clear hw9' b6 b7 bf6 bf7 hm1 ho8 hw8 hs8
        refine hK.out _ _ (HS28b.out w9 ((ho9 _ hlk1).trans Hk17.out) ((ho9 _ hlk2).trans Hk27.out)) (fun hHeld => ?_)
        clear hK K
        try simp only [Act.put, List.setIfInBounds_toArray, List.set_cons_zero, List.set_cons_succ]
        have hrow9 := row_keep Hown7.out (w' := w9) fun j hj => ho9 j (by have := (row_base Hown7.out hj).1; have := HlbHB.out; omega)
        have hh9 := (ho9 HB hlHB).trans Hh7.out
        have REL := hid (show Below w.heap.size w w9 ∧ w9.heap[HB]? = some (.cells #[.int .u64 hd.number, .int .i64 hd.frames, .int .i64 hd.pages] 104 (0, 0)) ∧ HB < w9.heap.size ∧ w9.heap[lb]? = some (.cells (logCells b (⟨hd, true, li ++ [A.f], A.q, false, false⟩ : Lg) (.slice (some ⟨g7, 0, none⟩) (i + 1) cap7)).toArray 110 (0, 0)) ∧ w9.ownsRow (HB + 1) 118 3 (.slice (some ⟨g7, 0, none⟩) (i + 1) cap7) (i + 1) (frsCells (li ++ [A.f])) ∧ (li ++ [A.f]).length = i + 1 ∧ PairWf A.q ∧ (∀ f ∈ li ++ [A.f], frOk f = true) ∧ openN d hd.number fr 0 [] (startP hd.number) = openN d hd.number (fr - (i + 1)) (i + 1) (li ++ [A.f]) A.q from
         ⟨hw9, hh9, lt_of_block hh9, hm2, by rw [frsCells_snoc]; exact hrow9, by simp [Hll.out], Hgd.out.2, fun f hf => by
          rcases List.mem_append.1 hf with h | h
          ·exact Hlo.out f h
          ·simp at h; subst h; exact Hgd.out.1, by
          have e : fr - (i + 1) = c := by have := Hc.out; omega
          rw [e]
          exact Hop4.out⟩)
        clear hm2 ho9 hw9 hs9 hrow9 hh9 hHeld hlk1 hlk2 hlHB
        refine wpAnyH_done (by kernel_rfl) ?_ _
        go_wp2_with fail
        go_roundw
        case rel => exact ⟨i + 1, _, _, _, hlt, by simp, REL.out⟩
        case measure => (simp [intOf]) <;> omega
      ·have hop := Hop3.out
       rw [if_pos hA0] at hop
       obtain ⟨ae, hae⟩ : ∃ ae, ae = A.e := ⟨_, rfl⟩
       rw [← hae] at hA0 ⊢
       have hA1 : (ae != 0) = true := by simp [hA0]
       clear hae hA0 hlt2 hre hre0
       have HM3 := HM2.out
       rw [Hfr.out, Int.toNat_natCast, hop] at HM3
       replace HM3 : M = (none, 7) := HM3
       replace HM3 := hid HM3
       clear hop HM2 Hop3 Hgood
       go_wp2_with fail
       go_ret2
       try rw [HM3.out]
       exact ⟨Hwx.out, rfl⟩
    ·have hre0 : (re != 0) = true := by simp [hre]
     have hop := Hop2.out
     rw [if_pos hre] at hop
     have HM3 := HM2.out
     rw [Hfr.out, Int.toNat_natCast, hop] at HM3
     replace HM3 : M = (none, 7) := HM3
     replace HM3 := hid HM3
     clear hop HM2
     go_wp2_with (first
      | (go_at_call 53; refine (RDi.out).mono ?_; rintro e wz ⟨rfl, hbz⟩)
      | go_in)
     go_ret2
     rw [HM3.out]
     exact ⟨Hbw.out.trans (hbz.mono Hbw.out.size), rfl⟩
   ·obtain rfl : fr = i := by omega
    have hop := Hop.out
    rw [Nat.sub_self] at hop
    have hop : openN d hd.number fr 0 [] (startP hd.number) = some (li, pi) := hop
    have HM3 := HM2.out
    rw [Hfr.out, Int.toNat_natCast, hop] at HM3
    simp only at HM3
    have b0 : wr.cell? ⟨HB, 0, none⟩ = some (.int .u64 hd.number) := (cell_of_block Hhb.out 0).trans rfl
    have b1 : wr.cell? ⟨HB, 1, none⟩ = some (.int .i64 (fr : Int)) := by rw [← Hfr.out]; exact (cell_of_block Hhb.out 1).trans rfl
    have b2 : wr.cell? ⟨HB, 2, none⟩ = some (.int .i64 hd.pages) := (cell_of_block Hhb.out 2).trans rfl
    have l5 : wr.cell? ⟨lb, 5, none⟩ = some lv := (cell_of_block Hlbk.out 5).trans rfl
    have hgood := opened (g := (⟨hd, true, li, pi, false, false⟩ : Lg)) (lv := lv) H.out Hbw.out (by rw [Hlb.out]; exact Nat.le_refl _) Hlbk.out (by
      have := Hrow.out
      rw [show (⟨hd, true, li, pi, false, false⟩ : Lg).list.length = fr from Hll.out]
      exact ⟨this.1, this.2.imp id (fun ⟨g, cap, cur, h1, h2, r⟩ => ⟨g, cap, cur, h1, by have := HlbHB.out; have := Hlb.out; omega, r⟩)⟩)
     ⟨Hwf.out.1, Hwf.out.2.2, Hwf.out.2.1, Hpw.out, (show li.length ≤ 256 by rw [Hll.out]; exact Hfr2.out), Hlo.out⟩
    have Hgood := hid hgood
    have hrow := Hrow.out
    replace HM3 := hid HM3
    clear hgood hop HM2 hlt hi RN
    by_cases hz : fr = 0
    ·subst hz
     have HM4 := HM3.out
     rw [if_neg (by simp)] at HM4
     replace HM4 := hid HM4
     clear hrow HM3
     have g0 : decide ((0 : Int) < ((0 : Nat) : Int)) = false := by simp
     go_upto_region 30 with fail
     go_quiet (fail)
     obtain ⟨wq, hwq⟩ : ∃ wq, wq = wr.drewN nq := ⟨_, rfl⟩
     rw [← hwq]
     have hsq : ∀ j : Nat, wq.heap[j]? = wr.heap[j]? := fun j => by rw [hwq]; rfl
     have hbq : Below wr.heap.size wr wq := by rw [hwq]; exact ⟨rfl, rfl, rfl, Nat.le_refl _, fun _ _ => rfl⟩
     have Hbq := hid hbq
     clear hwq hsq hbq b0 b1 b2 l5
     go_wp2_with fail
     go_ret2
     rw [HM4.out]
     refine ⟨Hbw.out.trans (Hbq.out.mono Hbw.out.size), ?_⟩
     obtain ⟨G, h1, h2⟩ := Hgood.out
     exact ⟨lb, G, rfl, h1.below Hbq.out, h2⟩
    ·obtain ⟨m, hm⟩ : ∃ m, fr = m + 1 := ⟨fr - 1, by omega⟩
     have hml : m < li.length := by rw [Hll.out]; omega
     obtain ⟨q, cap, rfl⟩ : ∃ q cap, lv = .slice (some ⟨q, 0, none⟩) fr cap := by
      rcases hrow.2 with ⟨_, e⟩ | ⟨q, cap, _, e, _⟩
      ·omega
      ·exact ⟨q, cap, e⟩
     have hcm := hrow.cells (g := q) rfl (m * 3 + 1) _ (frsCells_get li m hml).2.1
     rw [Addr.add_lit, Nat.zero_add] at hcm
     have hlast : lastCommit li = li[m].commit := by
      unfold lastCommit
      rw [List.getLast?_eq_getElem?, Hll.out, hm, Nat.add_sub_cancel, List.getElem?_eq_getElem hml]
     obtain ⟨cm, hcmm⟩ : ∃ cm, cm = li[m].commit := ⟨_, rfl⟩
     rw [← hcmm] at hcm hlast
     have hm3 := Hfr2.out
     have g0 : decide ((0 : Int) < (fr : Int)) = true := by simp; omega
     have g00 : 0 < fr := by omega
     have g000 : (0 : Int) < (fr : Int) := by omega
     have g1 : IntKind.i64.wrap ((fr : Int) - 1) = (m : Int) := by rw [show (fr : Int) - 1 = (m : Int) by omega]; exact IntWalk.i64_in _ (by omega)
     have g2 : (m : Int) < (fr : Int) := by omega
     have g22 : m < fr := by omega
     have HM4 := HM3.out
     rw [hlast] at HM4
     replace HM4 := hid HM4
     clear hrow HM3 hlast hcmm hml hm3 hm hz
     by_cases hcp : cm = hd.pages
     ·have g3 : (cm != hd.pages) = false := by simp [hcp]
      have HM5 := HM4.out
      rw [if_neg (by rw [hcp]; simp)] at HM5
      replace HM5 := hid HM5
      clear HM4 hcp
      go_upto_region 30 with fail
      go_quiet (fail)
      obtain ⟨wq, hwq⟩ : ∃ wq, wq = wr.drewN nq := ⟨_, rfl⟩
      rw [← hwq]
      have hbq : Below wr.heap.size wr wq := by rw [hwq]; exact ⟨rfl, rfl, rfl, Nat.le_refl _, fun _ _ => rfl⟩
      have Hbq := hid hbq
      clear hwq hbq b0 b1 b2 l5 hcm
      go_wp2_with fail
      go_ret2
      rw [HM5.out]
      refine ⟨Hbw.out.trans (Hbq.out.mono Hbw.out.size), ?_⟩
      obtain ⟨G, h1, h2⟩ := Hgood.out
      exact ⟨lb, G, rfl, h1.below Hbq.out, h2⟩
     ·have g3 : (cm != hd.pages) = true := by simp [hcp]
      have HM5 := HM4.out
      rw [if_pos ⟨g000, hcp⟩] at HM5
      replace HM5 := hid HM5
      clear HM4 hcp
      go_upto_region 30 with fail
      go_quiet (fail)
      obtain ⟨wq, hwq⟩ : ∃ wq, wq = wr.drewN nq := ⟨_, rfl⟩
      rw [← hwq]
      have hbq : Below wr.heap.size wr wq := by rw [hwq]; exact ⟨rfl, rfl, rfl, Nat.le_refl _, fun _ _ => rfl⟩
      have Hbq := hid hbq
      clear hwq hbq b0 b1 b2 l5 hcm
      go_wp2_with fail
      go_ret2
      rw [HM5.out]
      exact ⟨Hbw.out.trans (Hbq.out.mono Hbw.out.size), rfl⟩
 ·have he0 : (e != 0) = true := by simp [he]
  have HM2 := HM.out
  rw [if_pos he] at HM2
  replace HM2 := hid HM2
  clear HM
  go_wp2_with (first
   | (go_at_call 55; refine (TH.out _).mono ?_; rintro e w5 ⟨rfl, hb5⟩)
   | go_in)
  go_ret2
  rw [HM2.out]
  refine ⟨?_, rfl⟩
  exact (Hw4.out.trans (hb5.mono Hw4.out.size)).alloc (by have := Hw4.out.size; have := hb5.size; omega) _
theorem lopen_any (h : DiskAt w b F d) : Calls Tryz.prog 26 #[.pointer (some ⟨b, 0, none⟩)] w fun e w' => OpenGave w b F d (lopenM d) e w' := by
 by_cases ho : d.off = true
 ·have e : lopenM d = (none, 32) := by unfold lopenM; rw [if_pos ho]
  rw [e]
  refine (lopen_off h ho).mono ?_
  rintro e w1 ⟨rfl, rfl⟩
  exact ⟨Below.refl _ _, rfl⟩
 by_cases hf : firstM d = zeros 64
 ·exact lopen_bare h (by simpa using ho) hf
 ·exact lopen_head h (by simpa using ho) hf
end
end Go.Proofs.YtlkkclooihjpiaaGreat
