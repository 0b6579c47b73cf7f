/- A pager's Back. -/
import Derived.Test.YtlkkclooihjpiaaGreatPgE
set_option linter.unusedVariables false
set_option linter.unusedSimpArgs false
namespace Go.Proofs.YtlkkclooihjpiaaGreat
open Go.RowKit Go.Maps
set_option maxRecDepth 20000
section
variable {w w1 w2 w3 w' : World} {pb l b : Nat} {F K : Foot} {G : Nat → Prop} {p : Pg} {g : Lg} {d : Dsk} {nv sv : Value}
theorem PgDid.drew {p' : Pg} (h : PgDid w pb l K p' w') : PgDid w pb l K p' w'.drew := by
 obtain ⟨K', nv', sv', hm, hs⟩ := h
 exact ⟨K', nv', sv', hm.below (Below.refl _ _).drew, ⟨hs.frm.drew, hs.own, hs.sh⟩⟩
def pbackM (p : Pg) (k : Int) : Int × Pg := match p.now with | none => (9, p) | some _ => if k < 1 ∨ (p.saves.length : Int) < k then (5, p) else (0, { p with now := p.saves[k.toNat - 1]?, saves := p.saves.take k.toNat })
theorem back_mem (h : PgMem w pb l K p nv sv) {q cap k m nb : Nat} {t : Tr} (hs : sv = .slice (some ⟨q, 0, none⟩) p.saves.length cap) (hk : k < p.saves.length) (ht : p.saves[k] = t)
  (hb : Below w.heap.size w w2) (hnb : w.heap.size ≤ nb) (hm : w.heap.size ≤ m) (hw : WrAt w2 m t.wr) (hbx : w2.heap[nb]? = some (.cells (trCells t m).toArray 86 (0, 0))) :
  PgDid w pb l K { p with now := some t, saves := p.saves.take (k + 1) } ((w2.setCell ⟨pb, 1, none⟩ (.pointer (some ⟨nb, 0, none⟩))).setCell ⟨pb, 2, none⟩ (.slice (some ⟨q, 0, none⟩) (k + 1) cap)) := by
 have hpl := h.olt pb h.pown
 have hpb2 := (hb.block pb hpl).trans h.blk
 have hpb4 := heap_setCell_same (heap_setCell_same hpb2 1 (.pointer (some ⟨nb, 0, none⟩))) 2 (.slice (some ⟨q, 0, none⟩) (k + 1) cap)
 have ho4 : ∀ j, j ≠ pb → ((w2.setCell ⟨pb, 1, none⟩ (.pointer (some ⟨nb, 0, none⟩))).setCell ⟨pb, 2, none⟩ (.slice (some ⟨q, 0, none⟩) (k + 1) cap)).heap[j]? = w2.heap[j]? := fun j hj => (Below.heap_setCell _ ⟨pb, 2, none⟩ _ j hj).trans (Below.heap_setCell _ ⟨pb, 1, none⟩ _ j hj)
 have hf4 := ((Frm.of_below (S := K.own) hb).setCell (p := ⟨pb, 1, none⟩) (.inl h.pown) (.pointer (some ⟨nb, 0, none⟩))).setCell (p := ⟨pb, 2, none⟩) (.inl h.pown) (.slice (some ⟨q, 0, none⟩) (k + 1) cap)
 have hs4 : ((w2.setCell ⟨pb, 1, none⟩ (.pointer (some ⟨nb, 0, none⟩))).setCell ⟨pb, 2, none⟩ (.slice (some ⟨q, 0, none⟩) (k + 1) cap)).heap.size = w2.heap.size := by simp
 have hnl := lt_of_block hbx
 have hml := hw.lt
 obtain ⟨w4, hw4⟩ : ∃ w4, w4 = (w2.setCell ⟨pb, 1, none⟩ (.pointer (some ⟨nb, 0, none⟩))).setCell ⟨pb, 2, none⟩ (.slice (some ⟨q, 0, none⟩) (k + 1) cap) := ⟨_, rfl⟩
 rw [← hw4] at hpb4 ho4 hf4 hs4 ⊢
 clear hw4
 have hS := h.saves_keep (S := fun j => j = pb) (w' := w4) (fun j hj hne => (ho4 j hne).trans (hb.block j hj)) (fun j hj => h.row_pb hj) (fun j hj => h.sh_pb hj)
 rw [hs] at hS
 have hS2 := (saves_cut hS rfl (k := k + 1) hk).mono (K' := ⟨fun j => K.own j ∨ j = nb ∨ j = m, K.sh⟩) (fun j hj => .inl hj) (fun j hj => hj)
 have htok := h.ok.saves t (by rw [← ht]; exact List.getElem_mem hk)
 refine h.to (K' := ⟨fun j => K.own j ∨ j = nb ∨ j = m, K.sh⟩) hf4 (hpb4.trans rfl) ⟨nb, m, rfl, (ho4 nb (by omega)).trans hbx, hw.keep (ho4 m (by omega)), .inr (.inl rfl), .inr (.inr rfl)⟩ hS2 ?_ ?_ (fun j hj => .inl hj) (.inl h.pown) ?_ ⟨fun t' ht' => by cases ht'; exact htok, fun t' ht' => h.ok.saves t' (List.mem_of_mem_take ht'), by have := h.ok.many; simp; omega, fun e => by cases e⟩
 ·intro nb' e f
  injection e with e
  injection e with e
  injection e with e
  injection f with f
  have f : q = nb' := f
  have := h.olt q (h.saves.own (by rw [hs]; rfl))
  omega
 ·intro j hj
  rcases hj with hj | hj | hj
  ·exact .inl hj
  ·exact .inr (by omega)
  ·exact .inr (by omega)
 ·intro j hj _ h2
  have := h.slt j h2
  omega
set_option maxHeartbeats 2000000 in
theorem back_any (h : PgMem w pb l K p nv sv) (k : Int) (hk : -9223372036854775808 ≤ k ∧ k ≤ 9223372036854775807) : Calls Tryz.prog 45 #[.pointer (some ⟨pb, 0, none⟩), .int .i64 k] w fun e w' => e = .returned (.int .i64 (pbackM p k).1) ∧ PgDid w pb l K (pbackM p k).2 w' := by
 obtain ⟨c0, c1, c2, -⟩ := h.cell
 have H := hid h
 have RD := pready_any h
 unfold pbackM
 cases hp : p.now with
 | none =>
  have e : preadyM p = 9 := by unfold preadyM; rw [hp]
  rw [e] at RD
  have RD := hid RD
  clear h e
  go_enter Tryz.func45, Tryz.ntmps45
  go_wp2_with (first
   | (go_at_call 37; refine (RD.out).mono ?_; rintro e w1 ⟨rfl, hw⟩; obtain rfl := hw.symm)
   | go_in)
  go_ret
  exact ⟨rfl, PgDid.same H.out⟩
 | some t =>
  have e : preadyM p = 0 := by unfold preadyM; rw [hp]
  rw [e] at RD
  have RD := hid RD
  have Hp := hid hp
  obtain ⟨ao, cap, hsv, hq, hc⟩ := h.saves.len
  have hmany := h.ok.many
  subst hsv
  obtain ⟨n, hn⟩ : ∃ n, n = p.saves.length := ⟨_, rfl⟩
  rw [← hn] at c2 hq hmany hc ⊢
  have Hn := hid hn
  clear h e hp hn
  by_cases h1 : k < 1
  ·have d1 : decide (k < 1) = true := by simpa using h1
   simp only [h1, true_or, if_true]
   clear h1
   go_enter Tryz.func45, Tryz.ntmps45
   go_wp2_with (first
    | (go_at_call 37; refine (RD.out).mono ?_; rintro e w1 ⟨rfl, hw⟩; obtain rfl := hw.symm)
    | go_in)
   go_ret
   exact ⟨rfl, PgDid.same H.out⟩
  by_cases h2 : (n : Int) < k
  ·have d1 : decide (k < 1) = false := by simpa using h1
   have d2 : decide ((n : Int) < k) = true := by simpa using h2
   simp only [h2, or_true, if_true]
   clear h1 h2
   go_enter Tryz.func45, Tryz.ntmps45
   go_wp2_with (first
    | (go_at_call 37; refine (RD.out).mono ?_; rintro e w1 ⟨rfl, hw⟩; obtain rfl := hw.symm)
    | go_in)
   go_ret
   exact ⟨rfl, PgDid.same H.out⟩
  rw [if_neg (by omega)]
  obtain ⟨m, rfl⟩ : ∃ m : Nat, k = (m : Int) + 1 := ⟨k.toNat - 1, by omega⟩
  obtain ⟨q, rfl⟩ := hq (by omega)
  have hmn : m < n := by omega
  have hmn2 : m < p.saves.length := by rw [← Hn.out]; exact hmn
  obtain ⟨ms, hms, hrow, hro, hmw⟩ := H.out.saves
  have hmsl : ms.length = n := by rw [Hn.out, ← hms, List.length_map]
  have hmm : m < ms.length := by omega
  obtain ⟨x, hx⟩ : ∃ x, x = ms[m] := ⟨_, rfl⟩
  have hxt : p.saves[m] = x.1 := by
   have : p.saves[m]? = (ms.map (·.1))[m]? := by rw [hms]
   rw [List.getElem?_eq_getElem hmn2, List.getElem?_map, List.getElem?_eq_getElem hmm, ← hx] at this
   simpa using this
  obtain ⟨hwx, -⟩ := hmw x (by rw [hx]; exact List.getElem_mem hmm)
  obtain ⟨g0, g1⟩ := trsCells_get ms m hmm
  rw [← hx] at g0 g1
  have e0 := hrow.cells (g := q) rfl _ _ g0
  have e1 := hrow.cells (g := q) rfl _ _ g1
  simp only [Addr.add_lit, Nat.zero_add] at e0 e1
  obtain ⟨P, hP⟩ : ∃ P, P = x.1.pages := ⟨_, rfl⟩
  obtain ⟨mx, hmx⟩ : ∃ mx, mx = x.2 := ⟨_, rfl⟩
  rw [← hP] at e0
  rw [← hmx] at e1 hwx
  have HP := hid hP
  have Hwx := hid hwx
  have Hxt := hid hxt
  have d1 : decide ((m : Int) + 1 < 1) = false := by simp; omega
  have d2 : decide ((n : Int) < (m : Int) + 1) = false := by simp; omega
  have hw : IntKind.i64.wrap ((m : Int) + 1 - 1) = (m : Int) := by rw [show (m : Int) + 1 - 1 = m by omega]; exact IntWalk.i64_in _ (by omega)
  have hmc : (m : Int) + 1 ≤ (cap : Int) := by omega
  have hmni : (m : Int) < (n : Int) := by omega
  have hm0 : (0 : Int) ≤ (m : Int) + 1 := by omega
  have t1 : ((m : Int) + 1).toNat - 1 = m := by omega
  have t2 : ((m : Int) + 1).toNat = m + 1 := by omega
  rw [t1, t2, List.getElem?_eq_getElem hmn2, hxt]
  have hpl := H.out.olt pb H.out.pown
  clear h1 h2 t1 t2 hk hP hx hms hrow hro hmw hmsl hmm g0 g1 hwx hmx hxt
  go_enter Tryz.func45, Tryz.ntmps45
  go_upto_region 7 with (first
   | (go_at_call 37; refine (RD.out).mono ?_; rintro e w1 ⟨rfl, hw⟩; obtain rfl := hw.symm)
   | (go_at_call 69; refine (copied_any _ P mx x.1.wr Hwx.out).mono ?_; rintro e w1 ⟨m1, rfl, hm1, hwm1, hb1⟩; have Hm1 := hid hm1; have Hwm1 := hid hwm1; have Hb1 := hid hb1; clear hm1 hwm1 hb1)
   | go_in)
  have hbx := heap_alloc_new w1 (.cells #[.int .i64 P, .map (some m1)] 86)
  have hb2 : Below w1.heap.size w1 (w1.alloc (.cells #[.int .i64 P, .map (some m1)] 86)) := (Below.refl _ w1).alloc (Nat.le_refl _) _
  obtain ⟨w2, hw2⟩ : ∃ w2, w2 = w1.alloc (.cells #[.int .i64 P, .map (some m1)] 86) := ⟨_, rfl⟩
  rw [← hw2] at hbx hb2 ⊢
  clear hw2
  have hb02 : Below w.heap.size w w2 := Hb1.out.trans (hb2.mono Hb1.out.size)
  have hpb2 : w2.heap[pb]? = some (.cells #[.pointer (some ⟨l, 0, none⟩), nv, .slice (some ⟨q, 0, none⟩) n cap, .int .i64 p.opn] 83 (0, 0)) := (hb02.block pb hpl).trans (H.out.blk.trans (by rw [← Hn.out]))
  have hwm2 : WrAt w2 m1 x.1.wr := Hwm1.out.keep (hb2.block m1 Hwm1.out.lt)
  have R := back_mem H.out (q := q) (cap := cap) (k := m) (nb := w1.heap.size) (by rw [← Hn.out]) hmn2 Hxt.out hb02 Hb1.out.size Hm1.out hwm2 (by rw [hbx]; rw [show trCells x.1 m1 = [.int .i64 P, .map (some m1)] by rw [HP.out]; rfl])
  have c21 := (cell_of_block hpb2 1).trans rfl
  have c22 : w2.cell? ⟨pb, 2, none⟩ = some (.slice (some ⟨q, 0, none⟩) n cap) := (cell_of_block hpb2 2).trans rfl
  have f21 := free_of_block hpb2 1
  have hpb3 := heap_setCell_same hpb2 1 (.pointer (some ⟨w1.heap.size, 0, none⟩))
  have c32 : (w2.setCell ⟨pb, 1, none⟩ (.pointer (some ⟨w1.heap.size, 0, none⟩))).cell? ⟨pb, 2, none⟩ = some (.slice (some ⟨q, 0, none⟩) n cap) := (cell_of_block hpb3 2).trans rfl
  have f32 := free_of_block hpb3 2
  have HR := hid R
  have HC22 := hid c22
  have HC32 := hid c32
  have HF32 := hid f32
  clear hbx hb2 hb02 hpb2 hwm2 R c0 c1 c2 e0 e1 f32 c32 hpb3
  refine wp_region_last 13 (fun W => W.cell? ⟨pb, 2, none⟩ = some (.slice (some ⟨q, 0, none⟩) n cap)) (by kernel_rfl) c22 (fun hHeld => ?_)
  clear c22
  refine last_take (v := ?bv0) 0 rfl (by kernel_rfl) (by kernel_rfl) (by kernel_rfl) (by kernel_rfl) (fun _ _ _ h => h) (by rfl) hHeld ?by0 ?br0
  case by0 => (intro W hSw; go_simp; with_reducible rfl)
  simp only [Act.put, List.setIfInBounds_toArray, List.set_cons_zero, List.set_cons_succ]
  refine last_take (v := ?bv1) 1 rfl (by kernel_rfl) (by kernel_rfl) (by kernel_rfl) (by kernel_rfl) (fun _ _ _ h => h) (by rfl) hHeld ?by1 ?br1
  case by1 => (intro W hSw; go_simp; with_reducible rfl)
  simp only [Act.put, List.setIfInBounds_toArray, List.set_cons_zero, List.set_cons_succ]
  refine last_take (v := ?bv2) 2 rfl (by kernel_rfl) (by kernel_rfl) (by kernel_rfl) (by kernel_rfl) (fun _ _ _ h => h) (by rfl) hHeld ?by2 ?br2
  case by2 => (intro W hSw; go_simp; with_reducible rfl)
  simp only [Act.put, List.setIfInBounds_toArray, List.set_cons_zero, List.set_cons_succ]
  refine last_take (v := ?bv3) 3 rfl (by kernel_rfl) (by kernel_rfl) (by kernel_rfl) (by kernel_rfl) (fun _ _ _ h => h) (by rfl) hHeld ?by3 ?br3
  case by3 => (intro W hSw; go_simp; with_reducible rfl)
  simp only [Act.put, List.setIfInBounds_toArray, List.set_cons_zero, List.set_cons_succ]
  refine last_take (v := ?bv4) 4 rfl (by kernel_rfl) (by kernel_rfl) (by kernel_rfl) (by kernel_rfl) (fun _ _ _ h => h) (by rfl) hHeld ?by4 ?br4
  case by4 => (intro W hSw; go_simp; with_reducible rfl)
  simp only [Act.put, List.setIfInBounds_toArray, List.set_cons_zero, List.set_cons_succ]
  refine last_take (v := ?bv5) 5 rfl (by kernel_rfl) (by kernel_rfl) (by kernel_rfl) (by kernel_rfl) (fun _ _ _ h => h) (by rfl) hHeld ?by5 ?br5
  case by5 => (intro W hSw; go_simp; with_reducible rfl)
  simp only [Act.put, List.setIfInBounds_toArray, List.set_cons_zero, List.set_cons_succ]
  refine last_take (v := ?bv6) 6 rfl (by kernel_rfl) (by kernel_rfl) (by kernel_rfl) (by kernel_rfl) (fun _ _ _ h => h) (by rfl) hHeld ?by6 ?br6
  case by6 => (intro W hSw; go_simp; with_reducible rfl)
  simp only [Act.put, List.setIfInBounds_toArray, List.set_cons_zero, List.set_cons_succ]
  refine last_take (v := ?bv7) 7 rfl (by kernel_rfl) (by kernel_rfl) (by kernel_rfl) (by kernel_rfl) (fun _ _ _ h => h) (by rfl) hHeld ?by7 ?br7
  case by7 => (intro W hSw; go_simp; with_reducible rfl)
  simp only [Act.put, List.setIfInBounds_toArray, List.set_cons_zero, List.set_cons_succ]
  have c22 := HC22.out
  refine last_one 8 (by kernel_rfl) rfl (fun K hK => ?_)
  go_simp
  refine hK.out _ _ (fun _ => HC22.out) (fun hHeld => ?_)
  have hHeld := hHeld (by decide)
  clear hK K
  try simp only [Act.put, List.setIfInBounds_toArray, List.set_cons_zero, List.set_cons_succ]
  refine last_one 9 (by kernel_rfl) rfl (fun K hK => ?_)
  go_simp
  refine hK.out _ _ (fun _ => HC22.out) (fun hHeld => ?_)
  have hHeld := hHeld (by decide)
  clear hK K
  try simp only [Act.put, List.setIfInBounds_toArray, List.set_cons_zero, List.set_cons_succ]
  refine last_one 10 (by kernel_rfl) rfl (fun K hK => ?_)
  go_simp
  refine hK.out _ _ (fun _ => HC32.out) (fun hHeld => ?_)
  have hHeld := hHeld (by decide)
  clear hK K
  try simp only [Act.put, List.setIfInBounds_toArray, List.set_cons_zero, List.set_cons_succ]
  clear c22 c21 f21
  refine last_one 11 (by kernel_rfl) rfl (fun K hK => ?_)
  go_simp
  refine hK.out _ _ (fun _ => HC32.out) (fun hHeld => ?_)
  have hHeld := hHeld (by decide)
  clear hK K
  try simp only [Act.put, List.setIfInBounds_toArray, List.set_cons_zero, List.set_cons_succ]
  refine last_one 12 (by kernel_rfl) rfl (fun K hK => ?_)
  go_simp
  refine hK.out _ _ (fun _ => HC32.out) (fun hHeld => ?_)
  have hHeld := hHeld (by decide)
  clear hK K
  try simp only [Act.put, List.setIfInBounds_toArray, List.set_cons_zero, List.set_cons_succ]
  have c32 := HC32.out
  have f32 := HF32.out
  refine last_one 13 (by kernel_rfl) rfl (fun K hK => ?_)
  go_simp
  refine hK.out _ _ (fun e => absurd rfl e) (fun _ => ?_)
  clear hK K hHeld
  try simp only [Act.put, List.setIfInBounds_toArray, List.set_cons_zero, List.set_cons_succ]
  refine wpAnyL_done (by kernel_rfl) ?_ _
  clear c32 f32
  go_wp2_with fail
  go_ret
  exact ⟨rfl, HR.out.drew⟩
end
end Go.Proofs.YtlkkclooihjpiaaGreat
