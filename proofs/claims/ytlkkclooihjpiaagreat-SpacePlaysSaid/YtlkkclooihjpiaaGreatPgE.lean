/- A pager's Save and Back. -/
import Derived.Test.YtlkkclooihjpiaaGreatPgD
import Derived.Test.YtlkkclooihjpiaaGreatLast
set_option linter.unusedVariables false
set_option linter.unusedSimpArgs false
namespace Go.Proofs.YtlkkclooihjpiaaGreat
open Go.RowKit Go.Maps
set_option maxRecDepth 20000
section
variable {w w1 w2 w3 w' : World} {pb l b : Nat} {F K : Foot} {G : Nat → Prop} {p : Pg} {g : Lg} {d : Dsk} {nv sv : Value}
def psaveM (p : Pg) : Int × Int × Pg := match p.now with
 | none => (0, 9, p)
 | some t => if p.saves.length = 64 then (0, 8, p) else ((p.saves.length : Int) + 1, 0, { p with saves := p.saves ++ [t] })
theorem ne_cells {k m : Nat} {cs : Array Value} {T : TypeId} {fr : Nat × Nat} {es : Array MapEntry} {c : Nat} (h : w.heap[k]? = some (.cells cs T fr)) (h2 : w.heap[m]? = some (.map es c)) : k ≠ m := fun e => by
 rw [e, h2] at h; cases h
theorem ne_type {k m : Nat} {cs cs2 : Array Value} {T T2 : TypeId} {fr fr2 : Nat × Nat} (h : w.heap[k]? = some (.cells cs T fr)) (h2 : w.heap[m]? = some (.cells cs2 T2 fr2)) (hT : T ≠ T2) : k ≠ m := fun e => by
 rw [e, h2] at h
 injection h with h
 injection h with _ h5 _
 exact hT h5.symm
theorem save_mem (h : PgMem w pb l K p nv sv) {t : Tr} (hp : p.now = some t) {ms : List (Tr × Nat)} (hms : ms.map (·.1) = p.saves) (hmw : ∀ x ∈ ms, WrAt w x.2 x.1.wr ∧ K.sh x.2) {m q cap n : Nat} (hn : p.saves.length = n) (hn64 : n < 64)
  (hb : Below w.heap.size w w2) (hm : w.heap.size ≤ m) (hw : WrAt w2 m t.wr) (hgrow : w2.grownBy w3 sv.ownBlock)
  (hrow : w3.ownsRow 0 86 2 (.slice (some ⟨q, 0, none⟩) (n + 1) cap) (n + 1) (trsCells ms ++ trCells t m)) (hq : sv.ownBlock = some q ∨ w.heap.size ≤ q) :
  PgDid w pb l K { p with saves := p.saves ++ [t] } (w3.setCell ⟨pb, 2, none⟩ (.slice (some ⟨q, 0, none⟩) (n + 1) cap)) := by
 have hpl := h.olt pb h.pown
 have hrl : ∀ k, sv.ownBlock = some k → k < w.heap.size := fun k hk => h.olt k (h.saves.own hk)
 have h23 : ∀ k, k < w.heap.size → sv.ownBlock ≠ some k → w3.heap[k]? = w.heap[k]? := fun k hk hne => (hgrow.block k (Nat.lt_of_lt_of_le hk hb.size) (fun e => hne e.symm)).trans (hb.block k hk)
 have hpb3 : w3.heap[pb]? = some (.cells #[.pointer (some ⟨l, 0, none⟩), nv, sv, .int .i64 p.opn] 83 (0, 0)) := (h23 pb hpl (fun e => h.row_pb e rfl)).trans h.blk
 have hpb4 := heap_setCell_same hpb3 2 (.slice (some ⟨q, 0, none⟩) (n + 1) cap)
 have ho4 : ∀ k, k ≠ pb → (w3.setCell ⟨pb, 2, none⟩ (.slice (some ⟨q, 0, none⟩) (n + 1) cap)).heap[k]? = w3.heap[k]? := fun k hk => Below.heap_setCell _ ⟨pb, 2, none⟩ _ k hk
 have hf3 : Frm K.own w w3 := ⟨hgrow.os.trans hb.os, hgrow.tape.trans hb.tape, hgrow.output.trans hb.output, Nat.le_trans hb.size hgrow.size, fun k hk hne => h23 k hk (fun e => hne (h.saves.own e))⟩
 have hf4 := hf3.setCell (p := ⟨pb, 2, none⟩) (.inl h.pown) (.slice (some ⟨q, 0, none⟩) (n + 1) cap)
 have hs4 : (w3.setCell ⟨pb, 2, none⟩ (.slice (some ⟨q, 0, none⟩) (n + 1) cap)).heap.size = w3.heap.size := by simp
 have hql : q < w3.heap.size := (row_base hrow (g := q) rfl).2
 have hqb : ∃ cur, w3.heap[q]? = some (.cells cur 86 (0, 0)) := by
  rcases hrow.2 with ⟨e, -⟩ | ⟨q', cap', cur, e, -, hq', -⟩
  ·cases e
  ·injection e with e1 _ _
   injection e1 with e1
   injection e1 with e1
   exact ⟨cur, by rw [e1]; exact hq'⟩
 obtain ⟨cur, hqb⟩ := hqb
 have hm3 : w3.heap[m]? = w2.heap[m]? := hgrow.block m hw.lt (fun e => by have := hrl m e.symm; omega)
 have hw3 : WrAt w3 m t.wr := hw.keep hm3
 have hml : m < w3.heap.size := hw3.lt
 obtain ⟨es, c, hmb⟩ := hw3.block
 have hqm : q ≠ m := ne_cells hqb hmb
 have hqp : q ≠ pb := ne_type hqb hpb3 (by decide)
 have hmp : m ≠ pb := by omega
 obtain ⟨w4, hw4⟩ : ∃ w4, w4 = w3.setCell ⟨pb, 2, none⟩ (.slice (some ⟨q, 0, none⟩) (n + 1) cap) := ⟨_, rfl⟩
 rw [← hw4] at hpb4 ho4 hf4 hs4 ⊢
 clear hw4
 have hnow := h.now
 rw [hp] at hnow
 obtain ⟨nb, mb, hnv, hnb, hwr, ho1, ho2⟩ := hnow
 obtain ⟨es2, c2, hmb2⟩ := hwr.block
 have nb1 : nb ≠ pb := ne_type hnb h.blk (by decide)
 have mb1 : mb ≠ pb := (ne_cells h.blk hmb2).symm
 have nb2 : sv.ownBlock ≠ some nb := h.nrow nb hnv
 have mb2 : sv.ownBlock ≠ some mb := fun e => by
  obtain ⟨cu, hcu⟩ := h.saves.block e
  exact ne_cells hcu hmb2 rfl
 refine h.to (K' := ⟨fun k => K.own k ∨ k = q, fun k => K.sh k ∨ k = m⟩) hf4 (hpb4.trans rfl) ?_ ⟨ms ++ [(t, m)], by rw [List.map_append, hms]; rfl, ?_, ?_, ?_⟩ ?_ ?_ ?_ (.inl h.pown) ?_ ⟨h.ok.now, fun t' ht => ?_, by simp [hn]; omega, fun e => by rw [hp] at e; cases e⟩
 ·show NowAt w4 _ nv p.now
  rw [hp]
  exact ⟨nb, mb, hnv, ((ho4 nb nb1).trans (h23 nb (h.olt nb ho1) nb2)).trans hnb, hwr.keep ((ho4 mb mb1).trans (h23 mb (h.olt mb ho2) mb2)), .inl ho1, .inl ho2⟩
 ·rw [trsCells_snoc, List.length_append, hn]
  exact row_keep hrow fun k hk => by
   injection hk with hk
   have hk : q = k := hk
   rw [← hk]
   exact ho4 q hqp
 ·intro k hk
  injection hk with hk
  have hk : q = k := hk
  exact .inr hk.symm
 ·intro x hx
  rcases List.mem_append.1 hx with hx | hx
  ·obtain ⟨h1, h2⟩ := hmw x hx
   exact ⟨h1.keep ((ho4 _ (h.sh_pb h2)).trans (h23 _ (h.slt _ h2) (fun e => h.apart _ (h.saves.own e) h2))), .inl h2⟩
  ·simp only [List.mem_singleton] at hx
   subst hx
   exact ⟨hw3.keep (ho4 m hmp), .inr rfl⟩
 ·intro nb' e f
  injection f with f
  have f : q = nb' := f
  rw [hnv] at e
  injection e with e
  injection e with e
  injection e with e
  rcases hq with hq | hq
  ·exact nb2 (by rw [hq, f, e])
  ·have := h.olt nb ho1
   omega
 ·intro k hk
  rcases hk with hk | rfl
  ·exact .inl hk
  ·rcases hq with hq | hq
   ·exact .inl (h.saves.own hq)
   ·exact .inr ⟨hq, by omega⟩
 ·intro k hk
  rcases hk with hk | rfl
  ·exact .inl hk
  ·exact .inr ⟨hm, by omega⟩
 ·intro k hk h1 h2
  rcases h1 with h1 | h1
  ·have := h.olt k h1; omega
  ·rcases h2 with h2 | h2
   ·have := h.slt k h2; omega
   ·exact hqm (h1.symm.trans h2)
 ·rcases List.mem_append.1 ht with ht | ht
  ·exact h.ok.saves t' ht
  ·simp only [List.mem_singleton] at ht
   subst ht
   exact h.ok.now _ hp
set_option maxHeartbeats 2000000 in
theorem save_any (h : PgMem w pb l K p nv sv) : Calls Tryz.prog 43 #[.pointer (some ⟨pb, 0, none⟩)] w fun e w' => e = .returned (.tuple #[.int .i64 (psaveM p).1, .int .i64 (psaveM p).2.1]) ∧ PgDid w pb l K (psaveM p).2.2 w' := by
 obtain ⟨c0, c1, c2, -⟩ := h.cell
 have fr2 := h.free 2
 have H := hid h
 have RD := pready_any h
 have hnow := h.now
 unfold psaveM
 cases hp : p.now with
 | none =>
  have e : preadyM p = 9 := by unfold preadyM; rw [hp]
  rw [e] at RD
  have RD := hid RD
  clear h e hnow hp
  go_enter Tryz.func43, Tryz.ntmps43
  go_wp2_with (first
   | (go_at_call 37; refine (RD.out).mono ?_; rintro e w1 ⟨rfl, hw⟩; obtain rfl := hw.symm)
   | go_in)
  go_ret2
  exact ⟨rfl, PgDid.same H.out⟩
 | some t =>
  have e : preadyM p = 0 := by unfold preadyM; rw [hp]
  rw [e] at RD
  have RD := hid RD
  rw [hp] at hnow
  obtain ⟨nb, mb, hnv, hnb, hwr, ho1, ho2⟩ := hnow
  have Hp := hid hp
  have Hwr := hid hwr
  have Hnb := hid hnb
  obtain ⟨ms, hms, hrow, hro, hmw⟩ := h.saves
  obtain ⟨ao, cap, hsv, hq, hcap⟩ := h.saves.len
  have hmany := h.ok.many
  obtain ⟨n, hn⟩ : ∃ n, n = p.saves.length := ⟨_, rfl⟩
  rw [← hn] at hsv hq hcap hmany hrow
  simp only [← hn]
  have Hn := hid hn
  have Hms := hid hms
  have Hmw := hid hmw
  have Hrow := hid hrow
  subst hnv
  clear h e hp hnb hwr hms hmw hrow hn
  by_cases h64 : n = 64
  ·have b1 : ((n : Int) == 64) = true := by simp; omega
   rw [if_pos h64]
   subst hsv
   clear h64
   go_enter Tryz.func43, Tryz.ntmps43
   go_wp2_with (first
    | (go_at_call 37; refine (RD.out).mono ?_; rintro e w1 ⟨rfl, hw⟩; obtain rfl := hw.symm)
    | go_in)
   go_ret2
   exact ⟨rfl, PgDid.same H.out⟩
  have b1 : ((n : Int) == 64) = false := by simp; omega
  have hn63 : n ≤ 63 := by omega
  rw [if_neg h64]
  clear h64
  have hnb0 : w.cell? ⟨nb, 0, none⟩ = some (.int .i64 t.pages) := (cell_of_block Hnb.out 0).trans rfl
  have hnb1 : w.cell? ⟨nb, 1, none⟩ = some (.map (some mb)) := (cell_of_block Hnb.out 1).trans rfl
  obtain ⟨P, hP⟩ : ∃ P, P = t.pages := ⟨_, rfl⟩
  rw [← hP] at hnb0
  have HP := hid hP
  clear hP
  have SL := hid hsv
  have c2' := c2
  rw [hsv] at c2'
  have hpl := H.out.olt pb H.out.pown
  go_enter Tryz.func43, Tryz.ntmps43
  go_upto_region 6 with (first
   | (go_at_call 37; refine (RD.out).mono ?_; rintro e w1 ⟨rfl, hw⟩; obtain rfl := hw.symm)
   | go_in)
  refine wp_region_last 16 (fun W => W.cell? ⟨pb, 1, none⟩ = some (.pointer (some ⟨nb, 0, none⟩)) ∧ W.cell? ⟨pb, 2, none⟩ = some (.slice ao n cap) ∧ W.cell? ⟨nb, 0, none⟩ = some (.int .i64 P) ∧ W.cell? ⟨nb, 1, none⟩ = some (.map (some mb))) (by kernel_rfl) ⟨c1, c2', hnb0, hnb1⟩ (fun hHeld => ?_)
  clear c1 c2 c2' hnb0 hnb1
  refine last_take (v := ?sv0) 0 rfl (by kernel_rfl) (by kernel_rfl) (by kernel_rfl) (by kernel_rfl) (fun _ _ _ h => h) (by rfl) hHeld ?sy0 ?sr0
  case sy0 => (intro W hSw; obtain ⟨y0, y1, y2, y3⟩ := hSw; go_simp; with_reducible rfl)
  simp only [Act.put, List.setIfInBounds_toArray, List.set_cons_zero, List.set_cons_succ]
  refine last_take (v := ?sv1) 1 rfl (by kernel_rfl) (by kernel_rfl) (by kernel_rfl) (by kernel_rfl) (fun _ _ _ h => h) (by rfl) hHeld ?sy1 ?sr1
  case sy1 => (intro W hSw; obtain ⟨y0, y1, y2, y3⟩ := hSw; go_simp; with_reducible rfl)
  simp only [Act.put, List.setIfInBounds_toArray, List.set_cons_zero, List.set_cons_succ]
  refine last_take (v := ?sv2) 2 rfl (by kernel_rfl) (by kernel_rfl) (by kernel_rfl) (by kernel_rfl) (fun _ _ _ h => h) (by rfl) hHeld ?sy2 ?sr2
  case sy2 => (intro W hSw; obtain ⟨y0, y1, y2, y3⟩ := hSw; go_simp; with_reducible rfl)
  simp only [Act.put, List.setIfInBounds_toArray, List.set_cons_zero, List.set_cons_succ]
  refine last_take (v := ?sv3) 3 rfl (by kernel_rfl) (by kernel_rfl) (by kernel_rfl) (by kernel_rfl) (fun _ _ _ h => h) (by rfl) hHeld ?sy3 ?sr3
  case sy3 => (intro W hSw; obtain ⟨y0, y1, y2, y3⟩ := hSw; go_simp; with_reducible rfl)
  simp only [Act.put, List.setIfInBounds_toArray, List.set_cons_zero, List.set_cons_succ]
  refine last_take (v := ?sv4) 4 rfl (by kernel_rfl) (by kernel_rfl) (by kernel_rfl) (by kernel_rfl) (fun _ _ _ h => h) (by rfl) hHeld ?sy4 ?sr4
  case sy4 => (intro W hSw; obtain ⟨y0, y1, y2, y3⟩ := hSw; go_simp; with_reducible rfl)
  simp only [Act.put, List.setIfInBounds_toArray, List.set_cons_zero, List.set_cons_succ]
  refine last_take (v := ?sv5) 5 rfl (by kernel_rfl) (by kernel_rfl) (by kernel_rfl) (by kernel_rfl) (fun _ _ _ h => h) (by rfl) hHeld ?sy5 ?sr5
  case sy5 => (intro W hSw; obtain ⟨y0, y1, y2, y3⟩ := hSw; go_simp; with_reducible rfl)
  simp only [Act.put, List.setIfInBounds_toArray, List.set_cons_zero, List.set_cons_succ]
  refine last_take (v := ?sv6) 6 rfl (by kernel_rfl) (by kernel_rfl) (by kernel_rfl) (by kernel_rfl) (fun _ _ _ h => h) (by rfl) hHeld ?sy6 ?sr6
  case sy6 => (intro W hSw; obtain ⟨y0, y1, y2, y3⟩ := hSw; go_simp; with_reducible rfl)
  simp only [Act.put, List.setIfInBounds_toArray, List.set_cons_zero, List.set_cons_succ]
  refine last_take (v := ?sv7) 7 rfl (by kernel_rfl) (by kernel_rfl) (by kernel_rfl) (by kernel_rfl) (fun _ _ _ h => h) (by rfl) hHeld ?sy7 ?sr7
  case sy7 => (intro W hSw; obtain ⟨y0, y1, y2, y3⟩ := hSw; go_simp; with_reducible rfl)
  simp only [Act.put, List.setIfInBounds_toArray, List.set_cons_zero, List.set_cons_succ]
  refine last_take (v := ?sv8) 8 rfl (by kernel_rfl) (by kernel_rfl) (by kernel_rfl) (by kernel_rfl) (fun _ _ _ h => h) (by rfl) hHeld ?sy8 ?sr8
  case sy8 => (intro W hSw; obtain ⟨y0, y1, y2, y3⟩ := hSw; go_simp; with_reducible rfl)
  simp only [Act.put, List.setIfInBounds_toArray, List.set_cons_zero, List.set_cons_succ]
  refine last_take (v := ?sv9) 9 rfl (by kernel_rfl) (by kernel_rfl) (by kernel_rfl) (by kernel_rfl) (fun _ _ _ h => h) (by rfl) hHeld ?sy9 ?sr9
  case sy9 => (intro W hSw; obtain ⟨y0, y1, y2, y3⟩ := hSw; go_simp; with_reducible rfl)
  simp only [Act.put, List.setIfInBounds_toArray, List.set_cons_zero, List.set_cons_succ]
  refine last_take (v := ?sv10) 10 rfl (by kernel_rfl) (by kernel_rfl) (by kernel_rfl) (by kernel_rfl) (fun _ _ _ h => h) (by rfl) hHeld ?sy10 ?sr10
  case sy10 => (intro W hSw; obtain ⟨y0, y1, y2, y3⟩ := hSw; go_simp; with_reducible rfl)
  simp only [Act.put, List.setIfInBounds_toArray, List.set_cons_zero, List.set_cons_succ]
  refine last_one 11 (by kernel_rfl) rfl (fun K hK => ?_)
  go_simp
  refine (copied_any _ P mb t.wr (Hwr.out.keep (w' := w.drew) rfl)).mono ?_
  rintro e w1 ⟨m, rfl, hm, hwm, hb1⟩
  have hb1' : Below w.heap.size w w1 := below_undrew hb1
  have hm : w.heap.size ≤ m := hm
  have hnl := lt_of_block Hnb.out
  have HS := hid (show ∀ W : World, W.heap[pb]? = w.heap[pb]? → W.heap[nb]? = w.heap[nb]? → (W.cell? ⟨pb, 1, none⟩ = some (.pointer (some ⟨nb, 0, none⟩)) ∧ W.cell? ⟨pb, 2, none⟩ = some (.slice ao n cap) ∧ W.cell? ⟨nb, 0, none⟩ = some (.int .i64 P) ∧ W.cell? ⟨nb, 1, none⟩ = some (.map (some mb))) from fun W h1 h2 =>
   ⟨(cell_of_block (h1.trans H.out.blk) 1).trans rfl, (cell_of_block (h1.trans H.out.blk) 2).trans (by rw [← SL.out]; rfl), (cell_of_block (h2.trans Hnb.out) 0).trans (by rw [HP.out]; rfl), (cell_of_block (h2.trans Hnb.out) 1).trans rfl⟩)
  have Hb1 := hid hb1'
  have Hm := hid hm
  have Hwm := hid hwm
  clear hb1 hb1' hm hwm
  try dsimp only
  refine hK.out _ _ (fun _ => HS.out _ (Hb1.out.block pb hpl) (Hb1.out.block nb hnl)) (fun hHeld => ?_)
  have hHeld := hHeld (by decide)
  clear hK K
  try simp only [Act.put, List.setIfInBounds_toArray, List.set_cons_zero, List.set_cons_succ]
  refine last_one 12 (by kernel_rfl) rfl (fun K hK => ?_)
  go_simp
  have hn2 := heap_alloc_new w1 (.cells #[.int .i64 P, .map (some m)] 86)
  have hb2 : Below w1.heap.size w1 (w1.alloc (.cells #[.int .i64 P, .map (some m)] 86)) := (Below.refl _ w1).alloc (Nat.le_refl _) _
  have hs2 : (w1.alloc (.cells #[.int .i64 P, .map (some m)] 86)).heap.size = w1.heap.size + 1 := by simp
  obtain ⟨w2, hw2⟩ : ∃ w2, w2 = w1.alloc (.cells #[.int .i64 P, .map (some m)] 86) := ⟨_, rfl⟩
  rw [← hw2] at hn2 hb2 hs2 ⊢
  clear hw2
  have hb02 : Below w.heap.size w w2 := Hb1.out.trans (hb2.mono Hb1.out.size)
  have hrow2 : w2.ownsRow 0 86 2 sv n (trsCells ms) := row_keep Hrow.out fun k hk => hb02.block k (row_base Hrow.out hk).2
  have hwm2 : WrAt w2 m t.wr := Hwm.out.keep (hb2.block m Hwm.out.lt)
  refine hK.out _ _ (fun _ => HS.out _ (hb02.block pb hpl) (hb02.block nb hnl)) (fun hHeld => ?_)
  have hHeld := hHeld (by decide)
  clear hK K
  try simp only [Act.put, List.setIfInBounds_toArray, List.set_cons_zero, List.set_cons_succ]
  obtain ⟨i0, hi0, hz0, hz1, hz2⟩ := info_parts (P := Tryz.prog) (e := 86) (z := .agg #[.int .i64 0, .map none]) (size := 2) (bytes := 16) (by kernel_rfl)
  refine last_one 13 (by kernel_rfl) rfl (fun K hK => ?_)
  refine step_append_lies _ (by rfl) _ _ 81 (by rfl) 0 86 i0 _ 2 16 Tryz.underlying81 hi0 hz0 hz1 hz2 rfl (by omega) sv n (trsCells ms) (by rw [SL.out]; rfl) hrow2 ⟨w1.heap.size, 0, none⟩ 1 1 [.int .i64 P, .map (some m)] (by rfl) (by rfl) (World.news_of_block (w := w2) (cs := #[.int .i64 P, .map (some m)]) (t := 86) (fr := (0, 0)) hn2) (by intro u hu; simp only [List.mem_cons, List.not_mem_nil, or_false] at hu; rcases hu with rfl | rfl <;> rfl) (by omega) (by unfold maxLen; omega) (by omega) (Nat.zero_le _) (w1.heap.size + 1) hs2 ?_
  intro q cap3 w3 hown3 hgrow3 hat3 hlt3
  have hpb3 := ((hgrow3.block pb (Nat.lt_of_lt_of_le hpl hb02.size) (fun e => H.out.row_pb e.symm rfl)).trans (hb02.block pb hpl))
  have hnb3 := ((hgrow3.block nb (Nat.lt_of_lt_of_le hnl hb02.size) (fun e => H.out.nrow nb rfl e.symm)).trans (hb02.block nb hnl))
  have hq3 : sv.ownBlock = some q ∨ w.heap.size ≤ q := hat3.imp id (fun e => by have := Hb1.out.size; omega)
  have hown3' : w3.ownsRow 0 86 2 (.slice (some ⟨q, 0, none⟩) (n + 1) cap3) (n + 1) (trsCells ms ++ trCells t m) := by
   have e : trCells t m = [.int .i64 P, .map (some m)] := by rw [HP.out]; rfl
   rw [e]
   exact hown3
  have R := save_mem H.out Hp.out Hms.out Hmw.out Hn.out.symm (by omega) hb02 Hm.out hwm2 hgrow3 hown3' hq3
  have hpb4 := heap_setCell_same (hpb3.trans H.out.blk) 2 (.slice (some ⟨q, 0, none⟩) (n + 1) cap3)
  have c3 := (cell_of_block (hpb3.trans H.out.blk) 2)
  have f3 := free_of_block (hpb3.trans H.out.blk) 2
  have c4 : (w3.setCell ⟨pb, 2, none⟩ (.slice (some ⟨q, 0, none⟩) (n + 1) cap3)).cell? ⟨pb, 2, none⟩ = some (.slice (some ⟨q, 0, none⟩) (n + 1) cap3) := (cell_of_block hpb4 2).trans rfl
  simp only [List.getElem?_toArray, List.getElem?_cons_succ, List.getElem?_cons_zero] at c3
  have HR := hid R
  have HS3 := hid (HS.out w3 hpb3 hnb3)
  clear hn2 hb2 hs2 hb02 hrow2 hwm2 hown3 hown3' hgrow3 hat3 hlt3 hpb3 hnb3 hq3 R hpb4
  refine hK.out _ _ (fun _ => HS3.out) (fun hHeld => ?_)
  have hHeld := hHeld (by decide)
  clear hK K
  try simp only [Act.put, List.setIfInBounds_toArray, List.set_cons_zero, List.set_cons_succ]
  refine last_one 14 (by kernel_rfl) rfl (fun K hK => ?_)
  go_simp
  refine hK.out _ _ (fun _ => HS3.out) (fun hHeld => ?_)
  have hHeld := hHeld (by decide)
  clear hK K
  try simp only [Act.put, List.setIfInBounds_toArray, List.set_cons_zero, List.set_cons_succ]
  refine last_one 15 (by kernel_rfl) rfl (fun K hK => ?_)
  go_simp
  refine hK.out _ _ (fun _ => HS3.out) (fun hHeld => ?_)
  have hHeld := hHeld (by decide)
  clear hK K
  try simp only [Act.put, List.setIfInBounds_toArray, List.set_cons_zero, List.set_cons_succ]
  refine last_one 16 (by kernel_rfl) rfl (fun K hK => ?_)
  go_simp
  refine hK.out _ _ (fun e => absurd rfl e) (fun _ => ?_)
  clear hK K hHeld
  try simp only [Act.put, List.setIfInBounds_toArray, List.set_cons_zero, List.set_cons_succ]
  refine wpAnyL_done (by kernel_rfl) ?_ _
  go_wp2_with fail
  go_ret2
  refine ⟨rfl, ?_⟩
  have R := HR.out
  rw [Hp.out] at R
  exact R
end
end Go.Proofs.YtlkkclooihjpiaaGreat
