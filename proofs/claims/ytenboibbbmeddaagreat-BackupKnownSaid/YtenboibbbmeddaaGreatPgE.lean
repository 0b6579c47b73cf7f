/- A pager's Save and Back. -/
import Derived.Test.YtenboibbbmeddaaGreatPgD
import Derived.Test.YtenboibbbmeddaaGreatLast
namespace Go.Proofs.YtenboibbbmeddaaGreat
open Go.RowKit Go.Maps
set_option linter.unusedVariables false
set_option linter.unusedSimpArgs false
set_option maxRecDepth 20000

section
variable {w w1 w2 w3 w' : World} {pb l b : Nat} {F K : Foot} {G : Nat → Prop} {p : Pg} {g : Lg} {d : Dsk} {nv sv : Value}
/-- save: how many, the answer, the pager. -/
def psaveM (p : Pg) : Int × Int × Pg := match p.now with
  | none => (0, 9, p)
  | some t => if p.saves.length = 64 then (0, 8, p) else ((p.saves.length : Int) + 1, 0, { p with saves := p.saves ++ [t] })
theorem ne_cells {k m : Nat} {cs : Array Value} {T : TypeId} {fr : Nat × Nat} {es : Array MapEntry} {c : Nat} (h : w.heap[k]? = some (.cells cs T fr)) (h2 : w.heap[m]? = some (.map es c)) : k ≠ m := fun e => by
  rw [e, h2] at h; cases h
theorem ne_type {k m : Nat} {cs cs2 : Array Value} {T T2 : TypeId} {fr fr2 : Nat × Nat} (h : w.heap[k]? = some (.cells cs T fr)) (h2 : w.heap[m]? = some (.cells cs2 T2 fr2)) (hT : T ≠ T2) : k ≠ m := fun e => by
  rw [e, h2] at h
  injection h with h
  injection h with _ h5 _
  exact hT h5.symm
theorem save_mem (h : PgMem w pb l K p nv sv) {t : Tr} (hp : p.now = some t) {ms : List (Tr × Nat)} (hms : ms.map (·.1) = p.saves) (hmw : ∀ x ∈ ms, WrAt w x.2 x.1.wr ∧ K.sh x.2) {m q cap n : Nat} (hn : p.saves.length = n) (hn64 : n < 64)
    (hb : Below w.heap.size w w2) (hm : w.heap.size ≤ m) (hw : WrAt w2 m t.wr) (hgrow : w2.grownBy w3 sv.ownBlock)
    (hrow : w3.ownsRow 0 112 2 (.slice (some ⟨q, 0, none⟩) (n + 1) cap) (n + 1) (trsCells ms ++ trCells t m)) (hq : sv.ownBlock = some q ∨ w.heap.size ≤ q) :
    PgDid w pb l K { p with saves := p.saves ++ [t] } (w3.setCell ⟨pb, 2, none⟩ (.slice (some ⟨q, 0, none⟩) (n + 1) cap)) := by
  have hpl := h.olt pb h.pown
  have hrl : ∀ k, sv.ownBlock = some k → k < w.heap.size := fun k hk => h.olt k (h.saves.own hk)
  have h23 : ∀ k, k < w.heap.size → sv.ownBlock ≠ some k → w3.heap[k]? = w.heap[k]? := fun k hk hne => (hgrow.block k (Nat.lt_of_lt_of_le hk hb.size) (fun e => hne e.symm)).trans (hb.block k hk)
  have hpb3 : w3.heap[pb]? = some (.cells #[.pointer (some ⟨l, 0, none⟩), nv, sv, .int .i64 p.opn] 94 (0, 0)) := (h23 pb hpl (fun e => h.row_pb e rfl)).trans h.blk
  have hpb4 := heap_setCell_same hpb3 2 (.slice (some ⟨q, 0, none⟩) (n + 1) cap)
  have ho4 : ∀ k, k ≠ pb → (w3.setCell ⟨pb, 2, none⟩ (.slice (some ⟨q, 0, none⟩) (n + 1) cap)).heap[k]? = w3.heap[k]? := fun k hk => Below.heap_setCell _ ⟨pb, 2, none⟩ _ k hk
  have hf3 : Frm K.own w w3 := ⟨hgrow.os.trans hb.os, hgrow.tape.trans hb.tape, hgrow.output.trans hb.output, Nat.le_trans hb.size hgrow.size, fun k hk hne => h23 k hk (fun e => hne (h.saves.own e))⟩
  have hf4 := hf3.setCell (p := ⟨pb, 2, none⟩) (.inl h.pown) (.slice (some ⟨q, 0, none⟩) (n + 1) cap)
  have hs4 : (w3.setCell ⟨pb, 2, none⟩ (.slice (some ⟨q, 0, none⟩) (n + 1) cap)).heap.size = w3.heap.size := by simp
  have hql : q < w3.heap.size := (row_base hrow (g := q) rfl).2
  have hqb : ∃ cur, w3.heap[q]? = some (.cells cur 112 (0, 0)) := by
    rcases hrow.2 with ⟨e, -⟩ | ⟨q', cap', cur, e, -, hq', -⟩
    · cases e
    · injection e with e1 _ _
      injection e1 with e1
      injection e1 with e1
      exact ⟨cur, by rw [e1]; exact hq'⟩
  obtain ⟨cur, hqb⟩ := hqb
  have hm3 : w3.heap[m]? = w2.heap[m]? := hgrow.block m hw.lt (fun e => by have := hrl m e.symm; omega)
  have hw3 : WrAt w3 m t.wr := hw.keep hm3
  have hml : m < w3.heap.size := hw3.lt
  obtain ⟨es, c, hmb⟩ := hw3.block
  have hqm : q ≠ m := ne_cells hqb hmb
  have hqp : q ≠ pb := ne_type hqb hpb3 (by decide)
  have hmp : m ≠ pb := by omega
  obtain ⟨w4, hw4⟩ : ∃ w4, w4 = w3.setCell ⟨pb, 2, none⟩ (.slice (some ⟨q, 0, none⟩) (n + 1) cap) := ⟨_, rfl⟩
  rw [← hw4] at hpb4 ho4 hf4 hs4 ⊢
  clear hw4
  have hnow := h.now
  rw [hp] at hnow
  obtain ⟨nb, mb, hnv, hnb, hwr, ho1, ho2⟩ := hnow
  obtain ⟨es2, c2, hmb2⟩ := hwr.block
  have nb1 : nb ≠ pb := ne_type hnb h.blk (by decide)
  have mb1 : mb ≠ pb := (ne_cells h.blk hmb2).symm
  have nb2 : sv.ownBlock ≠ some nb := h.nrow nb hnv
  have mb2 : sv.ownBlock ≠ some mb := fun e => by
    obtain ⟨cu, hcu⟩ := h.saves.block e
    exact ne_cells hcu hmb2 rfl
  refine h.to (K' := ⟨fun k => K.own k ∨ k = q, fun k => K.sh k ∨ k = m⟩) hf4 (hpb4.trans rfl) ?_ ⟨ms ++ [(t, m)], by rw [List.map_append, hms]; rfl, ?_, ?_, ?_⟩ ?_ ?_ ?_ (.inl h.pown) ?_ ⟨h.ok.now, fun t' ht => ?_, by simp [hn]; omega, fun e => by rw [hp] at e; cases e⟩
  · show NowAt w4 _ nv p.now
    rw [hp]
    exact ⟨nb, mb, hnv, ((ho4 nb nb1).trans (h23 nb (h.olt nb ho1) nb2)).trans hnb, hwr.keep ((ho4 mb mb1).trans (h23 mb (h.olt mb ho2) mb2)), .inl ho1, .inl ho2⟩
  · rw [trsCells_snoc, List.length_append, hn]
    exact row_keep hrow fun k hk => by
      injection hk with hk
      have hk : q = k := hk
      rw [← hk]
      exact ho4 q hqp
  · intro k hk
    injection hk with hk
    have hk : q = k := hk
    exact .inr hk.symm
  · intro x hx
    rcases List.mem_append.1 hx with hx | hx
    · obtain ⟨h1, h2⟩ := hmw x hx
      exact ⟨h1.keep ((ho4 _ (h.sh_pb h2)).trans (h23 _ (h.slt _ h2) (fun e => h.apart _ (h.saves.own e) h2))), .inl h2⟩
    · simp only [List.mem_singleton] at hx
      subst hx
      exact ⟨hw3.keep (ho4 m hmp), .inr rfl⟩
  · intro nb' e f
    injection f with f
    have f : q = nb' := f
    rw [hnv] at e
    injection e with e
    injection e with e
    injection e with e
    rcases hq with hq | hq
    · exact nb2 (by rw [hq, f, e])
    · have := h.olt nb ho1
      omega
  · intro k hk
    rcases hk with hk | rfl
    · exact .inl hk
    · rcases hq with hq | hq
      · exact .inl (h.saves.own hq)
      · exact .inr ⟨hq, by omega⟩
  · intro k hk
    rcases hk with hk | rfl
    · exact .inl hk
    · exact .inr ⟨hm, by omega⟩
  · intro k hk h1 h2
    rcases h1 with h1 | h1
    · have := h.olt k h1; omega
    · rcases h2 with h2 | h2
      · have := h.slt k h2; omega
      · exact hqm (h1.symm.trans h2)
  · rcases List.mem_append.1 ht with ht | ht
    · exact h.ok.saves t' ht
    · simp only [List.mem_singleton] at ht
      subst ht
      exact h.ok.now _ hp
end
end Go.Proofs.YtenboibbbmeddaaGreat
