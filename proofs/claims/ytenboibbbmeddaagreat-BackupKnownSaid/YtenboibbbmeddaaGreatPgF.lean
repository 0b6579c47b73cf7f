/- A pager's Back. -/
import Derived.Test.YtenboibbbmeddaaGreatPgE
namespace Go.Proofs.YtenboibbbmeddaaGreat
open Go.RowKit Go.Maps
set_option linter.unusedVariables false
set_option linter.unusedSimpArgs false
set_option maxRecDepth 20000

section
variable {w w1 w2 w3 w' : World} {pb l b : Nat} {F K : Foot} {G : Nat → Prop} {p : Pg} {g : Lg} {d : Dsk} {nv sv : Value}
theorem PgDid.drew {p' : Pg} (h : PgDid w pb l K p' w') : PgDid w pb l K p' w'.drew := by
  obtain ⟨K', nv', sv', hm, hs⟩ := h
  exact ⟨K', nv', sv', hm.below (Below.refl _ _).drew, ⟨hs.frm.drew, hs.own, hs.sh⟩⟩
def pbackM (p : Pg) (k : Int) : Int × Pg := match p.now with | none => (9, p) | some _ => if k < 1 ∨ (p.saves.length : Int) < k then (5, p) else (0, { p with now := p.saves[k.toNat - 1]?, saves := p.saves.take k.toNat })
theorem back_mem (h : PgMem w pb l K p nv sv) {q cap k m nb : Nat} {t : Tr} (hs : sv = .slice (some ⟨q, 0, none⟩) p.saves.length cap) (hk : k < p.saves.length) (ht : p.saves[k] = t)
    (hb : Below w.heap.size w w2) (hnb : w.heap.size ≤ nb) (hm : w.heap.size ≤ m) (hw : WrAt w2 m t.wr) (hbx : w2.heap[nb]? = some (.cells (trCells t m).toArray 112 (0, 0))) :
    PgDid w pb l K { p with now := some t, saves := p.saves.take (k + 1) } ((w2.setCell ⟨pb, 1, none⟩ (.pointer (some ⟨nb, 0, none⟩))).setCell ⟨pb, 2, none⟩ (.slice (some ⟨q, 0, none⟩) (k + 1) cap)) := by
  have hpl := h.olt pb h.pown
  have hpb2 := (hb.block pb hpl).trans h.blk
  have hpb4 := heap_setCell_same (heap_setCell_same hpb2 1 (.pointer (some ⟨nb, 0, none⟩))) 2 (.slice (some ⟨q, 0, none⟩) (k + 1) cap)
  have ho4 : ∀ j, j ≠ pb → ((w2.setCell ⟨pb, 1, none⟩ (.pointer (some ⟨nb, 0, none⟩))).setCell ⟨pb, 2, none⟩ (.slice (some ⟨q, 0, none⟩) (k + 1) cap)).heap[j]? = w2.heap[j]? := fun j hj => (Below.heap_setCell _ ⟨pb, 2, none⟩ _ j hj).trans (Below.heap_setCell _ ⟨pb, 1, none⟩ _ j hj)
  have hf4 := ((Frm.of_below (S := K.own) hb).setCell (p := ⟨pb, 1, none⟩) (.inl h.pown) (.pointer (some ⟨nb, 0, none⟩))).setCell (p := ⟨pb, 2, none⟩) (.inl h.pown) (.slice (some ⟨q, 0, none⟩) (k + 1) cap)
  have hs4 : ((w2.setCell ⟨pb, 1, none⟩ (.pointer (some ⟨nb, 0, none⟩))).setCell ⟨pb, 2, none⟩ (.slice (some ⟨q, 0, none⟩) (k + 1) cap)).heap.size = w2.heap.size := by simp
  have hnl := lt_of_block hbx
  have hml := hw.lt
  obtain ⟨w4, hw4⟩ : ∃ w4, w4 = (w2.setCell ⟨pb, 1, none⟩ (.pointer (some ⟨nb, 0, none⟩))).setCell ⟨pb, 2, none⟩ (.slice (some ⟨q, 0, none⟩) (k + 1) cap) := ⟨_, rfl⟩
  rw [← hw4] at hpb4 ho4 hf4 hs4 ⊢
  clear hw4
  have hS := h.saves_keep (S := fun j => j = pb) (w' := w4) (fun j hj hne => (ho4 j hne).trans (hb.block j hj)) (fun j hj => h.row_pb hj) (fun j hj => h.sh_pb hj)
  rw [hs] at hS
  have hS2 := (saves_cut hS rfl (k := k + 1) hk).mono (K' := ⟨fun j => K.own j ∨ j = nb ∨ j = m, K.sh⟩) (fun j hj => .inl hj) (fun j hj => hj)
  have htok := h.ok.saves t (by rw [← ht]; exact List.getElem_mem hk)
  refine h.to (K' := ⟨fun j => K.own j ∨ j = nb ∨ j = m, K.sh⟩) hf4 (hpb4.trans rfl) ⟨nb, m, rfl, (ho4 nb (by omega)).trans hbx, hw.keep (ho4 m (by omega)), .inr (.inl rfl), .inr (.inr rfl)⟩ hS2 ?_ ?_ (fun j hj => .inl hj) (.inl h.pown) ?_ ⟨fun t' ht' => by cases ht'; exact htok, fun t' ht' => h.ok.saves t' (List.mem_of_mem_take ht'), by have := h.ok.many; simp; omega, fun e => by cases e⟩
  · intro nb' e f
    injection e with e
    injection e with e
    injection e with e
    injection f with f
    have f : q = nb' := f
    have := h.olt q (h.saves.own (by rw [hs]; rfl))
    omega
  · intro j hj
    rcases hj with hj | hj | hj
    · exact .inl hj
    · exact .inr (by omega)
    · exact .inr (by omega)
  · intro j hj _ h2
    have := h.slt j h2
    omega
end
end Go.Proofs.YtenboibbbmeddaaGreat
