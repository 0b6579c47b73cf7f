import Derived.Test.YtdinjghfjmmjoaaGreatPgB
namespace Go.Proofs.YtdinjghfjmmjoaaGreat
open Go.RowKit Go.Maps
set_option linter.unusedVariables false
set_option linter.unusedSimpArgs false
set_option maxRecDepth 20000

section
variable {w w' : World} {pb l b : Nat} {F K : Foot} {G : Nat → Prop} {p : Pg} {g : Lg} {d : Dsk} {nv sv : Value}
theorem SavesAt.block {t : List Tr} (h : SavesAt w K sv t) {k : Nat} (hk : sv.ownBlock = some k) : ∃ cur, w.heap[k]? = some (.cells cur 102 (0, 0)) := by
  obtain ⟨ms, -, hr, -, -⟩ := h
  rcases hr.2 with ⟨rfl, -⟩ | ⟨q, cap, cur, rfl, -, hq, -⟩
  · cases hk
  · injection hk with hk
    exact ⟨cur, by rw [← hk]; exact hq⟩
theorem PgMem.saves_keep (h : PgMem w pb l K p nv sv) {S : Nat → Prop} (hf : ∀ k, k < w.heap.size → ¬ S k → w'.heap[k]? = w.heap[k]?) (h1 : ∀ k, sv.ownBlock = some k → ¬ S k) (h2 : ∀ k, K.sh k → ¬ S k) : SavesAt w' K sv p.saves :=
  h.saves.keep fun k hk => by
    rcases hk with hk | hk
    · exact hf k (h.olt k hk.1) (h1 k hk.2)
    · exact hf k (h.slt k hk) (h2 k hk)
theorem SavesAt.len {t : List Tr} (h : SavesAt w K sv t) : ∃ ao cap, sv = .slice ao t.length cap ∧ (0 < t.length → ∃ q, ao = some ⟨q, 0, none⟩) ∧ t.length ≤ cap := by
  obtain ⟨ms, h1, h2, h3, h4⟩ := h
  rcases h2.2 with ⟨rfl, e⟩ | ⟨q, cap, cur, rfl, -, -, hc, -⟩
  · exact ⟨none, 0, by rw [e], fun h => by omega, by omega⟩
  · exact ⟨_, cap, rfl, fun _ => ⟨q, rfl⟩, hc⟩

def prollM (p : Pg) : Int × Pg := match p.now with | none => (9, p) | some _ => (0, ⟨none, [], p.opn⟩)
theorem roll_mem (h : PgMem w pb l K p nv sv) : PgDid w pb l K ⟨none, [], p.opn⟩ ((w.setCell ⟨pb, 1, none⟩ (.pointer none)).setCell ⟨pb, 2, none⟩ (.slice none 0 0)) := by
  have hb := h.blk
  have hf : Frm K.own w ((w.setCell ⟨pb, 1, none⟩ (.pointer none)).setCell ⟨pb, 2, none⟩ (.slice none 0 0)) := ((Frm.refl _ w).setCell (p := ⟨pb, 1, none⟩) (.inl h.pown) _).setCell (p := ⟨pb, 2, none⟩) (.inl h.pown) _
  refine h.to (K' := K) hf ((heap_setCell_same (heap_setCell_same hb 1 (.pointer none)) 2 (.slice none 0 0)).trans rfl) rfl ⟨[], rfl, World.ownsRow_nil _ _ _ _, (fun k hk => by cases hk), (fun x hx => by cases hx)⟩ (fun nb e => by cases e) (fun k hk => .inl hk) (fun k hk => .inl hk) h.pown (fun k hk h1 _ => by have := h.olt k h1; omega) ⟨(fun t ht => by cases ht), (fun t ht => by cases ht), by simp, fun _ => rfl⟩
theorem roll_any (h : PgMem w pb l K p nv sv) : Calls Tryz.prog 33 #[.pointer (some ⟨pb, 0, none⟩)] w fun e w' => e = .returned (.int .i64 (prollM p).1) ∧ PgDid w pb l K (prollM p).2 w' := by
  obtain ⟨c0, c1, c2, -⟩ := h.cell
  have fr1 := h.free 1
  have fr2 := h.free 2
  have H := hid h
  have RD := pready_any h
  unfold prollM
  cases hp : p.now with
  | none =>
    have e : preadyM p = 9 := by unfold preadyM; rw [hp]
    rw [e] at RD
    have RD := hid RD
    clear h e
    go_enter Tryz.func33, Tryz.ntmps33
    go_wp2_with (first
      | (go_at_call 53; refine (RD.out).mono ?_; rintro e w1 ⟨rfl, hw⟩; obtain rfl := hw.symm)
      | go_in)
    go_ret
    exact ⟨rfl, PgDid.same H.out⟩
  | some t =>
    have e : preadyM p = 0 := by unfold preadyM; rw [hp]
    rw [e] at RD
    have RD := hid RD
    clear h e
    go_enter Tryz.func33, Tryz.ntmps33
    go_wp2_with (first
      | (go_at_call 53; refine (RD.out).mono ?_; rintro e w1 ⟨rfl, hw⟩; obtain rfl := hw.symm)
      | go_in)
    go_ret
    exact ⟨rfl, roll_mem H.out⟩

end
end Go.Proofs.YtdinjghfjmmjoaaGreat
