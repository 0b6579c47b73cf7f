/- A pager's Write, Rollback, Release. -/
import Derived.Test.YtenboibbbmeddaaGreatPgB
namespace Go.Proofs.YtenboibbbmeddaaGreat
open Go.RowKit Go.Maps
set_option linter.unusedVariables false
set_option linter.unusedSimpArgs false
set_option maxRecDepth 20000

section
variable {w w' : World} {pb l b : Nat} {F K : Foot} {G : Nat → Prop} {p : Pg} {g : Lg} {d : Dsk} {nv sv : Value}
theorem SavesAt.block {t : List Tr} (h : SavesAt w K sv t) {k : Nat} (hk : sv.ownBlock = some k) : ∃ cur, w.heap[k]? = some (.cells cur 112 (0, 0)) := by
  obtain ⟨ms, -, hr, -, -⟩ := h
  rcases hr.2 with ⟨rfl, -⟩ | ⟨q, cap, cur, rfl, -, hq, -⟩
  · cases hk
  · injection hk with hk
    exact ⟨cur, by rw [← hk]; exact hq⟩
theorem PgMem.row_pb (h : PgMem w pb l K p nv sv) {k : Nat} (hk : sv.ownBlock = some k) : k ≠ pb := fun e => by
  obtain ⟨cur, hq⟩ := h.saves.block hk
  rw [e, h.blk] at hq
  injection hq with hq
  injection hq with _ h5 _
  exact absurd h5 (by decide)
theorem PgMem.sh_pb (h : PgMem w pb l K p nv sv) {k : Nat} (hk : K.sh k) : k ≠ pb := fun e => h.apart pb h.pown (e ▸ hk)
/-- Saves that lie elsewhere than what is turned. -/
theorem PgMem.saves_keep (h : PgMem w pb l K p nv sv) {S : Nat → Prop} (hf : ∀ k, k < w.heap.size → ¬ S k → w'.heap[k]? = w.heap[k]?) (h1 : ∀ k, sv.ownBlock = some k → ¬ S k) (h2 : ∀ k, K.sh k → ¬ S k) : SavesAt w' K sv p.saves :=
  h.saves.keep fun k hk => by
    rcases hk with hk | hk
    · exact hf k (h.olt k hk.1) (h1 k hk.2)
    · exact hf k (h.slt k hk) (h2 k hk)
/-- The first k of a row. -/
theorem row_cut {base n size cap q : Nat} {e : TypeId} {xs : List Value} (h : w.ownsRow base e size (.slice (some ⟨q, 0, none⟩) n cap) n xs) {k : Nat} (hk : k ≤ n) : w.ownsRow base e size (.slice (some ⟨q, 0, none⟩) k cap) k (xs.take (k * size)) := by
  rcases h.2 with ⟨e, -⟩ | ⟨g, cap', cur, e, hb, hg, h1, h2, h3, h4⟩
  · cases e
  injection e with e1 e2 e3
  injection e1 with e1
  injection e1 with e1
  subst e1
  subst e3
  have hm : k * size ≤ n * size := Nat.mul_le_mul_right size hk
  refine ⟨by rw [List.length_take, h.1]; omega, .inr ⟨q, cap, cur, rfl, hb, hg, by omega, h2, h3, ?_⟩⟩
  rw [← h4, List.take_take, Nat.min_eq_left hm]
theorem saves_cut {t : List Tr} {q n cap : Nat} (h : SavesAt w K (.slice (some ⟨q, 0, none⟩) n cap) t) (hn : t.length = n) {k : Nat} (hk : k ≤ n) : SavesAt w K (.slice (some ⟨q, 0, none⟩) k cap) (t.take k) := by
  obtain ⟨ms, h1, h2, h3, h4⟩ := h
  rw [hn] at h2
  refine ⟨ms.take k, by rw [List.map_take, h1], ?_, fun j hj => h3 j hj, fun x hx => h4 x (List.mem_of_mem_take hx)⟩
  have := row_cut h2 hk
  rw [trsCells_take] at this
  rwa [show (t.take k).length = k by rw [List.length_take]; omega]
theorem SavesAt.len {t : List Tr} (h : SavesAt w K sv t) : ∃ ao cap, sv = .slice ao t.length cap ∧ (0 < t.length → ∃ q, ao = some ⟨q, 0, none⟩) ∧ t.length ≤ cap := by
  obtain ⟨ms, h1, h2, h3, h4⟩ := h
  rcases h2.2 with ⟨rfl, e⟩ | ⟨q, cap, cur, rfl, -, -, hc, -⟩
  · exact ⟨none, 0, by rw [e], fun h => by omega, by omega⟩
  · exact ⟨_, cap, rfl, fun _ => ⟨q, rfl⟩, hc⟩

def prollM (p : Pg) : Int × Pg := match p.now with | none => (9, p) | some _ => (0, ⟨none, [], p.opn⟩)
theorem roll_mem (h : PgMem w pb l K p nv sv) : PgDid w pb l K ⟨none, [], p.opn⟩ ((w.setCell ⟨pb, 1, none⟩ (.pointer none)).setCell ⟨pb, 2, none⟩ (.slice none 0 0)) := by
  have hb := h.blk
  have hf : Frm K.own w ((w.setCell ⟨pb, 1, none⟩ (.pointer none)).setCell ⟨pb, 2, none⟩ (.slice none 0 0)) := ((Frm.refl _ w).setCell (p := ⟨pb, 1, none⟩) (.inl h.pown) _).setCell (p := ⟨pb, 2, none⟩) (.inl h.pown) _
  refine h.to (K' := K) hf ((heap_setCell_same (heap_setCell_same hb 1 (.pointer none)) 2 (.slice none 0 0)).trans rfl) rfl ⟨[], rfl, World.ownsRow_nil _ _ _ _, (fun k hk => by cases hk), (fun x hx => by cases hx)⟩ (fun nb e => by cases e) (fun k hk => .inl hk) (fun k hk => .inl hk) h.pown (fun k hk h1 _ => by have := h.olt k h1; omega) ⟨(fun t ht => by cases ht), (fun t ht => by cases ht), by simp, fun _ => rfl⟩
theorem roll_any (h : PgMem w pb l K p nv sv) : Calls Tryz.prog 65 #[.pointer (some ⟨pb, 0, none⟩)] w fun e w' => e = .returned (.int .i64 (prollM p).1) ∧ PgDid w pb l K (prollM p).2 w' := by
  obtain ⟨c0, c1, c2, -⟩ := h.cell
  have fr1 := h.free 1
  have fr2 := h.free 2
  have H := hid h
  have RD := pready_any h
  unfold prollM
  cases hp : p.now with
  | none =>
    have e : preadyM p = 9 := by unfold preadyM; rw [hp]
    rw [e] at RD
    have RD := hid RD
    clear h e
    go_enter Tryz.func65, Tryz.ntmps65
    go_wp2_with (first
      | (go_at_call 66; refine (RD.out).mono ?_; rintro e w1 ⟨rfl, hw⟩; obtain rfl := hw.symm)
      | go_in)
    go_ret
    exact ⟨rfl, PgDid.same H.out⟩
  | some t =>
    have e : preadyM p = 0 := by unfold preadyM; rw [hp]
    rw [e] at RD
    have RD := hid RD
    clear h e
    go_enter Tryz.func65, Tryz.ntmps65
    go_wp2_with (first
      | (go_at_call 66; refine (RD.out).mono ?_; rintro e w1 ⟨rfl, hw⟩; obtain rfl := hw.symm)
      | go_in)
    go_ret
    exact ⟨rfl, roll_mem H.out⟩

def preleaseM (p : Pg) (k : Int) : Int × Pg := match p.now with | none => (9, p) | some _ => if k < 1 ∨ (p.saves.length : Int) < k then (5, p) else (0, { p with saves := p.saves.take (k.toNat - 1) })
theorem release_mem (h : PgMem w pb l K p nv sv) {q cap m : Nat} (hs : sv = .slice (some ⟨q, 0, none⟩) p.saves.length cap) (hm : m ≤ p.saves.length) (hnow : p.now ≠ none) :
    PgDid w pb l K { p with saves := p.saves.take m } (w.setCell ⟨pb, 2, none⟩ (.slice (some ⟨q, 0, none⟩) m cap)) := by
  subst hs
  have hb := h.blk
  have hf : Frm K.own w (w.setCell ⟨pb, 2, none⟩ (.slice (some ⟨q, 0, none⟩) m cap)) := (Frm.refl _ w).setCell (p := ⟨pb, 2, none⟩) (.inl h.pown) _
  have hS := h.saves_keep (S := fun k => k = pb) (w' := w.setCell ⟨pb, 2, none⟩ (.slice (some ⟨q, 0, none⟩) m cap)) (fun k _ hk => Below.heap_setCell _ ⟨pb, 2, none⟩ _ k hk) (fun k hk => h.row_pb hk) (fun k hk => h.sh_pb hk)
  refine h.to (K' := K) hf ((heap_setCell_same hb 2 (.slice (some ⟨q, 0, none⟩) m cap)).trans rfl) ?_ (saves_cut hS rfl hm) (fun nb e f => h.nrow nb e f) (fun k hk => .inl hk) (fun k hk => .inl hk) h.pown (fun k hk h1 _ => by have := h.olt k h1; omega) ⟨h.ok.now, fun t ht => h.ok.saves t (List.mem_of_mem_take ht), by have := h.ok.many; simp; omega, fun e => absurd e hnow⟩
  have hn := h.now
  revert hn
  cases hp : p.now with
  | none => exact fun hn => hn
  | some t =>
    rintro ⟨nb, mb, h1, h2, h3, h4, h5⟩
    have nb1 : nb ≠ pb := fun e => by
      rw [e, hb] at h2
      injection h2 with h2
      injection h2 with _ h6 _
      exact absurd h6 (by decide)
    have mb1 : mb ≠ pb := fun e => by
      obtain ⟨es, c, h6⟩ := h3.block
      rw [e, hb] at h6
      cases h6
    exact ⟨nb, mb, h1, (Below.heap_setCell _ ⟨pb, 2, none⟩ _ nb nb1).trans h2, h3.keep (Below.heap_setCell _ ⟨pb, 2, none⟩ _ mb mb1), h4, h5⟩
end
end Go.Proofs.YtenboibbbmeddaaGreat
