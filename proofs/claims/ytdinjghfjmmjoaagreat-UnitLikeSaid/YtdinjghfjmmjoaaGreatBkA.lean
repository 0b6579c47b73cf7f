import Derived.Test.YtdinjghfjmmjoaaGreatPcA
set_option linter.unusedVariables false
set_option linter.unusedSimpArgs false
namespace Go.Proofs.YtdinjghfjmmjoaaGreat
open Go.RowKit Go.Maps
set_option maxRecDepth 20000
structure PgD where
 pb : Nat
 l : Nat
 b : Nat
 p : Pg
 g : Lg
 d : Dsk
abbrev PgAtX (w W : World) (a : PgD) (X : Nat → Prop) : Prop := PgX w W a.pb a.l a.b a.p a.g a.d X
structure PgS (w W : World) (a : PgD) (S : Nat → Prop) : Prop where
 ex : ∃ F G K nv sv, LgAt W a.l a.b F G a.g a.d ∧ PgMem W a.pb a.l K a.p nv sv ∧ (∀ k, K.own k ∨ K.sh k → ¬ F.own k ∧ ¬ F.sh k ∧ ¬ G k) ∧ ∀ k, (F.own k ∨ F.sh k ∨ G k) ∨ K.own k ∨ K.sh k → S k
 ge : ∀ k, S k → w.heap.size ≤ k
 lt : ∀ k, S k → k < W.heap.size
structure DkS (w W : World) (b : Nat) (d : Dsk) (S : Nat → Prop) : Prop where
 ex : ∃ F, DiskAt W b F d ∧ ∀ k, F.own k ∨ F.sh k → S k
 ge : ∀ k, S k → w.heap.size ≤ k
 lt : ∀ k, S k → k < W.heap.size
section
variable {w W W' : World} {a a' c c' : PgD} {b : Nat} {d d' : Dsk} {S S' X X' : Nat → Prop}
theorem lt_keep {w w' : World} {k : Nat} (hk : w'.heap[k]? = w.heap[k]?) (h : k < w.heap.size) : k < w'.heap.size := (Array.getElem?_eq_some_iff.1 (hk.trans (Array.getElem?_eq_getElem h))).1
theorem DiskAt.keep2 {F : Foot} (h : DiskAt W b F d) (hk : ∀ k, F.own k ∨ F.sh k → W'.heap[k]? = W.heap[k]?) : DiskAt W' b F d := by
 obtain ⟨nm, sm, lv, am, h⟩ := h
 refine ⟨nm, sm, lv, am, ⟨(hk b (.inl h.bown)).trans h.blk, fun f hf => (h.now f hf).keep fun m hm => hk m (.inr (h.nsh f hf m hm)), fun f hf => (h.sure f hf).keep fun m hm => hk m (.inr (h.ssh f hf m hm)), h.nsh, h.ssh,
  row_keep h.row fun g hg => hk g (.inl (h.rown g hg)), h.rown, ?_, h.aown, h.bown, h.apart, fun k hk1 => lt_keep (hk k (.inl hk1)) (h.olt k hk1), fun k hk1 => lt_keep (hk k (.inr hk1)) (h.slt k hk1), h.ok⟩⟩
 obtain ⟨D, hD, hg⟩ := h.arm
 exact ⟨D, map_keep hD (hk am (.inl h.aown)), hg⟩
theorem LogMem.keep2 {l : Nat} {F : Foot} {G : Nat → Prop} {g : Lg} {lv : Value} (h : LogMem W l b F G g lv) (hk : ∀ k, G k → W'.heap[k]? = W.heap[k]?) : LogMem W' l b F G g lv :=
 ⟨(hk l h.lown).trans h.blk, row_keep h.row fun k hg => hk k (h.rown k hg), h.rown, h.lown, h.gout, fun k hg => lt_keep (hk k hg) (h.glt k hg), h.ok⟩
theorem PgMem.keep2 {pb l : Nat} {K : Foot} {p : Pg} {nv sv : Value} (h : PgMem W pb l K p nv sv) (hk : ∀ k, K.own k ∨ K.sh k → W'.heap[k]? = W.heap[k]?) : PgMem W' pb l K p nv sv :=
 ⟨(hk pb (.inl h.pown)).trans h.blk, h.now.keep fun k hk1 => hk k (.inl hk1), h.saves.keep fun k hk1 => hk k (hk1.imp (·.1) id), h.nrow, h.pown, fun k hk1 => lt_keep (hk k (.inl hk1)) (h.olt k hk1), fun k hk1 => lt_keep (hk k (.inr hk1)) (h.slt k hk1), h.apart, h.ok⟩
theorem PgS.keep (h : PgS w W a S) (hk : ∀ k, S k → W'.heap[k]? = W.heap[k]?) : PgS w W' a S := by
 obtain ⟨⟨F, G, K, nv, sv, h1, h2, h3, h4⟩, h5, h6⟩ := h
 obtain ⟨lv, hl⟩ := h1.log
 exact ⟨⟨F, G, K, nv, sv, ⟨h1.disk.keep2 (fun k hk1 => hk k (h4 k (.inl (hk1.elim .inl fun e => .inr (.inl e))))), lv, hl.keep2 (fun k hk1 => hk k (h4 k (.inl (.inr (.inr hk1)))))⟩, h2.keep2 (fun k hk1 => hk k (h4 k (.inr hk1))), h3, h4⟩, h5, fun k hk1 => lt_keep (hk k hk1) (h6 k hk1)⟩
theorem PgX.s (h : PgAtX w W a X) : ∃ S, PgS w W a S ∧ ∀ k, S k → ¬ X k := by
 obtain ⟨⟨F, G, K, nv, sv, h1, h2, h3, h4⟩, hb, hx⟩ := h
 refine ⟨fun k => (F.own k ∨ F.sh k ∨ G k) ∨ K.own k ∨ K.sh k, ⟨⟨F, G, K, nv, sv, h1, h2, h3, fun k hk => hk⟩, fun k hk => (h4 k hk).1, fun k hk => ?_⟩, fun k hk => (h4 k hk).2⟩
 rcases hk with hk | hk
 ·exact h1.flt hk
 ·exact h2.klt hk
theorem PgS.x (h : PgS w W a S) (hb : Below w.heap.size w W) (hX : ∀ k, X k → k < W.heap.size) (hd : ∀ k, S k → ¬ X k) : PgAtX w W a X := by
 obtain ⟨⟨F, G, K, nv, sv, h1, h2, h3, h4⟩, h5, h6⟩ := h
 exact ⟨⟨F, G, K, nv, sv, h1, h2, h3, fun k hk => ⟨h5 k (h4 k hk), hd k (h4 k hk)⟩⟩, hb, hX⟩
structure Two (w W : World) (a c : PgD) (X : Nat → Prop) : Prop where
 ex : ∃ S T, PgS w W a S ∧ PgS w W c T ∧ (∀ k, S k → ¬ T k ∧ ¬ X k) ∧ ∀ k, T k → ¬ X k
 bel : Below w.heap.size w W
 xlt : ∀ k, X k → k < W.heap.size
theorem Two.swap (h : Two w W a c X) : Two w W c a X := by
 obtain ⟨⟨S, T, h1, h2, h3, h4⟩, hb, hx⟩ := h
 exact ⟨⟨T, S, h2, h1, fun k hk => ⟨fun e => (h3 k e).1 hk, h4 k hk⟩, fun k hk => (h3 k hk).2⟩, hb, hx⟩
theorem Two.left (h : Two w W a c X) : ∃ T : Nat → Prop, PgAtX w W a (fun k => X k ∨ T k) ∧ ∀ w' a', PgAtX w w' a' (fun k => X k ∨ T k) → (∀ k, X k ∨ T k → w'.heap[k]? = W.heap[k]?) → Two w w' a' c X ∧ ∀ k, X k → w'.heap[k]? = W.heap[k]? := by
 obtain ⟨⟨S, T, h1, h2, h3, h4⟩, hb, hx⟩ := h
 refine ⟨T, h1.x hb (fun k hk => hk.elim (hx k) (h2.lt k)) (fun k hk e => e.elim (h3 k hk).2 (h3 k hk).1), fun w' a' ha hk => ⟨?_, fun k hk1 => hk k (.inl hk1)⟩⟩
 obtain ⟨S', hs, hd⟩ := PgX.s ha
 exact ⟨⟨S', T, hs, h2.keep (fun k hk1 => hk k (.inr hk1)), fun k hk1 => ⟨fun e => hd k hk1 (.inr e), fun e => hd k hk1 (.inl e)⟩, h4⟩, ha.bel, fun k hk1 => ha.xlt k (.inl hk1)⟩
theorem Two.right (h : Two w W a c X) : ∃ T : Nat → Prop, PgAtX w W c (fun k => X k ∨ T k) ∧ ∀ w' c', PgAtX w w' c' (fun k => X k ∨ T k) → (∀ k, X k ∨ T k → w'.heap[k]? = W.heap[k]?) → Two w w' a c' X ∧ ∀ k, X k → w'.heap[k]? = W.heap[k]? := by
 obtain ⟨T, h1, h2⟩ := h.swap.left
 exact ⟨T, h1, fun w' c' ha hk => ⟨(h2 w' c' ha hk).1.swap, (h2 w' c' ha hk).2⟩⟩
theorem Two.below (h : Two w W a c X) (hb : Below W.heap.size W W') : Two w W' a c X := by
 obtain ⟨⟨S, T, h1, h2, h3, h4⟩, hb1, hx⟩ := h
 exact ⟨⟨S, T, h1.keep (fun k hk => hb.block k (h1.lt k hk)), h2.keep (fun k hk => hb.block k (h2.lt k hk)), h3, h4⟩, hb1.trans (hb.mono hb1.size), fun k hk => Nat.lt_of_lt_of_le (hx k hk) hb.size⟩
theorem Two.add (h : Two w W a c X) (hb : Below W.heap.size W W') (hx : ∀ k, X' k → X k ∨ W.heap.size ≤ k) (hlt : ∀ k, X' k → k < W'.heap.size) : Two w W' a c X' := by
 obtain ⟨⟨S, T, h1, h2, h3, h4⟩, hb1, hx1⟩ := h
 refine ⟨⟨S, T, h1.keep (fun k hk => hb.block k (h1.lt k hk)), h2.keep (fun k hk => hb.block k (h2.lt k hk)), fun k hk => ⟨(h3 k hk).1, fun e => ?_⟩, fun k hk e => ?_⟩, hb1.trans (hb.mono hb1.size), hlt⟩
 ·rcases hx k e with e | e
  ·exact (h3 k hk).2 e
  ·have := h1.lt k hk; omega
 ·rcases hx k e with e | e
  ·exact h4 k hk e
  ·have := h2.lt k hk; omega
theorem Two.fst (h : Two w W a c X) : PgAtX w W a X := by
 obtain ⟨⟨S, T, h1, h2, h3, h4⟩, hb1, hx⟩ := h
 exact h1.x hb1 hx fun k hk => (h3 k hk).2
theorem PgX.two (h : PgAtX w W a X) {w' : World} (hc : PgAtX W w' c (fun k => k < W.heap.size)) : Two w w' a c X := by
 obtain ⟨S, h1, h2⟩ := PgX.s h
 obtain ⟨T, h3, h4⟩ := PgX.s hc
 have hb := hc.bel
 have hsz := h.bel.size
 exact ⟨⟨S, T, h1.keep (fun k hk => hb.block k (h1.lt k hk)), ⟨h3.ex, fun k hk => Nat.le_trans hsz (h3.ge k hk), h3.lt⟩, fun k hk => ⟨fun e => h4 k e (h1.lt k hk), h2 k hk⟩, fun k hk e => h4 k hk (h.xlt k e)⟩, h.bel.trans (hb.mono hsz), fun k hk => Nat.lt_of_lt_of_le (h.xlt k hk) hb.size⟩
end
end Go.Proofs.YtdinjghfjmmjoaaGreat
namespace Go.Proofs.YtdinjghfjmmjoaaGreat
open Go.RowKit Go.Maps
set_option maxRecDepth 20000
structure PD (w W : World) (a : PgD) (db : Nat) (d : Dsk) (X : Nat → Prop) : Prop where
 ex : ∃ S T, PgS w W a S ∧ DkS w W db d T ∧ (∀ k, S k → ¬ T k ∧ ¬ X k) ∧ ∀ k, T k → ¬ X k
 bel : Below w.heap.size w W
 xlt : ∀ k, X k → k < W.heap.size
section
variable {w W W' : World} {a a' c c' : PgD} {db : Nat} {d d' : Dsk} {S S' X X' : Nat → Prop}
end
end Go.Proofs.YtdinjghfjmmjoaaGreat
