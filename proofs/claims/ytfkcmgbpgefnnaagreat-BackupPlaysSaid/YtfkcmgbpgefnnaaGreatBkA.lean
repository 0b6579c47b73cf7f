import Derived.Test.YtfkcmgbpgefnnaaGreatPcA
set_option linter.unusedVariables false
set_option linter.unusedSimpArgs false
namespace Go.Proofs.YtfkcmgbpgefnnaaGreat
open Go.RowKit Go.Maps
set_option maxRecDepth 20000
structure PgD where
 pb : Nat
 l : Nat
 b : Nat
 p : Pg
 g : Lg
 d : Dsk
abbrev PgAtX (w W : World) (a : PgD) (X : Nat → Prop) : Prop := PgX w W a.pb a.l a.b a.p a.g a.d X
structure PgS (w W : World) (a : PgD) (S : Nat → Prop) : Prop where
 ex : ∃ F G K nv sv, LgAt W a.l a.b F G a.g a.d ∧ PgMem W a.pb a.l K a.p nv sv ∧ (∀ k, K.own k ∨ K.sh k → ¬ F.own k ∧ ¬ F.sh k ∧ ¬ G k) ∧ ∀ k, (F.own k ∨ F.sh k ∨ G k) ∨ K.own k ∨ K.sh k → S k
 ge : ∀ k, S k → w.heap.size ≤ k
 lt : ∀ k, S k → k < W.heap.size
structure DkS (w W : World) (b : Nat) (d : Dsk) (S : Nat → Prop) : Prop where
 ex : ∃ F, DiskAt W b F d ∧ ∀ k, F.own k ∨ F.sh k → S k
 ge : ∀ k, S k → w.heap.size ≤ k
 lt : ∀ k, S k → k < W.heap.size
section
variable {w W W' : World} {a a' c c' : PgD} {b : Nat} {d d' : Dsk} {S S' X X' : Nat → Prop}
theorem lt_keep {w w' : World} {k : Nat} (hk : w'.heap[k]? = w.heap[k]?) (h : k < w.heap.size) : k < w'.heap.size := (Array.getElem?_eq_some_iff.1 (hk.trans (Array.getElem?_eq_getElem h))).1
theorem DiskAt.keep2 {F : Foot} (h : DiskAt W b F d) (hk : ∀ k, F.own k ∨ F.sh k → W'.heap[k]? = W.heap[k]?) : DiskAt W' b F d := by
 obtain ⟨nm, sm, lv, am, h⟩ := h
 refine ⟨nm, sm, lv, am, ⟨(hk b (.inl h.bown)).trans h.blk, fun f hf => (h.now f hf).keep fun m hm => hk m (.inr (h.nsh f hf m hm)), fun f hf => (h.sure f hf).keep fun m hm => hk m (.inr (h.ssh f hf m hm)), h.nsh, h.ssh,
  row_keep h.row fun g hg => hk g (.inl (h.rown g hg)), h.rown, ?_, h.aown, h.bown, h.apart, fun k hk1 => lt_keep (hk k (.inl hk1)) (h.olt k hk1), fun k hk1 => lt_keep (hk k (.inr hk1)) (h.slt k hk1), h.ok⟩⟩
 obtain ⟨D, hD, hg⟩ := h.arm
 exact ⟨D, map_keep hD (hk am (.inl h.aown)), hg⟩
theorem LogMem.keep2 {l : Nat} {F : Foot} {G : Nat → Prop} {g : Lg} {lv : Value} (h : LogMem W l b F G g lv) (hk : ∀ k, G k → W'.heap[k]? = W.heap[k]?) : LogMem W' l b F G g lv :=
 ⟨(hk l h.lown).trans h.blk, row_keep h.row fun k hg => hk k (h.rown k hg), h.rown, h.lown, h.gout, fun k hg => lt_keep (hk k hg) (h.glt k hg), h.ok⟩
theorem PgMem.keep2 {pb l : Nat} {K : Foot} {p : Pg} {nv sv : Value} (h : PgMem W pb l K p nv sv) (hk : ∀ k, K.own k ∨ K.sh k → W'.heap[k]? = W.heap[k]?) : PgMem W' pb l K p nv sv :=
 ⟨(hk pb (.inl h.pown)).trans h.blk, h.now.keep fun k hk1 => hk k (.inl hk1), h.saves.keep fun k hk1 => hk k (hk1.imp (·.1) id), h.nrow, h.pown, fun k hk1 => lt_keep (hk k (.inl hk1)) (h.olt k hk1), fun k hk1 => lt_keep (hk k (.inr hk1)) (h.slt k hk1), h.apart, h.ok⟩
theorem PgS.keep (h : PgS w W a S) (hk : ∀ k, S k → W'.heap[k]? = W.heap[k]?) : PgS w W' a S := by
 obtain ⟨⟨F, G, K, nv, sv, h1, h2, h3, h4⟩, h5, h6⟩ := h
 obtain ⟨lv, hl⟩ := h1.log
 exact ⟨⟨F, G, K, nv, sv, ⟨h1.disk.keep2 (fun k hk1 => hk k (h4 k (.inl (hk1.elim .inl fun e => .inr (.inl e))))), lv, hl.keep2 (fun k hk1 => hk k (h4 k (.inl (.inr (.inr hk1)))))⟩, h2.keep2 (fun k hk1 => hk k (h4 k (.inr hk1))), h3, h4⟩, h5, fun k hk1 => lt_keep (hk k hk1) (h6 k hk1)⟩
theorem DkS.keep (h : DkS w W b d S) (hk : ∀ k, S k → W'.heap[k]? = W.heap[k]?) : DkS w W' b d S := by
 obtain ⟨⟨F, h1, h2⟩, h5, h6⟩ := h
 exact ⟨⟨F, h1.keep2 (fun k hk1 => hk k (h2 k hk1)), h2⟩, h5, fun k hk1 => lt_keep (hk k hk1) (h6 k hk1)⟩
theorem PgX.s (h : PgAtX w W a X) : ∃ S, PgS w W a S ∧ ∀ k, S k → ¬ X k := by
 obtain ⟨⟨F, G, K, nv, sv, h1, h2, h3, h4⟩, hb, hx⟩ := h
 refine ⟨fun k => (F.own k ∨ F.sh k ∨ G k) ∨ K.own k ∨ K.sh k, ⟨⟨F, G, K, nv, sv, h1, h2, h3, fun k hk => hk⟩, fun k hk => (h4 k hk).1, fun k hk => ?_⟩, fun k hk => (h4 k hk).2⟩
 rcases hk with hk | hk
 ·exact h1.flt hk
 ·exact h2.klt hk
theorem PgS.x (h : PgS w W a S) (hb : Below w.heap.size w W) (hX : ∀ k, X k → k < W.heap.size) (hd : ∀ k, S k → ¬ X k) : PgAtX w W a X := by
 obtain ⟨⟨F, G, K, nv, sv, h1, h2, h3, h4⟩, h5, h6⟩ := h
 exact ⟨⟨F, G, K, nv, sv, h1, h2, h3, fun k hk => ⟨h5 k (h4 k hk), hd k (h4 k hk)⟩⟩, hb, hX⟩
structure Two (w W : World) (a c : PgD) (X : Nat → Prop) : Prop where
 ex : ∃ S T, PgS w W a S ∧ PgS w W c T ∧ (∀ k, S k → ¬ T k ∧ ¬ X k) ∧ ∀ k, T k → ¬ X k
 bel : Below w.heap.size w W
 xlt : ∀ k, X k → k < W.heap.size
end
structure PD (w W : World) (a : PgD) (db : Nat) (d : Dsk) (X : Nat → Prop) : Prop where
 ex : ∃ S T, PgS w W a S ∧ DkS w W db d T ∧ (∀ k, S k → ¬ T k ∧ ¬ X k) ∧ ∀ k, T k → ¬ X k
 bel : Below w.heap.size w W
 xlt : ∀ k, X k → k < W.heap.size
section
variable {w W W' : World} {a a' c c' : PgD} {db : Nat} {d d' : Dsk} {S S' X X' : Nat → Prop}
theorem PD.left (h : PD w W a db d X) : ∃ T : Nat → Prop, PgAtX w W a (fun k => X k ∨ T k) ∧ ∀ w' a', PgAtX w w' a' (fun k => X k ∨ T k) → (∀ k, X k ∨ T k → w'.heap[k]? = W.heap[k]?) → PD w w' a' db d X ∧ ∀ k, X k → w'.heap[k]? = W.heap[k]? := by
 obtain ⟨⟨S, T, h1, h2, h3, h4⟩, hb, hx⟩ := h
 refine ⟨T, h1.x hb (fun k hk => hk.elim (hx k) (h2.lt k)) (fun k hk e => e.elim (h3 k hk).2 (h3 k hk).1), fun w' a' ha hk => ⟨?_, fun k hk1 => hk k (.inl hk1)⟩⟩
 obtain ⟨S', hs, hd⟩ := PgX.s ha
 exact ⟨⟨S', T, hs, h2.keep (fun k hk1 => hk k (.inr hk1)), fun k hk1 => ⟨fun e => hd k hk1 (.inr e), fun e => hd k hk1 (.inl e)⟩, h4⟩, ha.bel, fun k hk1 => ha.xlt k (.inl hk1)⟩
theorem PD.right (h : PD w W a db d X) : ∃ F, DiskAt W db F d ∧ (∀ k, F.own k ∨ F.sh k → ¬ X k ∧ w.heap.size ≤ k) ∧ ∀ w' d', Did W db F d' w' → PD w w' a db d' X ∧ ∀ k, X k → w'.heap[k]? = W.heap[k]? := by
 obtain ⟨⟨S, T, h1, h2, h3, h4⟩, hb, hx⟩ := h
 obtain ⟨⟨F, hF, hFT⟩, hge, hlt⟩ := h2
 refine ⟨F, hF, fun k hk => ⟨h4 k (hFT k hk), hge k (hFT k hk)⟩, fun w' d' hd => ?_⟩
 obtain ⟨F', hF', hst⟩ := hd
 have hW := hb.size
 have hsz := hst.frm.size
 have hkeep : ∀ k, k < W.heap.size → ¬ T k → w'.heap[k]? = W.heap[k]? := fun k hk hn => hst.frm.block k hk (fun e => hn (hFT k (.inl e)))
 have hT' : ∀ k, F'.own k ∨ F'.sh k → T k ∨ W.heap.size ≤ k := fun k hk => hk.elim (fun e => (hst.own k e).imp (fun e => hFT k (.inl e)) id) (fun e => (hst.sh k e).imp (fun e => hFT k (.inr e)) id)
 have hlt' : ∀ k, F'.own k ∨ F'.sh k → k < w'.heap.size := fun k hk => hk.elim (hF'.olt k) (hF'.slt k)
 refine ⟨⟨⟨S, fun k => F'.own k ∨ F'.sh k, h1.keep (fun k hk => hkeep k (h1.lt k hk) (h3 k hk).1), ⟨⟨F', hF', fun k hk => hk⟩, fun k hk => ?_, hlt'⟩, fun k hk => ⟨fun e => ?_, (h3 k hk).2⟩, fun k hk e => ?_⟩, ⟨hst.frm.os.trans hb.os, hst.frm.tape.trans hb.tape, hst.frm.output.trans hb.output, Nat.le_trans hW hsz, fun k hk => ?_⟩, fun k hk => Nat.lt_of_lt_of_le (hx k hk) hsz⟩, fun k hk => hkeep k (hx k hk) (fun e => h4 k e hk)⟩
 ·rcases hT' k hk with e | e
  ·exact hge k e
  ·omega
 ·rcases hT' k e with e | e
  ·exact (h3 k hk).1 e
  ·have := h1.lt k hk; omega
 ·rcases hT' k hk with e1 | e1
  ·exact h4 k e1 e
  ·have := hx k e; omega
 ·exact (hkeep k (by omega) (fun e => by have := hge k e; omega)).trans (hb.block k hk)
theorem PD.below (h : PD w W a db d X) (hb : Below W.heap.size W W') : PD w W' a db d X := by
 obtain ⟨⟨S, T, h1, h2, h3, h4⟩, hb1, hx⟩ := h
 exact ⟨⟨S, T, h1.keep (fun k hk => hb.block k (h1.lt k hk)), h2.keep (fun k hk => hb.block k (h2.lt k hk)), h3, h4⟩, hb1.trans (hb.mono hb1.size), fun k hk => Nat.lt_of_lt_of_le (hx k hk) hb.size⟩
theorem PD.add (h : PD w W a db d X) (hb : Below W.heap.size W W') (hx : ∀ k, X' k → X k ∨ W.heap.size ≤ k) (hlt : ∀ k, X' k → k < W'.heap.size) : PD w W' a db d X' := by
 obtain ⟨⟨S, T, h1, h2, h3, h4⟩, hb1, hx1⟩ := h
 refine ⟨⟨S, T, h1.keep (fun k hk => hb.block k (h1.lt k hk)), h2.keep (fun k hk => hb.block k (h2.lt k hk)), fun k hk => ⟨(h3 k hk).1, fun e => ?_⟩, fun k hk e => ?_⟩, hb1.trans (hb.mono hb1.size), hlt⟩
 ·rcases hx k e with e | e
  ·exact (h3 k hk).2 e
  ·have := h1.lt k hk; omega
 ·rcases hx k e with e | e
  ·exact h4 k hk e
  ·have := h2.lt k hk; omega
theorem PD.to (h : PD w W a db d X) (hx : ∀ k, X' k → X k) : PD w W a db d X' := h.add (Below.refl _ _) (fun k hk => .inl (hx k hk)) (fun k hk => h.xlt k (hx k hk))
theorem PD.law {Y : Nat → Prop} (h : PD w W a db d X) (hf : Frm Y W W') (hY : ∀ k, Y k → X k ∧ w.heap.size ≤ k) : PD w W' a db d X := by
 obtain ⟨⟨S, T, h1, h2, h3, h4⟩, hb1, hx⟩ := h
 refine ⟨⟨S, T, h1.keep (fun k hk => hf.block k (h1.lt k hk) (fun e => (h3 k hk).2 (hY k e).1)), h2.keep (fun k hk => hf.block k (h2.lt k hk) (fun e => h4 k hk (hY k e).1)), h3, h4⟩, ⟨hf.os.trans hb1.os, hf.tape.trans hb1.tape, hf.output.trans hb1.output, Nat.le_trans hb1.size hf.size, fun k hk => ?_⟩, fun k hk => Nat.lt_of_lt_of_le (hx k hk) hf.size⟩
 exact (hf.block k (Nat.lt_of_lt_of_le hk hb1.size) (fun e => by have := (hY k e).2; omega)).trans (hb1.block k hk)
theorem PD.pg (h : PD w W a db d X) : PgAtX w W a X := by
 obtain ⟨⟨S, T, h1, h2, h3, h4⟩, hb1, hx⟩ := h
 exact h1.x hb1 hx fun k hk => (h3 k hk).2
theorem PD.dsk (h : PD w W a db d X) : MkD w W db d := by
 obtain ⟨⟨S, T, h1, ⟨⟨F, hF, hFT⟩, hge, hlt⟩, h3, h4⟩, hb1, hx⟩ := h
 exact ⟨⟨F, hF, fun k hk => hge k (hFT k hk)⟩, hb1⟩
theorem PgX.pd (h : PgAtX w W a X) {w' : World} (hd : MkD W w' db d) : PD w w' a db d X := by
 obtain ⟨S, h1, h2⟩ := PgX.s h
 obtain ⟨⟨F, hF, hge⟩, hb⟩ := hd
 have hsz := h.bel.size
 refine ⟨⟨S, fun k => F.own k ∨ F.sh k, h1.keep (fun k hk => hb.block k (h1.lt k hk)), ⟨⟨F, hF, fun k hk => hk⟩, fun k hk => Nat.le_trans hsz (hge k hk), fun k hk => hk.elim (hF.olt k) (hF.slt k)⟩, fun k hk => ⟨fun e => ?_, h2 k hk⟩, fun k hk e => ?_⟩, h.bel.trans (hb.mono hsz), fun k hk => Nat.lt_of_lt_of_le (h.xlt k hk) hb.size⟩
 ·have := hge k e; have := h1.lt k hk; omega
 ·have := hge k hk; have := h.xlt k e; omega
theorem px_openB {b : Nat} {g : Lg} (h : MkD w W b d) (ho : lopenM d = (some g, 0)) : Calls Tryz.prog 33 #[.pointer (some ⟨b, 0, none⟩)] W fun e w' => ∃ pb l, e = .returned (.tuple #[.pointer (some ⟨pb, 0, none⟩), .int .i64 0]) ∧ PgX w w' pb l b p0 g d (fun _ => False) ∧ Below W.heap.size W w' := by
 obtain ⟨⟨F, hF, hge⟩, hb⟩ := h
 have OP := lopen_any hF
 rw [ho] at OP
 have OP := hid OP
 have HF := hid hge
 have HB := hid hb
 clear hF ho hge hb
 go_enter Tryz.func33, Tryz.ntmps33
 go_wp2_with (first
  | (go_at_call 63; refine (OP.out).mono ?_; rintro e w1 ⟨hb2, l, G, rfl, h3, h4⟩; have HB2 := hid hb2; have H3 := hid h3; have H4 := hid h4; clear hb2 h3 h4)
  | go_in)
 go_ret2
 have h1 := H3.out
 have hsz := HB.out.size
 have hsz2 := HB2.out.size
 have hb1 : Below w1.heap.size w1 (w1.alloc (.cells #[.pointer (some ⟨l, 0, none⟩), .pointer none, .slice none 0 0, .int .i64 0] 122)) := (Below.refl _ w1).alloc (Nat.le_refl _) _
 have hn1 := ze w1 (.cells #[.pointer (some ⟨l, 0, none⟩), .pointer none, .slice none 0 0, .int .i64 0] 122)
 have hbel : Below W.heap.size W (w1.alloc (.cells #[.pointer (some ⟨l, 0, none⟩), .pointer none, .slice none 0 0, .int .i64 0] 122)) := HB2.out.trans (hb1.mono hsz2)
 refine ⟨w1.heap.size, l, rfl, ⟨⟨F, G, ⟨fun k => k = w1.heap.size, fun _ => False⟩, .pointer none, .slice none 0 0, h1.below hb1, ⟨hn1, rfl, ⟨[], rfl, World.ownsRow_nil _ _ _ _, (fun k hk => by cases hk), (fun x hx => by cases hx)⟩, (fun nb e => by cases e), rfl, (fun k hk => by rw [hk]; exact zc hn1), (fun k hk => hk.elim), (fun k _ hk => hk), ⟨(fun t ht => by cases ht), (fun t ht => by cases ht), by simp [p0], fun _ => rfl⟩⟩, fun k hk => ?_, fun k hk => ⟨?_, id⟩⟩, HB.out.trans (hbel.mono hsz), fun k hk => hk.elim⟩, hbel⟩
 ·rcases hk with hk | hk
  ·subst hk
   refine ⟨fun f => ?_, fun f => ?_, fun f => ?_⟩
   ·have := h1.flt (k := w1.heap.size) (.inl f); omega
   ·have := h1.flt (k := w1.heap.size) (.inr (.inl f)); omega
   ·have := h1.flt (k := w1.heap.size) (.inr (.inr f)); omega
  ·exact hk.elim
 ·rcases hk with (hk | hk | hk) | hk | hk
  ·exact HF.out k (.inl hk)
  ·exact HF.out k (.inr hk)
  ·exact Nat.le_trans hsz (H4.out k hk)
  ·have hk : k = w1.heap.size := hk
   omega
  ·exact hk.elim
end
end Go.Proofs.YtfkcmgbpgefnnaaGreat
