/- A log that a law made, apart from the law's own rows. -/
import Derived.Test.YtioafhkblmebmaaWaU
import Derived.Test.YtioafhkblmebmaaWaR
namespace Go.Proofs.Ytioafhkblmebmaa
open Go.RowKit Go.Maps
set_option linter.unusedVariables false
set_option linter.unusedSimpArgs false

/-- A log that was made since w, apart from the blocks X. -/
structure MkX (w W : World) (l b : Nat) (g : Lg) (d : Dsk) (X : Nat → Prop) : Prop where
  ex : ∃ F G, LgAt W l b F G g d ∧ ∀ k, F.own k ∨ F.sh k ∨ G k → w.heap.size ≤ k ∧ ¬ X k
  bel : Below w.heap.size w W
  xlt : ∀ k, X k → k < W.heap.size
section
variable {w W W' : World} {l b : Nat} {g g' : Lg} {d d' : Dsk} {X X' : Nat → Prop}
theorem MkX.mk' (h : MkX w W l b g d X) : Mk w W l b g d := by
  obtain ⟨⟨F, G, h1, h2⟩, hb, -⟩ := h
  exact ⟨⟨F, G, h1, fun k hk => (h2 k hk).1⟩, hb⟩
theorem Mk.x (h : Mk w W l b g d) : MkX w W l b g d (fun _ => False) := by
  obtain ⟨⟨F, G, h1, h2⟩, hb⟩ := h
  exact ⟨⟨F, G, h1, fun k hk => ⟨h2 k hk, id⟩⟩, hb, fun _ h => h.elim⟩
theorem MkX.to (h : MkX w W l b g d X) (hx : ∀ k, X' k → X k) : MkX w W l b g d X' := by
  obtain ⟨⟨F, G, h1, h2⟩, hb, h3⟩ := h
  exact ⟨⟨F, G, h1, fun k hk => ⟨(h2 k hk).1, fun e => (h2 k hk).2 (hx k e)⟩⟩, hb, fun k hk => h3 k (hx k hk)⟩
theorem MkX.below (h : MkX w W l b g d X) (hb : Below W.heap.size W W') : MkX w W' l b g d X := by
  obtain ⟨⟨F, G, h1, h2⟩, hb1, h3⟩ := h
  exact ⟨⟨F, G, h1.below hb, h2⟩, hb1.trans (hb.mono hb1.size), fun k hk => Nat.lt_of_lt_of_le (h3 k hk) hb.size⟩
theorem LgAt.flt {F : Foot} {G : Nat → Prop} {k : Nat} (h : LgAt W l b F G g d) (hk : F.own k ∨ F.sh k ∨ G k) : k < W.heap.size := by
  obtain ⟨lv, h1⟩ := h.log
  rcases hk with hk | hk | hk
  · exact h.disk.olt k hk
  · exact h.disk.slt k hk
  · exact h1.glt k hk
/-- New blocks of the law's. -/
theorem MkX.add (h : MkX w W l b g d X) (hb : Below W.heap.size W W') (hx : ∀ k, X' k → X k ∨ W.heap.size ≤ k) (hlt : ∀ k, X' k → k < W'.heap.size) : MkX w W' l b g d X' := by
  obtain ⟨⟨F, G, h1, h2⟩, hb1, h3⟩ := h
  refine ⟨⟨F, G, h1.below hb, fun k hk => ⟨(h2 k hk).1, fun e => ?_⟩⟩, hb1.trans (hb.mono hb1.size), hlt⟩
  rcases hx k e with e | e
  · exact (h2 k hk).2 e
  · have := h1.flt hk
    omega
/-- The law's own row has grown. -/
theorem MkX.grow {row : Option Nat} (h : MkX w W l b g d X) (hg : W.grownBy W' row) (hr : ∀ k, row = some k → X k) (hw : ∀ k, row = some k → w.heap.size ≤ k) (hx : ∀ k, X' k → X k ∨ W.heap.size ≤ k) (hlt : ∀ k, X' k → k < W'.heap.size) : MkX w W' l b g d X' := by
  obtain ⟨⟨F, G, h1, h2⟩, hb1, h3⟩ := h
  have hs : LgStep ⟨fun k => row = some k, fun _ => False⟩ ⟨fun k => row = some k, fun _ => False⟩ (fun _ => False) (fun _ => False) W W' :=
    ⟨⟨hg.os, hg.tape, hg.output, hg.size, fun k hk hn => hg.block k hk (fun e => hn (.inl e.symm))⟩, fun k hk => .inl hk, fun k hk => .inl hk, fun k hk => .inl hk⟩
  refine ⟨⟨F, G, h1.other (b2 := 0) hs (fun k hk => ⟨fun e => (h2 k hk).2 (hr k e), id⟩), fun k hk => ⟨(h2 k hk).1, fun e => ?_⟩⟩, ?_, hlt⟩
  · rcases hx k e with e | e
    · exact (h2 k hk).2 e
    · have := h1.flt hk
      omega
  · exact ⟨hg.os.trans hb1.os, hg.tape.trans hb1.tape, hg.output.trans hb1.output, Nat.le_trans hb1.size hg.size, fun k hk => (hg.block k (Nat.lt_of_lt_of_le hk hb1.size) (fun e => by have := hw k e.symm; omega)).trans (hb1.block k hk)⟩
theorem mkx_append (h : MkX w W l b g d X) (N : Nat) (hsm : d.Small N) (hN : N + 1048576 ≤ 1099511527776) (pages : Int) (v : Value) (x : List Img) (hx : ImgsAt W v x) (hs : x.length ≤ 1099511627776) :
    Calls Try.prog 12 #[.pointer (some ⟨l, 0, none⟩), .int .i64 pages, v] W fun e w' => e = .returned (.int .i64 (lappendM pages x g d).1) ∧ MkX w w' l b (lappendM pages x g d).2.1 (lappendM pages x g d).2.2 X ∧ (∀ k, X k → w'.heap[k]? = W.heap[k]?) := by
  obtain ⟨⟨F, G, h1, h2⟩, hb, h3⟩ := h
  refine (lappend_any h1 N hsm hN pages v x hx hs).mono ?_
  rintro e w' ⟨rfl, h4⟩
  refine ⟨rfl, ?_, fun k hk => ?_⟩
  · have hm := Mk.did (fun k hk => (h2 k hk).1) hb h4
    obtain ⟨F', G', h5, h6⟩ := h4
    refine ⟨⟨F', G', h5, fun k hk => ⟨?_, fun e => ?_⟩⟩, hm.bel, fun k hk => Nat.lt_of_lt_of_le (h3 k hk) h6.frm.size⟩
    · rcases hk with hk | hk | hk
      · exact (h6.own k hk).elim (fun e => (h2 k (.inl e)).1) (fun e => by have := hb.size; omega)
      · exact (h6.sh k hk).elim (fun e => (h2 k (.inr (.inl e))).1) (fun e => by have := hb.size; omega)
      · exact (h6.gr k hk).elim (fun e => (h2 k (.inr (.inr e))).1) (fun e => by have := hb.size; omega)
    · have hkl := h3 k e
      rcases hk with hk | hk | hk
      · exact (h6.own k hk).elim (fun e1 => (h2 k (.inl e1)).2 e) (fun e1 => by omega)
      · exact (h6.sh k hk).elim (fun e1 => (h2 k (.inr (.inl e1))).2 e) (fun e1 => by omega)
      · exact (h6.gr k hk).elim (fun e1 => (h2 k (.inr (.inr e1))).2 e) (fun e1 => by omega)
  · obtain ⟨F', G', h5, h6⟩ := h4
    exact h6.frm.block k (h3 k hk) (fun e => e.elim (fun e => (h2 k (.inl e)).2 hk) (fun e => (h2 k (.inr (.inr e))).2 hk))
theorem mk_frames (h : Mk w W l b g d) : Calls Try.prog 20 #[.pointer (some ⟨l, 0, none⟩), .int .i64 0, .int .i64 (g.list.length : Int)] W fun e w' => ∃ v, e = .returned (.tuple #[v, .int .i64 0]) ∧ w'.ownsRow W.heap.size 51 3 v g.list.length (frsCells g.list) ∧ Below W.heap.size W w' := by
  obtain ⟨⟨F, G, h1, -⟩, -⟩ := h
  have := frames_good h1 0 g.list.length (Nat.zero_le _) (Nat.le_refl _)
  simp only [Nat.sub_zero, List.drop_zero, List.take_length] at this
  exact this
end
end Go.Proofs.Ytioafhkblmebmaa
