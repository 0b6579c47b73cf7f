/- A disk, and a log, that a law made: the calls on them. -/
import Derived.Test.YtioafhkblmebmaaWaN
namespace Go.Proofs.Ytioafhkblmebmaa
open Go.RowKit Go.Maps
set_option linter.unusedVariables false
set_option linter.unusedSimpArgs false

/-- A disk that was made since w. -/
structure MkD (w W : World) (b : Nat) (d : Dsk) : Prop where
  ex : ∃ F, DiskAt W b F d ∧ ∀ k, F.own k ∨ F.sh k → w.heap.size ≤ k
  bel : Below w.heap.size w W
/-- A log that was made since w. -/
structure Mk (w W : World) (l b : Nat) (g : Lg) (d : Dsk) : Prop where
  ex : ∃ F G, LgAt W l b F G g d ∧ ∀ k, F.own k ∨ F.sh k ∨ G k → w.heap.size ≤ k
  bel : Below w.heap.size w W
section
variable {w W W' : World} {l b : Nat} {g g' : Lg} {d d' : Dsk}
theorem Mk.disk (h : Mk w W l b g d) : MkD w W b d := by
  obtain ⟨⟨F, G, h1, h2⟩, hb⟩ := h
  exact ⟨⟨F, h1.disk, fun k hk => h2 k (hk.elim .inl fun e => .inr (.inl e))⟩, hb⟩
theorem Mk.below (h : Mk w W l b g d) (hb : Below W.heap.size W W') : Mk w W' l b g d := by
  obtain ⟨⟨F, G, h1, h2⟩, hb1⟩ := h
  exact ⟨⟨F, G, h1.below hb, h2⟩, hb1.trans (hb.mono hb1.size)⟩
theorem MkD.below (h : MkD w W b d) (hb : Below W.heap.size W W') : MkD w W' b d := by
  obtain ⟨⟨F, h1, h2⟩, hb1⟩ := h
  exact ⟨⟨F, h1.below hb, h2⟩, hb1.trans (hb.mono hb1.size)⟩
theorem Mk.did {F : Foot} {G : Nat → Prop} (h2 : ∀ k, F.own k ∨ F.sh k ∨ G k → w.heap.size ≤ k) (hb1 : Below w.heap.size w W) (h : LgDid W l b F G g' d' W') : Mk w W' l b g' d' := by
  obtain ⟨F', G', h3, h4⟩ := h
  have hsz := hb1.size
  refine ⟨⟨F', G', h3, fun k hk => ?_⟩, h4.frm.os.trans hb1.os, h4.frm.tape.trans hb1.tape, h4.frm.output.trans hb1.output, Nat.le_trans hsz h4.frm.size, fun k hk => ?_⟩
  · rcases hk with hk | hk | hk
    · exact (h4.own k hk).elim (fun e => h2 k (.inl e)) (fun e => by omega)
    · exact (h4.sh k hk).elim (fun e => h2 k (.inr (.inl e))) (fun e => by omega)
    · exact (h4.gr k hk).elim (fun e => h2 k (.inr (.inr e))) (fun e => by omega)
  · rw [h4.frm.block k (by omega) (fun e => by have := h2 k (e.elim .inl fun e => .inr (.inr e)); omega)]
    exact hb1.block k hk
theorem mk_new (w : World) : Calls Try.prog 10 #[] w fun e w' => ∃ b, e = .returned (.pointer (some ⟨b, 0, none⟩)) ∧ MkD w w' b newM := by
  refine (new_any w).mono ?_
  rintro e w' ⟨b, F, rfl, h1, h2, h3, h4⟩
  exact ⟨b, rfl, ⟨F, h1, fun k hk => hk.elim (h3 k) (h4 k)⟩, h2⟩
theorem mk_open (h : MkD w W b d) (ho : lopenM d = (some g, 0)) : Calls Try.prog 11 #[.pointer (some ⟨b, 0, none⟩)] W fun e w' => ∃ l, e = .returned (.tuple #[.pointer (some ⟨l, 0, none⟩), .int .i64 0]) ∧ Mk w w' l b g d := by
  obtain ⟨⟨F, h1, h2⟩, hb⟩ := h
  refine (lopen_any h1).mono ?_
  intro e w' hg
  rw [ho] at hg
  obtain ⟨hb2, l, G, rfl, h3, h4⟩ := hg
  refine ⟨l, rfl, ⟨F, G, h3, fun k hk => ?_⟩, hb.trans (hb2.mono hb.size)⟩
  rcases hk with hk | hk | hk
  · exact h2 k (.inl hk)
  · exact h2 k (.inr hk)
  · exact Nat.le_trans hb.size (h4 k hk)
theorem mk_append (h : Mk w W l b g d) (N : Nat) (hsm : d.Small N) (hN : N + 1048576 ≤ 1099511527776) (pages : Int) (v : Value) (x : List Img) (hx : ImgsAt W v x) (hs : x.length ≤ 1099511627776) :
    Calls Try.prog 12 #[.pointer (some ⟨l, 0, none⟩), .int .i64 pages, v] W fun e w' => e = .returned (.int .i64 (lappendM pages x g d).1) ∧ Mk w w' l b (lappendM pages x g d).2.1 (lappendM pages x g d).2.2 := by
  obtain ⟨⟨F, G, h1, h2⟩, hb⟩ := h
  refine (lappend_any h1 N hsm hN pages v x hx hs).mono ?_
  rintro e w' ⟨rfl, h3⟩
  exact ⟨rfl, Mk.did h2 hb h3⟩
theorem mk_check (h : Mk w W l b g d) (N : Nat) (hsm : d.Small N) (hN : N + 16777216 ≤ 1099511527776) :
    Calls Try.prog 18 #[.pointer (some ⟨l, 0, none⟩)] W fun e w' => e = .returned (.int .i64 (lcheckM g d).1) ∧ Mk w w' l b (lcheckM g d).2.1 (lcheckM g d).2.2 := by
  obtain ⟨⟨F, G, h1, h2⟩, hb⟩ := h
  refine (lcheck_any h1 N hsm hN).mono ?_
  rintro e w' ⟨rfl, h3⟩
  exact ⟨rfl, Mk.did h2 hb h3⟩
theorem mk_page (h : Mk w W l b g d) (n mark : Int) : Calls Try.prog 19 #[.pointer (some ⟨l, 0, none⟩), .int .i64 n, .int .i64 mark] W fun e w' => e = .returned (.tuple #[.string (bs (pageM g d n mark).1), .int .i64 (pageM g d n mark).2]) ∧ Below W.heap.size W w' := by
  obtain ⟨⟨F, G, h1, -⟩, -⟩ := h
  exact page_any h1 n mark
theorem mk_mark (h : Mk w W l b g d) : Calls Try.prog 15 #[.pointer (some ⟨l, 0, none⟩)] W fun e w' => e = .returned (.int .i64 g.list.length) ∧ w' = W := by
  obtain ⟨⟨F, G, h1, -⟩, -⟩ := h
  exact mark_any h1
theorem mk_pages (h : Mk w W l b g d) : Calls Try.prog 24 #[.pointer (some ⟨l, 0, none⟩)] W fun e w' => e = .returned (.int .i64 g.head.pages) ∧ w' = W := by
  obtain ⟨⟨F, G, h1, -⟩, -⟩ := h
  exact pages_any h1
theorem mk_number (h : Mk w W l b g d) : Calls Try.prog 16 #[.pointer (some ⟨l, 0, none⟩)] W fun e w' => e = .returned (.int .u64 g.head.number) ∧ w' = W := by
  obtain ⟨⟨F, G, h1, -⟩, -⟩ := h
  exact number_any h1
theorem mk_size (h : MkD w W b d) (f : Nat) (hf : f < 8) : Calls Try.prog 26 #[.pointer (some ⟨b, 0, none⟩), .int .i64 (f : Int)] W fun e w' => e = .returned (.int .i64 ((d.now f).length : Nat)) ∧ w' = W := by
  obtain ⟨⟨F, h1, -⟩, -⟩ := h
  have := size_any h1 (f : Int)
  rwa [if_pos (by omega), Int.toNat_natCast] at this
theorem mk_ops (h : MkD w W b d) : Calls Try.prog 17 #[.pointer (some ⟨b, 0, none⟩)] W fun e w' => e = .returned (.int .i64 d.ops) ∧ w' = W := by
  obtain ⟨⟨F, h1, -⟩, -⟩ := h
  exact ops_any h1
theorem mk_loose (h : MkD w W b d) : Calls Try.prog 22 #[.pointer (some ⟨b, 0, none⟩)] W fun e w' => e = .returned (.int .i64 d.loose.length) ∧ w' = W := by
  obtain ⟨⟨F, h1, -⟩, -⟩ := h
  exact loose_any h1
end

/-! ### works -/
def exG1 : Lg := (lopenM exQ.2.2).1.getD exG0
def exC : Int × Lg × Dsk := lcheckM exG1 exQ.2.2
theorem ex_open1 : lopenM exQ.2.2 = (some exG1, 0) := by
  have h1 : (lopenM exQ.2.2).1.isSome = true := by decide +kernel
  have h2 : (lopenM exQ.2.2).2 = 0 := by decide +kernel
  obtain ⟨g, hg⟩ := Option.isSome_iff_exists.1 h1
  unfold exG1
  rw [hg, ← h2, ← hg]
  simp only [hg, Option.getD_some]
  rw [← hg]
theorem ex_mark1 : exG1.list.length = 1 := by decide +kernel
theorem ex_check : exC.1 = 0 := by decide +kernel
theorem ex_size : (exC.2.2.now 0).length = 16 := by decide +kernel
theorem ex_page : pageM exC.2.1 exC.2.2 2 0 = (pageOf 113, 0) := by decide +kernel
theorem ex_pages : exC.2.1.head.pages = 2 := by decide +kernel
theorem ex_number : exC.2.1.head.number = 1 := by decide +kernel
theorem ex_small : exQ.2.2.Small 100 := ⟨by decide +kernel, by decide +kernel, by decide +kernel⟩
theorem new_small : newM.Small 100 := ⟨by decide, by decide, by decide⟩
end Go.Proofs.Ytioafhkblmebmaa
