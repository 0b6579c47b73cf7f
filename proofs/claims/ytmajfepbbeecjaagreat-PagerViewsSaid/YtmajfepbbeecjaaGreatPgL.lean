import Derived.Test.YtmajfepbbeecjaaGreatPgJ
/- A pager's calls, lifted to a pager that a law made; Checkpoint; Open; no pager. -/
namespace Go.Proofs.YtmajfepbbeecjaaGreat
open Go.RowKit Go.Maps
set_option linter.unusedVariables false
set_option linter.unusedSimpArgs false
set_option maxRecDepth 20000

section
variable {w W W' : World} {pb l b : Nat} {p p' : Pg} {g g' : Lg} {d d' : Dsk} {X X' : Nat → Prop}
theorem px_pages (h : PgX w W pb l b p g d X) : Calls Tryz.prog 26 #[.pointer (some ⟨pb, 0, none⟩)] W fun e w' => e = .returned (.int .i64 (ppagesM p g)) ∧ w' = W := by
  obtain ⟨⟨F, G, K, nv, sv, h1, h2, h3, h4⟩, hb, hx⟩ := h
  exact ppages_any h1 h2
theorem px_read (h : PgX w W pb l b p g d X) (n : Int) (hn : -9223372036854775808 ≤ n ∧ n ≤ 9223372036854775807) : Calls Tryz.prog 29 #[.pointer (some ⟨pb, 0, none⟩), .int .i64 n] W fun e w' => e = .returned (.tuple #[.string (bs (preadM p g d n).1), .int .i64 (preadM p g d n).2]) ∧ Below W.heap.size W w' := by
  obtain ⟨⟨F, G, K, nv, sv, h1, h2, h3, h4⟩, hb, hx⟩ := h
  exact pread_any h1 h2 n hn
theorem px_begin (h : PgX w W pb l b p g d X) : Calls Tryz.prog 11 #[.pointer (some ⟨pb, 0, none⟩)] W fun e w' => e = .returned (.int .i64 (beginM p g).1) ∧ PgX w w' pb l b (beginM p g).2 g d X ∧ ∀ k, X k → w'.heap[k]? = W.heap[k]? := by
  obtain ⟨⟨F, G, K, nv, sv, h1, h2, h3, h4⟩, hb, hx⟩ := h
  exact (begin_any h1 h2).mono fun e w' ⟨he, hd⟩ => ⟨he, pgx_did h1 h2 h3 h4 hb hx hd⟩
theorem px_write (h : PgX w W pb l b p g d X) (n : Int) (s : List UInt8) (hn : -9223372036854775808 ≤ n ∧ n ≤ 9223372036854775807) (hsl : s.length ≤ 9223372036854775807) : Calls Tryz.prog 27 #[.pointer (some ⟨pb, 0, none⟩), .int .i64 n, .string (bs s)] W fun e w' => e = .returned (.int .i64 (pwriteM p n s).1) ∧ PgX w w' pb l b (pwriteM p n s).2 g d X ∧ ∀ k, X k → w'.heap[k]? = W.heap[k]? := by
  obtain ⟨⟨F, G, K, nv, sv, h1, h2, h3, h4⟩, hb, hx⟩ := h
  exact (pwrite_any h2 n s hn hsl).mono fun e w' ⟨he, hd⟩ => ⟨he, pgx_did h1 h2 h3 h4 hb hx hd⟩
theorem px_resize (h : PgX w W pb l b p g d X) (n : Int) (hn : -9223372036854775808 ≤ n ∧ n ≤ 9223372036854775807) : Calls Tryz.prog 12 #[.pointer (some ⟨pb, 0, none⟩), .int .i64 n] W fun e w' => e = .returned (.int .i64 (presizeM p n).1) ∧ PgX w w' pb l b (presizeM p n).2 g d X ∧ ∀ k, X k → w'.heap[k]? = W.heap[k]? := by
  obtain ⟨⟨F, G, K, nv, sv, h1, h2, h3, h4⟩, hb, hx⟩ := h
  exact (resize_any h2 n hn).mono fun e w' ⟨he, hd⟩ => ⟨he, pgx_did h1 h2 h3 h4 hb hx hd⟩
theorem px_save (h : PgX w W pb l b p g d X) : Calls Tryz.prog 16 #[.pointer (some ⟨pb, 0, none⟩)] W fun e w' => e = .returned (.tuple #[.int .i64 (psaveM p).1, .int .i64 (psaveM p).2.1]) ∧ PgX w w' pb l b (psaveM p).2.2 g d X ∧ ∀ k, X k → w'.heap[k]? = W.heap[k]? := by
  obtain ⟨⟨F, G, K, nv, sv, h1, h2, h3, h4⟩, hb, hx⟩ := h
  exact (save_any h2).mono fun e w' ⟨he, hd⟩ => ⟨he, pgx_did h1 h2 h3 h4 hb hx hd⟩
theorem px_back (h : PgX w W pb l b p g d X) (n : Int) (hn : -9223372036854775808 ≤ n ∧ n ≤ 9223372036854775807) : Calls Tryz.prog 17 #[.pointer (some ⟨pb, 0, none⟩), .int .i64 n] W fun e w' => e = .returned (.int .i64 (pbackM p n).1) ∧ PgX w w' pb l b (pbackM p n).2 g d X ∧ ∀ k, X k → w'.heap[k]? = W.heap[k]? := by
  obtain ⟨⟨F, G, K, nv, sv, h1, h2, h3, h4⟩, hb, hx⟩ := h
  exact (back_any h2 n hn).mono fun e w' ⟨he, hd⟩ => ⟨he, pgx_did h1 h2 h3 h4 hb hx hd⟩
theorem px_release (h : PgX w W pb l b p g d X) (n : Int) (hn : -9223372036854775808 ≤ n ∧ n ≤ 9223372036854775807) : Calls Tryz.prog 30 #[.pointer (some ⟨pb, 0, none⟩), .int .i64 n] W fun e w' => e = .returned (.int .i64 (preleaseM p n).1) ∧ PgX w w' pb l b (preleaseM p n).2 g d X ∧ ∀ k, X k → w'.heap[k]? = W.heap[k]? := by
  obtain ⟨⟨F, G, K, nv, sv, h1, h2, h3, h4⟩, hb, hx⟩ := h
  exact (release_any h2 n hn).mono fun e w' ⟨he, hd⟩ => ⟨he, pgx_did h1 h2 h3 h4 hb hx hd⟩
theorem px_roll (h : PgX w W pb l b p g d X) : Calls Tryz.prog 19 #[.pointer (some ⟨pb, 0, none⟩)] W fun e w' => e = .returned (.int .i64 (prollM p).1) ∧ PgX w w' pb l b (prollM p).2 g d X ∧ ∀ k, X k → w'.heap[k]? = W.heap[k]? := by
  obtain ⟨⟨F, G, K, nv, sv, h1, h2, h3, h4⟩, hb, hx⟩ := h
  exact (roll_any h2).mono fun e w' ⟨he, hd⟩ => ⟨he, pgx_did h1 h2 h3 h4 hb hx hd⟩

/-! ### Checkpoint -/
def pcheckM (p : Pg) (g : Lg) (d : Dsk) : Int × Lg × Dsk := if p.now.isSome = true ∨ 0 < p.opn then (9, g, d) else lcheckM g d
theorem px_check (h : PgX w W pb l b p g d X) (N : Nat) (hsm : d.Small N) (hN : N + 16777216 ≤ 1099511527776) : Calls Tryz.prog 22 #[.pointer (some ⟨pb, 0, none⟩)] W fun e w' => e = .returned (.int .i64 (pcheckM p g d).1) ∧ PgX w w' pb l b p (pcheckM p g d).2.1 (pcheckM p g d).2.2 X ∧ ∀ k, X k → w'.heap[k]? = W.heap[k]? := by
  have H := hid h
  obtain ⟨⟨F, G, K, nv, sv, h1, h2, h3, h4⟩, hb, hx⟩ := h
  obtain ⟨c0, c1, -, c3⟩ := h2.cell
  have hnow := h2.now
  unfold pcheckM
  cases hp : p.now with
  | some t =>
    rw [hp] at hnow
    obtain ⟨nb, mb, hnv, -⟩ := hnow
    subst hnv
    simp only [Option.isSome_some, true_or, if_true]
    clear h1 h2 h3 h4 hb hx hp
    go_enter Tryz.func22, Tryz.ntmps22
    go_wp2_with fail
    go_ret
    exact ⟨rfl, H.out, fun _ _ => rfl⟩
  | none =>
    rw [hp] at hnow
    have hnv : nv = .pointer none := hnow
    subst hnv
    by_cases ho : 0 < p.opn
    · have b1 : decide (0 < p.opn) = true := by simpa using ho
      rw [if_pos (.inr ho)]
      clear h1 h2 h3 h4 hb hx hp ho
      go_enter Tryz.func22, Tryz.ntmps22
      go_wp2_with fail
      go_ret
      exact ⟨rfl, H.out, fun _ _ => rfl⟩
    · have b1 : decide (0 < p.opn) = false := by simpa using ho
      rw [if_neg (by simpa using ho)]
      have CK := hid ((lcheck_any h1 N hsm hN).mono fun e w' (hh : e = .returned (.int .i64 (lcheckM g d).1) ∧ LgDid W l b F G (lcheckM g d).2.1 (lcheckM g d).2.2 w') => (⟨hh.1, pgx_log h1 h2 h3 h4 hb hx hh.2⟩ : e = .returned (.int .i64 (lcheckM g d).1) ∧ (PgX w w' pb l b p (lcheckM g d).2.1 (lcheckM g d).2.2 X ∧ ∀ k, X k → w'.heap[k]? = W.heap[k]?)))
      obtain ⟨r, hr⟩ : ∃ r, r = lcheckM g d := ⟨_, rfl⟩
      rw [← hr] at CK ⊢
      clear h1 h2 h3 h4 hb hx hp ho hr
      go_enter Tryz.func22, Tryz.ntmps22
      go_wp2_with (first
        | (go_at_call 57; refine (CK.out).mono ?_; rintro e w1 ⟨rfl, hh⟩; have HH := hid hh; clear hh)
        | go_in)
      go_ret
      exact ⟨rfl, HH.out⟩

/-! ### Open -/
theorem px_open (h : MkD w W b d) (ho : lopenM d = (some g, 0)) : Calls Tryz.prog 9 #[.pointer (some ⟨b, 0, none⟩)] W fun e w' => ∃ pb l, e = .returned (.tuple #[.pointer (some ⟨pb, 0, none⟩), .int .i64 0]) ∧ PgX w w' pb l b ⟨none, [], 0⟩ g d (fun k => k < w.heap.size) := by
  have OP := hid (mk_open h ho)
  clear h ho
  go_enter Tryz.func9, Tryz.ntmps9
  go_wp2_with (first
    | (go_at_call 48; refine (OP.out).mono ?_; rintro e w1 ⟨l, rfl, hm⟩; have HM := hid hm; clear hm)
    | go_in)
  go_ret2
  obtain ⟨⟨F, G, h1, h2⟩, hb⟩ := HM.out
  have hb1 : Below w1.heap.size w1 (w1.alloc (.cells #[.pointer (some ⟨l, 0, none⟩), .pointer none, .slice none 0 0, .int .i64 0] 98)) := (Below.refl _ w1).alloc (Nat.le_refl _) _
  have hn1 := heap_alloc_new w1 (.cells #[.pointer (some ⟨l, 0, none⟩), .pointer none, .slice none 0 0, .int .i64 0] 98)
  refine ⟨w1.heap.size, l, rfl, ⟨F, G, ⟨fun k => k = w1.heap.size, fun _ => False⟩, .pointer none, .slice none 0 0, h1.below hb1, ⟨hn1, rfl, ⟨[], rfl, World.ownsRow_nil _ _ _ _, (fun k hk => by cases hk), (fun x hx => by cases hx)⟩, (fun nb e => by cases e), rfl, (fun k hk => by rw [hk]; exact lt_of_block hn1), (fun k hk => hk.elim), (fun k _ hk => hk), ⟨(fun t ht => by cases ht), (fun t ht => by cases ht), by simp, fun _ => rfl⟩⟩, fun k hk => ?_, fun k hk => ?_⟩, hb.trans (hb1.mono hb.size), fun k hk => ?_⟩
  · rcases hk with hk | hk
    · subst hk
      refine ⟨fun f => ?_, fun f => ?_, fun f => ?_⟩
      · have := h1.flt (k := w1.heap.size) (.inl f); omega
      · have := h1.flt (k := w1.heap.size) (.inr (.inl f)); omega
      · have := h1.flt (k := w1.heap.size) (.inr (.inr f)); omega
    · exact hk.elim
  · rcases hk with hk | hk | hk
    · have := h2 k hk
      exact ⟨this, by omega⟩
    · have := hb.size
      have hk : k = w1.heap.size := hk
      exact ⟨by omega, by omega⟩
    · exact hk.elim
  · have := hb.size
    have := hb1.size
    omega
end
end Go.Proofs.YtmajfepbbeecjaaGreat
/- A pager's views. -/
namespace Go.Proofs.YtmajfepbbeecjaaGreat
open Go.RowKit Go.Maps
set_option linter.unusedVariables false
set_option linter.unusedSimpArgs false
set_option maxRecDepth 20000

/-- A view in memory. -/
def VwAt (W : World) (vb pb : Nat) (pages mark : Int) (closed : Bool) : Prop := W.heap[vb]? = some (.cells #[.pointer (some ⟨pb, 0, none⟩), .int .i64 pages, .int .i64 mark, .bool closed] 124 (0, 0))
section
variable {w W W' : World} {pb l b vb : Nat} {p p' : Pg} {g g' : Lg} {d d' : Dsk} {X X' : Nat → Prop} {F K : Foot} {G : Nat → Prop} {nv sv : Value}
theorem VwAt.cells {pages mark : Int} {closed : Bool} (h : VwAt W vb pb pages mark closed) : W.cell? ⟨vb, 0, none⟩ = some (.pointer (some ⟨pb, 0, none⟩)) ∧ W.cell? ⟨vb, 1, none⟩ = some (.int .i64 pages) ∧ W.cell? ⟨vb, 2, none⟩ = some (.int .i64 mark) ∧ W.cell? ⟨vb, 3, none⟩ = some (.bool closed) :=
  ⟨(cell_of_block h 0).trans rfl, (cell_of_block h 1).trans rfl, (cell_of_block h 2).trans rfl, (cell_of_block h 3).trans rfl⟩
/-- How many views there are, set. -/
theorem opn_mem (h : PgMem w pb l K p nv sv) (v : Int) : PgDid w pb l K { p with opn := v } (w.setCell ⟨pb, 3, none⟩ (.int .i64 v)) := by
  have hb := h.blk
  have hf : Frm K.own w (w.setCell ⟨pb, 3, none⟩ (.int .i64 v)) := (Frm.refl _ w).setCell (p := ⟨pb, 3, none⟩) (.inl h.pown) _
  have hS := h.saves_keep (S := fun k => k = pb) (w' := w.setCell ⟨pb, 3, none⟩ (.int .i64 v)) (fun k _ hk => Below.heap_setCell _ ⟨pb, 3, none⟩ _ k hk) (fun k hk => h.row_pb hk) (fun k hk => h.sh_pb hk)
  refine h.to (K' := K) hf ((heap_setCell_same hb 3 (.int .i64 v)).trans rfl) ?_ hS h.nrow (fun k hk => .inl hk) (fun k hk => .inl hk) h.pown (fun k hk h1 _ => by have := h.olt k h1; omega) ⟨h.ok.now, h.ok.saves, h.ok.many, h.ok.none⟩
  have hn := h.now
  revert hn
  show NowAt w K nv p.now → NowAt _ K nv p.now
  cases hp : p.now with
  | none => exact fun hn => hn
  | some t =>
    rintro ⟨nb, mb, h1, h2, h3, h4, h5⟩
    obtain ⟨es, c, h6⟩ := h3.block
    exact ⟨nb, mb, h1, (Below.heap_setCell _ ⟨pb, 3, none⟩ _ nb (ne_type h2 hb (by decide))).trans h2, h3.keep (Below.heap_setCell _ ⟨pb, 3, none⟩ _ mb (ne_cells hb h6).symm), h4, h5⟩
theorem px_opn (h : PgX w W pb l b p g d X) (v : Int) : PgX w (W.setCell ⟨pb, 3, none⟩ (.int .i64 v)) pb l b { p with opn := v } g d X ∧ ∀ k, X k → (W.setCell ⟨pb, 3, none⟩ (.int .i64 v)).heap[k]? = W.heap[k]? := by
  obtain ⟨⟨F, G, K, nv, sv, h1, h2, h3, h4⟩, hb, hx⟩ := h
  exact pgx_did h1 h2 h3 h4 hb hx (opn_mem h2 v)
theorem PgX.cell (h : PgX w W pb l b p g d X) : (∃ nv sv, W.heap[pb]? = some (.cells #[.pointer (some ⟨l, 0, none⟩), nv, sv, .int .i64 p.opn] 98 (0, 0))) ∧ ¬ X pb := by
  obtain ⟨⟨F, G, K, nv, sv, h1, h2, h3, h4⟩, hb, hx⟩ := h
  exact ⟨⟨nv, sv, h2.blk⟩, (h4 pb (.inr (.inl h2.pown))).2⟩
/-- The law's own blocks turned alone. -/
theorem px_law (h : PgX w W pb l b p g d X) (hf : Frm X W W') (hX : ∀ k, X k → w.heap.size ≤ k ∨ W'.heap[k]? = W.heap[k]?) : PgX w W' pb l b p g d X := by
  obtain ⟨⟨F, G, K, nv, sv, h1, h2, h3, h4⟩, hb, hx⟩ := h
  have hst : LgStep ⟨X, fun _ => False⟩ ⟨X, fun _ => False⟩ (fun _ => False) (fun _ => False) W W' :=
    ⟨⟨hf.os, hf.tape, hf.output, hf.size, fun k hk hn => hf.block k hk (fun e => hn (.inl e))⟩, fun k hk => .inl hk, fun k hk => .inl hk, fun k hk => .inl hk⟩
  refine ⟨⟨F, G, K, nv, sv, h1.other (b2 := 0) hst (fun k hk => ⟨(h4 k (.inl hk)).2, id⟩), h2.keep (fun k hk => hf.block k (h2.klt hk) (h4 k (.inr hk)).2) hf.size, h3, h4⟩, ⟨hf.os.trans hb.os, hf.tape.trans hb.tape, hf.output.trans hb.output, Nat.le_trans hb.size hf.size, fun k hk => ?_⟩, fun k hk => Nat.lt_of_lt_of_le (hx k hk) hf.size⟩
  have hkW : k < W.heap.size := Nat.lt_of_lt_of_le hk hb.size
  rcases Classical.em (X k) with e | e
  · exact ((hX k e).resolve_left (by omega)).trans (hb.block k hk)
  · exact (hf.block k hkW e).trans (hb.block k hk)
/-- One more block of the law's. -/
theorem px_add (h : PgX w W pb l b p g d X) (hb : Below W.heap.size W W') (hx : ∀ k, X' k → X k ∨ W.heap.size ≤ k) (hlt : ∀ k, X' k → k < W'.heap.size) : PgX w W' pb l b p g d X' := by
  obtain ⟨⟨F, G, K, nv, sv, h1, h2, h3, h4⟩, hb1, hx1⟩ := h
  refine ⟨⟨F, G, K, nv, sv, h1.below hb, h2.below hb, h3, fun k hk => ⟨(h4 k hk).1, fun e => ?_⟩⟩, hb1.trans (hb.mono hb1.size), hlt⟩
  rcases hx k e with e | e
  · exact (h4 k hk).2 e
  · rcases hk with hk | hk
    · have := h1.flt hk; omega
    · have := h2.klt hk; omega

theorem px_view (h : PgX w W pb l b p g d X) (ho : 0 ≤ p.opn ∧ p.opn ≤ 1000000) : Calls Tryz.prog 21 #[.pointer (some ⟨pb, 0, none⟩)] W fun e w' => ∃ vb, e = .returned (.tuple #[.pointer (some ⟨vb, 0, none⟩), .int .i64 0]) ∧ PgX w w' pb l b { p with opn := p.opn + 1 } g d (fun k => X k ∨ k = vb) ∧ (∀ k, X k → w'.heap[k]? = W.heap[k]?) ∧ VwAt w' vb pb g.head.pages g.list.length false ∧ W.heap.size ≤ vb := by
  obtain ⟨⟨nv, sv, hblk⟩, hnx⟩ := h.cell
  have c0 : W.cell? ⟨pb, 0, none⟩ = some (.pointer (some ⟨l, 0, none⟩)) := (cell_of_block hblk 0).trans rfl
  have c3 : W.cell? ⟨pb, 3, none⟩ = some (.int .i64 p.opn) := (cell_of_block hblk 3).trans rfl
  have f3 := free_of_block hblk 3
  obtain ⟨o, hoe⟩ : ∃ o, o = p.opn := ⟨_, rfl⟩
  rw [← hoe] at c3 ho ⊢
  have Hoe := hid hoe
  have hw1 : IntKind.i64.wrap (o + 1) = o + 1 := IntWalk.i64_in _ (by omega)
  obtain ⟨h1, hk1⟩ := px_opn h (o + 1)
  have hblk1 := heap_setCell_same hblk 3 (.int .i64 (o + 1))
  have k0 : (W.setCell ⟨pb, 3, none⟩ (.int .i64 (o + 1))).cell? ⟨pb, 0, none⟩ = some (.pointer (some ⟨l, 0, none⟩)) := (cell_of_block hblk1 0).trans rfl
  have LP := hid (mk_pages (h1.below (Below.refl _ _).drew).log.mk')
  have LM := hid (mk_mark (h1.below (Below.refl _ _).drew).log.mk')
  have hs1 : (W.setCell ⟨pb, 3, none⟩ (.int .i64 (o + 1))).heap.size = W.heap.size := by simp
  have H1 := hid h1
  have Hk1 := hid hk1
  have K0 := hid k0
  have Hlt := hid (lt_of_block hblk)
  have Hnx := hid hnx
  clear hblk hblk1 h1 hk1 hnx h k0 hoe
  go_enter Tryz.func21, Tryz.ntmps21
  go_upto_region 4 with fail
  obtain ⟨W1, hW1⟩ : ∃ W1, W1 = W.setCell ⟨pb, 3, none⟩ (.int .i64 (o + 1)) := ⟨_, rfl⟩
  rw [← hW1] at LP LM hs1 H1 Hk1 K0 ⊢
  clear hW1 c0 c3 f3
  refine wp_region_held_drew (S := fun W => W.cell? ⟨pb, 0, none⟩ = some (.pointer (some ⟨l, 0, none⟩))) (by kernel_rfl) K0.out (fun hHeld => ?_)
  refine held_take (v := ?vv0) 0 rfl (by kernel_rfl) (by kernel_rfl) (by kernel_rfl) (fun _ _ _ h => h) (by rfl) hHeld ?vy0 ?vr0
  case vy0 => (intro W hSw; go_simp; with_reducible rfl)
  simp only [Act.put, List.setIfInBounds_toArray, List.set_cons_zero, List.set_cons_succ]
  refine held_take (v := ?vv1) 1 rfl (by kernel_rfl) (by kernel_rfl) (by kernel_rfl) (fun _ _ _ h => h) (by rfl) hHeld ?vy1 ?vr1
  case vy1 => (intro W hSw; go_simp; with_reducible rfl)
  simp only [Act.put, List.setIfInBounds_toArray, List.set_cons_zero, List.set_cons_succ]
  refine held_take (v := ?vv2) 2 rfl (by kernel_rfl) (by kernel_rfl) (by kernel_rfl) (fun _ _ _ h => h) (by rfl) hHeld ?vy2 ?vr2
  case vy2 => (intro W hSw; go_simp; with_reducible rfl)
  simp only [Act.put, List.setIfInBounds_toArray, List.set_cons_zero, List.set_cons_succ]
  refine held_take (v := ?vv3) 3 rfl (by kernel_rfl) (by kernel_rfl) (by kernel_rfl) (fun _ _ _ h => h) (by rfl) hHeld ?vy3 ?vr3
  case vy3 => (intro W hSw; go_simp; with_reducible rfl)
  simp only [Act.put, List.setIfInBounds_toArray, List.set_cons_zero, List.set_cons_succ]
  refine held_take (v := ?vv4) 4 rfl (by kernel_rfl) (by kernel_rfl) (by kernel_rfl) (fun _ _ _ h => h) (by rfl) hHeld ?vy4 ?vr4
  case vy4 => (intro W hSw; go_simp; with_reducible rfl)
  simp only [Act.put, List.setIfInBounds_toArray, List.set_cons_zero, List.set_cons_succ]
  refine held_take (v := ?vv6) 6 rfl (by kernel_rfl) (by kernel_rfl) (by kernel_rfl) (fun _ _ _ h => h) (by rfl) hHeld ?vy6 ?vr6
  case vy6 => (intro W hSw; go_simp; with_reducible rfl)
  simp only [Act.put, List.setIfInBounds_toArray, List.set_cons_zero, List.set_cons_succ]
  refine held_take (v := ?vv7) 7 rfl (by kernel_rfl) (by kernel_rfl) (by kernel_rfl) (fun _ _ _ h => h) (by rfl) hHeld ?vy7 ?vr7
  case vy7 => (intro W hSw; go_simp; with_reducible rfl)
  simp only [Act.put, List.setIfInBounds_toArray, List.set_cons_zero, List.set_cons_succ]
  refine held_take (v := ?vv8) 8 rfl (by kernel_rfl) (by kernel_rfl) (by kernel_rfl) (fun _ _ _ h => h) (by rfl) hHeld ?vy8 ?vr8
  case vy8 => (intro W hSw; go_simp; with_reducible rfl)
  simp only [Act.put, List.setIfInBounds_toArray, List.set_cons_zero, List.set_cons_succ]
  refine held_take (v := ?vv9) 9 rfl (by kernel_rfl) (by kernel_rfl) (by kernel_rfl) (fun _ _ _ h => h) (by rfl) hHeld ?vy9 ?vr9
  case vy9 => (intro W hSw; go_simp; with_reducible rfl)
  simp only [Act.put, List.setIfInBounds_toArray, List.set_cons_zero, List.set_cons_succ]
  refine held_one 5 (by kernel_rfl) rfl (fun K hK => ?_)
  go_simp
  refine (LP.out).mono ?_
  rintro e w1 ⟨rfl, hw⟩
  obtain rfl := hw.symm
  try dsimp only
  refine hK.out _ _ (K0.out) (fun hHeld => ?_)
  clear hK K
  try simp only [Act.put, List.setIfInBounds_toArray, List.set_cons_zero, List.set_cons_succ]
  refine held_one 10 (by kernel_rfl) rfl (fun K hK => ?_)
  go_simp
  refine (LM.out).mono ?_
  rintro e w1 ⟨rfl, hw⟩
  obtain rfl := hw.symm
  try dsimp only
  refine hK.out _ _ (K0.out) (fun hHeld => ?_)
  clear hK K
  try simp only [Act.put, List.setIfInBounds_toArray, List.set_cons_zero, List.set_cons_succ]
  refine held_take (v := ?vcv11) 11 rfl (by kernel_rfl) (by kernel_rfl) (by kernel_rfl) (fun _ _ _ h => h) (by rfl) hHeld ?vcy11 ?vcr11
  case vcy11 => (intro W hSw; go_simp; with_reducible rfl)
  simp only [Act.put, List.setIfInBounds_toArray, List.set_cons_zero, List.set_cons_succ]
  refine held_one 12 (by kernel_rfl) rfl (fun K hK => ?_)
  go_simp
  have hbv : Below W1.heap.size W1 ((W1.alloc (.cells #[.pointer (some ⟨pb, 0, none⟩), .int .i64 g.head.pages, .int .i64 (g.list.length : Int), .bool false] 124)).drew) := ((Below.refl _ W1).alloc (Nat.le_refl _) _).drew
  have hlt1 : pb < W1.heap.size := by rw [hs1]; exact Hlt.out
  have hkv := (hbv.cell (p := ⟨pb, 0, none⟩) hlt1).trans K0.out
  refine hK.out _ _ (hkv) (fun hHeld => ?_)
  clear hK K
  try simp only [Act.put, List.setIfInBounds_toArray, List.set_cons_zero, List.set_cons_succ]
  refine held_take (v := ?vdv13) 13 rfl (by kernel_rfl) (by kernel_rfl) (by kernel_rfl) (fun _ _ _ h => h) (by rfl) hHeld ?vdy13 ?vdr13
  case vdy13 => (intro W hSw; go_simp; with_reducible rfl)
  simp only [Act.put, List.setIfInBounds_toArray, List.set_cons_zero, List.set_cons_succ]
  refine held_take (v := ?vdv14) 14 rfl (by kernel_rfl) (by kernel_rfl) (by kernel_rfl) (fun _ _ _ h => h) (by rfl) hHeld ?vdy14 ?vdr14
  case vdy14 => (intro W hSw; go_simp; with_reducible rfl)
  simp only [Act.put, List.setIfInBounds_toArray, List.set_cons_zero, List.set_cons_succ]
  clear hHeld hkv
  refine wpAnyH_done (by kernel_rfl) ?_ _
  go_wp2_with fail
  go_ret2
  have hnv := heap_alloc_new W1 (.cells #[.pointer (some ⟨pb, 0, none⟩), .int .i64 g.head.pages, .int .i64 (g.list.length : Int), .bool false] 124)
  refine ⟨W.heap.size, rfl, ?_, fun k hk => ?_, by rw [← hs1]; exact hnv, Nat.le_refl _⟩
  · rw [← hs1]
    exact px_add H1.out hbv (fun k hk => hk.elim .inl fun e => .inr (Nat.le_of_eq e.symm)) (fun k hk => hk.elim (fun e => Nat.lt_of_lt_of_le (H1.out.xlt k e) hbv.size) (fun e => by rw [e]; exact lt_of_block hnv))
  · exact (hbv.block k (H1.out.xlt k hk)).trans (Hk1.out k hk)
theorem vread_any (h : PgX w W pb l b p g d X) {pages mark : Int} (hv : VwAt W vb pb pages mark false) (n : Int) : Calls Tryz.prog 23 #[.pointer (some ⟨vb, 0, none⟩), .int .i64 n] W fun e w' => e = .returned (.tuple #[.string (bs (if n < 1 ∨ pages < n then ([], 5) else pageM g d n mark).1), .int .i64 (if n < 1 ∨ pages < n then ([], 5) else pageM g d n mark).2]) ∧ Below W.heap.size W w' := by
  obtain ⟨⟨nv, sv, hblk⟩, hnx⟩ := h.cell
  have c0 := (cell_of_block hblk 0).trans rfl
  obtain ⟨v0, v1, v2, v3⟩ := hv.cells
  have PA := fun (W' : World) (hb : Below W.heap.size W W') => mk_page (h.below hb).log.mk' n mark
  have Hvl := hid (lt_of_block hv)
  have Hpl := hid (lt_of_block hblk)
  obtain ⟨pgm, hpg⟩ : ∃ x, x = pageM g d n mark := ⟨_, rfl⟩
  rw [← hpg] at PA ⊢
  have PA := hid PA
  have HB := hid (Below.refl W.heap.size W)
  clear hblk h hv hpg hnx
  by_cases h1 : n < 1
  · have b1 : decide (n < 1) = true := by simpa using h1
    simp only [h1, true_or, if_true]
    clear h1
    go_enter Tryz.func23, Tryz.ntmps23
    go_wp2_with fail
    go_ret2
    exact ⟨rfl, HB.out⟩
  by_cases h2 : pages < n
  · have b1 : decide (n < 1) = false := by simpa using h1
    have b2 : decide (pages < n) = true := by simpa using h2
    simp only [h2, or_true, if_true]
    clear h1 h2
    go_enter Tryz.func23, Tryz.ntmps23
    go_wp2_with fail
    go_ret2
    exact ⟨rfl, HB.out⟩
  rw [if_neg (by omega)]
  have b1 : decide (n < 1) = false := by simpa using h1
  have b2 : decide (pages < n) = false := by simpa using h2
  clear h1 h2
  go_enter Tryz.func23, Tryz.ntmps23
  go_upto_region 7 with fail
  have HS := hid (And.intro v0 (And.intro v2 c0))
  refine wp_region_held_drew (S := fun W => W.cell? ⟨vb, 0, none⟩ = some (.pointer (some ⟨pb, 0, none⟩)) ∧ W.cell? ⟨vb, 2, none⟩ = some (.int .i64 mark) ∧ W.cell? ⟨pb, 0, none⟩ = some (.pointer (some ⟨l, 0, none⟩))) (by kernel_rfl) HS.out (fun hHeld => ?_)
  clear c0 v0 v1 v2 v3
  refine held_take (v := ?vv0) 0 rfl (by kernel_rfl) (by kernel_rfl) (by kernel_rfl) (fun _ _ _ h => h) (by rfl) hHeld ?vy0 ?vr0
  case vy0 => (intro W hSw; obtain ⟨y0, y1, y2⟩ := hSw; go_simp; with_reducible rfl)
  simp only [Act.put, List.setIfInBounds_toArray, List.set_cons_zero, List.set_cons_succ]
  refine held_take (v := ?vv1) 1 rfl (by kernel_rfl) (by kernel_rfl) (by kernel_rfl) (fun _ _ _ h => h) (by rfl) hHeld ?vy1 ?vr1
  case vy1 => (intro W hSw; obtain ⟨y0, y1, y2⟩ := hSw; go_simp; with_reducible rfl)
  simp only [Act.put, List.setIfInBounds_toArray, List.set_cons_zero, List.set_cons_succ]
  refine held_take (v := ?vv2) 2 rfl (by kernel_rfl) (by kernel_rfl) (by kernel_rfl) (fun _ _ _ h => h) (by rfl) hHeld ?vy2 ?vr2
  case vy2 => (intro W hSw; obtain ⟨y0, y1, y2⟩ := hSw; go_simp; with_reducible rfl)
  simp only [Act.put, List.setIfInBounds_toArray, List.set_cons_zero, List.set_cons_succ]
  refine held_take (v := ?vv3) 3 rfl (by kernel_rfl) (by kernel_rfl) (by kernel_rfl) (fun _ _ _ h => h) (by rfl) hHeld ?vy3 ?vr3
  case vy3 => (intro W hSw; obtain ⟨y0, y1, y2⟩ := hSw; go_simp; with_reducible rfl)
  simp only [Act.put, List.setIfInBounds_toArray, List.set_cons_zero, List.set_cons_succ]
  refine held_take (v := ?vv4) 4 rfl (by kernel_rfl) (by kernel_rfl) (by kernel_rfl) (fun _ _ _ h => h) (by rfl) hHeld ?vy4 ?vr4
  case vy4 => (intro W hSw; obtain ⟨y0, y1, y2⟩ := hSw; go_simp; with_reducible rfl)
  simp only [Act.put, List.setIfInBounds_toArray, List.set_cons_zero, List.set_cons_succ]
  refine held_take (v := ?vv5) 5 rfl (by kernel_rfl) (by kernel_rfl) (by kernel_rfl) (fun _ _ _ h => h) (by rfl) hHeld ?vy5 ?vr5
  case vy5 => (intro W hSw; obtain ⟨y0, y1, y2⟩ := hSw; go_simp; with_reducible rfl)
  simp only [Act.put, List.setIfInBounds_toArray, List.set_cons_zero, List.set_cons_succ]
  refine held_take (v := ?vv6) 6 rfl (by kernel_rfl) (by kernel_rfl) (by kernel_rfl) (fun _ _ _ h => h) (by rfl) hHeld ?vy6 ?vr6
  case vy6 => (intro W hSw; obtain ⟨y0, y1, y2⟩ := hSw; go_simp; with_reducible rfl)
  simp only [Act.put, List.setIfInBounds_toArray, List.set_cons_zero, List.set_cons_succ]
  refine held_take (v := ?vv7) 7 rfl (by kernel_rfl) (by kernel_rfl) (by kernel_rfl) (fun _ _ _ h => h) (by rfl) hHeld ?vy7 ?vr7
  case vy7 => (intro W hSw; obtain ⟨y0, y1, y2⟩ := hSw; go_simp; with_reducible rfl)
  simp only [Act.put, List.setIfInBounds_toArray, List.set_cons_zero, List.set_cons_succ]
  refine held_take (v := ?vv8) 8 rfl (by kernel_rfl) (by kernel_rfl) (by kernel_rfl) (fun _ _ _ h => h) (by rfl) hHeld ?vy8 ?vr8
  case vy8 => (intro W hSw; obtain ⟨y0, y1, y2⟩ := hSw; go_simp; with_reducible rfl)
  simp only [Act.put, List.setIfInBounds_toArray, List.set_cons_zero, List.set_cons_succ]
  refine held_take (v := ?vv9) 9 rfl (by kernel_rfl) (by kernel_rfl) (by kernel_rfl) (fun _ _ _ h => h) (by rfl) hHeld ?vy9 ?vr9
  case vy9 => (intro W hSw; obtain ⟨y0, y1, y2⟩ := hSw; go_simp; with_reducible rfl)
  simp only [Act.put, List.setIfInBounds_toArray, List.set_cons_zero, List.set_cons_succ]
  refine held_take (v := ?vv10) 10 rfl (by kernel_rfl) (by kernel_rfl) (by kernel_rfl) (fun _ _ _ h => h) (by rfl) hHeld ?vy10 ?vr10
  case vy10 => (intro W hSw; obtain ⟨y0, y1, y2⟩ := hSw; go_simp; with_reducible rfl)
  simp only [Act.put, List.setIfInBounds_toArray, List.set_cons_zero, List.set_cons_succ]
  refine held_take (v := ?vv11) 11 rfl (by kernel_rfl) (by kernel_rfl) (by kernel_rfl) (fun _ _ _ h => h) (by rfl) hHeld ?vy11 ?vr11
  case vy11 => (intro W hSw; obtain ⟨y0, y1, y2⟩ := hSw; go_simp; with_reducible rfl)
  simp only [Act.put, List.setIfInBounds_toArray, List.set_cons_zero, List.set_cons_succ]
  refine held_one 12 (by kernel_rfl) rfl (fun K hK => ?_)
  go_simp
  refine (PA.out W.drew (Below.refl _ _).drew).mono ?_
  rintro e w1 ⟨rfl, hb⟩
  have Hb := hid (below_undrew hb)
  have hs1 := And.intro ((Hb.out.cell (p := ⟨vb, 0, none⟩) Hvl.out).trans HS.out.1) (And.intro ((Hb.out.cell (p := ⟨vb, 2, none⟩) Hvl.out).trans HS.out.2.1) ((Hb.out.cell (p := ⟨pb, 0, none⟩) Hpl.out).trans HS.out.2.2))
  clear hb
  try dsimp only
  refine hK.out _ _ (hs1) (fun hHeld => ?_)
  clear hK K
  try simp only [Act.put, List.setIfInBounds_toArray, List.set_cons_zero, List.set_cons_succ]
  refine held_take (v := ?vbv13) 13 rfl (by kernel_rfl) (by kernel_rfl) (by kernel_rfl) (fun _ _ _ h => h) (by rfl) hHeld ?vby13 ?vbr13
  case vby13 => (intro W hSw; obtain ⟨y0, y1, y2⟩ := hSw; go_simp; with_reducible rfl)
  simp only [Act.put, List.setIfInBounds_toArray, List.set_cons_zero, List.set_cons_succ]
  refine held_take (v := ?vbv14) 14 rfl (by kernel_rfl) (by kernel_rfl) (by kernel_rfl) (fun _ _ _ h => h) (by rfl) hHeld ?vby14 ?vbr14
  case vby14 => (intro W hSw; obtain ⟨y0, y1, y2⟩ := hSw; go_simp; with_reducible rfl)
  simp only [Act.put, List.setIfInBounds_toArray, List.set_cons_zero, List.set_cons_succ]
  refine held_take (v := ?vbv15) 15 rfl (by kernel_rfl) (by kernel_rfl) (by kernel_rfl) (fun _ _ _ h => h) (by rfl) hHeld ?vby15 ?vbr15
  case vby15 => (intro W hSw; obtain ⟨y0, y1, y2⟩ := hSw; go_simp; with_reducible rfl)
  simp only [Act.put, List.setIfInBounds_toArray, List.set_cons_zero, List.set_cons_succ]
  refine held_take (v := ?vbv16) 16 rfl (by kernel_rfl) (by kernel_rfl) (by kernel_rfl) (fun _ _ _ h => h) (by rfl) hHeld ?vby16 ?vbr16
  case vby16 => (intro W hSw; obtain ⟨y0, y1, y2⟩ := hSw; go_simp; with_reducible rfl)
  simp only [Act.put, List.setIfInBounds_toArray, List.set_cons_zero, List.set_cons_succ]
  clear hHeld hs1
  refine wpAnyH_done (by kernel_rfl) ?_ _
  go_wp2_with fail
  go_ret2
  exact ⟨rfl, Hb.out⟩
theorem vpages_any {pages mark : Int} {closed : Bool} (hv : VwAt W vb pb pages mark closed) : Calls Tryz.prog 24 #[.pointer (some ⟨vb, 0, none⟩)] W fun e w' => e = .returned (.int .i64 (if closed then 0 else pages)) ∧ w' = W := by
  obtain ⟨v0, v1, v2, v3⟩ := hv.cells
  clear hv
  cases closed <;> simp only [if_true, Bool.false_eq_true, if_false]
  all_goals
    go_enter Tryz.func24, Tryz.ntmps24
    go_wp2_with fail
    go_ret
    exact ⟨rfl, rfl⟩
theorem vclose_any (h : PgX w W pb l b p g d X) (hX : X vb) (hwv : w.heap.size ≤ vb) {pages mark : Int} (hv : VwAt W vb pb pages mark false) (ho : 1 ≤ p.opn ∧ p.opn ≤ 1000001) :
    Calls Tryz.prog 25 #[.pointer (some ⟨vb, 0, none⟩)] W fun e w' => e = .returned (.int .i64 0) ∧ PgX w w' pb l b { p with opn := p.opn - 1 } g d X ∧ (∀ k, X k → k ≠ vb → w'.heap[k]? = W.heap[k]?) ∧ VwAt w' vb pb pages mark true := by
  obtain ⟨v0, v1, v2, v3⟩ := hv.cells
  have vf := free_of_block hv 3
  have hv1 := heap_setCell_same hv 3 (.bool true)
  have hf1 : Frm X W (W.setCell ⟨vb, 3, none⟩ (.bool true)) := (Frm.refl _ W).setCell (p := ⟨vb, 3, none⟩) (.inl hX) _
  have ho1 : ∀ k, k ≠ vb → (W.setCell ⟨vb, 3, none⟩ (.bool true)).heap[k]? = W.heap[k]? := fun k hk => Below.heap_setCell _ ⟨vb, 3, none⟩ _ k hk
  have h1 := px_law h hf1 (fun k hk => by
    by_cases e : k = vb
    · exact .inl (by omega)
    · exact .inr (ho1 k e))
  obtain ⟨⟨nv, sv, hblk⟩, hnx⟩ := h1.cell
  obtain ⟨h2, hk2⟩ := px_opn h1 (p.opn - 1)
  obtain ⟨o, hoe⟩ : ∃ o, o = p.opn := ⟨_, rfl⟩
  rw [← hoe] at hblk h2 hk2 ho ⊢
  have c3 : (W.setCell ⟨vb, 3, none⟩ (.bool true)).cell? ⟨pb, 3, none⟩ = some (.int .i64 o) := (cell_of_block hblk 3).trans rfl
  have f3 := free_of_block hblk 3
  have q0 : (W.setCell ⟨vb, 3, none⟩ (.bool true)).cell? ⟨vb, 0, none⟩ = some (.pointer (some ⟨pb, 0, none⟩)) := (cell_of_block hv1 0).trans rfl
  have hw1 : IntKind.i64.wrap (o - 1) = o - 1 := IntWalk.i64_in _ (by omega)
  obtain ⟨W1, hW1⟩ : ∃ W1, W1 = W.setCell ⟨vb, 3, none⟩ (.bool true) := ⟨_, rfl⟩
  have HW1 := hid hW1
  rw [← hW1] at hv1 ho1 h1 hblk h2 hk2 c3 f3 q0
  have H2 := hid h2
  have Hk2 := hid hk2
  have Ho1 := hid ho1
  have Hv1 := hid hv1
  have HX := hid hX
  have Hoe := hid hoe
  clear hf1 hblk h2 hk2 ho1 hv1 h1 h hX hv hoe hnx hW1
  go_enter Tryz.func25, Tryz.ntmps25
  go_upto_region 6 with fail
  rw [← HW1.out]
  clear v0 v1 v2 v3 vf
  go_wp2_with fail
  go_ret
  refine ⟨rfl, H2.out, fun k hk hne => (Hk2.out k hk).trans (Ho1.out k hne), ?_⟩
  exact (Hk2.out vb HX.out).trans (Hv1.out.trans rfl)
end
end Go.Proofs.YtmajfepbbeecjaaGreat
