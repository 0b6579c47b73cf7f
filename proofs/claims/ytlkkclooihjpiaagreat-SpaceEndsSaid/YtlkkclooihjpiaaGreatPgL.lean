import Derived.Test.YtlkkclooihjpiaaGreatPgJ
set_option linter.unusedVariables false
set_option linter.unusedSimpArgs false
namespace Go.Proofs.YtlkkclooihjpiaaGreat
open Go.RowKit Go.Maps
set_option maxRecDepth 20000
section
variable {w W W' : World} {pb l b : Nat} {p p' : Pg} {g g' : Lg} {d d' : Dsk} {X X' : Nat → Prop}
theorem px_pages (h : PgX w W pb l b p g d X) : Calls Tryz.prog 9 #[.pointer (some ⟨pb, 0, none⟩)] W fun e w' => e = .returned (.int .i64 (ppagesM p g)) ∧ w' = W := by
 obtain ⟨⟨F, G, K, nv, sv, h1, h2, h3, h4⟩, hb, hx⟩ := h
 exact ppages_any h1 h2
theorem px_read (h : PgX w W pb l b p g d X) (n : Int) (hn : -9223372036854775808 ≤ n ∧ n ≤ 9223372036854775807) : Calls Tryz.prog 28 #[.pointer (some ⟨pb, 0, none⟩), .int .i64 n] W fun e w' => e = .returned (.tuple #[.string (bs (preadM p g d n).1), .int .i64 (preadM p g d n).2]) ∧ Below W.heap.size W w' := by
 obtain ⟨⟨F, G, K, nv, sv, h1, h2, h3, h4⟩, hb, hx⟩ := h
 exact pread_any h1 h2 n hn
theorem px_begin (h : PgX w W pb l b p g d X) : Calls Tryz.prog 30 #[.pointer (some ⟨pb, 0, none⟩)] W fun e w' => e = .returned (.int .i64 (beginM p g).1) ∧ PgX w w' pb l b (beginM p g).2 g d X ∧ ∀ k, X k → w'.heap[k]? = W.heap[k]? := by
 obtain ⟨⟨F, G, K, nv, sv, h1, h2, h3, h4⟩, hb, hx⟩ := h
 exact (begin_any h1 h2).mono fun e w' ⟨he, hd⟩ => ⟨he, pgx_did h1 h2 h3 h4 hb hx hd⟩
theorem px_write (h : PgX w W pb l b p g d X) (n : Int) (s : List UInt8) (hn : -9223372036854775808 ≤ n ∧ n ≤ 9223372036854775807) (hsl : s.length ≤ 9223372036854775807) : Calls Tryz.prog 36 #[.pointer (some ⟨pb, 0, none⟩), .int .i64 n, .string (bs s)] W fun e w' => e = .returned (.int .i64 (pwriteM p n s).1) ∧ PgX w w' pb l b (pwriteM p n s).2 g d X ∧ ∀ k, X k → w'.heap[k]? = W.heap[k]? := by
 obtain ⟨⟨F, G, K, nv, sv, h1, h2, h3, h4⟩, hb, hx⟩ := h
 exact (pwrite_any h2 n s hn hsl).mono fun e w' ⟨he, hd⟩ => ⟨he, pgx_did h1 h2 h3 h4 hb hx hd⟩
theorem px_resize (h : PgX w W pb l b p g d X) (n : Int) (hn : -9223372036854775808 ≤ n ∧ n ≤ 9223372036854775807) : Calls Tryz.prog 31 #[.pointer (some ⟨pb, 0, none⟩), .int .i64 n] W fun e w' => e = .returned (.int .i64 (presizeM p n).1) ∧ PgX w w' pb l b (presizeM p n).2 g d X ∧ ∀ k, X k → w'.heap[k]? = W.heap[k]? := by
 obtain ⟨⟨F, G, K, nv, sv, h1, h2, h3, h4⟩, hb, hx⟩ := h
 exact (resize_any h2 n hn).mono fun e w' ⟨he, hd⟩ => ⟨he, pgx_did h1 h2 h3 h4 hb hx hd⟩
theorem px_roll (h : PgX w W pb l b p g d X) : Calls Tryz.prog 15 #[.pointer (some ⟨pb, 0, none⟩)] W fun e w' => e = .returned (.int .i64 (prollM p).1) ∧ PgX w w' pb l b (prollM p).2 g d X ∧ ∀ k, X k → w'.heap[k]? = W.heap[k]? := by
 obtain ⟨⟨F, G, K, nv, sv, h1, h2, h3, h4⟩, hb, hx⟩ := h
 exact (roll_any h2).mono fun e w' ⟨he, hd⟩ => ⟨he, pgx_did h1 h2 h3 h4 hb hx hd⟩
theorem px_open (h : MkD w W b d) (ho : lopenM d = (some g, 0)) : Calls Tryz.prog 8 #[.pointer (some ⟨b, 0, none⟩)] W fun e w' => ∃ pb l, e = .returned (.tuple #[.pointer (some ⟨pb, 0, none⟩), .int .i64 0]) ∧ PgX w w' pb l b ⟨none, [], 0⟩ g d (fun k => k < w.heap.size) := by
 have OP := hid (mk_open h ho)
 clear h ho
 go_enter Tryz.func8, Tryz.ntmps8
 go_wp2_with (first
  | (go_at_call 26; refine (OP.out).mono ?_; rintro e w1 ⟨l, rfl, hm⟩; have HM := hid hm; clear hm)
  | go_in)
 go_ret2
 obtain ⟨⟨F, G, h1, h2⟩, hb⟩ := HM.out
 have hb1 : Below w1.heap.size w1 (w1.alloc (.cells #[.pointer (some ⟨l, 0, none⟩), .pointer none, .slice none 0 0, .int .i64 0] 83)) := (Below.refl _ w1).alloc (Nat.le_refl _) _
 have hn1 := heap_alloc_new w1 (.cells #[.pointer (some ⟨l, 0, none⟩), .pointer none, .slice none 0 0, .int .i64 0] 83)
 refine ⟨w1.heap.size, l, rfl, ⟨F, G, ⟨fun k => k = w1.heap.size, fun _ => False⟩, .pointer none, .slice none 0 0, h1.below hb1, ⟨hn1, rfl, ⟨[], rfl, World.ownsRow_nil _ _ _ _, (fun k hk => by cases hk), (fun x hx => by cases hx)⟩, (fun nb e => by cases e), rfl, (fun k hk => by rw [hk]; exact lt_of_block hn1), (fun k hk => hk.elim), (fun k _ hk => hk), ⟨(fun t ht => by cases ht), (fun t ht => by cases ht), by simp, fun _ => rfl⟩⟩, fun k hk => ?_, fun k hk => ?_⟩, hb.trans (hb1.mono hb.size), fun k hk => ?_⟩
 ·rcases hk with hk | hk
  ·subst hk
   refine ⟨fun f => ?_, fun f => ?_, fun f => ?_⟩
   ·have := h1.flt (k := w1.heap.size) (.inl f); omega
   ·have := h1.flt (k := w1.heap.size) (.inr (.inl f)); omega
   ·have := h1.flt (k := w1.heap.size) (.inr (.inr f)); omega
  ·exact hk.elim
 ·rcases hk with hk | hk | hk
  ·have := h2 k hk
   exact ⟨this, by omega⟩
  ·have := hb.size
   have hk : k = w1.heap.size := hk
   exact ⟨by omega, by omega⟩
  ·exact hk.elim
 ·have := hb.size
  have := hb1.size
  omega
end
end Go.Proofs.YtlkkclooihjpiaaGreat
namespace Go.Proofs.YtlkkclooihjpiaaGreat
open Go.RowKit Go.Maps
set_option maxRecDepth 20000
section
variable {w W W' : World} {pb l b vb : Nat} {p p' : Pg} {g g' : Lg} {d d' : Dsk} {X X' : Nat → Prop} {F K : Foot} {G : Nat → Prop} {nv sv : Value}
theorem PgX.cell (h : PgX w W pb l b p g d X) : (∃ nv sv, W.heap[pb]? = some (.cells #[.pointer (some ⟨l, 0, none⟩), nv, sv, .int .i64 p.opn] 83 (0, 0))) ∧ ¬ X pb := by
 obtain ⟨⟨F, G, K, nv, sv, h1, h2, h3, h4⟩, hb, hx⟩ := h
 exact ⟨⟨nv, sv, h2.blk⟩, (h4 pb (.inr (.inl h2.pown))).2⟩
theorem px_law (h : PgX w W pb l b p g d X) (hf : Frm X W W') (hX : ∀ k, X k → w.heap.size ≤ k ∨ W'.heap[k]? = W.heap[k]?) : PgX w W' pb l b p g d X := by
 obtain ⟨⟨F, G, K, nv, sv, h1, h2, h3, h4⟩, hb, hx⟩ := h
 have hst : LgStep ⟨X, fun _ => False⟩ ⟨X, fun _ => False⟩ (fun _ => False) (fun _ => False) W W' :=
  ⟨⟨hf.os, hf.tape, hf.output, hf.size, fun k hk hn => hf.block k hk (fun e => hn (.inl e))⟩, fun k hk => .inl hk, fun k hk => .inl hk, fun k hk => .inl hk⟩
 refine ⟨⟨F, G, K, nv, sv, h1.other (b2 := 0) hst (fun k hk => ⟨(h4 k (.inl hk)).2, id⟩), h2.keep (fun k hk => hf.block k (h2.klt hk) (h4 k (.inr hk)).2) hf.size, h3, h4⟩, ⟨hf.os.trans hb.os, hf.tape.trans hb.tape, hf.output.trans hb.output, Nat.le_trans hb.size hf.size, fun k hk => ?_⟩, fun k hk => Nat.lt_of_lt_of_le (hx k hk) hf.size⟩
 have hkW : k < W.heap.size := Nat.lt_of_lt_of_le hk hb.size
 rcases Classical.em (X k) with e | e
 ·exact ((hX k e).resolve_left (by omega)).trans (hb.block k hk)
 ·exact (hf.block k hkW e).trans (hb.block k hk)
theorem px_add (h : PgX w W pb l b p g d X) (hb : Below W.heap.size W W') (hx : ∀ k, X' k → X k ∨ W.heap.size ≤ k) (hlt : ∀ k, X' k → k < W'.heap.size) : PgX w W' pb l b p g d X' := by
 obtain ⟨⟨F, G, K, nv, sv, h1, h2, h3, h4⟩, hb1, hx1⟩ := h
 refine ⟨⟨F, G, K, nv, sv, h1.below hb, h2.below hb, h3, fun k hk => ⟨(h4 k hk).1, fun e => ?_⟩⟩, hb1.trans (hb.mono hb1.size), hlt⟩
 rcases hx k e with e | e
 ·exact (h4 k hk).2 e
 ·rcases hk with hk | hk
  ·have := h1.flt hk; omega
  ·have := h2.klt hk; omega
end
end Go.Proofs.YtlkkclooihjpiaaGreat
