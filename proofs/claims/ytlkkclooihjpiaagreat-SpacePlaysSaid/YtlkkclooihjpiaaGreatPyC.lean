/- SpacePlays: a pager and the document's world side by side; each call on them. -/
import Derived.Test.YtlkkclooihjpiaaGreatPyB
import Derived.Test.YtlkkclooihjpiaaGreatPzC
set_option linter.unusedVariables false
set_option linter.unusedSimpArgs false
namespace Go.Proofs.YtlkkclooihjpiaaGreat
open Go.RowKit Go.Maps
set_option maxRecDepth 20000
section
variable {w W W' : World} {pb l b wb N : Nat} {p p' : Pg} {g g' : Lg} {d d' : Dsk} {m m2 : RWd} {B X X' : Nat → Prop} {h : Hdr} {M : List (List UInt8)} {F : List Nat} {s : RSt} {t : Tr}
theorem srel_bounds (hR : SRel h M F s) : (1 ≤ s.pages ∧ s.pages ≤ 256) ∧ s.free.length ≤ 900 ∧ s.roots.length = 8 := by
 have h1 := hR.spc.few
 have h2 := hR.spc.short (O := []) (by rw [List.append_nil]; exact hR.spc.nodup) (fun y hy => by cases hy)
 have h3 := hR.pages
 refine ⟨by omega, ?_, by rw [hR.roots]; exact hR.spc.hd.wf.len⟩
 rw [hR.free, List.length_reverse]
 simp at h2
 omega
theorem txs_bounds (hT : TxS g d t s) : (1 ≤ s.pages ∧ s.pages ≤ 256) ∧ s.free.length ≤ 900 ∧ s.roots.length = 8 := by
 obtain ⟨h, M, F, -, hR⟩ := hT
 exact srel_bounds hR
theorem cms_bounds (hC : CmS g d s) : s.free.length ≤ 900 ∧ s.roots.length = 8 ∧ (0 ≤ s.pages ∧ s.pages ≤ 256) := by
 obtain ⟨L, h, M, F, -, ⟨-, -, -, -, rfl⟩ | ⟨-, hR⟩⟩ := hC
 ·exact ⟨by decide, rfl, by decide⟩
 ·have := srel_bounds hR
  exact ⟨this.2.1, this.2.2, by omega⟩
theorem pw_st (hi : PwInv p g d m) : m.st.free.length ≤ 900 ∧ m.st.roots.length = 8 ∧ (0 ≤ m.st.pages ∧ m.st.pages ≤ 256) := by
 unfold RWd.st
 cases hin : m.inn with
 | true =>
  obtain ⟨t, -, hT⟩ := hi.on hin
  have := txs_bounds hT
  rw [if_pos rfl]
  exact ⟨this.2.1, this.2.2, by omega⟩
 | false =>
  rw [if_neg (by simp)]
  exact cms_bounds hi.cm
theorem pw_now (hi : PwInv p g d m) (hin : m.inn = true) : (0 ≤ m.now.pages ∧ m.now.pages ≤ 256) ∧ m.now.free.length ≤ 900 := by
 obtain ⟨t, -, hT⟩ := hi.on hin
 have := txs_bounds hT
 omega
theorem pw_saves (hi : PwInv p g d m) : ∀ s ∈ m.saves, s.free.length ≤ 900 := by
 intro s hs
 cases hin : m.inn with
 | false => rw [(hi.off hin).2] at hs; cases hs
 | true =>
  obtain ⟨i, hi1, hi2⟩ := List.getElem_of_mem hs
  have hl := hi.many
  have := txs_bounds (hi.saves hin i (p.saves[i]'(by omega)) s (List.getElem?_eq_getElem _) (by rw [List.getElem?_eq_getElem hi1, hi2]))
  exact this.2.1
theorem px_law2 (h : PgX w W pb l b p g d X) (hf : Frm X W W') (hge : ∀ k, X k → w.heap.size ≤ k) : PgX w W' pb l b p g d (moreB W W' X) := by
 obtain ⟨⟨F, G, K, nv, sv, h1, h2, h3, h4⟩, hb, hx⟩ := h
 have hst : LgStep ⟨X, fun _ => False⟩ ⟨X, fun _ => False⟩ (fun _ => False) (fun _ => False) W W' :=
  ⟨⟨hf.os, hf.tape, hf.output, hf.size, fun k hk hn => hf.block k hk (fun e => hn (.inl e))⟩, fun k hk => .inl hk, fun k hk => .inl hk, fun k hk => .inl hk⟩
 refine ⟨⟨F, G, K, nv, sv, h1.other (b2 := 0) hst (fun k hk => ⟨(h4 k (.inl hk)).2, id⟩), h2.keep (fun k hk => hf.block k (h2.klt hk) (h4 k (.inr hk)).2) hf.size, h3, fun k hk => ⟨(h4 k hk).1, fun e => ?_⟩⟩, ⟨hf.os.trans hb.os, hf.tape.trans hb.tape, hf.output.trans hb.output, Nat.le_trans hb.size hf.size, fun k hk => ?_⟩, fun k hk => ?_⟩
 ·rcases e with e | e
  ·exact (h4 k hk).2 e
  ·rcases hk with hk | hk
   ·have := h1.flt hk; omega
   ·have := h2.klt hk; omega
 ·have hkW : k < W.heap.size := Nat.lt_of_lt_of_le hk hb.size
  rcases Classical.em (X k) with e | e
  ·have := hge k e; omega
  ·exact (hf.block k hkW e).trans (hb.block k hk)
 ·rcases hk with e | e
  ·exact Nat.lt_of_lt_of_le (hx k e) hf.size
  ·exact e.2
theorem pg_few (hi : PwInv p g d m) : g.head.pages ≤ 256 := by
 obtain ⟨L, h, M, F, hS, -⟩ := hi.cm
 have h1 := hS.db.pages
 have h2 := hS.db.many
 omega
structure PySt (w W : World) (pb l b wb : Nat) (p : Pg) (g : Lg) (d : Dsk) (m m2 : RWd) (N : Nat) (B X : Nat → Prop) : Prop where
 px : PgX w W pb l b p g d X
 inv : PwInv p g d m2
 wd : WdX W w.heap.size wb m B
 sub : ∀ k, B k → X k
 ge : ∀ k, X k → w.heap.size ≤ k
 sm : d.Small N
theorem PySt.below (h : PySt w W pb l b wb p g d m m2 N B X) (hb : Below W.heap.size W W') : PySt w W' pb l b wb p g d m m2 N B X :=
 ⟨h.px.below hb, h.inv, h.wd.keep (fun k hk => hb.block k (h.px.xlt k (h.sub k hk))), h.sub, h.ge, h.sm⟩
theorem PySt.pg {N' : Nat} {g' : Lg} {d' : Dsk} {p' : Pg} {m3 : RWd} {pb' l' : Nat} (h : PySt w W pb l b wb p g d m m2 N B X) (hx : PgX w W' pb' l' b p' g' d' X) (hi : PwInv p' g' d' m3) (hk : ∀ k, X k → W'.heap[k]? = W.heap[k]?) (hs : d'.Small N') : PySt w W' pb' l' b wb p' g' d' m m3 N' B X :=
 ⟨hx, hi, h.wd.keep (fun k e => hk k (h.sub k e)), h.sub, h.ge, hs⟩
structure PyRef (w W W' : World) (pb l b wb : Nat) (p : Pg) (g : Lg) (d : Dsk) (m : RWd) (N : Nat) (B X : Nat → Prop) : Prop where
 st : PySt w W' pb l b wb p g d m m N (moreB W W' B) (moreB W W' X)
 frm : Frm B W W'
theorem PySt.ref (h : PySt w W pb l b wb p g d m m2 N B X) (hd : WdDid W W' w.heap.size wb m2 B) : PyRef w W W' pb l b wb p g d m2 N B X := by
 have hf := hd.f
 refine ⟨⟨px_law2 h.px (hf.mono h.sub) h.ge, h.inv, hd.x, fun k hk => hk.imp (h.sub k) id, fun k hk => ?_, h.sm⟩, hf⟩
 rcases hk with e | e
 ·exact h.ge k e
 ·have := h.px.bel.size; omega
theorem PySt.add {k0 : Nat} (h : PySt w W pb l b wb p g d m m2 N B X) (hb : Below W.heap.size W W') (h1 : W.heap.size ≤ k0) (h2 : k0 < W'.heap.size) : PySt w W' pb l b wb p g d m m2 N B (fun k => X k ∨ k = k0) := by
 have hx := px_add (X' := fun k => X k ∨ k = k0) h.px hb (fun k hk => hk.imp id (fun e => by omega)) (fun k hk => by
  rcases hk with e | e
  ·exact Nat.lt_of_lt_of_le (h.px.xlt k e) hb.size
  ·omega)
 refine ⟨hx, h.inv, h.wd.keep (fun k hk => hb.block k (h.px.xlt k (h.sub k hk))), fun k hk => .inl (h.sub k hk), fun k hk => ?_, h.sm⟩
 rcases hk with e | e
 ·exact h.ge k e
 ·have := h.px.bel.size; omega
theorem PySt.begin (h : PySt w W pb l b wb p g d m m N B X) : Calls Tryz.prog 11 #[.pointer (some ⟨pb, 0, none⟩)] W fun e w' => ∃ p', e = .returned (.int .i64 (rbeginM m).1) ∧ PySt w w' pb l b wb p' g d m (rbeginM m).2 N B X ∧ ∀ k, X k → w'.heap[k]? = W.heap[k]? := by
 have hi := pw_begin h.inv
 refine (sbegin_any h.px).mono ?_
 rintro e w' ⟨rfl, h1, h2⟩
 exact ⟨_, by rw [hi.1], h.pg h1 hi.2 h2 h.sm, h2⟩
theorem PySt.rbegin (h : PySt w W pb l b wb p g d m (rbeginM m).2 N B X) (hm : m.sure.free.length ≤ 900) : Calls Tryz.prog 38 #[.pointer (some ⟨wb, 0, none⟩)] W fun e w' => e = .returned (.int .i64 (rbeginM m).1) ∧ PyRef w W w' pb l b wb p g d (rbeginM m).2 N B X := by
 refine (rbegin_any h.wd (fun k hk => h.px.xlt k (h.sub k hk)) hm h.px.bel.size).mono ?_
 rintro e w' ⟨rfl, h1⟩
 exact ⟨rfl, h.ref h1⟩
theorem PySt.alloc (h : PySt w W pb l b wb p g d m m N B X) : Calls Tryz.prog 12 #[.pointer (some ⟨pb, 0, none⟩)] W fun e w' => ∃ p', e = .returned (.tuple #[.int .i64 (rallocM m).1, .int .i64 (rallocM m).2.1]) ∧ PySt w w' pb l b wb p' g d m (rallocM m).2.2 N B X ∧ ∀ k, X k → w'.heap[k]? = W.heap[k]? := by
 refine (pw_alloc h.px h.inv).mono ?_
 rintro e w' ⟨p', rfl, h1, h2, h3⟩
 exact ⟨_, rfl, h.pg h1 h2 h3 h.sm, h3⟩
theorem PySt.ralloc (h : PySt w W pb l b wb p g d m (rallocM m).2.2 N B X) (hm : m.inn = true → 0 ≤ m.now.pages ∧ m.now.pages ≤ 256) : Calls Tryz.prog 39 #[.pointer (some ⟨wb, 0, none⟩)] W fun e w' => e = .returned (.tuple #[.int .i64 (rallocM m).1, .int .i64 (rallocM m).2.1]) ∧ PyRef w W w' pb l b wb p g d (rallocM m).2.2 N B X := by
 refine (ralloc_any h.wd hm).mono ?_
 rintro e w' ⟨rfl, h1⟩
 exact ⟨rfl, h.ref h1⟩
theorem PySt.free (h : PySt w W pb l b wb p g d m m N B X) (n : Int) (hn : in64 n) (hF : ¬ (∃ k ∈ m.st.free, (k : Int) = n)) : Calls Tryz.prog 13 #[.pointer (some ⟨pb, 0, none⟩), .int .i64 n] W fun e w' => ∃ p', e = .returned (.int .i64 (rfreeM m n).1) ∧ PySt w w' pb l b wb p' g d m (rfreeM m n).2 N B X ∧ ∀ k, X k → w'.heap[k]? = W.heap[k]? := by
 have hi := pw_free h.inv n hF
 refine (sfree_any h.px n hn).mono ?_
 rintro e w' ⟨rfl, h1, h2⟩
 exact ⟨_, by rw [hi.1], h.pg h1 hi.2 h2 h.sm, h2⟩
theorem PySt.rfree (n : Int) (h : PySt w W pb l b wb p g d m (rfreeM m n).2 N B X) (hm : m.inn = true → 0 ≤ m.now.pages ∧ m.now.pages ≤ 256) (hl : m.inn = true → m.now.free.length ≤ 900) : Calls Tryz.prog 40 #[.pointer (some ⟨wb, 0, none⟩), .int .i64 n] W fun e w' => e = .returned (.int .i64 (rfreeM m n).1) ∧ PyRef w W w' pb l b wb p g d (rfreeM m n).2 N B X := by
 refine (rfree_any h.wd n hm hl h.px.bel.size).mono ?_
 rintro e w' ⟨rfl, h1⟩
 exact ⟨rfl, h.ref h1⟩
theorem PySt.root (h : PySt w W pb l b wb p g d m m N B X) (i n : Int) (hi : in64 i) (hn : in64 n) : Calls Tryz.prog 14 #[.pointer (some ⟨pb, 0, none⟩), .int .i64 i, .int .i64 n] W fun e w' => ∃ p', e = .returned (.int .i64 (rrootM m i n).1) ∧ PySt w w' pb l b wb p' g d m (rrootM m i n).2 N B X ∧ ∀ k, X k → w'.heap[k]? = W.heap[k]? := by
 have hi2 := pw_root h.inv i n
 refine (sroot_any h.px i n hi hn).mono ?_
 rintro e w' ⟨rfl, h1, h2⟩
 exact ⟨_, by rw [hi2.1], h.pg h1 hi2.2 h2 h.sm, h2⟩
theorem PySt.rroot (i n : Int) (h : PySt w W pb l b wb p g d m (rrootM m i n).2 N B X) : Calls Tryz.prog 41 #[.pointer (some ⟨wb, 0, none⟩), .int .i64 i, .int .i64 n] W fun e w' => e = .returned (.int .i64 (rrootM m i n).1) ∧ PyRef w W w' pb l b wb p g d (rrootM m i n).2 N B X := by
 refine (rroot_any h.wd i n).mono ?_
 rintro e w' ⟨rfl, h1⟩
 exact ⟨rfl, h.ref h1⟩
theorem PySt.commit (h : PySt w W pb l b wb p g d m m N B X) (hN : N + 33554432 ≤ 1099511527776) : Calls Tryz.prog 22 #[.pointer (some ⟨pb, 0, none⟩)] W fun e w' => ∃ p' g' d', e = .returned (.int .i64 (rcommitM m).1) ∧ PySt w w' pb l b wb p' g' d' m (rcommitM m).2 (N + 8519680) B X ∧ ∀ k, X k → w'.heap[k]? = W.heap[k]? := by
 have hi := pw_commit h.inv h.px.oks.1
 have hs := spc_small (g := g) (d := d) (N := N) (pg_few h.inv) h.sm p
 refine (scommit_any h.px N h.sm hN).mono ?_
 rintro e w' ⟨rfl, h1, h2⟩
 exact ⟨_, _, _, by rw [hi.1], h.pg h1 hi.2 h2 hs, h2⟩
theorem PySt.rcommit (h : PySt w W pb l b wb p g d m (rcommitM m).2 N B X) : Calls Tryz.prog 42 #[.pointer (some ⟨wb, 0, none⟩)] W fun e w' => e = .returned (.int .i64 (rcommitM m).1) ∧ PyRef w W w' pb l b wb p g d (rcommitM m).2 N B X := by
 refine (rcommit_any h.wd).mono ?_
 rintro e w' ⟨rfl, h1⟩
 exact ⟨rfl, h.ref h1⟩
theorem PySt.roll (h : PySt w W pb l b wb p g d m m N B X) : Calls Tryz.prog 15 #[.pointer (some ⟨pb, 0, none⟩)] W fun e w' => ∃ p', e = .returned (.int .i64 (rrollM m).1) ∧ PySt w w' pb l b wb p' g d m (rrollM m).2 N B X ∧ ∀ k, X k → w'.heap[k]? = W.heap[k]? := by
 have hi := pw_roll h.inv
 refine (px_roll h.px).mono ?_
 rintro e w' ⟨rfl, h1, h2⟩
 exact ⟨_, by rw [hi.1], h.pg h1 hi.2 h2 h.sm, h2⟩
theorem PySt.rroll (h : PySt w W pb l b wb p g d m (rrollM m).2 N B X) : Calls Tryz.prog 18 #[.pointer (some ⟨wb, 0, none⟩)] W fun e w' => e = .returned (.int .i64 (rrollM m).1) ∧ PyRef w W w' pb l b wb p g d (rrollM m).2 N B X := by
 refine (rroll_any h.wd).mono ?_
 rintro e w' ⟨rfl, h1⟩
 exact ⟨rfl, h.ref h1⟩
theorem PySt.save (h : PySt w W pb l b wb p g d m m N B X) (hm : m.saves.length < 60) : Calls Tryz.prog 43 #[.pointer (some ⟨pb, 0, none⟩)] W fun e w' => ∃ p', e = .returned (.tuple #[.int .i64 (rsaveM m).1, .int .i64 (rsaveM m).2.1]) ∧ PySt w w' pb l b wb p' g d m (rsaveM m).2.2 N B X ∧ ∀ k, X k → w'.heap[k]? = W.heap[k]? := by
 have hi := pw_save h.inv hm
 refine (px_save h.px).mono ?_
 rintro e w' ⟨rfl, h1, h2⟩
 exact ⟨_, by rw [hi.1, hi.2.1], h.pg h1 hi.2.2 h2 h.sm, h2⟩
theorem PySt.rsave (h : PySt w W pb l b wb p g d m (rsaveM m).2.2 N B X) (hl : m.inn = true → m.now.free.length ≤ 900) (hm : m.saves.length < 60) : Calls Tryz.prog 44 #[.pointer (some ⟨wb, 0, none⟩)] W fun e w' => e = .returned (.tuple #[.int .i64 (rsaveM m).1, .int .i64 (rsaveM m).2.1]) ∧ PyRef w W w' pb l b wb p g d (rsaveM m).2.2 N B X := by
 refine (rsave_any h.wd hl (by omega) h.px.bel.size).mono ?_
 rintro e w' ⟨rfl, h1⟩
 exact ⟨rfl, h.ref h1⟩
theorem PySt.back (h : PySt w W pb l b wb p g d m m N B X) (k : Int) (hk : in64 k) : Calls Tryz.prog 45 #[.pointer (some ⟨pb, 0, none⟩), .int .i64 k] W fun e w' => ∃ p', e = .returned (.int .i64 (rbackM m k).1) ∧ PySt w w' pb l b wb p' g d m (rbackM m k).2 N B X ∧ ∀ k, X k → w'.heap[k]? = W.heap[k]? := by
 have hi := pw_back h.inv k
 refine (px_back h.px k hk).mono ?_
 rintro e w' ⟨rfl, h1, h2⟩
 exact ⟨_, by rw [hi.1], h.pg h1 hi.2 h2 h.sm, h2⟩
theorem PySt.rback (k : Int) (h : PySt w W pb l b wb p g d m (rbackM m k).2 N B X) (hl : ∀ s ∈ m.saves, s.free.length ≤ 900) : Calls Tryz.prog 46 #[.pointer (some ⟨wb, 0, none⟩), .int .i64 k] W fun e w' => e = .returned (.int .i64 (rbackM m k).1) ∧ PyRef w W w' pb l b wb p g d (rbackM m k).2 N B X := by
 refine (rback_any h.wd k hl h.px.bel.size).mono ?_
 rintro e w' ⟨rfl, h1⟩
 exact ⟨rfl, h.ref h1⟩
theorem PySt.crash (h : PySt w W pb l b wb p g d m m N B X) (hN : N ≤ 1099511627776) : Calls Tryz.prog 17 #[.pointer (some ⟨b, 0, none⟩), .slice none 0 0] W fun e w1 => e = .returned (.int .i64 0) ∧
  Calls Tryz.prog 8 #[.pointer (some ⟨b, 0, none⟩)] w1 fun e w' => ∃ pb2 l2 g2 d2, e = .returned (.tuple #[.pointer (some ⟨pb2, 0, none⟩), .int .i64 0]) ∧ PySt w w' pb2 l2 b wb p0 g2 d2 m (rrollM m).2 N B X ∧ ∀ k, X k → w'.heap[k]? = W.heap[k]? := by
 obtain ⟨g2, c1, c2⟩ := pw_crash h.inv
 refine (px_crash h.px (.slice none 0 0) [] ⟨none, 0, rfl, .inl rfl⟩ (fun q e => by cases e) (h.sm.mono hN) (Nat.zero_le _)).mono ?_
 rintro e w1 ⟨rfl, h1, h2⟩
 refine ⟨rfl, (px_again h1 c1).mono ?_⟩
 rintro e w' ⟨pb2, l2, rfl, h3, h4⟩
 have hk : ∀ k, X k → w'.heap[k]? = W.heap[k]? := fun k hk => (h4 k hk).trans (h2 k hk)
 exact ⟨pb2, l2, g2, _, rfl, h.pg h3 c2 hk ⟨h.sm.ops, Nat.zero_le _, Nat.zero_le _⟩, hk⟩
end
end Go.Proofs.YtlkkclooihjpiaaGreat
