/- UnitLike in memory: a pager's disk armed, crashed, opened anew; the rows of states and of ships kept. -/
import Derived.Test.YtdinjghfjmmjoaaGreatNxI
set_option linter.unusedVariables false
set_option linter.unusedSimpArgs false
namespace Go.Proofs.YtdinjghfjmmjoaaGreat
open Go.RowKit Go.Maps
set_option maxRecDepth 20000
def XW (X : Nat → Prop) (s c : Nat) : Nat → Prop := fun k => X k ∨ (s ≤ k ∧ k < c)
theorem flat_get : ∀ (K : List (Sh × Value)) (i : Nat) (hi : i < K.length) (j : Nat), j < 6 → (K.flatMap fun x => (shCells x.1 x.2).toList)[i * 6 + j]? = (shCells K[i].1 K[i].2).toList[j]?
 | x :: r, 0, _, j, hj => by
  rw [List.flatMap_cons, List.getElem?_append_left (by simpa [shCells] using hj)]
  simp
 | x :: r, i + 1, hi, j, hj => by
  rw [List.flatMap_cons, List.getElem?_append_right (by simp [shCells]; omega), show (i + 1) * 6 + j - (shCells x.1 x.2).toList.length = i * 6 + j by simp [shCells]; omega]
  exact flat_get r i (by simpa using hi) j hj
section
variable {w W W' : World} {pb l b : Nat} {p : Pg} {g g' : Lg} {d d' : Dsk} {X X' : Nat → Prop} {a c : PgD}
theorem PgX.dsk (h : PgX w W pb l b p g d X) : ∃ F, DiskAt W b F d ∧ (∀ k, F.own k ∨ F.sh k → ¬ X k ∧ w.heap.size ≤ k) ∧ ∀ w' d', Did W b F d' w' → PgX w w' pb l b p g d' X ∧ ∀ k, X k → w'.heap[k]? = W.heap[k]? := by
 obtain ⟨⟨F, G, K, nv, sv, h1, h2, h3, h4⟩, hb, hx⟩ := h
 exact ⟨F, h1.disk, fun k hk => ⟨(h4 k (.inl (hk.elim .inl fun e => .inr (.inl e)))).2, (h4 k (.inl (hk.elim .inl fun e => .inr (.inl e)))).1⟩, fun w' d' hd => pgx_log h1 h2 h3 h4 hb hx (h1.did hd)⟩
theorem px_arm (h : PgX w W pb l b p g d X) (n e : Int) (hs : d.Small 1099511627776) : Calls Tryz.prog 30 #[.pointer (some ⟨b, 0, none⟩), .int .i64 n, .int .i64 e] W fun r w' => r = .returned (.int .i64 (armM d n e).1) ∧ PgX w w' pb l b p g (armM d n e).2 X ∧ ∀ k, X k → w'.heap[k]? = W.heap[k]? := by
 obtain ⟨F, hF, hFx, hgo⟩ := h.dsk
 exact (arm_any hF n e hs).mono fun r w' hh => ⟨hh.1, hgo _ _ hh.2⟩
theorem px_crash (h : PgX w W pb l b p g d X) (kv : Value) (keep : List Bool) (hk : KeepAt W kv keep) (hkb : ∀ q, keepBlk kv keep = some q → q < w.heap.size) (hs : d.Small 1099511627776) (hkl : keep.length ≤ 1099511627776) :
  Calls Tryz.prog 31 #[.pointer (some ⟨b, 0, none⟩), kv] W fun e w' => e = .returned (.int .i64 0) ∧ PgX w w' pb l b p g (crashM d keep) X ∧ ∀ k, X k → w'.heap[k]? = W.heap[k]? := by
 obtain ⟨F, hF, hFx, hgo⟩ := h.dsk
 exact (crash_any hF kv keep hk (fun q hq => ⟨fun e => by have := (hFx q (.inl e)).2; have := hkb q hq; omega, Nat.lt_of_lt_of_le (hkb q hq) h.bel.size⟩) hs hkl).mono fun r w' hh => ⟨hh.1, hgo _ _ hh.2⟩
theorem px_again {g0 : Lg} {p' : Pg} (h : PgX w W pb l b p' g0 d X) (ho : lopenM d = (some g, 0)) : Calls Tryz.prog 29 #[.pointer (some ⟨b, 0, none⟩)] W fun e w' => ∃ pb2 l2, e = .returned (.tuple #[.pointer (some ⟨pb2, 0, none⟩), .int .i64 0]) ∧ PgX w w' pb2 l2 b p0 g d X ∧ ∀ k, X k → w'.heap[k]? = W.heap[k]? := by
 obtain ⟨F, hF, hge, -⟩ := h.dsk
 have hb := h.bel
 have hxl := h.xlt
 have OP := lopen_any hF
 rw [ho] at OP
 have OP := hid OP
 have HF := hid hge
 have HB := hid hb
 have HX := hid hxl
 clear h hF ho hge hb hxl
 go_enter Tryz.func29, Tryz.ntmps29
 go_wp2_with (first
  | (go_at_call 50; refine (OP.out).mono ?_; rintro e w1 ⟨hb2, l, G, rfl, h3, h4⟩; have HB2 := hid hb2; have H3 := hid h3; have H4 := hid h4; clear hb2 h3 h4)
  | go_in)
 go_ret2
 have h1 := H3.out
 have hsz := HB.out.size
 have hsz2 := HB2.out.size
 have hb1 : Below w1.heap.size w1 (w1.alloc (.cells #[.pointer (some ⟨l, 0, none⟩), .pointer none, .slice none 0 0, .int .i64 0] 93)) := (Below.refl _ w1).alloc (Nat.le_refl _) _
 have hn1 := heap_alloc_new w1 (.cells #[.pointer (some ⟨l, 0, none⟩), .pointer none, .slice none 0 0, .int .i64 0] 93)
 have hbel : Below W.heap.size W (w1.alloc (.cells #[.pointer (some ⟨l, 0, none⟩), .pointer none, .slice none 0 0, .int .i64 0] 93)) := HB2.out.trans (hb1.mono hsz2)
 refine ⟨w1.heap.size, l, rfl, ⟨⟨F, G, ⟨fun k => k = w1.heap.size, fun _ => False⟩, .pointer none, .slice none 0 0, h1.below hb1, ⟨hn1, rfl, ⟨[], rfl, World.ownsRow_nil _ _ _ _, (fun k hk => by cases hk), (fun x hx => by cases hx)⟩, (fun nb e => by cases e), rfl, (fun k hk => by rw [hk]; exact lt_of_block hn1), (fun k hk => hk.elim), (fun k _ hk => hk), ⟨(fun t ht => by cases ht), (fun t ht => by cases ht), by simp [p0], fun _ => rfl⟩⟩, fun k hk => ?_, fun k hk => ?_⟩, HB.out.trans (hbel.mono hsz), fun k hk => Nat.lt_of_lt_of_le (HX.out k hk) hbel.size⟩, fun k hk => hbel.block k (HX.out k hk)⟩
 ·rcases hk with hk | hk
  ·subst hk
   refine ⟨fun f => ?_, fun f => ?_, fun f => ?_⟩
   ·have := h1.flt (k := w1.heap.size) (.inl f); omega
   ·have := h1.flt (k := w1.heap.size) (.inr (.inl f)); omega
   ·have := h1.flt (k := w1.heap.size) (.inr (.inr f)); omega
  ·exact hk.elim
 ·rcases hk with (hk | hk | hk) | hk | hk
  ·exact ⟨(HF.out k (.inl hk)).2, (HF.out k (.inl hk)).1⟩
  ·exact ⟨(HF.out k (.inr hk)).2, (HF.out k (.inr hk)).1⟩
  ·exact ⟨Nat.le_trans hsz (H4.out k hk), fun e => by have := HX.out k e; have := H4.out k hk; omega⟩
  ·have hk : k = w1.heap.size := hk
   exact ⟨by omega, fun e => by have := HX.out k e; omega⟩
  ·exact hk.elim
theorem tw_arm (h : Two w W a c X) (n e : Int) (hs : c.d.Small 1099511627776) : Calls Tryz.prog 30 #[.pointer (some ⟨c.b, 0, none⟩), .int .i64 n, .int .i64 e] W fun r w' => r = .returned (.int .i64 (armM c.d n e).1) ∧ Two w w' a ⟨c.pb, c.l, c.b, c.p, c.g, (armM c.d n e).2⟩ X ∧ ∀ k, X k → w'.heap[k]? = W.heap[k]? := by
 obtain ⟨T, h1, h2⟩ := h.right
 exact (px_arm h1 n e hs).mono fun r w' hh => ⟨hh.1, h2 w' ⟨c.pb, c.l, c.b, c.p, c.g, (armM c.d n e).2⟩ hh.2.1 hh.2.2⟩
theorem tw_crash (h : Two w W a c X) (kv : Value) (keep : List Bool) (hk : KeepAt W kv keep) (hkb : ∀ q, keepBlk kv keep = some q → q < w.heap.size) (hs : c.d.Small 1099511627776) (hkl : keep.length ≤ 1099511627776) :
  Calls Tryz.prog 31 #[.pointer (some ⟨c.b, 0, none⟩), kv] W fun e w' => e = .returned (.int .i64 0) ∧ Two w w' a ⟨c.pb, c.l, c.b, c.p, c.g, crashM c.d keep⟩ X ∧ ∀ k, X k → w'.heap[k]? = W.heap[k]? := by
 obtain ⟨T, h1, h2⟩ := h.right
 exact (px_crash h1 kv keep hk hkb hs hkl).mono fun r w' hh => ⟨hh.1, h2 w' ⟨c.pb, c.l, c.b, c.p, c.g, crashM c.d keep⟩ hh.2.1 hh.2.2⟩
theorem tw_again (h : Two w W a c X) (ho : lopenM c.d = (some g, 0)) : Calls Tryz.prog 29 #[.pointer (some ⟨c.b, 0, none⟩)] W fun e w' => ∃ pb2 l2, e = .returned (.tuple #[.pointer (some ⟨pb2, 0, none⟩), .int .i64 0]) ∧ Two w w' a ⟨pb2, l2, c.b, p0, g, c.d⟩ X ∧ ∀ k, X k → w'.heap[k]? = W.heap[k]? := by
 obtain ⟨T, h1, h2⟩ := h.right
 exact (px_again h1 ho).mono fun r w' ⟨pb2, l2, he, hp, hk⟩ => ⟨pb2, l2, he, h2 w' ⟨pb2, l2, c.b, p0, g, c.d⟩ hp hk⟩
theorem tw_check2 (h : Two w W a c X) (N : Nat) (hsm : c.d.Small N) (hN : N + 16777216 ≤ 1099511527776) : Calls Tryz.prog 11 #[.pointer (some ⟨c.pb, 0, none⟩)] W fun e w' => e = .returned (.int .i64 (pcheckM c.p c.g c.d).1) ∧ Two w w' a (gChecked c) X ∧ ∀ k, X k → w'.heap[k]? = W.heap[k]? :=
 (tw_check h.swap N hsm hN).mono fun e w' hh => ⟨hh.1, hh.2.1.swap, hh.2.2⟩
theorem Two.grow {row : Option Nat} (h : Two w W a c X) (hg : W.grownBy W' row) (hr : ∀ k, row = some k → X k) (hw : ∀ k, row = some k → w.heap.size ≤ k) (hx : ∀ k, X' k → X k ∨ W.heap.size ≤ k) (hlt : ∀ k, X' k → k < W'.heap.size) : Two w W' a c X' := by
 obtain ⟨⟨S, T, h1, h2, h3, h4⟩, hb1, hx1⟩ := h
 refine ⟨⟨S, T, h1.keep (fun k hk => hg.block k (h1.lt k hk) (fun e => (h3 k hk).2 (hr k e.symm))), h2.keep (fun k hk => hg.block k (h2.lt k hk) (fun e => h4 k hk (hr k e.symm))), fun k hk => ⟨(h3 k hk).1, fun e => ?_⟩, fun k hk e => ?_⟩, ⟨hg.os.trans hb1.os, hg.tape.trans hb1.tape, hg.output.trans hb1.output, Nat.le_trans hb1.size hg.size, fun k hk => (hg.block k (Nat.lt_of_lt_of_le hk hb1.size) (fun e => by have := hw k e.symm; omega)).trans (hb1.block k hk)⟩, hlt⟩
 ·rcases hx k e with e | e
  ·exact (h3 k hk).2 e
  ·have := h1.lt k hk; omega
 ·rcases hx k e with e | e
  ·exact h4 k hk e
  ·have := h2.lt k hk; omega
theorem tw_start (h : Two w W a c X) (hb : Below W.heap.size W W') : Two w W' a c (XW X W.heap.size W'.heap.size) :=
 h.add hb (fun k hk => hk.imp id (fun e => e.1)) (fun k hk => hk.elim (fun e => Nat.lt_of_lt_of_le (h.xlt k e) hb.size) (fun e => e.2))
theorem tw_more {s : Nat} (h : Two w W a c (XW X s W.heap.size)) (hb : Below W.heap.size W W') : Two w W' a c (XW X s W'.heap.size) :=
 h.add hb (fun k hk => hk.elim (fun e => .inl (.inl e)) (fun e => (Nat.lt_or_ge k W.heap.size).elim (fun e2 => .inl (.inr ⟨e.1, e2⟩)) .inr)) (fun k hk => hk.elim (fun e => Nat.lt_of_lt_of_le (h.xlt k (.inl e)) hb.size) (fun e => e.2))
theorem tw_moreg {s : Nat} {row : Option Nat} (h : Two w W a c (XW X s W.heap.size)) (hg : W.grownBy W' row) (hr : ∀ k, row = some k → X k) (hw : ∀ k, row = some k → w.heap.size ≤ k) : Two w W' a c (XW X s W'.heap.size) :=
 h.grow hg (fun k e => .inl (hr k e)) hw (fun k hk => hk.elim (fun e => .inl (.inl e)) (fun e => (Nat.lt_or_ge k W.heap.size).elim (fun e2 => .inl (.inr ⟨e.1, e2⟩)) .inr)) (fun k hk => hk.elim (fun e => Nat.lt_of_lt_of_le (h.xlt k (.inl e)) hg.size) (fun e => e.2))
end
structure StatesAt (W : World) (base : Nat) (v : Value) (T : List (List (List UInt8))) (X : Nat → Prop) : Prop where
 ex : ∃ sv : List Value, sv.length = T.length ∧ W.ownsRow base 52 1 v T.length sv ∧ (∀ i (h1 : i < sv.length) (h2 : i < T.length), StrRow W base sv[i] T[i] ∧ ∀ k, sv[i].ownBlock = some k → X k)
 own : ∀ k, v.ownBlock = some k → X k
structure KeptAt (W : World) (base : Nat) (v : Value) (K : List (Sh × Value)) (X : Nat → Prop) : Prop where
 row : W.ownsRow base 31 6 v K.length (K.flatMap fun x => (shCells x.1 x.2).toList)
 own : ∀ k, v.ownBlock = some k → X k
 each : ∀ x ∈ K, ImgRow W base x.2 x.1.imgs ∧ ∀ k, x.2.ownBlock = some k → X k
section
variable {W W' W4 : World} {base : Nat} {v v' vm : Value} {T : List (List (List UInt8))} {K : List (Sh × Value)} {M : List (List UInt8)} {X X' : Nat → Prop}
theorem StatesAt.keep (h : StatesAt W base v T X) (hk : ∀ k, X k → W'.heap[k]? = W.heap[k]?) : StatesAt W' base v T X := by
 obtain ⟨⟨sv, h1, h3, h5⟩, hs⟩ := h
 exact ⟨⟨sv, h1, row_keep h3 (fun k e => hk k (hs k e)), fun i a b => ⟨row_keep (h5 i a b).1 (fun k e => hk k ((h5 i a b).2 k e)), (h5 i a b).2⟩⟩, hs⟩
theorem StatesAt.mono (h : StatesAt W base v T X) (hx : ∀ k, X k → X' k) : StatesAt W base v T X' := by
 obtain ⟨⟨sv, h1, h3, h5⟩, hs⟩ := h
 exact ⟨⟨sv, h1, h3, fun i a b => ⟨(h5 i a b).1, fun k e => hx k ((h5 i a b).2 k e)⟩⟩, fun k e => hx k (hs k e)⟩
theorem StatesAt.get (h : StatesAt W base v T X) {i : Nat} (hi : i < T.length) :
  ∃ q u c, v = .slice (some ⟨q, 0, none⟩) T.length c ∧ X q ∧ W.cell? ⟨q, i, none⟩ = some u ∧ StrRow W base u (T.getD i []) ∧ ∀ k, u.ownBlock = some k → X k := by
 obtain ⟨⟨sv, h1, h3, h5⟩, hs⟩ := h
 rcases row_form h3 with ⟨-, h0⟩ | ⟨q, c, rfl⟩
 ·omega
 ·have hc := h3.cells (g := q) rfl i sv[i] (List.getElem?_eq_getElem (by omega))
  simp only [Addr.add_lit, Nat.zero_add] at hc
  have e : T.getD i [] = T[i] := by rw [List.getD_eq_getElem?_getD, List.getElem?_eq_getElem hi]; rfl
  rw [e]
  exact ⟨q, _, c, rfl, hs q rfl, hc, (h5 i (by omega) hi).1, (h5 i (by omega) hi).2⟩
theorem KeptAt.keep (h : KeptAt W base v K X) (hk : ∀ k, X k → W'.heap[k]? = W.heap[k]?) : KeptAt W' base v K X :=
 ⟨row_keep h.row (fun k e => hk k (h.own k e)), h.own, fun x hx => ⟨row_keep (h.each x hx).1 (fun k e => hk k ((h.each x hx).2 k e)), (h.each x hx).2⟩⟩
theorem KeptAt.mono (h : KeptAt W base v K X) (hx : ∀ k, X k → X' k) : KeptAt W base v K X' :=
 ⟨h.row, fun k e => hx k (h.own k e), fun x hm => ⟨(h.each x hm).1, fun k e => hx k ((h.each x hm).2 k e)⟩⟩
theorem kept_nil (W : World) (base : Nat) (X : Nat → Prop) : KeptAt W base (.slice none 0 0) [] X := ⟨World.ownsRow_nil _ _ _ _, (fun k hk => by cases hk), (fun x hx => by cases hx)⟩
theorem rows_apart2 {b1 b2 n m s1 s2 : Nat} {e1 e2 : TypeId} {v1 v2 : Value} {xs ys : List Value} (h1 : W.ownsRow b1 e1 s1 v1 n xs) (h2 : W.ownsRow b2 e2 s2 v2 m ys) (hne : e1 ≠ e2) {k : Nat} (hk : v1.ownBlock = some k) : v2.ownBlock ≠ some k := by
 rcases h1.2 with ⟨rfl, -⟩ | ⟨g, cap, cur, rfl, -, hg, -⟩
 ·cases hk
 ·obtain rfl : g = k := by injection hk
  exact fun e => row_type h2 hg hne e
theorem states_push {sv : List Value} (h1 : sv.length = T.length) (h3 : W.ownsRow base 52 1 v T.length sv)
  (h5 : ∀ i (h1 : i < sv.length) (h2 : i < T.length), StrRow W base sv[i] T[i] ∧ ∀ k, sv[i].ownBlock = some k → X k)
  (hm : StrRow W base vm M) (hmx : ∀ k, vm.ownBlock = some k → X' k) (r1 : W4.ownsRow base 52 1 v' (T.length + 1) (sv ++ [vm])) (x1 : ∀ k, v'.ownBlock = some k → X' k) (hX : ∀ k, X k → X' k)
  (hk : ∀ k, k < W.heap.size → v.ownBlock ≠ some k → W4.heap[k]? = W.heap[k]?) : StatesAt W4 base v' (T ++ [M]) X' := by
 have ks : ∀ {u : Value} {l : List (List UInt8)}, StrRow W base u l → StrRow W4 base u l := fun {u l} h => row_keep h (fun k e => hk k (row_base h e).2 (fun e2 => rows_apart2 h3 h (by decide) e2 e))
 refine ⟨⟨sv ++ [vm], by simp [h1], by rw [List.length_append]; exact r1, fun i a b => ?_⟩, x1⟩
 by_cases e : i < sv.length
 ·rw [List.getElem_append_left e, List.getElem_append_left (by omega)]
  exact ⟨ks (h5 i e (by omega)).1, fun k hk2 => hX k ((h5 i e (by omega)).2 k hk2)⟩
 ·rw [List.getElem_append_right (by omega), List.getElem_append_right (by omega)]
  simp only [List.getElem_singleton]
  exact ⟨ks hm, hmx⟩
theorem kept_push {m : Sh} (h : KeptAt W base v K X) (hm : ImgRow W base vm m.imgs) (hmx : ∀ k, vm.ownBlock = some k → X' k) (r1 : W4.ownsRow base 31 6 v' (K.length + 1) ((K.flatMap fun x => (shCells x.1 x.2).toList) ++ (shCells m vm).toList)) (x1 : ∀ k, v'.ownBlock = some k → X' k) (hX : ∀ k, X k → X' k)
  (hk : ∀ k, k < W.heap.size → v.ownBlock ≠ some k → W4.heap[k]? = W.heap[k]?) : KeptAt W4 base v' (K ++ [(m, vm)]) X' := by
 have ks : ∀ {u : Value} {l : List Img}, ImgRow W base u l → ImgRow W4 base u l := fun {u l} hu => row_keep hu (fun k e => hk k (row_base hu e).2 (fun e2 => rows_apart2 h.row hu (by decide) e2 e))
 refine ⟨by rw [List.length_append, List.flatMap_append]; simpa using r1, x1, fun x hx => ?_⟩
 rcases List.mem_append.1 hx with e | e
 ·exact ⟨ks (h.each x e).1, fun k hk2 => hX k ((h.each x e).2 k hk2)⟩
 ·rw [List.mem_singleton.1 e]
  exact ⟨ks hm, hmx⟩
theorem KeptAt.get (h : KeptAt W base v K X) {i : Nat} (hi : i < K.length) :
  ∃ q c, v = .slice (some ⟨q, 0, none⟩) K.length c ∧ X q ∧ ∀ j u, (shCells K[i].1 K[i].2)[j]? = some u → W.cell? ⟨q, i * 6 + j, none⟩ = some u := by
 rcases row_form h.row with ⟨-, h0⟩ | ⟨q, c, rfl⟩
 ·omega
 ·refine ⟨q, c, rfl, h.own q rfl, fun j u hj => ?_⟩
  have hj6 : j < 6 := by
   have := (Array.getElem?_eq_some_iff.1 hj).1
   simpa [shCells] using this
  have hc := h.row.cells (g := q) rfl (i * 6 + j) u (by
   have e := flat_get K i hi j hj6
   rw [e]
   simpa using hj)
  simpa only [Addr.add_lit, Nat.zero_add] using hc
end
end Go.Proofs.YtdinjghfjmmjoaaGreat
/- UnitLike: its script in memory, opened out of its readings. -/
namespace Go.Proofs.YtdinjghfjmmjoaaGreat
open Go.ChangeShapes Go.WideShapes Go.ChangeAt Go.RowKit Go.Deep
set_option maxRecDepth 20000
set_option maxRecDepth 20000
structure LOp where
 kind : Int
 n : Int
 x : UInt8
 keep : List Bool
 ka : Option Addr
 kcap : Nat
instance : Inhabited LOp := ⟨⟨0, 0, 0, [], none, 0⟩⟩
def lopCells (x : LOp) : List Value := [.int .i64 x.kind, .int .i64 x.n, .int .u8 (x.x.toNat : Int), .slice x.ka x.keep.length x.kcap]
def StepsAt (w : World) (v : Value) (l : List LOp) : Prop :=
 ∃ ao cap, v = .slice ao l.length cap ∧ ∀ k (hk : k < l.length), ∃ q o, ao = some ⟨q, o, none⟩ ∧ q < w.heap.size ∧ ∀ j u, (lopCells l[k])[j]? = some u → w.cell? ⟨q, o + k * 4 + j, none⟩ = some u
structure LOpIn (w : World) (x : LOp) : Prop where
 n : -9223372036854775808 ≤ x.n ∧ x.n ≤ 9223372036854775807
 keep : KeepAt w (.slice x.ka x.keep.length x.kcap) x.keep
 blk : ∀ g, keepBlk (.slice x.ka x.keep.length x.kcap) x.keep = some g → g < w.heap.size
 len : x.keep.length ≤ 9223372036854775807
structure StepsIn (w : World) (v : Value) (l : List LOp) : Prop where
 at' : StepsAt w v l
 len : l.length ≤ 9223372036854775807
 each : ∀ x ∈ l, LOpIn w x
section
variable {H : Type} {enc : TypeId × Value → H} {w : World} {base : Nat} {sp : Nat → Bool} {held : Bool}
theorem open_bools_cell {fuel : Nat} {cs : List Value} {x : DataW H × List MemPlace} (h : DataW.trod enc Tryz.prog w base sp held fuel 69 cs = some x) :
  ∃ (ka : Option Addr) (kcap : Nat) (ks : List Bool), cs = [.slice ka ks.length kcap] ∧ KeepAt w (.slice ka ks.length kcap) ks ∧ (∀ g, keepBlk (.slice ka ks.length kcap) ks = some g → g < w.heap.size) ∧ ks.length ≤ 9223372036854775807 := by
 rcases open_slice1 Tryz.underlying69 (by kernel_rfl) h with ⟨rfl, _⟩ | ⟨a, len, cap, m, n, V, D, Pl, rfl, hb, hle, hcap, hm, _, hx⟩
 ·exact ⟨none, 0, [], rfl, ⟨none, 0, rfl, .inl rfl⟩, (fun g hg => by cases hg), by simp⟩
 have hlm : len ≤ m := by rw [hm]; split <;> omega
 obtain ⟨B, hB⟩ := choose_lt (α := Bool) (p := fun i b => w.cell? (a.add i) = some (.bool b)) (n := len) (fun i hi => by
  obtain ⟨h1, h2⟩ := hx i (by omega)
  obtain ⟨b, e, _⟩ := DataW.trod_bool Tryz.underlying4 h2
  simp at e
  exact ⟨b, by rw [h1, e]⟩)
 have hm' : maxLen = 9223372036854775807 := rfl
 have hlen : ((List.range len).map B).length = len := by simp
 refine ⟨some a, cap, (List.range len).map B, by rw [hlen], ?_, ?_, by rw [hlen]; omega⟩
 ·refine ⟨some a, cap, rfl, ?_⟩
  by_cases h0 : len = 0
  ·subst h0
   exact .inl rfl
  ·obtain ⟨b, off, spot⟩ := a
   have hspot : spot = none := by simpa [Addr.add] using World.cell?_spot (hB 0 (by omega))
   subst hspot
   refine .inr ⟨b, off, rfl, fun i v hi => ?_⟩
   have hi' : i < len := by
    have := (List.getElem?_eq_some_iff.1 hi).1
    simpa using this
   have e := hB i hi'
   simp only [Addr.add_lit] at e
   rw [e]
   simp [List.getElem?_map, hi'] at hi
   rw [hi]
 ·intro g hg
  by_cases h0 : len = 0
  ·subst h0
   cases hg
  ·have h1 := lt_of_cell (hB 0 (by omega))
   unfold keepBlk at hg
   split at hg
   ·cases hg
   ·cases hg
    simpa [Addr.add] using h1
theorem open_step_cells {fuel : Nat} {cs : List Value} {x : DataW H × List MemPlace} (h : DataW.trod enc Tryz.prog w base sp held fuel 71 cs = some x) :
  ∃ y : LOp, cs = lopCells y ∧ LOpIn w y := by
 obtain ⟨hl, n, hf⟩ := open_cells_struct Tryz.underlying71 (by kernel_rfl) (by kernel_rfl) h
 obtain ⟨a0, a1, a2, a3, rfl⟩ : ∃ a0 a1 a2 a3, cs = [a0, a1, a2, a3] := by
  match cs, hl with
  | [a0, a1, a2, a3], _ => exact ⟨a0, a1, a2, a3, rfl⟩
 obtain ⟨y0, h0⟩ := hf 0 _ rfl
 obtain ⟨y1, h1⟩ := hf 1 _ rfl
 obtain ⟨y2, h2⟩ := hf 2 _ rfl
 obtain ⟨y3, h3⟩ := hf 3 _ rfl
 obtain ⟨k0, e0, _, w0⟩ := DataW.trod_int Tryz.underlying3 h0
 obtain ⟨k1, e1, _, w1⟩ := DataW.trod_int Tryz.underlying3 h1
 obtain ⟨k2, e2, _, w2⟩ := DataW.trod_int Tryz.underlying5 h2
 obtain ⟨ka, kcap, ks, e3, g1, g2, g3⟩ := open_bools_cell h3
 obtain ⟨c, rfl⟩ := u8_of w2
 simp at e0 e1 e2 e3
 subst e0 e1 e2 e3
 have w1' : -9223372036854775808 ≤ k1 ∧ k1 ≤ 9223372036854775807 := by have h : (decide ((-9223372036854775808 : Int) ≤ k1) && decide (k1 ≤ 9223372036854775807)) = true := w1; simpa using h
 exact ⟨⟨k0, k1, c, ks, ka, kcap⟩, rfl, ⟨w1', g1, g2, g3⟩⟩
theorem open_steps_cell {fuel : Nat} {cs : List Value} {x : DataW H × List MemPlace} (h : DataW.trod enc Tryz.prog w base sp held fuel 68 cs = some x) :
  ∃ (v : Value) (l : List LOp), cs = [v] ∧ StepsIn w v l := by
 rcases open_slice Tryz.underlying68 h with ⟨rfl, _⟩ | ⟨a, len, cap, m, n, D, Pl, rfl, hb, hle, hcap, hm, _, hx⟩
 ·exact ⟨_, [], rfl, ⟨⟨none, 0, rfl, (fun k hk => by simp at hk)⟩, by simp, (fun x hx => by cases hx)⟩⟩
 have hlm : len ≤ m := by rw [hm]; split <;> omega
 have hcells : Tryz.prog.cellsOf 71 = 4 := by kernel_rfl
 rw [hcells] at hx
 obtain ⟨V, hV⟩ := choose_lt (α := LOp) (p := fun i y => LOpIn w y ∧ ∀ j u, (lopCells y)[j]? = some u → w.cell? (a.add (i * 4 + j)) = some u) (n := len) (fun i hi => by
  obtain ⟨cs', h1, h2⟩ := hx i (by omega)
  obtain ⟨y, rfl, hy⟩ := open_step_cells h2
  refine ⟨y, hy, fun j u hj => ?_⟩
  obtain ⟨_, _, hc⟩ := World.cells?_some h1
  have hj7 : j < 4 := by
   have := (List.getElem?_eq_some_iff.1 hj).1
   simpa [lopCells] using this
  have c0 := hc j hj7
  rw [add_add] at c0
  rw [c0]
  simpa using hj)
 have hm' : maxLen = 9223372036854775807 := rfl
 have hlen : ((List.range len).map V).length = len := by simp
 have hall : ∀ y ∈ (List.range len).map V, LOpIn w y := fun y hy => by
  obtain ⟨i, hi, rfl⟩ := List.mem_map.1 hy
  exact (hV i (by simpa using hi)).1
 refine ⟨_, (List.range len).map V, rfl, ⟨⟨some a, cap, by rw [hlen], fun k hk => ?_⟩, by rw [hlen]; omega, hall⟩⟩
 rw [hlen] at hk
 obtain ⟨b, off, spot⟩ := a
 have c0 := (hV 0 (by omega)).2 0 _ rfl
 have hspot : spot = none := by simpa [Addr.add] using World.cell?_spot c0
 subst hspot
 have hlt : b < w.heap.size := by simpa [Addr.add] using lt_of_cell c0
 refine ⟨b, off, rfl, hlt, fun j u hj => ?_⟩
 simp at hj
 have e := (hV k hk).2 j u hj
 simp only [Addr.add_lit] at e
 rw [← e]
 congr 2
 omega
theorem open_steps {b0 : Nat} {v : Value} (hval : Value.okWide Tryz.prog w .any b0 68 v) (h : ∃ d p, DataW.Trod enc Tryz.prog w base sp held 68 v d p) : ∃ (z : Value × List LOp), v = z.1 ∧ StepsIn w z.1 z.2 := by
 obtain ⟨d, p, fuel, hf⟩ := h
 obtain ⟨ao, n, cap, rfl⟩ := okWide_slice Tryz.underlying68 hval
 obtain ⟨v, l, e, hl⟩ := open_steps_cell hf
 simp [Value.cells] at e
 subst e
 exact ⟨(_, l), rfl, hl⟩
end
end Go.Proofs.YtdinjghfjmmjoaaGreat
