/- Pages of trees (node): Take of any bytes. -/
import Derived.Test.YtlkkclooihjpiaaGreatNdD
import Derived.Deep.CutBlock
set_option linter.unusedVariables false
set_option linter.unusedSimpArgs false
namespace Go.Proofs.YtlkkclooihjpiaaGreat
open Go.RowKit Go.Maps
set_option maxRecDepth 20000
theorem row_neN {w : World} {base M n size : Nat} {e T : TypeId} {v : Value} {xs : List Value} {cs : Array Value} {fr : Nat × Nat} (h : w.ownsRow base e size v n xs) (hM : w.heap[M]? = some (.cells cs T fr)) (hT : T ≠ e) {k : Nat} (hk : v.ownBlock = some k) : k ≠ M := by
 intro ho
 rw [ho] at hk
 rcases h.2 with ⟨rfl, -⟩ | ⟨g, cap, cur, rfl, -, hg, -⟩
 ·cases hk
 ·have e : g = M := by injection hk
  rw [e, hM] at hg
  injection hg with hg
  injection hg with h1 h2 h3
  exact hT h2
theorem num_one_lt (l : List UInt8) (h : l.length ≤ 1) : 0 ≤ num l ∧ num l < 256 := by
 match l, h with
 | [], _ => exact ⟨by rw [num_nil]; decide, by rw [num_nil]; decide⟩
 | [a], _ => rw [num_one]; have := u8_hi a; have := u8_lo a; omega
theorem num_two_lt (l : List UInt8) (h : l.length ≤ 2) : 0 ≤ num l ∧ num l < 65536 := by
 have h1 := num_hi l
 have h2 := num_lo l
 have h3 : (256 : Int) ^ l.length ≤ 65536 := by
  match l.length, h with
  | 0, _ => decide
  | 1, _ => decide
  | 2, _ => decide
 omega
structure TknA (w W : World) (st : List UInt8 × Bool) : Prop where
 res : W.heap[w.heap.size]? = some (.cells #[.int .u8 0, .int .i64 0, .slice none 0 0, .string ⟨#[]⟩] 93 (0, 0))
 left : W.heap[w.heap.size + 1]? = some (.cells #[.string (bs st.1), .bool st.2] 131 (0, 0))
 bel : Below w.heap.size w W
def TkKeep (w W W' : World) : Prop := (∀ j, j ≠ w.heap.size + 1 → j < W.heap.size → W'.heap[j]? = W.heap[j]?) ∧ W.heap.size ≤ W'.heap.size
section
variable {w wr W W' : World} {st : List UInt8 × Bool} {b6 cb : Nat} {nv cv : Array Value}
theorem TknA.frm {st' : List UInt8 × Bool} (h : TknA w W st) (h1 : W'.heap[w.heap.size + 1]? = some (.cells #[.string (bs st'.1), .bool st'.2] 131 (0, 0))) (h2 : Frm (fun j => j = w.heap.size + 1) W W') : TknA w W' st' ∧ TkKeep w W W' := by
 have hb := h.bel
 exact ⟨⟨(h2.block _ (lt_of_block h.res) (by omega)).trans h.res, h1, ⟨h2.os.trans hb.os, h2.tape.trans hb.tape, h2.output.trans hb.output, Nat.le_trans hb.size h2.size, fun j hj => (h2.block j (Nat.lt_of_lt_of_le hj hb.size) (by omega)).trans (hb.block j hj)⟩⟩, fun j hj hl => h2.block j hl hj, h2.size⟩
theorem ta_num (h : TknA w W st) (m : Nat) (hm : m ≤ 4) (hl : st.1.length ≤ 1000) : Calls Tryz.prog 64 #[.pointer (some ⟨w.heap.size + 1, 0, none⟩), .int .i64 (m : Int)] W fun e w' => e = .returned (.int .i64 (numR m st).1) ∧ TknA w w' (numR m st).2 ∧ TkKeep w W w' := by
 refine (tk_num0 m hm h.left hl).mono ?_
 rintro e w' ⟨rfl, h1, h2⟩
 exact ⟨rfl, h.frm h1 h2⟩
theorem ta_text (h : TknA w W st) (n : Nat) (nn : Int) (hn : nn = (n : Int)) (hl : st.1.length ≤ 1000) : Calls Tryz.prog 65 #[.pointer (some ⟨w.heap.size + 1, 0, none⟩), .int .i64 nn] W fun e w' => e = .returned (.string (bs (textR n st).1)) ∧ TknA w w' (textR n st).2 ∧ TkKeep w W w' := by
 refine (tk_text0 n nn hn h.left hl).mono ?_
 rintro e w' ⟨rfl, h1, h2⟩
 exact ⟨rfl, h.frm h1 h2⟩
structure TknB (w wr W : World) (st : List UInt8 × Bool) (b6 : Nat) (nv : Array Value) : Prop where
 a : TknA w W st
 node : W.heap[b6]? = some (.cells nv 93 (0, 0))
 keep : ∀ k, k < wr.heap.size → k ≠ w.heap.size + 1 → W.heap[k]? = wr.heap[k]?
 sz : wr.heap.size ≤ W.heap.size
 b6 : w.heap.size + 1 < b6
structure TknC (w wr W : World) (st : List UInt8 × Bool) (b6 : Nat) (nv : Array Value) (cb : Nat) (cv : Array Value) : Prop where
 b : TknB w wr W st b6 nv
 cell : W.heap[cb]? = some (.cells cv 133 (0, 0))
 cb : wr.heap.size ≤ cb ∧ w.heap.size + 1 < cb
theorem TknB.go {st' : List UInt8 × Bool} (h : TknB w wr W st b6 nv) (ha : TknA w W' st') (hk : TkKeep w W W') : TknB w wr W' st' b6 nv :=
 ⟨ha, (hk.1 b6 (by have := h.b6; omega) (lt_of_block h.node)).trans h.node, fun k h1 h2 => (hk.1 k h2 (Nat.lt_of_lt_of_le h1 h.sz)).trans (h.keep k h1 h2), Nat.le_trans h.sz hk.2, h.b6⟩
theorem tb_num (h : TknB w wr W st b6 nv) (m : Nat) (hm : m ≤ 4) (hl : st.1.length ≤ 1000) : Calls Tryz.prog 64 #[.pointer (some ⟨w.heap.size + 1, 0, none⟩), .int .i64 (m : Int)] W fun e w' => e = .returned (.int .i64 (numR m st).1) ∧ TknB w wr w' (numR m st).2 b6 nv := by
 refine (ta_num h.a m hm hl).mono ?_
 rintro e w' ⟨rfl, h1, h2⟩
 exact ⟨rfl, h.go h1 h2⟩
theorem tb_text (h : TknB w wr W st b6 nv) (n : Nat) (nn : Int) (hn : nn = (n : Int)) (hl : st.1.length ≤ 1000) : Calls Tryz.prog 65 #[.pointer (some ⟨w.heap.size + 1, 0, none⟩), .int .i64 nn] W fun e w' => e = .returned (.string (bs (textR n st).1)) ∧ TknB w wr w' (textR n st).2 b6 nv := by
 refine (ta_text h.a n nn hn hl).mono ?_
 rintro e w' ⟨rfl, h1, h2⟩
 exact ⟨rfl, h.go h1 h2⟩
theorem TknB.alloc (h : TknB w wr W st b6 nv) (o : Obj) : TknB w wr (W.alloc o) st b6 nv :=
 ⟨⟨heap_alloc_old h.a.res, heap_alloc_old h.a.left, h.a.bel.alloc h.a.bel.size _⟩, heap_alloc_old h.node, fun k h1 h2 => (Below.heap_alloc W o k (Nat.lt_of_lt_of_le h1 h.sz)).trans (h.keep k h1 h2), Nat.le_trans h.sz (by simp), h.b6⟩
theorem TknB.cells (h : TknB w wr W st b6 nv) (cv : Array Value) : TknC w wr (W.alloc (.cells cv 133)) st b6 nv W.heap.size cv :=
 ⟨h.alloc _, heap_alloc_new W _, h.sz, by have := lt_of_block h.a.left; have := h.b6; have := lt_of_block h.node; omega⟩
theorem tc_num (h : TknC w wr W st b6 nv cb cv) (m : Nat) (hm : m ≤ 4) (hl : st.1.length ≤ 1000) : Calls Tryz.prog 64 #[.pointer (some ⟨w.heap.size + 1, 0, none⟩), .int .i64 (m : Int)] W fun e w' => e = .returned (.int .i64 (numR m st).1) ∧ TknC w wr w' (numR m st).2 b6 nv cb cv := by
 refine (ta_num h.b.a m hm hl).mono ?_
 rintro e w' ⟨rfl, h1, h2⟩
 exact ⟨rfl, h.b.go h1 h2, (h2.1 cb (by have := h.cb.2; omega) (lt_of_block h.cell)).trans h.cell, h.cb⟩
theorem tc_text (h : TknC w wr W st b6 nv cb cv) (n : Nat) (nn : Int) (hn : nn = (n : Int)) (hl : st.1.length ≤ 1000) : Calls Tryz.prog 65 #[.pointer (some ⟨w.heap.size + 1, 0, none⟩), .int .i64 nn] W fun e w' => e = .returned (.string (bs (textR n st).1)) ∧ TknC w wr w' (textR n st).2 b6 nv cb cv := by
 refine (ta_text h.b.a n nn hn hl).mono ?_
 rintro e w' ⟨rfl, h1, h2⟩
 exact ⟨rfl, h.b.go h1 h2, (h2.1 cb (by have := h.cb.2; omega) (lt_of_block h.cell)).trans h.cell, h.cb⟩
theorem TknC.set (h : TknC w wr W st b6 nv cb cv) (hb6 : b6 < wr.heap.size) (o : Nat) (u : Value) : TknC w wr (W.setCell ⟨cb, o, none⟩ u) st b6 nv cb (cv.setIfInBounds o u) := by
 have hk : ∀ k, k ≠ cb → (W.setCell ⟨cb, o, none⟩ u).heap[k]? = W.heap[k]? := fun k hk => Below.heap_setCell W ⟨cb, o, none⟩ u k hk
 have h1 := h.cb.1
 have h2 := h.cb.2
 exact ⟨⟨⟨(hk _ (by omega)).trans h.b.a.res, (hk _ (by omega)).trans h.b.a.left, h.b.a.bel.setCell (by show w.heap.size ≤ cb; omega) _⟩, (hk _ (by omega)).trans h.b.node, fun k k1 k2 => (hk k (by omega)).trans (h.b.keep k k1 k2), by simpa using h.b.sz, h.b.b6⟩, heap_setCell_same h.cell o u, h.cb⟩
theorem tb_num' {m : Nat} {x : Int} {st' : List UInt8 × Bool} (h : TknB w wr W st b6 nv) (e : numR m st = (x, st')) (hm : m ≤ 4) (hl : st.1.length ≤ 1000) : Calls Tryz.prog 64 #[.pointer (some ⟨w.heap.size + 1, 0, none⟩), .int .i64 (m : Int)] W fun e w' => e = .returned (.int .i64 x) ∧ TknB w wr w' st' b6 nv := by
 have := tb_num h m hm hl
 rw [e] at this
 exact this
theorem tb_text' {n : Nat} {nn : Int} {x : List UInt8} {st' : List UInt8 × Bool} (h : TknB w wr W st b6 nv) (e : textR n st = (x, st')) (hn : nn = (n : Int)) (hl : st.1.length ≤ 1000) : Calls Tryz.prog 65 #[.pointer (some ⟨w.heap.size + 1, 0, none⟩), .int .i64 nn] W fun e w' => e = .returned (.string (bs x)) ∧ TknB w wr w' st' b6 nv := by
 have := tb_text h n nn hn hl
 rw [e] at this
 exact this
theorem tc_num' {m : Nat} {x : Int} {st' : List UInt8 × Bool} (h : TknC w wr W st b6 nv cb cv) (e : numR m st = (x, st')) (hm : m ≤ 4) (hl : st.1.length ≤ 1000) : Calls Tryz.prog 64 #[.pointer (some ⟨w.heap.size + 1, 0, none⟩), .int .i64 (m : Int)] W fun e w' => e = .returned (.int .i64 x) ∧ TknC w wr w' st' b6 nv cb cv := by
 have := tc_num h m hm hl
 rw [e] at this
 exact this
theorem tc_text' {n : Nat} {nn : Int} {x : List UInt8} {st' : List UInt8 × Bool} (h : TknC w wr W st b6 nv cb cv) (e : textR n st = (x, st')) (hn : nn = (n : Int)) (hl : st.1.length ≤ 1000) : Calls Tryz.prog 65 #[.pointer (some ⟨w.heap.size + 1, 0, none⟩), .int .i64 nn] W fun e w' => e = .returned (.string (bs x)) ∧ TknC w wr w' st' b6 nv cb cv := by
 have := tc_text h n nn hn hl
 rw [e] at this
 exact this
theorem numR_len (m : Nat) (st : List UInt8 × Bool) : (numR m st).2.1.length ≤ st.1.length := (textR_len m st).2.2
end
section
variable {w W : World}
theorem TknB.mk' {st : List UInt8 × Bool} {b6 : Nat} {nv : Array Value} (ha : TknA w W st) (hn : W.heap[b6]? = some (.cells nv 93 (0, 0))) (hb6 : w.heap.size + 1 < b6) : TknB w W W st b6 nv := ⟨ha, hn, fun _ _ _ => rfl, Nat.le_refl _, hb6⟩
theorem TknB.setn {wr : World} {st : List UInt8 × Bool} {b6 : Nat} {nv : Array Value} (h : TknB w wr W st b6 nv) (o : Nat) (u : Value) : TknB w (W.setCell ⟨b6, o, none⟩ u) (W.setCell ⟨b6, o, none⟩ u) st b6 (nv.setIfInBounds o u) := by
 have hk : ∀ k, k ≠ b6 → (W.setCell ⟨b6, o, none⟩ u).heap[k]? = W.heap[k]? := fun k hk => Below.heap_setCell W ⟨b6, o, none⟩ u k hk
 have h2 := h.b6
 exact TknB.mk' ⟨(hk _ (by omega)).trans h.a.res, (hk _ (by omega)).trans h.a.left, h.a.bel.setCell (by show w.heap.size ≤ b6; omega) _⟩ (heap_setCell_same h.node o u) h.b6
def NcRow (W : World) (base : Nat) (v : Value) (l : List NCell) : Prop := W.ownsRow base 133 4 v l.length (ncsC l)
theorem TknB.row {wr : World} {st : List UInt8 × Bool} {b6 : Nat} {nv : Array Value} {v : Value} {l : List NCell} (h : TknB w wr W st b6 nv) (hl : wr.heap[w.heap.size + 1]? = some (.cells #[.string (bs []), .bool true] 131 (0, 0)) ∨ True) (hr : NcRow wr w.heap.size v l) (hne : v.ownBlock ≠ some (w.heap.size + 1)) : NcRow W w.heap.size v l :=
 row_keep hr (fun k hk => h.keep k (row_base hr hk).2 (fun e => hne (by rw [hk, e])))
theorem ncsC_snoc (l : List NCell) (c : NCell) : ncsC (l ++ [c]) = ncsC l ++ ncC c := by simp [ncsC]
theorem tk_push {W2 wr : World} {st : List UInt8 × Bool} {b6 cb n : Nat} {a0 a1 a3 v v' : Value} {l : List NCell} {c : NCell} {cv : Array Value} {o : Obj} (h : TknC w wr W st b6 #[a0, a1, v, a3] cb cv) (hr : NcRow W w.heap.size v l) (hn : n = l.length) (hg : (W.alloc o).grownBy W2 v.ownBlock) (hown : W2.ownsRow w.heap.size 133 4 v' (n + 1) (ncsC l ++ ncC c)) :
  TknB w (W2.setCell ⟨b6, 2, none⟩ v') (W2.setCell ⟨b6, 2, none⟩ v') st b6 #[a0, a1, v', a3] ∧ NcRow (W2.setCell ⟨b6, 2, none⟩ v') w.heap.size v' (l ++ [c]) := by
 have hsz : W.heap.size ≤ (W.alloc o).heap.size := by simp
 have hk : ∀ k x, W.heap[k]? = some x → v.ownBlock ≠ some k → W2.heap[k]? = some x := fun k x hx hne => (hg.block k (Nat.lt_of_lt_of_le (lt_of_block hx) hsz) (fun e => hne e.symm)).trans (heap_alloc_old hx)
 have h0 := hk _ _ h.b.a.res (fun e => row_neN hr h.b.a.res (by decide) e rfl)
 have h1 := hk _ _ h.b.a.left (fun e => row_neN hr h.b.a.left (by decide) e rfl)
 have h2 := hk _ _ h.b.node (fun e => row_neN hr h.b.node (by decide) e rfl)
 have hb6 := h.b.b6
 have hbel : Below w.heap.size w W2 := by
  have hb := h.b.a.bel
  refine (hb.alloc hb.size o).grown hg (Nat.le_trans hb.size hsz) (fun k e => (row_base hr e).1)
 have ha : TknA w W2 st := ⟨h0, h1, hbel⟩
 have hB := (TknB.mk' ha h2 hb6).setn 2 v'
 refine ⟨hB, ?_⟩
 unfold NcRow
 rw [List.length_append, List.length_singleton, ncsC_snoc, ← hn]
 exact row_keep hown (fun k hk => Below.heap_setCell _ ⟨b6, 2, none⟩ _ k (row_neN hown h2 (by decide) hk))
theorem tcell_parts (sl : List UInt8) (h : sl.length ≤ 1000) : ∃ (k : Int) (sa : List UInt8 × Bool) (key : List UInt8) (sb : List UInt8 × Bool), numR 1 (sl, true) = (k, sa) ∧ textR k.toNat sa = (key, sb) ∧ k = (k.toNat : Int) ∧ sa.1.length ≤ 1000 ∧ sb.1.length ≤ 1000 ∧ key.length ≤ 1000 := by
 have hk : 0 ≤ (numR 1 (sl, true)).1 := (num_one_lt _ (textR_len 1 _).1).1
 have la : (numR 1 (sl, true)).2.1.length ≤ 1000 := Nat.le_trans (numR_len 1 (sl, true)) h
 exact ⟨_, _, _, _, rfl, rfl, (Int.toNat_of_nonneg hk).symm, la, Nat.le_trans (textR_len _ _).2.2 la, Nat.le_trans (textR_len _ _).2.1 la⟩
theorem tcell1_parts (sb : List UInt8 × Bool) (h : sb.1.length ≤ 1000) : ∃ (S : Int) (sc : List UInt8 × Bool) (q : Int) (loc : List UInt8) (sd : List UInt8 × Bool), numR 2 sb = (S, sc) ∧ min S 100 = q ∧ textR q.toNat sc = (loc, sd) ∧ q = (q.toNat : Int) ∧ sc.1.length ≤ 1000 ∧ sd.1.length ≤ 1000 ∧ loc.length ≤ 1000 := by
 have hS : 0 ≤ (numR 2 sb).1 := (num_two_lt _ (textR_len 2 _).1).1
 have lc : (numR 2 sb).2.1.length ≤ 1000 := Nat.le_trans (numR_len 2 sb) h
 exact ⟨_, _, _, _, _, rfl, rfl, rfl, (Int.toNat_of_nonneg (Int.le_min.2 ⟨hS, by decide⟩)).symm, lc, Nat.le_trans (textR_len _ _).2.2 lc, Nat.le_trans (textR_len _ _).2.1 lc⟩
theorem tcell1_is {sl : List UInt8} {k S q : Int} {key loc : List UInt8} {sa sb sc sd : List UInt8 × Bool} (e1 : numR 1 (sl, true) = (k, sa)) (e2 : textR k.toNat sa = (key, sb)) (e3 : numR 2 sb = (S, sc)) (e4 : min S 100 = q) (e5 : textR q.toNat sc = (loc, sd)) : tcellR 1 (sl, true) = (⟨key, S, loc, if 100 < S then (numR 4 sd).1 else 0⟩, if 100 < S then (numR 4 sd).2 else sd) := by
 unfold tcellR
 dsimp only
 rw [e1]
 dsimp only
 rw [e2]
 dsimp only
 rw [if_pos rfl, if_pos rfl, e3]
 dsimp only
 rw [e4, e5]
 dsimp only
 by_cases h9 : 100 < S
 ·rw [if_pos (.inr h9), if_pos h9, if_pos h9]
 ·rw [if_neg (by omega), if_neg h9, if_neg h9]
theorem tcell2_is {sl : List UInt8} {k P : Int} {key : List UInt8} {sa sb se : List UInt8 × Bool} (e1 : numR 1 (sl, true) = (k, sa)) (e2 : textR k.toNat sa = (key, sb)) (e3 : numR 4 sb = (P, se)) : tcellR 2 (sl, true) = (⟨key, 0, [], P⟩, se) := by
 unfold tcellR
 dsimp only
 rw [e1]
 dsimp only
 rw [e2]
 dsimp only
 rw [if_neg (by decide), if_neg (by decide), if_pos (.inl rfl)]
 dsimp only
 rw [e3]
theorem num4_parts (sd : List UInt8 × Bool) (h : sd.1.length ≤ 1000) : ∃ (P : Int) (se : List UInt8 × Bool), numR 4 sd = (P, se) ∧ se.1.length ≤ 1000 := ⟨_, _, rfl, Nat.le_trans (numR_len 4 sd) h⟩
theorem tcells_end (kd : Int) (n : Nat) (sl : List UInt8) : tcellsR kd n (sl, false) = [] := by
 cases n <;> rfl
theorem tcells_more (kd : Int) (n : Nat) (sl : List UInt8) {c : NCell} {se : List UInt8 × Bool} (h : tcellR kd (sl, true) = (c, se)) : tcellsR kd (n + 1) (sl, true) = c :: tcellsR kd n se := by
 conv => lhs; unfold tcellsR
 rw [if_pos rfl, h]
def NdDone (w W : World) (n : Nd) (b6 : Nat) : Prop := ∃ (st : List UInt8 × Bool) (v : Value), TknB w W W st b6 #[.int .u8 n.kind, .int .i64 n.first, v, .string (bs n.data)] ∧ NcRow W w.heap.size v n.cells ∧ n.cells.length ≤ 65535 ∧ (∀ c ∈ n.cells, c.key.length ≤ 1000 ∧ c.loc.length ≤ 1000) ∧ n.data.length ≤ 1000
theorem ncsC_at : ∀ (l : List NCell) (j o : Nat) (hj : j < l.length) (ho : o < 4), (ncsC l)[j * 4 + o]? = (ncC l[j])[o]?
 | [], j, o, hj, _ => by simp at hj
 | x :: r, j, o, hj, ho => by
  have e : ncsC (x :: r) = ncC x ++ ncsC r := rfl
  have hx : (ncC x).length = 4 := rfl
  cases j with
  | zero =>
   rw [e, List.getElem?_append_left (by omega)]
   simp
  | succ j =>
   rw [e, List.getElem?_append_right (by omega), hx, show (j + 1) * 4 + o - 4 = j * 4 + o by omega]
   exact ncsC_at r j o (by simpa using hj) ho
theorem ncin_of {n : Nd} {v : Value} {base : Nat} (h : NcRow W base v n.cells) (hm : n.cells.length ≤ 65535) (hw : ∀ c ∈ n.cells, c.key.length ≤ 1000 ∧ c.loc.length ≤ 1000) (hd : n.data.length ≤ 1000) : NdIn W n v := by
 refine ⟨?_, hm, fun c hc => ⟨by have := (hw c hc).1; omega, by have := (hw c hc).2; omega⟩, by omega⟩
 rcases h.2 with ⟨rfl, h0⟩ | ⟨g, cap, cur, rfl, hb, hg, h1, h2, h3, h4⟩
 ·exact ⟨none, 0, by rw [h0], fun k hk => by omega⟩
 ·refine ⟨_, cap, rfl, fun k hk => ⟨g, 0, rfl, lt_of_block hg, ?_⟩⟩
  have hcell : ∀ (o : Nat) (u : Value), o < 4 → (ncC n.cells[k])[o]? = some u → W.cell? ⟨g, k * 4 + o, none⟩ = some u := fun o u ho hu => by
   rw [cell_of_block hg, ← Array.getElem?_toList]
   have h5 : (cur.toList.take (n.cells.length * 4))[k * 4 + o]? = cur.toList[k * 4 + o]? := List.getElem?_take_of_lt (by omega)
   rw [← h5, h4, ncsC_at n.cells k o hk ho]
   exact hu
  rw [Nat.zero_add]
  exact ⟨hcell 0 _ (by decide) rfl, hcell 1 _ (by decide) rfl, hcell 2 _ (by decide) rfl, hcell 3 _ (by decide) rfl⟩
set_option maxHeartbeats 16000000 in
set_option maxRecDepth 20000 in
theorem ntake_any (s : List UInt8) (hs : s.length ≤ 9223372036854775807) (w : World) : Calls Tryz.prog 34 #[.string (bs s)] w fun e w' => ∃ v, e = .returned (.tuple #[ndV (ntakeM s).1 v, .int .i64 (ntakeM s).2]) ∧ NcRow w' w.heap.size v (ntakeM s).1.cells ∧ Below w.heap.size w w' := by
 by_cases h512 : s.length = 512
 rotate_left
 ·have b1 : ((s.length : Int) != 512) = true := by simp; omega
  have hM : ntakeM s = (nd0, 7) := by unfold ntakeM; rw [if_pos h512]
  have HM := hid hM
  clear hM h512
  go_enter Tryz.func34, Tryz.ntmps34
  go_wp2_with fail
  obtain ⟨z0, z1, z2, z3⟩ := cells4' (heap_alloc_new w (.cells #[.int .u8 0, .int .i64 0, .slice none 0 0, .string ⟨#[]⟩] 93))
  refine bodyPost_ret (v := .tuple #[.agg #[.int .u8 0, .int .i64 0, .slice none 0 0, .string ⟨#[]⟩], .int .i64 7]) (by simp [results, Tryz.results34, go_sem, z0, z1, z2, z3]) rfl ⟨.slice none 0 0, ?_, ?_, ?_⟩
  ·rw [HM.out]; rfl
  ·rw [HM.out]; exact World.ownsRow_nil _ _ _ _
  ·exact (Below.refl _ w).alloc (Nat.le_refl _) _
 have b1 : ((s.length : Int) != 512) = false := by simp [h512]
 obtain ⟨a, ha⟩ : ∃ a, a = (numR 1 (s, true)).1 := ⟨_, rfl⟩
 obtain ⟨st1, hst1⟩ : ∃ st1, st1 = (numR 1 (s, true)).2 := ⟨_, rfl⟩
 obtain ⟨b, hb⟩ : ∃ b, b = (numR 2 st1).1 := ⟨_, rfl⟩
 obtain ⟨st2, hst2⟩ : ∃ st2, st2 = (numR 2 st1).2 := ⟨_, rfl⟩
 have hl1 : st1.1.length ≤ 512 := by rw [hst1]; have := numR_len 1 (s, true); dsimp only at this; omega
 have hl2 : st2.1.length ≤ 512 := by rw [hst2]; have := numR_len 2 st1; omega
 have ha2 : 0 ≤ a ∧ a < 256 := by rw [ha]; exact num_one_lt _ (textR_len 1 _).1
 have hb2 : 0 ≤ b ∧ b < 65536 := by rw [hb]; exact num_two_lt _ (textR_len 2 _).1
 have hwa : IntKind.u8.wrap a = a := IntWalk.u8_in _ (by omega)
 have Ha := hid ha
 have Hst1 := hid hst1
 have Hb := hid hb
 have Hst2 := hid hst2
 have HL1 := hid (show st1.1.length ≤ 1000 by omega)
 have HL2 := hid (show st2.1.length ≤ 1000 by omega)
 have Ha2 := hid ha2
 have Hb2 := hid hb2
 have H512 := hid h512
 clear ha hst1 hb hst2 hl1 hl2 ha2 hb2 h512
 go_enter Tryz.func34, Tryz.ntmps34
 go_upto_region 5 with fail
 have hst0 : TknA w ((w.alloc (.cells #[.int .u8 0, .int .i64 0, .slice none 0 0, .string ⟨#[]⟩] 93)).alloc (.cells #[.string (bs s), .bool true] 131)) (s, true) := ⟨heap_two_old w _ _, heap_two_new w _ _, ((Below.refl w.heap.size w).alloc (Nat.le_refl _) _).alloc (by simp) _⟩
 obtain ⟨W0, hW0⟩ : ∃ W0, W0 = (w.alloc (.cells #[.int .u8 0, .int .i64 0, .slice none 0 0, .string ⟨#[]⟩] 93)).alloc (.cells #[.string (bs s), .bool true] 131) := ⟨_, rfl⟩
 rw [← hW0] at hst0 ⊢
 have K1 := ta_num hst0 1 (by decide) (by dsimp only; rw [H512.out]; decide)
 rw [← Ha.out, ← Hst1.out] at K1
 replace K1 := hid K1
 clear hW0 hst0
 go_upto_region 6 with (first
  | (go_at_call 64; refine (K1.out).mono ?_; rintro e w1 ⟨rfl, ht, -⟩; have T1 := hid ht; clear ht K1)
  | go_in)
 have hn6 := heap_alloc_new w1 (.cells #[.int .u8 a, .int .i64 0, .slice none 0 0, .string ⟨#[]⟩] 93)
 have ht6 : TknA w (w1.alloc (.cells #[.int .u8 a, .int .i64 0, .slice none 0 0, .string ⟨#[]⟩] 93)) st1 := ⟨heap_alloc_old T1.out.res, heap_alloc_old T1.out.left, T1.out.bel.alloc T1.out.bel.size _⟩
 have HB := hid (TknB.mk' ht6 hn6 (lt_of_block T1.out.left))
 obtain ⟨w6, hw6⟩ : ∃ w6, w6 = w1.alloc (.cells #[.int .u8 a, .int .i64 0, .slice none 0 0, .string ⟨#[]⟩] 93) := ⟨_, rfl⟩
 obtain ⟨b6, hb6⟩ : ∃ b6, b6 = w1.heap.size := ⟨_, rfl⟩
 rw [← hw6, ← hb6] at HB
 rw [← hw6, ← hb6]
 have K2 := tb_num HB.out 2 (by decide) HL1.out
 rw [← Hb.out, ← Hst2.out] at K2
 replace K2 := hid K2
 clear hw6 hb6 hn6 ht6 T1
 go_upto_region 7 with (first
  | (go_at_call 64; refine (K2.out).mono ?_; rintro e w7 ⟨rfl, ht⟩; have HB := hid ht; clear ht K2)
  | go_in)
 obtain ⟨c0, c1, c2, c3⟩ := cells4' HB.out.node
 obtain ⟨f, hf⟩ : ∃ f, f = (tfirstR a st2).1 := ⟨_, rfl⟩
 obtain ⟨st3, hst3⟩ : ∃ st3, st3 = (tfirstR a st2).2 := ⟨_, rfl⟩
 have Hf := hid hf
 have Hst3 := hid hst3
 have HL3 := hid (show st3.1.length ≤ 1000 by rw [hst3]; unfold tfirstR; split; exact HL2.out; exact Nat.le_trans (numR_len 4 st2) HL2.out)
 clear hf hst3
 go_upto_if 29 with fail
 go_cut [] (fun wx => TknB w wx wx st3 b6 #[.int .u8 a, .int .i64 f, .slice none 0 0, .string ⟨#[]⟩])
 case first =>
  by_cases ha1 : a = 1
  ·have d1 : (a != 1) = false := by simp [ha1]
   have e1 : f = 0 ∧ st3 = st2 := by rw [Hf.out, Hst3.out]; unfold tfirstR; rw [if_pos ha1]; exact ⟨rfl, rfl⟩
   obtain ⟨rfl, rfl⟩ := e1
   clear ha1
   go_wp2_with fail
   go_meet
   exact TknB.mk' HB.out.a HB.out.node HB.out.b6
  ·have d1 : (a != 1) = true := by simp [ha1]
   have e1 : f = (numR 4 st2).1 ∧ st3 = (numR 4 st2).2 := by rw [Hf.out, Hst3.out]; unfold tfirstR; rw [if_neg ha1]; exact ⟨rfl, rfl⟩
   have K3 := tb_num HB.out 4 (by decide) HL2.out
   rw [← e1.1, ← e1.2] at K3
   replace K3 := hid K3
   clear ha1 e1 c0 c1 c2 c3
   go_wp2_with (first
    | (go_at_call 64; refine (K3.out).mono ?_; rintro e w8 ⟨rfl, ht⟩; have HB := hid ht; obtain ⟨c0, c1, c2, c3⟩ := cells4' ht.node; have f1 := free_of_block ht.node 1; clear ht K3)
    | go_in)
   go_meet
   have h1 := HB.out.setn 1 (.int .i64 f)
   simp only [List.setIfInBounds_toArray, List.set_cons_zero, List.set_cons_succ] at h1
   exact h1
 case rest =>
  have HB := hid hcut
  clear hcut c0 c1 c2 c3
  obtain ⟨c0, c1, c2, c3⟩ := cells4' HB.out.node
  go_upto_block 0 with fail
  go_cut [] (fun wx => NdDone w wx (tnodeR s) b6)
  case first =>
   have htn : tnodeR s = ⟨a, f, if a = 1 ∨ a = 2 then tcellsR a b.toNat st3 else [], if a = 3 then (textR b.toNat st3).1 else []⟩ := by
    rw [Hf.out, Hst3.out, Hb.out, Hst2.out, Hst1.out, Ha.out]; rfl
   by_cases ha3 : a = 3
   ·have HTn := hid (show tnodeR s = ⟨3, f, [], (textR b.toNat st3).1⟩ by rw [htn, ha3]; rfl)
    subst ha3
    have K4 := tb_text HB.out b.toNat b (by have := Hb2.out; omega) HL3.out
    have hdl := (textR_len b.toNat st3).2.1
    obtain ⟨dd, hdd⟩ : ∃ dd, dd = (textR b.toNat st3).1 := ⟨_, rfl⟩
    rw [← hdd] at K4 HTn hdl
    have HDl := hid (show dd.length ≤ 1000 from Nat.le_trans hdl HL3.out)
    replace K4 := hid K4
    clear htn hdd hdl
    go_wp2_with (first
     | (go_at_call 65; refine (K4.out).mono ?_; rintro e w8 ⟨rfl, ht⟩; have HB := hid ht; clear c0 c1 c2 c3; obtain ⟨c0, c1, c2, c3⟩ := cells4' ht.node; have f3 := free_of_block ht.node 3; clear ht K4)
     | go_in)
    go_meet
    have h1 := HB.out.setn 3 (.string (bs dd))
    simp only [List.setIfInBounds_toArray, List.set_cons_zero, List.set_cons_succ] at h1
    rw [HTn.out]
    exact ⟨_, .slice none 0 0, h1, World.ownsRow_nil _ _ _ _, by simp, (fun c hc => by cases hc), HDl.out⟩
   by_cases ha1 : a = 1
   ·have HTn := hid (show tnodeR s = ⟨1, f, tcellsR 1 b.toNat st3, []⟩ by rw [htn, ha1]; rfl)
    subst ha1
    clear htn ha3
    obtain ⟨M, hM⟩ : ∃ M : Nat, b = (M : Int) := ⟨b.toNat, by have := Hb2.out; omega⟩
    subst hM
    rw [Int.toNat_natCast] at HTn
    have hM9 : M ≤ 65535 := by have := Hb2.out; omega
    go_wp2_with fail
    clear c0 c1 c2 c3
    go_loopw [8] (fun v8 wr => ∃ (j : Nat) (st : List UInt8 × Bool) (v : Value) (l : List NCell), v8 = .int .i64 (j : Int) ∧ j ≤ M ∧ l.length = j ∧ st.1.length ≤ 1000 ∧ TknB w wr wr st b6 #[.int .u8 1, .int .i64 f, v, .string ⟨#[]⟩] ∧ NcRow wr w.heap.size v l ∧ (∀ c ∈ l, c.key.length ≤ 1000 ∧ c.loc.length ≤ 1000) ∧ tcellsR 1 M st3 = l ++ tcellsR 1 (M - j) st) (fun v8 _ => M - (intOf v8).toNat)
    case atStart => exact ⟨0, st3, .slice none 0 0, [], rfl, Nat.zero_le _, rfl, HL3.out, TknB.mk' HB.out.a HB.out.node HB.out.b6, World.ownsRow_nil _ _ _ _, (fun c hc => by cases hc), by simp⟩
    case round =>
     obtain ⟨j, ⟨sl, ok⟩, v, l, rfl, hj, hlj, hsl, hB, hrow, hwf, heq⟩ := hrel
     dsimp only at hsl
     obtain ⟨ao, n, cap, hv, hln⟩ : ∃ ao n cap, v = .slice ao n cap ∧ n = l.length := (row_form hrow).elim (fun e => ⟨none, 0, 0, e.1, e.2.symm⟩) (fun ⟨q, c, e⟩ => ⟨_, _, c, e, rfl⟩)
     subst hv
     have HBr := hid hB
     have HRow := hid hrow
     have HWf := hid hwf
     have HEq := hid heq
     have HLn := hid hln.symm
     have HJ := hid (show n = j by omega)
     have HSl := hid hsl
     have HNe := hid (show (Value.slice ao n cap).ownBlock ≠ some (w.heap.size + 1) from fun e => row_neN hrow hB.a.left (by decide) e rfl)
     have HB6 := hid (lt_of_block hB.node)
     have lo : wr.cell? ⟨w.heap.size + 1, 1, none⟩ = some (.bool ok) := (cell_of_block hB.a.left 1).trans rfl
     obtain ⟨c0, c1, c2, c3⟩ := cells4' hB.node
     by_cases hjM : j < M
     ·have hj9 : (j : Int) < 9223372036854775807 := by omega
      have hjN : (j : Int) < (M : Int) := by omega
      have hwj : IntKind.i64.wrap ((j : Int) + 1) = (j : Int) + 1 := IntWalk.i64_in _ (by omega)
      have HjM := hid hjM
      have hnj : n ≤ 65535 := by omega
      have HMj := hid (show M - j = (M - (j + 1)) + 1 by omega)
      clear hB hrow hwf heq hlj hsl hln hj hjM
      cases ok
      ·have HEnd := hid (show tcellsR 1 M st3 = l by rw [HEq.out, tcells_end, List.append_nil])
       go_wp2_with fail
       go_meet
       rw [HTn.out, HEnd.out]
       exact ⟨_, _, HBr.out, HRow.out, by rw [HLn.out]; exact hnj, HWf.out, by simp⟩
      ·obtain ⟨k, sa, key, sb, E1, E2, hk0, la, lb, lk⟩ := tcell_parts sl HSl.out
       have K1 := hid (tb_num' HBr.out E1 (by decide) HSl.out)
       have K2 := hid (fun W (h : TknB w wr W sa b6 #[.int .u8 1, .int .i64 f, .slice ao n cap, .string ⟨#[]⟩]) => tb_text' h E2 hk0 la)
       have HE1 := hid E1
       have HE2 := hid E2
       have HLb := hid lb
       have HLk := hid lk
       clear E1 E2 hk0 la lb lk
       obtain ⟨S, sc, q, loc, sd, E3, hq1, E5, hq0, lc, ld, ll⟩ := tcell1_parts sb HLb.out
       have K3 := hid (fun W cb cv (h : TknC w wr W sb b6 #[.int .u8 1, .int .i64 f, .slice ao n cap, .string ⟨#[]⟩] cb cv) => tc_num' h E3 (by decide) HLb.out)
       have K4 := hid (fun W cb cv (h : TknC w wr W sc b6 #[.int .u8 1, .int .i64 f, .slice ao n cap, .string ⟨#[]⟩] cb cv) => tc_text' h E5 hq0 lc)
       obtain ⟨P, se, E6, le⟩ := num4_parts sd ld
       have K5 := hid (fun W cb cv (h : TknC w wr W sd b6 #[.int .u8 1, .int .i64 f, .slice ao n cap, .string ⟨#[]⟩] cb cv) => tc_num' h E6 (by decide) ld)
       have HE6 := hid E6
       have HLe0 := hid le
       have HWf1 := hid (show key.length ≤ 1000 ∧ loc.length ≤ 1000 from ⟨HLk.out, ll⟩)
       have HCell := hid (tcell1_is HE1.out HE2.out E3 hq1 E5)
       have HLd := hid ld
       have hq2 : (if S < 100 then S else 100) = q := by rw [← hq1]; split <;> omega
       have hq3 : (if 100 < S then 100 else S) = q := by rw [← hq1]; split <;> omega
       clear E3 E5 E6 hq0 lc ld ll le
       clear c0 c1 c2 c3
       go_upto_region 18 with (first
        | (go_at_call 64; refine (K1.out).mono ?_; rintro e wq ⟨rfl, ht⟩; have HB := hid ht; clear ht)
        | (go_at_call 65; refine (K2.out _ HB.out).mono ?_; rintro e wk ⟨rfl, ht⟩; have HB := hid ht; clear ht)
        | go_in)
       have h9 := HB.out.cells #[.string (bs key), .int .i64 0, .string ⟨#[]⟩, .int .i64 0]
       obtain ⟨wz, hwz⟩ : ∃ wz, wz = wk.alloc (.cells #[.string (bs key), .int .i64 0, .string ⟨#[]⟩, .int .i64 0] 133) := ⟨_, rfl⟩
       obtain ⟨cb, hcb⟩ : ∃ cb, cb = wk.heap.size := ⟨_, rfl⟩
       rw [← hwz, ← hcb] at h9
       rw [← hwz, ← hcb]
       have HC := hid h9
       obtain ⟨x0, x1, x2, x3⟩ := cells4' h9.cell
       obtain ⟨c0, c1, c2, c3⟩ := cells4' h9.b.node
       clear h9 hwz hcb
       go_upto_region 20 with (first
        | (go_at_call 64; refine (K3.out _ _ _ HC.out).mono ?_; rintro e wq ⟨rfl, ht⟩; have HC := hid ht; obtain ⟨x0, x1, x2, x3⟩ := cells4' ht.cell; obtain ⟨c0, c1, c2, c3⟩ := cells4' ht.b.node; have fx := free_of_block ht.cell 1; clear ht)
        | go_in)
       have h9 := HC.out.set HB6.out 1 (.int .i64 S)
       simp only [List.setIfInBounds_toArray, List.set_cons_zero, List.set_cons_succ] at h9
       obtain ⟨wz, hwz⟩ : ∃ wz, wz = wq.setCell ⟨cb, 1, none⟩ (.int .i64 S) := ⟨_, rfl⟩
       rw [← hwz] at h9
       rw [← hwz]
       have HC := hid h9
       clear x0 x1 x2 x3 c0 c1 c2 c3 hwz fx
       obtain ⟨x0, x1, x2, x3⟩ := cells4' h9.cell
       obtain ⟨c0, c1, c2, c3⟩ := cells4' h9.b.node
       clear h9
       go_upto_region 21 with (first
        | (go_at_call 65; refine (K4.out _ _ _ HC.out).mono ?_; rintro e wq ⟨rfl, ht⟩; have HC := hid ht; obtain ⟨x0, x1, x2, x3⟩ := cells4' ht.cell; obtain ⟨c0, c1, c2, c3⟩ := cells4' ht.b.node; have fx := free_of_block ht.cell 2; clear ht)
        | go_in)
       have h9 := HC.out.set HB6.out 2 (.string (bs loc))
       simp only [List.setIfInBounds_toArray, List.set_cons_zero, List.set_cons_succ] at h9
       obtain ⟨wz, hwz⟩ : ∃ wz, wz = wq.setCell ⟨cb, 2, none⟩ (.string (bs loc)) := ⟨_, rfl⟩
       rw [← hwz] at h9
       rw [← hwz]
       have HC := hid h9
       clear x0 x1 x2 x3 c0 c1 c2 c3 hwz fx
       obtain ⟨x0, x1, x2, x3⟩ := cells4' h9.cell
       obtain ⟨c0, c1, c2, c3⟩ := cells4' h9.b.node
       clear h9
       by_cases h100 : 100 < S
       ·have d9 : decide (100 < S) = true := by simpa using h100
        have HCel := hid (show tcellR 1 (sl, true) = (⟨key, S, loc, P⟩, se) by rw [HCell.out, if_pos h100, if_pos h100, HE6.out])
        have HLe := HLe0
        clear h100
        go_upto_region 23 with (first
         | (go_at_call 64; refine (K5.out _ _ _ HC.out).mono ?_; rintro e wq ⟨rfl, ht⟩; have HC := hid ht; obtain ⟨x0, x1, x2, x3⟩ := cells4' ht.cell; obtain ⟨c0, c1, c2, c3⟩ := cells4' ht.b.node; have fx := free_of_block ht.cell 3; clear ht)
         | go_in)
        have h9 := HC.out.set HB6.out 3 (.int .i64 P)
        simp only [List.setIfInBounds_toArray, List.set_cons_zero, List.set_cons_succ] at h9
        obtain ⟨wz, hwz⟩ : ∃ wz, wz = wq.setCell ⟨cb, 3, none⟩ (.int .i64 P) := ⟨_, rfl⟩
        rw [← hwz] at h9
        rw [← hwz]
        have HC := hid h9
        clear x0 x1 x2 x3 c0 c1 c2 c3 hwz fx
        obtain ⟨x0, x1, x2, x3⟩ := cells4' h9.cell
        obtain ⟨c0, c1, c2, c3⟩ := cells4' h9.b.node
        clear h9
        have HWf2 := hid (show ∀ c ∈ l ++ [(⟨key, S, loc, P⟩ : NCell)], c.key.length ≤ 1000 ∧ c.loc.length ≤ 1000 from fun c hc => by
         rcases List.mem_append.1 hc with e | e
         ·exact HWf.out c e
         ·rw [List.mem_singleton.1 e]; exact HWf1.out)
        have HEq2 := hid (show tcellsR 1 M st3 = (l ++ [(⟨key, S, loc, P⟩ : NCell)]) ++ tcellsR 1 (M - (j + 1)) se by
         rw [HEq.out, HMj.out, tcells_more _ _ _ HCel.out, List.append_assoc]
         rfl)
        have hrow := HRow.out
        have hrW : NcRow wz w.heap.size (.slice ao n cap) l := HC.out.b.row (.inr trivial) hrow HNe.out
        have hrW2 : ∀ o : Obj, (wz.alloc o).ownsRow w.heap.size 133 4 (.slice ao n cap) n (ncsC l) := fun o => by
         have h9 := row_keep hrW (w' := wz.alloc o) (fun k hk => Below.heap_alloc wz o k (row_base hrW hk).2)
         rw [HLn.out] at h9
         exact h9
        have HrW := hid hrW
        have HrW2 := hid hrW2
        obtain ⟨i0, hi, hz0, hz1, hz2⟩ := info_parts (P := Tryz.prog) (e := 133) (z := .agg #[.string ⟨#[]⟩, .int .i64 0, .string ⟨#[]⟩, .int .i64 0]) (size := 4) (bytes := 48) (by kernel_rfl)
        have hwsz := hid HC.out.b.a.bel.size
        have hn9 : n ≤ 65535 := by omega
        clear hrow hrW hrW2
        go_wp2_with (first
         | (at_builtin; go_must (refine wpList_append_own_at _ rfl _ _ 91 rfl w.heap.size 133 i0 _ 4 48 Tryz.underlying91 hi hz0 hz1 hz2 rfl (by decide) (.slice ao n cap) n (ncsC l) rfl (HrW2.out _) ⟨wz.heap.size, 0, none⟩ 1 1 (ncC ⟨key, S, loc, P⟩) rfl rfl (World.news_of_block (w := wz.alloc (.cells (ncC ⟨key, S, loc, P⟩).toArray 133)) (cs := (ncC ⟨key, S, loc, P⟩).toArray) (t := 133) (fr := (0, 0)) (heap_alloc_new _ _)) (by intro u hu; simp only [ncC, List.mem_cons, List.not_mem_nil, or_false] at hu; rcases hu with rfl | rfl | rfl | rfl <;> rfl) (by unfold maxLen; omega) (by omega) (by have := hwsz.out; simp; omega) ?_); intro v' w4 hown hgr h5' hat; have HOwn := hid hown; obtain ⟨ao4, cap4, rfl⟩ : ∃ ao4 cap4, v' = .slice ao4 (n + 1) cap4 := (row_form hown).elim (fun e => by omega) (fun ⟨q, c, e⟩ => ⟨_, c, e⟩); have HP := hid (tk_push HC.out HrW.out HLn.out.symm hgr hown); have hnb := (hgr.block b6 (Nat.lt_of_lt_of_le (lt_of_block HC.out.b.node) (by simp)) (fun e => row_neN HrW.out HC.out.b.node (by decide) e.symm rfl)).trans (heap_alloc_old HC.out.b.node); have fx := free_of_block hnb 2; clear c0 c1 c2 c3; obtain ⟨c0, c1, c2, c3⟩ := cells4' hnb; clear hown hgr h5' hat hnb)
         | go_in)
        go_roundw
        case rel => exact ⟨j + 1, se, _, l ++ [⟨key, S, loc, P⟩], by simp, HjM.out, by rw [List.length_append, List.length_singleton, HLn.out, ← HJ.out], HLe.out, HP.out.1, HP.out.2, HWf2.out, HEq2.out⟩
        case measure => (have := HjM.out; (simp [intOf]) <;> omega)
       ·have d9 : decide (100 < S) = false := by simpa using h100
        have HCel := hid (show tcellR 1 (sl, true) = (⟨key, S, loc, 0⟩, sd) by rw [HCell.out, if_neg h100, if_neg h100])
        have HLe := HLd
        clear h100
        go_upto_region 23 with fail
        have HWf2 := hid (show ∀ c ∈ l ++ [(⟨key, S, loc, 0⟩ : NCell)], c.key.length ≤ 1000 ∧ c.loc.length ≤ 1000 from fun c hc => by
         rcases List.mem_append.1 hc with e | e
         ·exact HWf.out c e
         ·rw [List.mem_singleton.1 e]; exact HWf1.out)
        have HEq2 := hid (show tcellsR 1 M st3 = (l ++ [(⟨key, S, loc, 0⟩ : NCell)]) ++ tcellsR 1 (M - (j + 1)) sd by
         rw [HEq.out, HMj.out, tcells_more _ _ _ HCel.out, List.append_assoc]
         rfl)
        have hrow := HRow.out
        have hrW : NcRow wz w.heap.size (.slice ao n cap) l := HC.out.b.row (.inr trivial) hrow HNe.out
        have hrW2 : ∀ o : Obj, (wz.alloc o).ownsRow w.heap.size 133 4 (.slice ao n cap) n (ncsC l) := fun o => by
         have h9 := row_keep hrW (w' := wz.alloc o) (fun k hk => Below.heap_alloc wz o k (row_base hrW hk).2)
         rw [HLn.out] at h9
         exact h9
        have HrW := hid hrW
        have HrW2 := hid hrW2
        obtain ⟨i0, hi, hz0, hz1, hz2⟩ := info_parts (P := Tryz.prog) (e := 133) (z := .agg #[.string ⟨#[]⟩, .int .i64 0, .string ⟨#[]⟩, .int .i64 0]) (size := 4) (bytes := 48) (by kernel_rfl)
        have hwsz := hid HC.out.b.a.bel.size
        have hn9 : n ≤ 65535 := by omega
        clear hrow hrW hrW2
        go_wp2_with (first
         | (at_builtin; go_must (refine wpList_append_own_at _ rfl _ _ 91 rfl w.heap.size 133 i0 _ 4 48 Tryz.underlying91 hi hz0 hz1 hz2 rfl (by decide) (.slice ao n cap) n (ncsC l) rfl (HrW2.out _) ⟨wz.heap.size, 0, none⟩ 1 1 (ncC ⟨key, S, loc, 0⟩) rfl rfl (World.news_of_block (w := wz.alloc (.cells (ncC ⟨key, S, loc, 0⟩).toArray 133)) (cs := (ncC ⟨key, S, loc, 0⟩).toArray) (t := 133) (fr := (0, 0)) (heap_alloc_new _ _)) (by intro u hu; simp only [ncC, List.mem_cons, List.not_mem_nil, or_false] at hu; rcases hu with rfl | rfl | rfl | rfl <;> rfl) (by unfold maxLen; omega) (by omega) (by have := hwsz.out; simp; omega) ?_); intro v' w4 hown hgr h5' hat; have HOwn := hid hown; obtain ⟨ao4, cap4, rfl⟩ : ∃ ao4 cap4, v' = .slice ao4 (n + 1) cap4 := (row_form hown).elim (fun e => by omega) (fun ⟨q, c, e⟩ => ⟨_, c, e⟩); have HP := hid (tk_push HC.out HrW.out HLn.out.symm hgr hown); have hnb := (hgr.block b6 (Nat.lt_of_lt_of_le (lt_of_block HC.out.b.node) (by simp)) (fun e => row_neN HrW.out HC.out.b.node (by decide) e.symm rfl)).trans (heap_alloc_old HC.out.b.node); have fx := free_of_block hnb 2; clear c0 c1 c2 c3; obtain ⟨c0, c1, c2, c3⟩ := cells4' hnb; clear hown hgr h5' hat hnb)
         | go_in)
        go_roundw
        case rel => exact ⟨j + 1, sd, _, l ++ [⟨key, S, loc, 0⟩], by simp, HjM.out, by rw [List.length_append, List.length_singleton, HLn.out, ← HJ.out], HLe.out, HP.out.1, HP.out.2, HWf2.out, HEq2.out⟩
        case measure => (have := HjM.out; (simp [intOf]) <;> omega)
     ·obtain rfl : M = j := by omega
      have hgo : ¬ M < M := Nat.lt_irrefl M
      have HEnd := hid (show tcellsR 1 M st3 = l by rw [heq, Nat.sub_self]; unfold tcellsR; simp)
      clear hB hrow hwf heq hlj hsl hln hj hjM
      go_wp2_with fail
      go_meet
      rw [HTn.out, HEnd.out]
      exact ⟨_, _, HBr.out, HRow.out, by rw [HLn.out, HJ.out]; exact hM9, HWf.out, by simp⟩
   by_cases ha2 : a = 2
   ·have HTn := hid (show tnodeR s = ⟨2, f, tcellsR 2 b.toNat st3, []⟩ by rw [htn, ha2]; rfl)
    subst ha2
    clear htn ha3 ha1
    obtain ⟨M, hM⟩ : ∃ M : Nat, b = (M : Int) := ⟨b.toNat, by have := Hb2.out; omega⟩
    subst hM
    rw [Int.toNat_natCast] at HTn
    have hM9 : M ≤ 65535 := by have := Hb2.out; omega
    go_wp2_with fail
    clear c0 c1 c2 c3
    go_loopw [8] (fun v8 wr => ∃ (j : Nat) (st : List UInt8 × Bool) (v : Value) (l : List NCell), v8 = .int .i64 (j : Int) ∧ j ≤ M ∧ l.length = j ∧ st.1.length ≤ 1000 ∧ TknB w wr wr st b6 #[.int .u8 2, .int .i64 f, v, .string ⟨#[]⟩] ∧ NcRow wr w.heap.size v l ∧ (∀ c ∈ l, c.key.length ≤ 1000 ∧ c.loc.length ≤ 1000) ∧ tcellsR 2 M st3 = l ++ tcellsR 2 (M - j) st) (fun v8 _ => M - (intOf v8).toNat)
    case atStart => exact ⟨0, st3, .slice none 0 0, [], rfl, Nat.zero_le _, rfl, HL3.out, TknB.mk' HB.out.a HB.out.node HB.out.b6, World.ownsRow_nil _ _ _ _, (fun c hc => by cases hc), by simp⟩
    case round =>
     obtain ⟨j, ⟨sl, ok⟩, v, l, rfl, hj, hlj, hsl, hB, hrow, hwf, heq⟩ := hrel
     dsimp only at hsl
     obtain ⟨ao, n, cap, hv, hln⟩ : ∃ ao n cap, v = .slice ao n cap ∧ n = l.length := (row_form hrow).elim (fun e => ⟨none, 0, 0, e.1, e.2.symm⟩) (fun ⟨q, c, e⟩ => ⟨_, _, c, e, rfl⟩)
     subst hv
     have HBr := hid hB
     have HRow := hid hrow
     have HWf := hid hwf
     have HEq := hid heq
     have HLn := hid hln.symm
     have HJ := hid (show n = j by omega)
     have HSl := hid hsl
     have HNe := hid (show (Value.slice ao n cap).ownBlock ≠ some (w.heap.size + 1) from fun e => row_neN hrow hB.a.left (by decide) e rfl)
     have HB6 := hid (lt_of_block hB.node)
     have lo : wr.cell? ⟨w.heap.size + 1, 1, none⟩ = some (.bool ok) := (cell_of_block hB.a.left 1).trans rfl
     obtain ⟨c0, c1, c2, c3⟩ := cells4' hB.node
     by_cases hjM : j < M
     ·have hj9 : (j : Int) < 9223372036854775807 := by omega
      have hjN : (j : Int) < (M : Int) := by omega
      have hwj : IntKind.i64.wrap ((j : Int) + 1) = (j : Int) + 1 := IntWalk.i64_in _ (by omega)
      have HjM := hid hjM
      have hnj : n ≤ 65535 := by omega
      have HMj := hid (show M - j = (M - (j + 1)) + 1 by omega)
      clear hB hrow hwf heq hlj hsl hln hj hjM
      cases ok
      ·have HEnd := hid (show tcellsR 2 M st3 = l by rw [HEq.out, tcells_end, List.append_nil])
       go_wp2_with fail
       go_meet
       rw [HTn.out, HEnd.out]
       exact ⟨_, _, HBr.out, HRow.out, by rw [HLn.out]; exact hnj, HWf.out, by simp⟩
      ·obtain ⟨k, sa, key, sb, E1, E2, hk0, la, lb, lk⟩ := tcell_parts sl HSl.out
       have K1 := hid (tb_num' HBr.out E1 (by decide) HSl.out)
       have K2 := hid (fun W (h : TknB w wr W sa b6 #[.int .u8 2, .int .i64 f, .slice ao n cap, .string ⟨#[]⟩]) => tb_text' h E2 hk0 la)
       have HE1 := hid E1
       have HE2 := hid E2
       have HLb := hid lb
       have HLk := hid lk
       clear E1 E2 hk0 la lb lk
       obtain ⟨P, se, E3, le⟩ := num4_parts sb HLb.out
       have HLe := hid le
       have K5 := hid (fun W cb cv (h : TknC w wr W sb b6 #[.int .u8 2, .int .i64 f, .slice ao n cap, .string ⟨#[]⟩] cb cv) => tc_num' h E3 (by decide) HLb.out)
       have HWf1 := hid (show key.length ≤ 1000 ∧ ([] : List UInt8).length ≤ 1000 from ⟨HLk.out, by decide⟩)
       have HCell := hid (tcell2_is HE1.out HE2.out E3)
       clear E3 le
       clear c0 c1 c2 c3
       go_upto_region 18 with (first
        | (go_at_call 64; refine (K1.out).mono ?_; rintro e wq ⟨rfl, ht⟩; have HB := hid ht; clear ht)
        | (go_at_call 65; refine (K2.out _ HB.out).mono ?_; rintro e wk ⟨rfl, ht⟩; have HB := hid ht; clear ht)
        | go_in)
       have h9 := HB.out.cells #[.string (bs key), .int .i64 0, .string ⟨#[]⟩, .int .i64 0]
       obtain ⟨wz, hwz⟩ : ∃ wz, wz = wk.alloc (.cells #[.string (bs key), .int .i64 0, .string ⟨#[]⟩, .int .i64 0] 133) := ⟨_, rfl⟩
       obtain ⟨cb, hcb⟩ : ∃ cb, cb = wk.heap.size := ⟨_, rfl⟩
       rw [← hwz, ← hcb] at h9
       rw [← hwz, ← hcb]
       have HC := hid h9
       obtain ⟨x0, x1, x2, x3⟩ := cells4' h9.cell
       obtain ⟨c0, c1, c2, c3⟩ := cells4' h9.b.node
       clear h9 hwz hcb
       go_upto_region 23 with (first
        | (go_at_call 64; refine (K5.out _ _ _ HC.out).mono ?_; rintro e wq ⟨rfl, ht⟩; have HC := hid ht; obtain ⟨x0, x1, x2, x3⟩ := cells4' ht.cell; obtain ⟨c0, c1, c2, c3⟩ := cells4' ht.b.node; have fx := free_of_block ht.cell 3; clear ht)
        | go_in)
       have h9 := HC.out.set HB6.out 3 (.int .i64 P)
       simp only [List.setIfInBounds_toArray, List.set_cons_zero, List.set_cons_succ] at h9
       obtain ⟨wz, hwz⟩ : ∃ wz, wz = wq.setCell ⟨cb, 3, none⟩ (.int .i64 P) := ⟨_, rfl⟩
       rw [← hwz] at h9
       rw [← hwz]
       have HC := hid h9
       clear x0 x1 x2 x3 c0 c1 c2 c3 hwz fx
       obtain ⟨x0, x1, x2, x3⟩ := cells4' h9.cell
       obtain ⟨c0, c1, c2, c3⟩ := cells4' h9.b.node
       clear h9
       have HWf2 := hid (show ∀ c ∈ l ++ [(⟨key, 0, [], P⟩ : NCell)], c.key.length ≤ 1000 ∧ c.loc.length ≤ 1000 from fun c hc => by
        rcases List.mem_append.1 hc with e | e
        ·exact HWf.out c e
        ·rw [List.mem_singleton.1 e]; exact HWf1.out)
       have HEq2 := hid (show tcellsR 2 M st3 = (l ++ [(⟨key, 0, [], P⟩ : NCell)]) ++ tcellsR 2 (M - (j + 1)) se by
        rw [HEq.out, HMj.out, tcells_more _ _ _ HCell.out, List.append_assoc]
        rfl)
       have hrow := HRow.out
       have hrW : NcRow wz w.heap.size (.slice ao n cap) l := HC.out.b.row (.inr trivial) hrow HNe.out
       have hrW2 : ∀ o : Obj, (wz.alloc o).ownsRow w.heap.size 133 4 (.slice ao n cap) n (ncsC l) := fun o => by
        have h9 := row_keep hrW (w' := wz.alloc o) (fun k hk => Below.heap_alloc wz o k (row_base hrW hk).2)
        rw [HLn.out] at h9
        exact h9
       have HrW := hid hrW
       have HrW2 := hid hrW2
       obtain ⟨i0, hi, hz0, hz1, hz2⟩ := info_parts (P := Tryz.prog) (e := 133) (z := .agg #[.string ⟨#[]⟩, .int .i64 0, .string ⟨#[]⟩, .int .i64 0]) (size := 4) (bytes := 48) (by kernel_rfl)
       have hwsz := hid HC.out.b.a.bel.size
       have hn9 : n ≤ 65535 := by omega
       clear hrow hrW hrW2
       go_wp2_with (first
        | (at_builtin; go_must (refine wpList_append_own_at _ rfl _ _ 91 rfl w.heap.size 133 i0 _ 4 48 Tryz.underlying91 hi hz0 hz1 hz2 rfl (by decide) (.slice ao n cap) n (ncsC l) rfl (HrW2.out _) ⟨wz.heap.size, 0, none⟩ 1 1 (ncC ⟨key, 0, [], P⟩) rfl rfl (World.news_of_block (w := wz.alloc (.cells (ncC ⟨key, 0, [], P⟩).toArray 133)) (cs := (ncC ⟨key, 0, [], P⟩).toArray) (t := 133) (fr := (0, 0)) (heap_alloc_new _ _)) (by intro u hu; simp only [ncC, List.mem_cons, List.not_mem_nil, or_false] at hu; rcases hu with rfl | rfl | rfl | rfl <;> rfl) (by unfold maxLen; omega) (by omega) (by have := hwsz.out; simp; omega) ?_); intro v' w4 hown hgr h5' hat; have HOwn := hid hown; obtain ⟨ao4, cap4, rfl⟩ : ∃ ao4 cap4, v' = .slice ao4 (n + 1) cap4 := (row_form hown).elim (fun e => by omega) (fun ⟨q, c, e⟩ => ⟨_, c, e⟩); have HP := hid (tk_push HC.out HrW.out HLn.out.symm hgr hown); have hnb := (hgr.block b6 (Nat.lt_of_lt_of_le (lt_of_block HC.out.b.node) (by simp)) (fun e => row_neN HrW.out HC.out.b.node (by decide) e.symm rfl)).trans (heap_alloc_old HC.out.b.node); have fx := free_of_block hnb 2; clear c0 c1 c2 c3; obtain ⟨c0, c1, c2, c3⟩ := cells4' hnb; clear hown hgr h5' hat hnb)
        | go_in)
       go_roundw
       case rel => exact ⟨j + 1, se, _, l ++ [⟨key, 0, [], P⟩], by simp, HjM.out, by rw [List.length_append, List.length_singleton, HLn.out, ← HJ.out], HLe.out, HP.out.1, HP.out.2, HWf2.out, HEq2.out⟩
       case measure => (have := HjM.out; (simp [intOf]) <;> omega)
     ·obtain rfl : M = j := by omega
      have hgo : ¬ M < M := Nat.lt_irrefl M
      have HEnd := hid (show tcellsR 2 M st3 = l by rw [heq, Nat.sub_self]; unfold tcellsR; simp)
      clear hB hrow hwf heq hlj hsl hln hj hjM
      go_wp2_with fail
      go_meet
      rw [HTn.out, HEnd.out]
      exact ⟨_, _, HBr.out, HRow.out, by rw [HLn.out, HJ.out]; exact hM9, HWf.out, by simp⟩
   ·have HTn := hid (show tnodeR s = ⟨a, f, [], []⟩ by rw [htn, if_neg (by omega), if_neg ha3])
    have d1 : (a == 1) = false := by simpa using ha1
    have d2 : (a == 2) = false := by simpa using ha2
    have d3 : (a == 3) = false := by simpa using ha3
    clear htn ha3 ha1 ha2
    go_wp2_with fail
    go_meet
    rw [HTn.out]
    exact ⟨st3, .slice none 0 0, HB.out, World.ownsRow_nil _ _ _ _, by simp, (fun c hc => by cases hc), by simp⟩
  case rest =>
   obtain ⟨st9, v, hb9, hrow, hm9, hw9, hd9⟩ := hcut
   obtain ⟨n, hn⟩ : ∃ n, n = tnodeR s := ⟨_, rfl⟩
   rw [← hn] at hb9 hrow hm9 hw9 hd9
   have hin : NdIn wc n v := ncin_of hrow hm9 hw9 hd9
   obtain ⟨P, hP⟩ : ∃ P, P = nputM n := ⟨_, rfl⟩
   have NP := nput_any hin
   rw [← hP] at NP
   have HN := hid hn
   have HP := hid hP
   have HRow := hid hrow
   obtain ⟨ao, cap, rfl, -⟩ := hin.at'
   have HB9 := hid hb9
   obtain ⟨kd, F0, L, D⟩ := n
   obtain ⟨T, E⟩ := P
   unfold ndV at NP
   dsimp only at NP hb9
   replace NP := hid NP
   clear hb9 hrow hm9 hw9 hd9 hin hn hP c0 c1 c2 c3
   obtain ⟨c0, c1, c2, c3⟩ := cells4' HB9.out.node
   go_upto_region 25 with (first
    | (go_at_call 35; refine (NP.out).mono ?_; rintro e w10 ⟨rfl, hb⟩; have HB10 := hid hb; clear hb)
    | go_in)
   have hz10 := (HB10.out.block _ (lt_of_block HB9.out.a.res)).trans HB9.out.a.res
   have hn10 := (HB10.out.block _ (lt_of_block HB9.out.node)).trans HB9.out.node
   clear c0 c1 c2 c3
   obtain ⟨c0, c1, c2, c3⟩ := cells4' hn10
   obtain ⟨z0, z1, z2, z3⟩ := cells4' hz10
   have g0 := free_of_block hz10 0
   have g1 := free_of_block hz10 1
   have g2 := free_of_block hz10 2
   have g3 := free_of_block hz10 3
   have Hz10 := hid hz10
   have HBl := hid (HB9.out.a.bel.trans (HB10.out.mono HB9.out.a.bel.size))
   have hM : ntakeM s = if ((T, E) : List UInt8 × Int) = (s, 0) then (⟨kd, F0, L, D⟩, 0) else (nd0, 7) := by
    unfold ntakeM
    rw [if_neg (by simp [H512.out]), ← HN.out, ← HP.out]
   clear hz10 hn10
   by_cases hE : E = 0
   ·by_cases hT : T = s
    ·have HM := hid (show ntakeM s = (⟨kd, F0, L, D⟩, 0) by rw [hM, if_pos (by rw [hE, hT])])
     subst hE
     have t1 : (T != s) = false := by simp [hT]
     have t2 : (T == s) = true := by simp [hT]
     have HT := hid hT
     clear hM hT
     go_wp2_with fail
     refine bodyPost_ret (v := .tuple #[.agg #[.int .u8 kd, .int .i64 F0, .slice ao L.length cap, .string (bs D)], .int .i64 0]) (by simp [results, Tryz.results34, go_sem, z0, z1, z2, z3, g0, g1, g2, g3]) rfl ⟨.slice ao L.length cap, ?_, ?_, ?_⟩
     ·rw [HM.out]; rfl
     ·rw [HM.out]
      have h1 : NcRow w10 w.heap.size (.slice ao L.length cap) L := row_keep HRow.out (fun k hk => HB10.out.block k (row_base HRow.out hk).2)
      refine row_keep h1 (fun k hk => ?_)
      have hne := row_neN h1 Hz10.out (by decide) hk
      exact (Below.heap_setCell _ ⟨w.heap.size, 3, none⟩ _ k hne).trans ((Below.heap_setCell _ ⟨w.heap.size, 2, none⟩ _ k hne).trans ((Below.heap_setCell _ ⟨w.heap.size, 1, none⟩ _ k hne).trans (Below.heap_setCell _ ⟨w.heap.size, 0, none⟩ _ k hne)))
     ·(iterate 4 refine Below.setCell ?_ (by simp) _); exact HBl.out
    ·have HM := hid (show ntakeM s = (nd0, 7) by rw [hM, if_neg (fun e => hT (congrArg Prod.fst e))])
     subst hE
     have t1 : (T != s) = true := by simpa using hT
     have t2 : (T == s) = false := by simpa using hT
     clear hM
     go_wp2_with fail
     refine bodyPost_ret (v := .tuple #[.agg #[.int .u8 0, .int .i64 0, .slice none 0 0, .string ⟨#[]⟩], .int .i64 7]) (by simp [results, Tryz.results34, go_sem, z0, z1, z2, z3, g0, g1, g2, g3]) rfl ⟨.slice none 0 0, ?_, ?_, ?_⟩
     ·rw [HM.out]; rfl
     ·rw [HM.out]; exact World.ownsRow_nil _ _ _ _
     ·(iterate 4 refine Below.setCell ?_ (by simp) _); exact HB9.out.a.bel.trans (HB10.out.mono HB9.out.a.bel.size)
   ·have HM := hid (show ntakeM s = (nd0, 7) by rw [hM, if_neg (fun e => hE (congrArg Prod.snd e))])
    have bE : (E != 0) = true := by simpa using hE
    clear hM hE
    go_wp2_with fail
    refine bodyPost_ret (v := .tuple #[.agg #[.int .u8 0, .int .i64 0, .slice none 0 0, .string ⟨#[]⟩], .int .i64 7]) (by simp [results, Tryz.results34, go_sem, z0, z1, z2, z3, g0, g1, g2, g3]) rfl ⟨.slice none 0 0, ?_, ?_, ?_⟩
    ·rw [HM.out]; rfl
    ·rw [HM.out]; exact World.ownsRow_nil _ _ _ _
    ·(iterate 4 refine Below.setCell ?_ (by simp) _); exact HB9.out.a.bel.trans (HB10.out.mono HB9.out.a.bel.size)
end
end Go.Proofs.YtlkkclooihjpiaaGreat
