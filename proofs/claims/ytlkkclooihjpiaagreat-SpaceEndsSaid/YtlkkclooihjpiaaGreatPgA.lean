/- A pager in memory. -/
import Derived.Test.YtlkkclooihjpiaaGreatLgA
set_option linter.unusedVariables false
set_option linter.unusedSimpArgs false
namespace Go.Proofs.YtlkkclooihjpiaaGreat
open Go.RowKit Go.Maps
set_option maxRecDepth 20000
structure Tr where
 pages : Int
 wr : Int → Option (List UInt8)
structure Tr.Ok (t : Tr) : Prop where
 pages : 0 ≤ t.pages ∧ t.pages ≤ 256
 dom : ∀ p s, t.wr p = some s → 1 ≤ p ∧ p ≤ t.pages ∧ s.length = 512
structure Pg where
 now : Option Tr
 saves : List Tr
 opn : Int
structure Pg.Ok (p : Pg) : Prop where
 now : ∀ t, p.now = some t → t.Ok
 saves : ∀ t ∈ p.saves, t.Ok
 many : p.saves.length ≤ 64
 none : p.now = none → p.saves = []
def MapSays (D : DataW Unit) (f : Int → Option (List UInt8)) : Prop :=
 (∀ k, Maps.has D k = true → ∃ p : Int, k = ik p) ∧ ∀ p : Int, match f p with
  | some s => Maps.has D (ik p) = true ∧ ∀ z, D.atKey (ik p) z = .lit (.string s)
  | none => Maps.has D (ik p) = false
def WrAt (w : World) (mb : Nat) (f : Int → Option (List UInt8)) : Prop :=
 ∃ D : DataW Unit, w.ownsMap Tryz.prog 3 (plainElem Tryz.prog 9) mb (Maps.size D) D ∧ MapSays D f
theorem WrAt.keep {w w' : World} {mb : Nat} {f : Int → Option (List UInt8)} (h : WrAt w mb f) (hk : w'.heap[mb]? = w.heap[mb]?) : WrAt w' mb f := by
 obtain ⟨D, h1, h2⟩ := h
 exact ⟨D, map_keep h1 hk, h2⟩
theorem WrAt.lt {w : World} {mb : Nat} {f : Int → Option (List UInt8)} (h : WrAt w mb f) : mb < w.heap.size := by
 obtain ⟨D, h1, h2⟩ := h
 exact h1.lt
theorem WrAt.block {w : World} {mb : Nat} {f : Int → Option (List UInt8)} (h : WrAt w mb f) : ∃ es c, w.heap[mb]? = some (.map es c) := by
 obtain ⟨D, ⟨es, clock, hb, r⟩, h2⟩ := h
 exact ⟨es, clock, hb⟩
theorem says_size {D : DataW Unit} {f : Int → Option (List UInt8)} {P : Int} (hP : P ≤ 256) (h : MapSays D f) (hf : ∀ p s, f p = some s → 1 ≤ p ∧ p ≤ P) (ht : Canon D) : Maps.size D ≤ 256 := by
 obtain ⟨es, rfl, hp0, hkey⟩ := ht
 have hp := apart_of_rising hp0
 have hk : ∀ p ∈ es, ∃ i : Int, (1 ≤ i ∧ i ≤ 256) ∧ p.1 = ik i := fun p hp' => by
  have hh : Maps.has (.map es) p.1 = true := List.any_eq_true.2 ⟨p, hp', WideAt.sameKey_self (hkey p hp')⟩
  obtain ⟨i, hi⟩ := h.1 p.1 hh
  refine ⟨i, ?_, hi⟩
  have h2 := h.2 i
  rw [hi] at hh
  cases hfi : f i with
  | some s => have := hf i s hfi; omega
  | none => rw [hfi] at h2; rw [hh] at h2; cases h2
 let num : Lit → Nat := fun k => match k with | .int _ i => (i - 1).toNat | _ => 0
 have e : (es.map fun p => num p.1).length ≤ 256 := by
  refine nodup_below _ _ ?_ ?_
  ·rw [List.pairwise_map]
   have : es.Pairwise (fun p q => p ∈ es ∧ q ∈ es ∧ p.1 ≠ q.1) := hp.imp_of_mem fun ha hb h => ⟨ha, hb, h⟩
   refine this.imp ?_
   rintro p q ⟨hp', hq', hne⟩ e
   obtain ⟨i, hi, e1⟩ := hk p hp'
   obtain ⟨j, hj, e2⟩ := hk q hq'
   rw [e1, e2] at e hne
   simp only [num, ik] at e
   exact hne (by rw [show i = j by omega])
  ·intro k hk'
   obtain ⟨p, hp', rfl⟩ := List.mem_map.1 hk'
   obtain ⟨i, hi, e1⟩ := hk p hp'
   rw [e1]
   simp only [num, ik]
   omega
 simpa [Maps.size] using e
def trCells (t : Tr) (m : Nat) : List Value := [.int .i64 t.pages, .map (some m)]
def trsCells : List (Tr × Nat) → List Value
 | [] => []
 | x :: r => trCells x.1 x.2 ++ trsCells r
def NowAt (w : World) (K : Foot) (nv : Value) : Option Tr → Prop
 | none => nv = .pointer none
 | some t => ∃ nb mb, nv = .pointer (some ⟨nb, 0, none⟩) ∧ w.heap[nb]? = some (.cells (trCells t mb).toArray 86 (0, 0)) ∧ WrAt w mb t.wr ∧ K.own nb ∧ K.own mb
def SavesAt (w : World) (K : Foot) (sv : Value) (l : List Tr) : Prop :=
 ∃ ms : List (Tr × Nat), ms.map (·.1) = l ∧ w.ownsRow 0 86 2 sv l.length (trsCells ms) ∧ (∀ k, sv.ownBlock = some k → K.own k) ∧ ∀ x ∈ ms, WrAt w x.2 x.1.wr ∧ K.sh x.2
structure PgMem (w : World) (pb l : Nat) (K : Foot) (p : Pg) (nv sv : Value) : Prop where
 blk : w.heap[pb]? = some (.cells #[.pointer (some ⟨l, 0, none⟩), nv, sv, .int .i64 p.opn] 83 (0, 0))
 now : NowAt w K nv p.now
 saves : SavesAt w K sv p.saves
 nrow : ∀ nb, nv = .pointer (some ⟨nb, 0, none⟩) → sv.ownBlock ≠ some nb
 pown : K.own pb
 olt : ∀ k, K.own k → k < w.heap.size
 slt : ∀ k, K.sh k → k < w.heap.size
 apart : ∀ k, K.own k → K.sh k → False
 ok : p.Ok
section
variable {w w' : World} {pb l : Nat} {K K' : Foot} {p : Pg} {nv sv : Value}
theorem NowAt.keep {t : Option Tr} (h : NowAt w K nv t) (hk : ∀ k, K.own k → w'.heap[k]? = w.heap[k]?) : NowAt w' K nv t := by
 cases t with
 | none => exact h
 | some t =>
  obtain ⟨nb, mb, h1, h2, h3, h4, h5⟩ := h
  exact ⟨nb, mb, h1, (hk nb h4).trans h2, h3.keep (hk mb h5), h4, h5⟩
theorem SavesAt.keep {t : List Tr} (h : SavesAt w K sv t) (hk : ∀ k, (K.own k ∧ sv.ownBlock = some k) ∨ K.sh k → w'.heap[k]? = w.heap[k]?) : SavesAt w' K sv t := by
 obtain ⟨ms, h1, h2, h3, h4⟩ := h
 exact ⟨ms, h1, row_keep h2 fun j hj => hk j (.inl ⟨h3 j hj, hj⟩), h3, fun x hx => ⟨(h4 x hx).1.keep (hk _ (.inr (h4 x hx).2)), (h4 x hx).2⟩⟩
theorem PgMem.keep (h : PgMem w pb l K p nv sv) (hk : ∀ k, K.own k ∨ K.sh k → w'.heap[k]? = w.heap[k]?) (hs : w.heap.size ≤ w'.heap.size) : PgMem w' pb l K p nv sv :=
 ⟨(hk pb (.inl h.pown)).trans h.blk, h.now.keep fun k hk1 => hk k (.inl hk1), h.saves.keep fun k hk1 => hk k (hk1.imp (·.1) id), h.nrow, h.pown, fun k hk1 => Nat.lt_of_lt_of_le (h.olt k hk1) hs, fun k hk1 => Nat.lt_of_lt_of_le (h.slt k hk1) hs, h.apart, h.ok⟩
theorem PgMem.klt (h : PgMem w pb l K p nv sv) {k : Nat} (hk : K.own k ∨ K.sh k) : k < w.heap.size := hk.elim (h.olt k) (h.slt k)
theorem PgMem.below (h : PgMem w pb l K p nv sv) (hb : Below w.heap.size w w') : PgMem w' pb l K p nv sv := h.keep (fun k hk => hb.block k (h.klt hk)) hb.size
theorem PgMem.cell (h : PgMem w pb l K p nv sv) : w.cell? ⟨pb, 0, none⟩ = some (.pointer (some ⟨l, 0, none⟩)) ∧ w.cell? ⟨pb, 1, none⟩ = some nv ∧ w.cell? ⟨pb, 2, none⟩ = some sv ∧ w.cell? ⟨pb, 3, none⟩ = some (.int .i64 p.opn) :=
 ⟨(cell_of_block h.blk 0).trans rfl, (cell_of_block h.blk 1).trans rfl, (cell_of_block h.blk 2).trans rfl, (cell_of_block h.blk 3).trans rfl⟩
theorem PgMem.free (h : PgMem w pb l K p nv sv) (o : Nat) : w.frozen? ⟨pb, o, none⟩ = false := free_of_block h.blk o
end
def PgDid (w : World) (pb l : Nat) (K : Foot) (p' : Pg) (w' : World) : Prop := ∃ K' nv sv, PgMem w' pb l K' p' nv sv ∧ FootStep K K' w w'
structure PgX (w W : World) (pb l b : Nat) (p : Pg) (g : Lg) (d : Dsk) (X : Nat → Prop) : Prop where
 ex : ∃ F G K nv sv, LgAt W l b F G g d ∧ PgMem W pb l K p nv sv ∧ (∀ k, K.own k ∨ K.sh k → ¬ F.own k ∧ ¬ F.sh k ∧ ¬ G k) ∧ ∀ k, (F.own k ∨ F.sh k ∨ G k) ∨ K.own k ∨ K.sh k → w.heap.size ≤ k ∧ ¬ X k
 bel : Below w.heap.size w W
 xlt : ∀ k, X k → k < W.heap.size
section
variable {w W W' : World} {pb l b : Nat} {p p' : Pg} {g g' : Lg} {d d' : Dsk} {X X' : Nat → Prop}
theorem PgX.log (h : PgX w W pb l b p g d X) : MkX w W l b g d X := by
 obtain ⟨⟨F, G, K, nv, sv, h1, h2, h3, h4⟩, hb, hx⟩ := h
 exact ⟨⟨F, G, h1, fun k hk => h4 k (.inl hk)⟩, hb, hx⟩
theorem PgX.below (h : PgX w W pb l b p g d X) (hb : Below W.heap.size W W') : PgX w W' pb l b p g d X := by
 obtain ⟨⟨F, G, K, nv, sv, h1, h2, h3, h4⟩, hb1, hx⟩ := h
 exact ⟨⟨F, G, K, nv, sv, h1.below hb, h2.below hb, h3, h4⟩, hb1.trans (hb.mono hb1.size), fun k hk => Nat.lt_of_lt_of_le (hx k hk) hb.size⟩
theorem pgx_did {F K : Foot} {G : Nat → Prop} {nv sv : Value} (h1 : LgAt W l b F G g d) (h2 : PgMem W pb l K p nv sv) (h3 : ∀ k, K.own k ∨ K.sh k → ¬ F.own k ∧ ¬ F.sh k ∧ ¬ G k)
  (h4 : ∀ k, (F.own k ∨ F.sh k ∨ G k) ∨ K.own k ∨ K.sh k → w.heap.size ≤ k ∧ ¬ X k) (hb : Below w.heap.size w W) (hx : ∀ k, X k → k < W.heap.size) (hd : PgDid W pb l K p' W') :
  PgX w W' pb l b p' g d X ∧ ∀ k, X k → W'.heap[k]? = W.heap[k]? := by
 obtain ⟨K', nv', sv', hm, hs⟩ := hd
 have hsz := hb.size
 have hst : LgStep ⟨K.own, fun _ => False⟩ ⟨K.own, fun _ => False⟩ (fun _ => False) (fun _ => False) W W' :=
  ⟨⟨hs.frm.os, hs.frm.tape, hs.frm.output, hs.frm.size, fun k hk hn => hs.frm.block k hk (fun e => hn (.inl e))⟩, fun k hk => .inl hk, fun k hk => .inl hk, fun k hk => .inl hk⟩
 have hl : LgAt W' l b F G g d := h1.other (b2 := 0) hst (fun k hk => ⟨fun e => by
  have := h3 k (.inl e)
  rcases hk with hk | hk | hk
  ·exact this.1 hk
  ·exact this.2.1 hk
  ·exact this.2.2 hk, id⟩)
 refine ⟨⟨⟨F, G, K', nv', sv', hl, hm, fun k hk => ?_, fun k hk => ?_⟩, ?_, fun k hk => Nat.lt_of_lt_of_le (hx k hk) hs.frm.size⟩, fun k hk => hs.frm.block k (hx k hk) (fun e => (h4 k (.inr (.inl e))).2 hk)⟩
 ·have hold : (K.own k ∨ K.sh k) ∨ W.heap.size ≤ k := hk.elim (fun e => (hs.own k e).imp .inl id) (fun e => (hs.sh k e).imp .inr id)
  rcases hold with e | e
  ·exact h3 k e
  ·refine ⟨fun f => ?_, fun f => ?_, fun f => ?_⟩
   ·have := h1.flt (k := k) (.inl f); omega
   ·have := h1.flt (k := k) (.inr (.inl f)); omega
   ·have := h1.flt (k := k) (.inr (.inr f)); omega
 ·rcases hk with hk | hk
  ·exact h4 k (.inl hk)
  ·have hold : (K.own k ∨ K.sh k) ∨ W.heap.size ≤ k := hk.elim (fun e => (hs.own k e).imp .inl id) (fun e => (hs.sh k e).imp .inr id)
   rcases hold with e | e
   ·exact h4 k (.inr e)
   ·exact ⟨by omega, fun f => by have := hx k f; omega⟩
 ·exact ⟨hs.frm.os.trans hb.os, hs.frm.tape.trans hb.tape, hs.frm.output.trans hb.output, Nat.le_trans hsz hs.frm.size, fun k hk => (hs.frm.block k (by omega) (fun e => by have := (h4 k (.inr (.inl e))).1; omega)).trans (hb.block k hk)⟩
theorem pgx_log {F K : Foot} {G : Nat → Prop} {nv sv : Value} (h1 : LgAt W l b F G g d) (h2 : PgMem W pb l K p nv sv) (h3 : ∀ k, K.own k ∨ K.sh k → ¬ F.own k ∧ ¬ F.sh k ∧ ¬ G k)
  (h4 : ∀ k, (F.own k ∨ F.sh k ∨ G k) ∨ K.own k ∨ K.sh k → w.heap.size ≤ k ∧ ¬ X k) (hb : Below w.heap.size w W) (hx : ∀ k, X k → k < W.heap.size) (hd : LgDid W l b F G g' d' W') :
  PgX w W' pb l b p g' d' X ∧ ∀ k, X k → W'.heap[k]? = W.heap[k]? := by
 have hm := Mk.did (fun k hk => (h4 k (.inl hk)).1) hb hd
 obtain ⟨F', G', hl, hs⟩ := hd
 have hsz := hb.size
 refine ⟨⟨⟨F', G', K, nv, sv, hl, h2.keep (fun k hk => hs.frm.block k (h2.klt hk) (fun e => ?_)) hs.frm.size, fun k hk => ?_, fun k hk => ?_⟩, hm.bel, fun k hk => Nat.lt_of_lt_of_le (hx k hk) hs.frm.size⟩, fun k hk => hs.frm.block k (hx k hk) (fun e => (h4 k (.inl (e.elim .inl fun e => .inr (.inr e)))).2 hk)⟩
 ·have := h3 k hk
  exact e.elim this.1 this.2.2
 ·have hk1 := h3 k hk
  have hkl := h2.klt hk
  exact ⟨fun e => (hs.own k e).elim hk1.1 (fun e => by omega), fun e => (hs.sh k e).elim hk1.2.1 (fun e => by omega), fun e => (hs.gr k e).elim hk1.2.2 (fun e => by omega)⟩
 ·rcases hk with hk | hk
  ·have hold : (F.own k ∨ F.sh k ∨ G k) ∨ W.heap.size ≤ k := by
    rcases hk with hk | hk | hk
    ·exact (hs.own k hk).imp .inl id
    ·exact (hs.sh k hk).imp (fun e => .inr (.inl e)) id
    ·exact (hs.gr k hk).imp (fun e => .inr (.inr e)) id
   rcases hold with e | e
   ·exact h4 k (.inl e)
   ·exact ⟨by omega, fun f => by have := hx k f; omega⟩
  ·exact h4 k (.inr hk)
end
end Go.Proofs.YtlkkclooihjpiaaGreat
