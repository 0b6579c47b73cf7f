/- A pager in memory. -/
import Derived.Test.YtlkkclooihjpiaaGreatLgA
set_option linter.unusedVariables false
set_option linter.unusedSimpArgs false
namespace Go.Proofs.YtlkkclooihjpiaaGreat
open Go.RowKit Go.Maps
set_option maxRecDepth 20000
structure Tr where
 pages : Int
 wr : Int → Option (List UInt8)
structure Tr.Ok (t : Tr) : Prop where
 pages : 0 ≤ t.pages ∧ t.pages ≤ 256
 dom : ∀ p s, t.wr p = some s → 1 ≤ p ∧ p ≤ t.pages ∧ s.length = 512
structure Pg where
 now : Option Tr
 saves : List Tr
 opn : Int
structure Pg.Ok (p : Pg) : Prop where
 now : ∀ t, p.now = some t → t.Ok
 saves : ∀ t ∈ p.saves, t.Ok
 many : p.saves.length ≤ 64
 none : p.now = none → p.saves = []
def MapSays (D : DataW Unit) (f : Int → Option (List UInt8)) : Prop :=
 (∀ k, Maps.has D k = true → ∃ p : Int, k = ik p) ∧ ∀ p : Int, match f p with
  | some s => Maps.has D (ik p) = true ∧ ∀ z, D.atKey (ik p) z = .lit (.string s)
  | none => Maps.has D (ik p) = false
def WrAt (w : World) (mb : Nat) (f : Int → Option (List UInt8)) : Prop :=
 ∃ D : DataW Unit, w.ownsMap Tryz.prog 3 (plainElem Tryz.prog 9) mb (Maps.size D) D ∧ MapSays D f
theorem WrAt.keep {w w' : World} {mb : Nat} {f : Int → Option (List UInt8)} (h : WrAt w mb f) (hk : w'.heap[mb]? = w.heap[mb]?) : WrAt w' mb f := by
 obtain ⟨D, h1, h2⟩ := h
 exact ⟨D, map_keep h1 hk, h2⟩
theorem WrAt.lt {w : World} {mb : Nat} {f : Int → Option (List UInt8)} (h : WrAt w mb f) : mb < w.heap.size := by
 obtain ⟨D, h1, h2⟩ := h
 exact h1.lt
theorem WrAt.block {w : World} {mb : Nat} {f : Int → Option (List UInt8)} (h : WrAt w mb f) : ∃ es c, w.heap[mb]? = some (.map es c) := by
 obtain ⟨D, ⟨es, clock, hb, r⟩, h2⟩ := h
 exact ⟨es, clock, hb⟩
theorem says_size {D : DataW Unit} {f : Int → Option (List UInt8)} {P : Int} (hP : P ≤ 256) (h : MapSays D f) (hf : ∀ p s, f p = some s → 1 ≤ p ∧ p ≤ P) (ht : Canon D) : Maps.size D ≤ 256 := by
 obtain ⟨es, rfl, hp0, hkey⟩ := ht
 have hp := apart_of_rising hp0
 have hk : ∀ p ∈ es, ∃ i : Int, (1 ≤ i ∧ i ≤ 256) ∧ p.1 = ik i := fun p hp' => by
  have hh : Maps.has (.map es) p.1 = true := List.any_eq_true.2 ⟨p, hp', WideAt.sameKey_self (hkey p hp')⟩
  obtain ⟨i, hi⟩ := h.1 p.1 hh
  refine ⟨i, ?_, hi⟩
  have h2 := h.2 i
  rw [hi] at hh
  cases hfi : f i with
  | some s => have := hf i s hfi; omega
  | none => rw [hfi] at h2; rw [hh] at h2; cases h2
 let num : Lit → Nat := fun k => match k with | .int _ i => (i - 1).toNat | _ => 0
 have e : (es.map fun p => num p.1).length ≤ 256 := by
  refine nodup_below _ _ ?_ ?_
  ·rw [List.pairwise_map]
   have : es.Pairwise (fun p q => p ∈ es ∧ q ∈ es ∧ p.1 ≠ q.1) := hp.imp_of_mem fun ha hb h => ⟨ha, hb, h⟩
   refine this.imp ?_
   rintro p q ⟨hp', hq', hne⟩ e
   obtain ⟨i, hi, e1⟩ := hk p hp'
   obtain ⟨j, hj, e2⟩ := hk q hq'
   rw [e1, e2] at e hne
   simp only [num, ik] at e
   exact hne (by rw [show i = j by omega])
  ·intro k hk'
   obtain ⟨p, hp', rfl⟩ := List.mem_map.1 hk'
   obtain ⟨i, hi, e1⟩ := hk p hp'
   rw [e1]
   simp only [num, ik]
   omega
 simpa [Maps.size] using e
def trCells (t : Tr) (m : Nat) : List Value := [.int .i64 t.pages, .map (some m)]
def trsCells : List (Tr × Nat) → List Value
 | [] => []
 | x :: r => trCells x.1 x.2 ++ trsCells r
theorem trsCells_snoc (l : List (Tr × Nat)) (x : Tr × Nat) : trsCells (l ++ [x]) = trsCells l ++ trCells x.1 x.2 := by
 induction l with
 | nil => simp [trsCells]
 | cons y r ih => simp [trsCells, ih]
theorem trsCells_get : ∀ (l : List (Tr × Nat)) (k : Nat) (h : k < l.length), (trsCells l)[k * 2]? = some (.int .i64 l[k].1.pages) ∧ (trsCells l)[k * 2 + 1]? = some (.map (some l[k].2))
 | x :: r, 0, _ => ⟨rfl, rfl⟩
 | x :: r, k + 1, h => by
  have := trsCells_get r k (by simpa using h)
  have e : trsCells (x :: r) = trCells x.1 x.2 ++ trsCells r := rfl
  have hl : (trCells x.1 x.2).length = 2 := rfl
  rw [e, List.getElem?_append_right (by rw [hl]; omega), List.getElem?_append_right (by rw [hl]; omega), hl]
  rw [show (k + 1) * 2 - 2 = k * 2 by omega, show (k + 1) * 2 + 1 - 2 = k * 2 + 1 by omega]
  exact this
theorem trsCells_take (l : List (Tr × Nat)) : ∀ k, (trsCells l).take (k * 2) = trsCells (l.take k) := by
 induction l with
 | nil => intro k; simp [trsCells]
 | cons x r ih =>
  intro k
  cases k with
  | zero => simp [trsCells]
  | succ k =>
   have e : trsCells (x :: r) = trCells x.1 x.2 ++ trsCells r := rfl
   have hl : (trCells x.1 x.2).length = 2 := rfl
   rw [e, List.take_append, hl, show (k + 1) * 2 - 2 = k * 2 by omega, ih k, List.take_of_length_le (by rw [hl]; omega)]
   rfl
def NowAt (w : World) (K : Foot) (nv : Value) : Option Tr → Prop
 | none => nv = .pointer none
 | some t => ∃ nb mb, nv = .pointer (some ⟨nb, 0, none⟩) ∧ w.heap[nb]? = some (.cells (trCells t mb).toArray 86 (0, 0)) ∧ WrAt w mb t.wr ∧ K.own nb ∧ K.own mb
def SavesAt (w : World) (K : Foot) (sv : Value) (l : List Tr) : Prop :=
 ∃ ms : List (Tr × Nat), ms.map (·.1) = l ∧ w.ownsRow 0 86 2 sv l.length (trsCells ms) ∧ (∀ k, sv.ownBlock = some k → K.own k) ∧ ∀ x ∈ ms, WrAt w x.2 x.1.wr ∧ K.sh x.2
structure PgMem (w : World) (pb l : Nat) (K : Foot) (p : Pg) (nv sv : Value) : Prop where
 blk : w.heap[pb]? = some (.cells #[.pointer (some ⟨l, 0, none⟩), nv, sv, .int .i64 p.opn] 83 (0, 0))
 now : NowAt w K nv p.now
 saves : SavesAt w K sv p.saves
 nrow : ∀ nb, nv = .pointer (some ⟨nb, 0, none⟩) → sv.ownBlock ≠ some nb
 pown : K.own pb
 olt : ∀ k, K.own k → k < w.heap.size
 slt : ∀ k, K.sh k → k < w.heap.size
 apart : ∀ k, K.own k → K.sh k → False
 ok : p.Ok
section
variable {w w' : World} {pb l : Nat} {K K' : Foot} {p : Pg} {nv sv : Value}
theorem NowAt.keep {t : Option Tr} (h : NowAt w K nv t) (hk : ∀ k, K.own k → w'.heap[k]? = w.heap[k]?) : NowAt w' K nv t := by
 cases t with
 | none => exact h
 | some t =>
  obtain ⟨nb, mb, h1, h2, h3, h4, h5⟩ := h
  exact ⟨nb, mb, h1, (hk nb h4).trans h2, h3.keep (hk mb h5), h4, h5⟩
theorem SavesAt.keep {t : List Tr} (h : SavesAt w K sv t) (hk : ∀ k, (K.own k ∧ sv.ownBlock = some k) ∨ K.sh k → w'.heap[k]? = w.heap[k]?) : SavesAt w' K sv t := by
 obtain ⟨ms, h1, h2, h3, h4⟩ := h
 exact ⟨ms, h1, row_keep h2 fun j hj => hk j (.inl ⟨h3 j hj, hj⟩), h3, fun x hx => ⟨(h4 x hx).1.keep (hk _ (.inr (h4 x hx).2)), (h4 x hx).2⟩⟩
theorem PgMem.keep (h : PgMem w pb l K p nv sv) (hk : ∀ k, K.own k ∨ K.sh k → w'.heap[k]? = w.heap[k]?) (hs : w.heap.size ≤ w'.heap.size) : PgMem w' pb l K p nv sv :=
 ⟨(hk pb (.inl h.pown)).trans h.blk, h.now.keep fun k hk1 => hk k (.inl hk1), h.saves.keep fun k hk1 => hk k (hk1.imp (·.1) id), h.nrow, h.pown, fun k hk1 => Nat.lt_of_lt_of_le (h.olt k hk1) hs, fun k hk1 => Nat.lt_of_lt_of_le (h.slt k hk1) hs, h.apart, h.ok⟩
theorem PgMem.klt (h : PgMem w pb l K p nv sv) {k : Nat} (hk : K.own k ∨ K.sh k) : k < w.heap.size := hk.elim (h.olt k) (h.slt k)
theorem PgMem.below (h : PgMem w pb l K p nv sv) (hb : Below w.heap.size w w') : PgMem w' pb l K p nv sv := h.keep (fun k hk => hb.block k (h.klt hk)) hb.size
theorem PgMem.cell (h : PgMem w pb l K p nv sv) : w.cell? ⟨pb, 0, none⟩ = some (.pointer (some ⟨l, 0, none⟩)) ∧ w.cell? ⟨pb, 1, none⟩ = some nv ∧ w.cell? ⟨pb, 2, none⟩ = some sv ∧ w.cell? ⟨pb, 3, none⟩ = some (.int .i64 p.opn) :=
 ⟨(cell_of_block h.blk 0).trans rfl, (cell_of_block h.blk 1).trans rfl, (cell_of_block h.blk 2).trans rfl, (cell_of_block h.blk 3).trans rfl⟩
theorem PgMem.free (h : PgMem w pb l K p nv sv) (o : Nat) : w.frozen? ⟨pb, o, none⟩ = false := free_of_block h.blk o
end
def PgDid (w : World) (pb l : Nat) (K : Foot) (p' : Pg) (w' : World) : Prop := ∃ K' nv sv, PgMem w' pb l K' p' nv sv ∧ FootStep K K' w w'
structure PgX (w W : World) (pb l b : Nat) (p : Pg) (g : Lg) (d : Dsk) (X : Nat → Prop) : Prop where
 ex : ∃ F G K nv sv, LgAt W l b F G g d ∧ PgMem W pb l K p nv sv ∧ (∀ k, K.own k ∨ K.sh k → ¬ F.own k ∧ ¬ F.sh k ∧ ¬ G k) ∧ ∀ k, (F.own k ∨ F.sh k ∨ G k) ∨ K.own k ∨ K.sh k → w.heap.size ≤ k ∧ ¬ X k
 bel : Below w.heap.size w W
 xlt : ∀ k, X k → k < W.heap.size
section
variable {w W W' : World} {pb l b : Nat} {p p' : Pg} {g g' : Lg} {d d' : Dsk} {X X' : Nat → Prop}
theorem PgX.log (h : PgX w W pb l b p g d X) : MkX w W l b g d X := by
 obtain ⟨⟨F, G, K, nv, sv, h1, h2, h3, h4⟩, hb, hx⟩ := h
 exact ⟨⟨F, G, h1, fun k hk => h4 k (.inl hk)⟩, hb, hx⟩
theorem PgX.below (h : PgX w W pb l b p g d X) (hb : Below W.heap.size W W') : PgX w W' pb l b p g d X := by
 obtain ⟨⟨F, G, K, nv, sv, h1, h2, h3, h4⟩, hb1, hx⟩ := h
 exact ⟨⟨F, G, K, nv, sv, h1.below hb, h2.below hb, h3, h4⟩, hb1.trans (hb.mono hb1.size), fun k hk => Nat.lt_of_lt_of_le (hx k hk) hb.size⟩
theorem pgx_did {F K : Foot} {G : Nat → Prop} {nv sv : Value} (h1 : LgAt W l b F G g d) (h2 : PgMem W pb l K p nv sv) (h3 : ∀ k, K.own k ∨ K.sh k → ¬ F.own k ∧ ¬ F.sh k ∧ ¬ G k)
  (h4 : ∀ k, (F.own k ∨ F.sh k ∨ G k) ∨ K.own k ∨ K.sh k → w.heap.size ≤ k ∧ ¬ X k) (hb : Below w.heap.size w W) (hx : ∀ k, X k → k < W.heap.size) (hd : PgDid W pb l K p' W') :
  PgX w W' pb l b p' g d X ∧ ∀ k, X k → W'.heap[k]? = W.heap[k]? := by
 obtain ⟨K', nv', sv', hm, hs⟩ := hd
 have hsz := hb.size
 have hst : LgStep ⟨K.own, fun _ => False⟩ ⟨K.own, fun _ => False⟩ (fun _ => False) (fun _ => False) W W' :=
  ⟨⟨hs.frm.os, hs.frm.tape, hs.frm.output, hs.frm.size, fun k hk hn => hs.frm.block k hk (fun e => hn (.inl e))⟩, fun k hk => .inl hk, fun k hk => .inl hk, fun k hk => .inl hk⟩
 have hl : LgAt W' l b F G g d := h1.other (b2 := 0) hst (fun k hk => ⟨fun e => by
  have := h3 k (.inl e)
  rcases hk with hk | hk | hk
  ·exact this.1 hk
  ·exact this.2.1 hk
  ·exact this.2.2 hk, id⟩)
 refine ⟨⟨⟨F, G, K', nv', sv', hl, hm, fun k hk => ?_, fun k hk => ?_⟩, ?_, fun k hk => Nat.lt_of_lt_of_le (hx k hk) hs.frm.size⟩, fun k hk => hs.frm.block k (hx k hk) (fun e => (h4 k (.inr (.inl e))).2 hk)⟩
 ·have hold : (K.own k ∨ K.sh k) ∨ W.heap.size ≤ k := hk.elim (fun e => (hs.own k e).imp .inl id) (fun e => (hs.sh k e).imp .inr id)
  rcases hold with e | e
  ·exact h3 k e
  ·refine ⟨fun f => ?_, fun f => ?_, fun f => ?_⟩
   ·have := h1.flt (k := k) (.inl f); omega
   ·have := h1.flt (k := k) (.inr (.inl f)); omega
   ·have := h1.flt (k := k) (.inr (.inr f)); omega
 ·rcases hk with hk | hk
  ·exact h4 k (.inl hk)
  ·have hold : (K.own k ∨ K.sh k) ∨ W.heap.size ≤ k := hk.elim (fun e => (hs.own k e).imp .inl id) (fun e => (hs.sh k e).imp .inr id)
   rcases hold with e | e
   ·exact h4 k (.inr e)
   ·exact ⟨by omega, fun f => by have := hx k f; omega⟩
 ·exact ⟨hs.frm.os.trans hb.os, hs.frm.tape.trans hb.tape, hs.frm.output.trans hb.output, Nat.le_trans hsz hs.frm.size, fun k hk => (hs.frm.block k (by omega) (fun e => by have := (h4 k (.inr (.inl e))).1; omega)).trans (hb.block k hk)⟩
theorem pgx_log {F K : Foot} {G : Nat → Prop} {nv sv : Value} (h1 : LgAt W l b F G g d) (h2 : PgMem W pb l K p nv sv) (h3 : ∀ k, K.own k ∨ K.sh k → ¬ F.own k ∧ ¬ F.sh k ∧ ¬ G k)
  (h4 : ∀ k, (F.own k ∨ F.sh k ∨ G k) ∨ K.own k ∨ K.sh k → w.heap.size ≤ k ∧ ¬ X k) (hb : Below w.heap.size w W) (hx : ∀ k, X k → k < W.heap.size) (hd : LgDid W l b F G g' d' W') :
  PgX w W' pb l b p g' d' X ∧ ∀ k, X k → W'.heap[k]? = W.heap[k]? := by
 have hm := Mk.did (fun k hk => (h4 k (.inl hk)).1) hb hd
 obtain ⟨F', G', hl, hs⟩ := hd
 have hsz := hb.size
 refine ⟨⟨⟨F', G', K, nv, sv, hl, h2.keep (fun k hk => hs.frm.block k (h2.klt hk) (fun e => ?_)) hs.frm.size, fun k hk => ?_, fun k hk => ?_⟩, hm.bel, fun k hk => Nat.lt_of_lt_of_le (hx k hk) hs.frm.size⟩, fun k hk => hs.frm.block k (hx k hk) (fun e => (h4 k (.inl (e.elim .inl fun e => .inr (.inr e)))).2 hk)⟩
 ·have := h3 k hk
  exact e.elim this.1 this.2.2
 ·have hk1 := h3 k hk
  have hkl := h2.klt hk
  exact ⟨fun e => (hs.own k e).elim hk1.1 (fun e => by omega), fun e => (hs.sh k e).elim hk1.2.1 (fun e => by omega), fun e => (hs.gr k e).elim hk1.2.2 (fun e => by omega)⟩
 ·rcases hk with hk | hk
  ·have hold : (F.own k ∨ F.sh k ∨ G k) ∨ W.heap.size ≤ k := by
    rcases hk with hk | hk | hk
    ·exact (hs.own k hk).imp .inl id
    ·exact (hs.sh k hk).imp (fun e => .inr (.inl e)) id
    ·exact (hs.gr k hk).imp (fun e => .inr (.inr e)) id
   rcases hold with e | e
   ·exact h4 k (.inl e)
   ·exact ⟨by omega, fun f => by have := hx k f; omega⟩
  ·exact h4 k (.inr hk)
end
end Go.Proofs.YtlkkclooihjpiaaGreat
/- A pager's small calls: ready, Pages, Read, Begin, Write, Release, Rollback. -/
namespace Go.Proofs.YtlkkclooihjpiaaGreat
open Go.RowKit Go.Maps
set_option maxRecDepth 20000
theorem says_put {D : DataW Unit} {f : Int → Option (List UInt8)} (h : MapSays D f) (hm : IsMap D) (n : Int) (s : List UInt8) : MapSays (D.put (ik n) (.lit (.string s))) (fun k => if k = n then some s else f k) := by
 refine ⟨fun k hk => ?_, fun p => ?_⟩
 ·by_cases e : k = ik n
  ·exact ⟨n, e⟩
  ·rw [has_put_other e] at hk
   exact h.1 k hk
 ·by_cases e : p = n
  ·subst e
   simp only [if_true]
   exact ⟨has_put_same hm (ik_key _) _, fun z => atKey_put_same hm (ik_key _) _ _⟩
  ·simp only [e, if_false]
   have hp := h.2 p
   have hne : ik p ≠ ik n := ik_ne e
   revert hp
   cases f p with
   | some s => exact fun hp => ⟨by rw [has_put_other hne]; exact hp.1, fun z => by rw [atKey_put_other hne]; exact hp.2 z⟩
   | none =>
    intro hp
    show Maps.has _ (ik p) = false
    rw [has_put_other hne]
    exact hp
theorem says_look {W : World} {mb : Nat} {f : Int → Option (List UInt8)} (h : WrAt W mb f) {p : Int} (hp : -9223372036854775808 ≤ p ∧ p ≤ 9223372036854775807) :
  (Instr.lookup 84 (.map (some mb)) (.int .i64 p) true).run Tryz.prog W = .ok (.tuple #[.string (bs ((f p).getD [])), .bool (f p).isSome]) W := by
 obtain ⟨D, h1, h2⟩ := h
 obtain ⟨v, ps, hrun, hR⟩ := h1.look_ok (t := 84) (e := 9) keyI Tryz.underlying84 (z := .string (bs [])) (by kernel_rfl) (plainElem_string (H := Unit) (P := Tryz.prog) (e := 9) Tryz.underlying9 (s := bs []) (by rw [bs_size]; decide)) (key := .int .i64 p) (kl := ik p) (keyOf_int_mk Tryz.underlying3 (WalkArith.wf_i64 (by omega)))
 obtain ⟨s, rfl, h4, -⟩ := plainElem_string_inv Tryz.underlying9 hR
 obtain ⟨u, rfl⟩ := bs_of s
 refine hrun.trans ?_
 have h5 := (Prod.mk.inj h4).1
 have h6 := h2.2 p
 clear h4 hR hrun h1 h2
 cases hl : f p with
 | some t =>
  rw [hl] at h6
  have h6 : Maps.has D (ik p) = true ∧ ∀ z, D.atKey (ik p) z = .lit (.string t) := h6
  rw [h6.2] at h5
  have e : t = u := by
   injection h5 with h5
   injection h5
  rw [h6.1, e, Option.getD_some, Option.isSome_some]
 | none =>
  rw [hl] at h6
  have h6 : Maps.has D (ik p) = false := h6
  rw [atKey_of_not_has h6] at h5
  have e : ([] : List UInt8) = u := by
   injection h5 with h5
   injection h5
  rw [h6, ← e]
  rfl
section
variable {w w' : World} {pb l b : Nat} {F K : Foot} {G : Nat → Prop} {p : Pg} {g : Lg} {d : Dsk} {nv sv : Value}
def preadyM (p : Pg) : Int := match p.now with | none => 9 | some _ => 0
theorem pready_any (h : PgMem w pb l K p nv sv) : Calls Tryz.prog 37 #[.pointer (some ⟨pb, 0, none⟩)] w fun e w' => e = .returned (.int .i64 (preadyM p)) ∧ w' = w := by
 obtain ⟨-, c1, -, -⟩ := h.cell
 have hn := h.now
 unfold preadyM
 cases hp : p.now with
 | none =>
  rw [hp] at hn
  have hn : nv = .pointer none := hn
  subst hn
  clear h
  go_enter Tryz.func37, Tryz.ntmps37
  go_wp2_with fail
  go_ret
  exact ⟨rfl, rfl⟩
 | some t =>
  rw [hp] at hn
  obtain ⟨nb, mb, hn, -⟩ := hn
  subst hn
  clear h
  go_enter Tryz.func37, Tryz.ntmps37
  go_wp2_with fail
  go_ret
  exact ⟨rfl, rfl⟩
def ppagesM (p : Pg) (g : Lg) : Int := match p.now with | some t => t.pages | none => g.head.pages
theorem ppages_any (hl : LgAt w l b F G g d) (h : PgMem w pb l K p nv sv) : Calls Tryz.prog 9 #[.pointer (some ⟨pb, 0, none⟩)] w fun e w' => e = .returned (.int .i64 (ppagesM p g)) ∧ w' = w := by
 obtain ⟨c0, c1, -, -⟩ := h.cell
 have hn := h.now
 have LP := hid (pages_any hl)
 unfold ppagesM
 cases hp : p.now with
 | none =>
  rw [hp] at hn
  have hn : nv = .pointer none := hn
  subst hn
  clear h hl
  go_enter Tryz.func9, Tryz.ntmps9
  go_wp2_with (first
   | (go_at_call 27; refine (LP.out).mono ?_; rintro e w1 ⟨rfl, hw⟩; obtain rfl := hw.symm)
   | go_in)
  go_ret
  exact ⟨rfl, rfl⟩
 | some t =>
  rw [hp] at hn
  obtain ⟨nb, mb, hn, hb, -⟩ := hn
  subst hn
  have d0 : w.cell? ⟨nb, 0, none⟩ = some (.int .i64 t.pages) := (cell_of_block hb 0).trans rfl
  clear h hl hb
  go_enter Tryz.func9, Tryz.ntmps9
  go_wp2_with fail
  go_ret
  exact ⟨rfl, rfl⟩
theorem PgMem.to {W' : World} {K' : Foot} {p' : Pg} {nv' sv' : Value} (h : PgMem w pb l K p nv sv) (hf : Frm K.own w W')
  (hblk : W'.heap[pb]? = some (.cells #[.pointer (some ⟨l, 0, none⟩), nv', sv', .int .i64 p'.opn] 83 (0, 0))) (hnow : NowAt W' K' nv' p'.now) (hsav : SavesAt W' K' sv' p'.saves)
  (hrow : ∀ nb, nv' = .pointer (some ⟨nb, 0, none⟩) → sv'.ownBlock ≠ some nb) (ho : ∀ k, K'.own k → K.own k ∨ (w.heap.size ≤ k ∧ k < W'.heap.size)) (hs : ∀ k, K'.sh k → K.sh k ∨ (w.heap.size ≤ k ∧ k < W'.heap.size))
  (hp : K'.own pb) (hap : ∀ k, w.heap.size ≤ k → K'.own k → K'.sh k → False) (hok : p'.Ok) : PgDid w pb l K p' W' := by
 have hsz := hf.size
 refine ⟨K', nv', sv', ⟨hblk, hnow, hsav, hrow, hp, fun k hk => ?_, fun k hk => ?_, fun k h1 h2 => ?_, hok⟩, hf, fun k hk => (ho k hk).imp id (·.1), fun k hk => (hs k hk).imp id (·.1)⟩
 ·rcases ho k hk with e | e
  ·have := h.olt k e; omega
  ·exact e.2
 ·rcases hs k hk with e | e
  ·have := h.slt k e; omega
  ·exact e.2
 ·rcases ho k h1 with e | e
  ·rcases hs k h2 with f | f
   ·exact h.apart k e f
   ·have := h.olt k e; omega
  ·exact hap k e.1 h1 h2
theorem PgDid.same (h : PgMem w pb l K p nv sv) : PgDid w pb l K p w := ⟨K, nv, sv, h, Frm.refl _ _, fun _ h => .inl h, fun _ h => .inl h⟩
theorem SavesAt.mono {K' : Foot} {t : List Tr} (h : SavesAt w K sv t) (ho : ∀ k, K.own k → K'.own k) (hs : ∀ k, K.sh k → K'.sh k) : SavesAt w K' sv t := by
 obtain ⟨ms, h1, h2, h3, h4⟩ := h
 exact ⟨ms, h1, h2, fun k hk => ho k (h3 k hk), fun x hx => ⟨(h4 x hx).1, hs _ (h4 x hx).2⟩⟩
theorem SavesAt.own {t : List Tr} (h : SavesAt w K sv t) {k : Nat} (hk : sv.ownBlock = some k) : K.own k := by
 obtain ⟨ms, h1, h2, h3, h4⟩ := h
 exact h3 k hk
theorem says_nil : MapSays (.map []) (fun _ => none) := ⟨fun k h => (by cases h), fun p => rfl⟩
def beginM (p : Pg) (g : Lg) : Int × Pg := match p.now with | some _ => (9, p) | none => (0, { p with now := some ⟨g.head.pages, fun _ => none⟩ })
theorem begin_mem (h : PgMem w pb l K p nv sv) (P : Int) (hP : 0 ≤ P ∧ P ≤ 256) :
  PgDid w pb l K { p with now := some ⟨P, fun _ => none⟩ } (((w.alloc (.map #[] 0)).alloc (.cells #[.int .i64 P, .map (some w.heap.size)] 86)).setCell ⟨pb, 1, none⟩ (.pointer (some ⟨w.heap.size + 1, 0, none⟩))) := by
 have hpl := h.olt pb h.pown
 have hb1 : Below w.heap.size w (w.alloc (.map #[] 0)) := (Below.refl _ w).alloc (Nat.le_refl _) _
 have hm1 := World.ownsMap_made (H := Unit) w Tryz.prog 3 (plainElem Tryz.prog 9)
 have hs1 : (w.alloc (.map #[] 0)).heap.size = w.heap.size + 1 := by simp
 obtain ⟨w1, hw1⟩ : ∃ w1, w1 = w.alloc (.map #[] 0) := ⟨_, rfl⟩
 rw [← hw1] at hb1 hm1 hs1 ⊢
 have hn2 := heap_alloc_new w1 (.cells #[.int .i64 P, .map (some w.heap.size)] 86)
 have hb2 : Below w1.heap.size w1 (w1.alloc (.cells #[.int .i64 P, .map (some w.heap.size)] 86)) := (Below.refl _ w1).alloc (Nat.le_refl _) _
 have hs2 : (w1.alloc (.cells #[.int .i64 P, .map (some w.heap.size)] 86)).heap.size = w1.heap.size + 1 := by simp
 obtain ⟨w2, hw2⟩ : ∃ w2, w2 = w1.alloc (.cells #[.int .i64 P, .map (some w.heap.size)] 86) := ⟨_, rfl⟩
 rw [← hw2] at hn2 hb2 hs2 ⊢
 rw [hs1] at hn2
 clear hw1 hw2
 have hb02 : Below w.heap.size w w2 := hb1.trans (hb2.mono hb1.size)
 have hpb2 : w2.heap[pb]? = some (.cells #[.pointer (some ⟨l, 0, none⟩), nv, sv, .int .i64 p.opn] 83 (0, 0)) := (hb02.block pb hpl).trans h.blk
 have hpb3 : (w2.setCell ⟨pb, 1, none⟩ (.pointer (some ⟨w.heap.size + 1, 0, none⟩))).heap[pb]? = some (.cells #[.pointer (some ⟨l, 0, none⟩), .pointer (some ⟨w.heap.size + 1, 0, none⟩), sv, .int .i64 p.opn] 83 (0, 0)) := (heap_setCell_same (cs := #[.pointer (some ⟨l, 0, none⟩), nv, sv, .int .i64 p.opn]) hpb2 1 _).trans rfl
 have ho3 : ∀ k, k ≠ pb → (w2.setCell ⟨pb, 1, none⟩ (.pointer (some ⟨w.heap.size + 1, 0, none⟩))).heap[k]? = w2.heap[k]? := fun k hk => Below.heap_setCell _ ⟨pb, 1, none⟩ _ k hk
 have hs3 : (w2.setCell ⟨pb, 1, none⟩ (.pointer (some ⟨w.heap.size + 1, 0, none⟩))).heap.size = w2.heap.size := by simp
 have hf3 : Frm K.own w (w2.setCell ⟨pb, 1, none⟩ (.pointer (some ⟨w.heap.size + 1, 0, none⟩))) := (Frm.of_below hb02).setCell (p := ⟨pb, 1, none⟩) (.inl h.pown) _
 obtain ⟨w3, hw3⟩ : ∃ w3, w3 = w2.setCell ⟨pb, 1, none⟩ (.pointer (some ⟨w.heap.size + 1, 0, none⟩)) := ⟨_, rfl⟩
 rw [← hw3] at hpb3 ho3 hs3 hf3 ⊢
 clear hw3
 have hold : ∀ k, k < w.heap.size → k ≠ pb → w3.heap[k]? = w.heap[k]? := fun k hk hne => (ho3 k hne).trans (hb02.block k hk)
 have hsp : ∀ k, sv.ownBlock = some k → k ≠ pb := fun k hk e => by
  obtain ⟨ms, -, hr, -, -⟩ := h.saves
  rcases hr.2 with ⟨rfl, -⟩ | ⟨q, cap, cur, rfl, -, hq, -⟩
  ·cases hk
  ·injection hk with hk
   have hk : q = k := hk
   rw [hk, e, h.blk] at hq
   injection hq with hq
   injection hq with _ h5 _
   exact absurd h5 (by decide)
 refine h.to (K' := ⟨fun k => K.own k ∨ k = w.heap.size ∨ k = w.heap.size + 1, K.sh⟩) hf3 hpb3 ⟨w.heap.size + 1, w.heap.size, rfl, (ho3 _ (by omega)).trans hn2, ⟨.map [], ?_, says_nil⟩, .inr (.inr rfl), .inr (.inl rfl)⟩ ?_ ?_ ?_ ?_ (.inl h.pown) ?_ ?_
 ·exact map_keep hm1 ((ho3 _ (by omega)).trans (hb2.block _ (by omega)))
 ·exact (h.saves.mono (K' := ⟨fun k => K.own k ∨ k = w.heap.size ∨ k = w.heap.size + 1, K.sh⟩) (fun k hk => .inl hk) (fun k hk => hk)).keep fun k hk => by
   rcases hk with hk | hk
   ·exact hold k (h.olt k (h.saves.own hk.2)) (hsp k hk.2)
   ·exact hold k (h.slt k hk) (fun e => h.apart pb h.pown (e ▸ hk))
 ·intro nb e f
  injection e with e
  injection e with e
  injection e with e
  have := h.olt _ (h.saves.own f)
  omega
 ·intro k hk
  rcases hk with hk | hk | hk
  ·exact .inl hk
  ·exact .inr (by omega)
  ·exact .inr (by omega)
 ·exact fun k hk => .inl hk
 ·intro k hk _ h2
  have := h.slt k h2
  omega
 ·exact ⟨fun t ht => by cases ht; exact ⟨hP, fun p s hs => by cases hs⟩, h.ok.saves, h.ok.many, fun e => by cases e⟩
theorem begin_any (hl : LgAt w l b F G g d) (h : PgMem w pb l K p nv sv) : Calls Tryz.prog 30 #[.pointer (some ⟨pb, 0, none⟩)] w fun e w' => e = .returned (.int .i64 (beginM p g).1) ∧ PgDid w pb l K (beginM p g).2 w' := by
 obtain ⟨c0, c1, -, -⟩ := h.cell
 have fr := h.free 1
 have H := hid h
 have RD := pready_any h
 unfold beginM
 cases hp : p.now with
 | none =>
  have e : preadyM p = 9 := by unfold preadyM; rw [hp]
  rw [e] at RD
  have RD := hid RD
  have LP := pages_any hl
  have hP := hl.ok.pages
  obtain ⟨P, hPe⟩ : ∃ P, P = g.head.pages := ⟨_, rfl⟩
  rw [← hPe] at LP hP
  have LP := hid LP
  have HPe := hid hPe
  have HP := hid hP
  have hmm := @run_makeMap Tryz.prog
  have fr2 : ((w.alloc (.map #[] 0)).alloc (.cells #[.int .i64 P, .map (some w.heap.size)] 86)).frozen? ⟨pb, 1, none⟩ = false := free_of_block (heap_alloc_old (heap_alloc_old h.blk)) 1
  have cw2 : ((w.alloc (.map #[] 0)).alloc (.cells #[.int .i64 P, .map (some w.heap.size)] 86)).cell? ⟨pb, 1, none⟩ = some nv := (cell_of_block (heap_alloc_old (heap_alloc_old h.blk)) 1).trans rfl
  clear hPe hP h hl e
  go_enter Tryz.func30, Tryz.ntmps30
  go_wp2_with (first
   | (go_at_call 37; refine (RD.out).mono ?_; rintro e w1 ⟨rfl, hw⟩; obtain rfl := hw.symm)
   | (go_at_call 27; refine (LP.out).mono ?_; rintro e w1 ⟨rfl, hw⟩; obtain rfl := hw.symm)
   | go_in)
  go_ret
  refine ⟨rfl, ?_⟩
  rw [← HPe.out]
  exact begin_mem H.out P HP.out
 | some t =>
  have e : preadyM p = 0 := by unfold preadyM; rw [hp]
  rw [e] at RD
  have RD := hid RD
  clear h hl e
  go_enter Tryz.func30, Tryz.ntmps30
  go_wp2_with (first
   | (go_at_call 37; refine (RD.out).mono ?_; rintro e w1 ⟨rfl, hw⟩; obtain rfl := hw.symm)
   | go_in)
  go_ret
  exact ⟨rfl, PgDid.same H.out⟩
end
end Go.Proofs.YtlkkclooihjpiaaGreat
