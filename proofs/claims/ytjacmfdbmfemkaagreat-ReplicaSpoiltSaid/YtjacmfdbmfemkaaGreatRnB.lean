import Derived.Test.YtjacmfdbmfemkaaGreatPcA
import Derived.Test.YtjacmfdbmfemkaaGreatUnF
set_option linter.unusedVariables false
set_option linter.unusedSimpArgs false
namespace Go.Proofs.YtjacmfdbmfemkaaGreat
open Go.RowKit Go.Maps
set_option maxRecDepth 20000
structure PgD where
 pb : Nat
 l : Nat
 b : Nat
 p : Pg
 g : Lg
 d : Dsk
abbrev PgAtX (w W : World) (a : PgD) (X : Nat → Prop) : Prop := PgX w W a.pb a.l a.b a.p a.g a.d X
structure PgS (w W : World) (a : PgD) (S : Nat → Prop) : Prop where
 ex : ∃ F G K nv sv, LgAt W a.l a.b F G a.g a.d ∧ PgMem W a.pb a.l K a.p nv sv ∧ (∀ k, K.own k ∨ K.sh k → ¬ F.own k ∧ ¬ F.sh k ∧ ¬ G k) ∧ ∀ k, (F.own k ∨ F.sh k ∨ G k) ∨ K.own k ∨ K.sh k → S k
 ge : ∀ k, S k → w.heap.size ≤ k
 lt : ∀ k, S k → k < W.heap.size
structure DkS (w W : World) (b : Nat) (d : Dsk) (S : Nat → Prop) : Prop where
 ex : ∃ F, DiskAt W b F d ∧ ∀ k, F.own k ∨ F.sh k → S k
 ge : ∀ k, S k → w.heap.size ≤ k
 lt : ∀ k, S k → k < W.heap.size
section
variable {w W W' : World} {a a' c c' : PgD} {b : Nat} {d d' : Dsk} {S S' X X' : Nat → Prop}
theorem lt_keep {w w' : World} {k : Nat} (hk : w'.heap[k]? = w.heap[k]?) (h : k < w.heap.size) : k < w'.heap.size := (Array.getElem?_eq_some_iff.1 (hk.trans (Array.getElem?_eq_getElem h))).1
theorem DiskAt.keep2 {F : Foot} (h : DiskAt W b F d) (hk : ∀ k, F.own k ∨ F.sh k → W'.heap[k]? = W.heap[k]?) : DiskAt W' b F d := by
 obtain ⟨nm, sm, lv, am, h⟩ := h
 refine ⟨nm, sm, lv, am, ⟨(hk b (.inl h.bown)).trans h.blk, fun f hf => (h.now f hf).keep fun m hm => hk m (.inr (h.nsh f hf m hm)), fun f hf => (h.sure f hf).keep fun m hm => hk m (.inr (h.ssh f hf m hm)), h.nsh, h.ssh,
  row_keep h.row fun g hg => hk g (.inl (h.rown g hg)), h.rown, ?_, h.aown, h.bown, h.apart, fun k hk1 => lt_keep (hk k (.inl hk1)) (h.olt k hk1), fun k hk1 => lt_keep (hk k (.inr hk1)) (h.slt k hk1), h.ok⟩⟩
 obtain ⟨D, hD, hg⟩ := h.arm
 exact ⟨D, map_keep hD (hk am (.inl h.aown)), hg⟩
theorem LogMem.keep2 {l : Nat} {F : Foot} {G : Nat → Prop} {g : Lg} {lv : Value} (h : LogMem W l b F G g lv) (hk : ∀ k, G k → W'.heap[k]? = W.heap[k]?) : LogMem W' l b F G g lv :=
 ⟨(hk l h.lown).trans h.blk, row_keep h.row fun k hg => hk k (h.rown k hg), h.rown, h.lown, h.gout, fun k hg => lt_keep (hk k hg) (h.glt k hg), h.ok⟩
theorem PgMem.keep2 {pb l : Nat} {K : Foot} {p : Pg} {nv sv : Value} (h : PgMem W pb l K p nv sv) (hk : ∀ k, K.own k ∨ K.sh k → W'.heap[k]? = W.heap[k]?) : PgMem W' pb l K p nv sv :=
 ⟨(hk pb (.inl h.pown)).trans h.blk, h.now.keep fun k hk1 => hk k (.inl hk1), h.saves.keep fun k hk1 => hk k (hk1.imp (·.1) id), h.nrow, h.pown, fun k hk1 => lt_keep (hk k (.inl hk1)) (h.olt k hk1), fun k hk1 => lt_keep (hk k (.inr hk1)) (h.slt k hk1), h.apart, h.ok⟩
theorem PgS.keep (h : PgS w W a S) (hk : ∀ k, S k → W'.heap[k]? = W.heap[k]?) : PgS w W' a S := by
 obtain ⟨⟨F, G, K, nv, sv, h1, h2, h3, h4⟩, h5, h6⟩ := h
 obtain ⟨lv, hl⟩ := h1.log
 exact ⟨⟨F, G, K, nv, sv, ⟨h1.disk.keep2 (fun k hk1 => hk k (h4 k (.inl (hk1.elim .inl fun e => .inr (.inl e))))), lv, hl.keep2 (fun k hk1 => hk k (h4 k (.inl (.inr (.inr hk1)))))⟩, h2.keep2 (fun k hk1 => hk k (h4 k (.inr hk1))), h3, h4⟩, h5, fun k hk1 => lt_keep (hk k hk1) (h6 k hk1)⟩
theorem PgX.s (h : PgAtX w W a X) : ∃ S, PgS w W a S ∧ ∀ k, S k → ¬ X k := by
 obtain ⟨⟨F, G, K, nv, sv, h1, h2, h3, h4⟩, hb, hx⟩ := h
 refine ⟨fun k => (F.own k ∨ F.sh k ∨ G k) ∨ K.own k ∨ K.sh k, ⟨⟨F, G, K, nv, sv, h1, h2, h3, fun k hk => hk⟩, fun k hk => (h4 k hk).1, fun k hk => ?_⟩, fun k hk => (h4 k hk).2⟩
 rcases hk with hk | hk
 ·exact h1.flt hk
 ·exact h2.klt hk
theorem PgS.x (h : PgS w W a S) (hb : Below w.heap.size w W) (hX : ∀ k, X k → k < W.heap.size) (hd : ∀ k, S k → ¬ X k) : PgAtX w W a X := by
 obtain ⟨⟨F, G, K, nv, sv, h1, h2, h3, h4⟩, h5, h6⟩ := h
 exact ⟨⟨F, G, K, nv, sv, h1, h2, h3, fun k hk => ⟨h5 k (h4 k hk), hd k (h4 k hk)⟩⟩, hb, hX⟩
structure Two (w W : World) (a c : PgD) (X : Nat → Prop) : Prop where
 ex : ∃ S T, PgS w W a S ∧ PgS w W c T ∧ (∀ k, S k → ¬ T k ∧ ¬ X k) ∧ ∀ k, T k → ¬ X k
 bel : Below w.heap.size w W
 xlt : ∀ k, X k → k < W.heap.size
theorem Two.swap (h : Two w W a c X) : Two w W c a X := by
 obtain ⟨⟨S, T, h1, h2, h3, h4⟩, hb, hx⟩ := h
 exact ⟨⟨T, S, h2, h1, fun k hk => ⟨fun e => (h3 k e).1 hk, h4 k hk⟩, fun k hk => (h3 k hk).2⟩, hb, hx⟩
theorem Two.left (h : Two w W a c X) : ∃ T : Nat → Prop, PgAtX w W a (fun k => X k ∨ T k) ∧ ∀ w' a', PgAtX w w' a' (fun k => X k ∨ T k) → (∀ k, X k ∨ T k → w'.heap[k]? = W.heap[k]?) → Two w w' a' c X ∧ ∀ k, X k → w'.heap[k]? = W.heap[k]? := by
 obtain ⟨⟨S, T, h1, h2, h3, h4⟩, hb, hx⟩ := h
 refine ⟨T, h1.x hb (fun k hk => hk.elim (hx k) (h2.lt k)) (fun k hk e => e.elim (h3 k hk).2 (h3 k hk).1), fun w' a' ha hk => ⟨?_, fun k hk1 => hk k (.inl hk1)⟩⟩
 obtain ⟨S', hs, hd⟩ := PgX.s ha
 exact ⟨⟨S', T, hs, h2.keep (fun k hk1 => hk k (.inr hk1)), fun k hk1 => ⟨fun e => hd k hk1 (.inr e), fun e => hd k hk1 (.inl e)⟩, h4⟩, ha.bel, fun k hk1 => ha.xlt k (.inl hk1)⟩
theorem Two.right (h : Two w W a c X) : ∃ T : Nat → Prop, PgAtX w W c (fun k => X k ∨ T k) ∧ ∀ w' c', PgAtX w w' c' (fun k => X k ∨ T k) → (∀ k, X k ∨ T k → w'.heap[k]? = W.heap[k]?) → Two w w' a c' X ∧ ∀ k, X k → w'.heap[k]? = W.heap[k]? := by
 obtain ⟨T, h1, h2⟩ := h.swap.left
 exact ⟨T, h1, fun w' c' ha hk => ⟨(h2 w' c' ha hk).1.swap, (h2 w' c' ha hk).2⟩⟩
theorem Two.below (h : Two w W a c X) (hb : Below W.heap.size W W') : Two w W' a c X := by
 obtain ⟨⟨S, T, h1, h2, h3, h4⟩, hb1, hx⟩ := h
 exact ⟨⟨S, T, h1.keep (fun k hk => hb.block k (h1.lt k hk)), h2.keep (fun k hk => hb.block k (h2.lt k hk)), h3, h4⟩, hb1.trans (hb.mono hb1.size), fun k hk => Nat.lt_of_lt_of_le (hx k hk) hb.size⟩
theorem Two.add (h : Two w W a c X) (hb : Below W.heap.size W W') (hx : ∀ k, X' k → X k ∨ W.heap.size ≤ k) (hlt : ∀ k, X' k → k < W'.heap.size) : Two w W' a c X' := by
 obtain ⟨⟨S, T, h1, h2, h3, h4⟩, hb1, hx1⟩ := h
 refine ⟨⟨S, T, h1.keep (fun k hk => hb.block k (h1.lt k hk)), h2.keep (fun k hk => hb.block k (h2.lt k hk)), fun k hk => ⟨(h3 k hk).1, fun e => ?_⟩, fun k hk e => ?_⟩, hb1.trans (hb.mono hb1.size), hlt⟩
 ·rcases hx k e with e | e
  ·exact (h3 k hk).2 e
  ·have := h1.lt k hk; omega
 ·rcases hx k e with e | e
  ·exact h4 k hk e
  ·have := h2.lt k hk; omega
theorem PgX.two (h : PgAtX w W a X) {w' : World} (hc : PgAtX W w' c (fun k => k < W.heap.size)) : Two w w' a c X := by
 obtain ⟨S, h1, h2⟩ := PgX.s h
 obtain ⟨T, h3, h4⟩ := PgX.s hc
 have hb := hc.bel
 have hsz := h.bel.size
 exact ⟨⟨S, T, h1.keep (fun k hk => hb.block k (h1.lt k hk)), ⟨h3.ex, fun k hk => Nat.le_trans hsz (h3.ge k hk), h3.lt⟩, fun k hk => ⟨fun e => h4 k e (h1.lt k hk), h2 k hk⟩, fun k hk e => h4 k hk (h.xlt k e)⟩, h.bel.trans (hb.mono hsz), fun k hk => Nat.lt_of_lt_of_le (h.xlt k hk) hb.size⟩
end
end Go.Proofs.YtjacmfdbmfemkaaGreat
namespace Go.Proofs.YtjacmfdbmfemkaaGreat
open Go.RowKit Go.Maps
set_option maxRecDepth 20000
structure PD (w W : World) (a : PgD) (db : Nat) (d : Dsk) (X : Nat → Prop) : Prop where
 ex : ∃ S T, PgS w W a S ∧ DkS w W db d T ∧ (∀ k, S k → ¬ T k ∧ ¬ X k) ∧ ∀ k, T k → ¬ X k
 bel : Below w.heap.size w W
 xlt : ∀ k, X k → k < W.heap.size
section
variable {w W W' : World} {a a' c c' : PgD} {db : Nat} {d d' : Dsk} {S S' X X' : Nat → Prop}
theorem PD.pg (h : PD w W a db d X) : PgAtX w W a X := by
 obtain ⟨⟨S, T, h1, h2, h3, h4⟩, hb1, hx⟩ := h
 exact h1.x hb1 hx fun k hk => (h3 k hk).2
end
end Go.Proofs.YtjacmfdbmfemkaaGreat
namespace Go.Proofs.YtjacmfdbmfemkaaGreat
open Go.RowKit Go.Maps
set_option maxRecDepth 20000
section
variable {w W W' : World} {a a' c c' : PgD} {X X' : Nat → Prop}
theorem Two.leftG (h : Two w W a c X) : ∃ T : Nat → Prop, PgAtX w W a (fun k => X k ∨ T k) ∧ ∀ (w' : World) (a' : PgD) (X' : Nat → Prop), PgAtX w w' a' (fun k => X' k ∨ T k) → (∀ k, X k ∨ T k → w'.heap[k]? = W.heap[k]?) → (∀ k, X' k → X k ∨ W.heap.size ≤ k) → Two w w' a' c X' ∧ ∀ k, X k → w'.heap[k]? = W.heap[k]? := by
 obtain ⟨⟨S, T, h1, h2, h3, h4⟩, hb, hx⟩ := h
 refine ⟨T, h1.x hb (fun k hk => hk.elim (hx k) (h2.lt k)) (fun k hk e => e.elim (h3 k hk).2 (h3 k hk).1), fun w' a' X' ha hk hX => ⟨?_, fun k hk1 => hk k (.inl hk1)⟩⟩
 obtain ⟨S', hs, hd⟩ := PgX.s ha
 exact ⟨⟨S', T, hs, h2.keep (fun k hk1 => hk k (.inr hk1)), fun k hk1 => ⟨fun e => hd k hk1 (.inr e), fun e => hd k hk1 (.inl e)⟩, fun k hk1 e => (hX k e).elim (h4 k hk1) (fun e2 => by have := h2.lt k hk1; omega)⟩, ha.bel, fun k hk1 => ha.xlt k (.inl hk1)⟩
def gTurned (a : PgD) (n : Int) (x : UInt8) : PgD := ⟨a.pb, a.l, a.b, (turnGM a.p a.g a.d n x).2.1, (turnGM a.p a.g a.d n x).2.2.1, (turnGM a.p a.g a.d n x).2.2.2⟩
def gFollowed (c : PgD) (m : Sh) : PgD := ⟨c.pb, c.l, c.b, (followM c.p c.g c.d m).2.1, (followM c.p c.g c.d m).2.2.1, (followM c.p c.g c.d m).2.2.2⟩
theorem tw_turn (h : Two w W a c X) (n : Int) (x : UInt8) (hn : 2 ≤ n ∧ n ≤ 256) (hrz : ppagesM (spBeginM a.p a.g a.d).2 a.g < n → (presizeM (spBeginM a.p a.g a.d).2 n).1 = 0) (N : Nat) (hsm : a.d.Small N) (hN : N + 33554432 ≤ 1099511527776) :
  Calls Tryz.prog 13 #[.pointer (some ⟨a.pb, 0, none⟩), .int .i64 n, .int .u8 (x.toNat : Int)] W fun e w' => e = .returned (.int .i64 (turnGM a.p a.g a.d n x).1) ∧ Two w w' (gTurned a n x) c X ∧ ∀ k, X k → w'.heap[k]? = W.heap[k]? := by
 obtain ⟨T, h1, h2⟩ := h.left
 refine (turn_any h1 n x hn hrz N hsm hN).mono ?_
 rintro e w' ⟨rfl, h3, h4⟩
 obtain ⟨h5, h6⟩ := h2 w' (gTurned a n x) h3 h4
 exact ⟨rfl, h5, h6⟩
def TwGave (w W : World) (a c : PgD) (X : Nat → Prop) (R : Sh × Int) (e : Ending) (w' : World) : Prop :=
 ∃ v, e = .returned (.tuple #[shipV R.1 v, .int .i64 R.2]) ∧ ImgRow w' W.heap.size v R.1.imgs ∧ Two w w' a c (fun k => X k ∨ v.ownBlock = some k) ∧ ∀ k, X k → w'.heap[k]? = W.heap[k]?
theorem twGave_of {R : Sh × Int} {e : Ending} {w' : World} {T : Nat → Prop} (hc : ∀ (w' : World) (a' : PgD) (X' : Nat → Prop), PgAtX w w' a' (fun k => X' k ∨ T k) → (∀ k, X k ∨ T k → w'.heap[k]? = W.heap[k]?) → (∀ k, X' k → X k ∨ W.heap.size ≤ k) → Two w w' a' c X' ∧ ∀ k, X k → w'.heap[k]? = W.heap[k]?) (h : ShGave w W a.pb a.l a.b a.p a.g a.d (fun k => X k ∨ T k) R e w') : TwGave w W a c X R e w' := by
 obtain ⟨v, rfl, h1, h2, h3⟩ := h
 obtain ⟨h4, h5⟩ := hc w' a (fun k => X k ∨ v.ownBlock = some k) (h2.to (fun k hk => by
  rcases hk with (hk | hk) | hk
  ·exact .inl (.inl hk)
  ·exact .inr hk
  ·exact .inl (.inr hk))) h3 (fun k hk => hk.imp id (fun e => (row_base h1 e).1))
 exact ⟨v, rfl, h1, h4, h5⟩
theorem tw_next (h : Two w W a c X) (hok : stOk a.p a.g a.d) (ep k : Int) : Calls Tryz.prog 55 #[.pointer (some ⟨a.pb, 0, none⟩), .int .u64 ep, .int .u64 k] W (TwGave w W a c X (nextM a.p a.g a.d ep k)) := by
 obtain ⟨T, h1, h2⟩ := h.leftG
 exact (next_any h1 hok ep k).mono fun e w' hh => twGave_of h2 hh
theorem tw_follow (h : Two w W a c X) {m : Sh} {v : Value} (hm : ShOk w W X m v) (N : Nat) (hsm : c.d.Small N) (hN : N + 33554432 ≤ 1099511527776) :
  Calls Tryz.prog 50 #[.pointer (some ⟨c.pb, 0, none⟩), shipV m v] W fun e w' => e = .returned (.int .i64 (followM c.p c.g c.d m).1) ∧ Two w w' a (gFollowed c m) X ∧ ∀ k, X k → w'.heap[k]? = W.heap[k]? := by
 obtain ⟨T, h1, h2⟩ := h.right
 refine (follow_any h1 (hm.mono fun k hk => .inl hk) N hsm hN).mono ?_
 rintro e w' ⟨rfl, h3, h4⟩
 obtain ⟨h5, h6⟩ := h2 w' (gFollowed c m) h3 h4
 exact ⟨rfl, h5, h6⟩
theorem tw_have (h : Two w W a c X) : Calls Tryz.prog 24 #[.pointer (some ⟨c.pb, 0, none⟩)] W fun e w' => e = .returned (.tuple #[.int .u64 (haveM c.p c.g c.d).1, .int .i64 (haveM c.p c.g c.d).2]) ∧ Two w w' a c X ∧ ∀ k, X k → w'.heap[k]? = W.heap[k]? := by
 obtain ⟨T, h1, h2⟩ := h.right
 refine (have_any h1).mono ?_
 rintro e w' ⟨rfl, h3, h4⟩
 obtain ⟨h5, h6⟩ := h2 w' c h3 h4
 exact ⟨rfl, h5, h6⟩
theorem ShOk.made {m : Sh} {v : Value} {base : Nat} (h : ImgRow W base v m.imgs) (hX : ∀ k, v.ownBlock = some k → X k) (hn : m.imgs.length ≤ 1000) (hb : ∀ x ∈ m.imgs, x.2.length ≤ 1000) (hw : ShWf m) : ShOk w W X m v := by
 obtain ⟨ao, cap, rfl, hc⟩ := h.get
 refine ⟨?_, fun q off n cap' e hne => ?_, by omega, fun x hx => by have := hb x hx; omega, hw⟩
 ·by_cases h0 : m.imgs = []
  ·exact .inl ⟨⟨ao, cap, by rw [h0]; rfl⟩, h0⟩
  ·obtain ⟨q, rfl, -, -, -, -⟩ := hc 0 (by cases hi : m.imgs with | nil => exact absurd hi h0 | cons x r => simp)
   refine .inr ⟨q, 0, cap, rfl, fun j hj => ?_⟩
   obtain ⟨q', e, -, -, c1, c2⟩ := hc j hj
   injection e with e
   injection e with e
   subst e
   rw [Nat.zero_add]
   exact ⟨c1, c2⟩
 ·injection e with e1 e2 e3
  refine .inr (hX q ?_)
  rw [e1]
  obtain ⟨q', e4, -⟩ := hc 0 (by cases hi : m.imgs with | nil => exact absurd hi hne | cons x r => simp)
  rw [e1] at e4
  injection e4 with e4
  injection e4 with e4 e5
  rw [e5]
  rfl
end
end Go.Proofs.YtjacmfdbmfemkaaGreat
namespace Go.Proofs.YtjacmfdbmfemkaaGreat
open Go.RowKit Go.Maps
set_option maxRecDepth 20000
def uT1 : Int × Pg × Lg × Dsk := turnGM p0 exG0 newM 2 97
def uT2 : Int × Pg × Lg × Dsk := turnGM uT1.2.1 uT1.2.2.1 uT1.2.2.2 2 98
def uN1 : Sh × Int := nextM uT2.2.1 uT2.2.2.1 uT2.2.2.2 1 0
def uF1 : Int × Pg × Lg × Dsk := followM p0 exG0 newM uN1.1
def uN2 : Sh × Int := nextM uT2.2.1 uT2.2.2.1 uT2.2.2.2 1 1
def uF2 : Int × Pg × Lg × Dsk := followM uF1.2.1 uF1.2.2.1 uF1.2.2.2 uN2.1
theorem u_t1 : uT1.1 = 0 := by decide +kernel
theorem u_r1 : ppagesM (spBeginM p0 exG0 newM).2 exG0 < 2 → (presizeM (spBeginM p0 exG0 newM).2 2).1 = 0 := by decide +kernel
theorem stOk2 {p : Pg} {g : Lg} {d : Dsk} (h : ppagesM p g = 2) (h2 : (preadM p g d 1).2 = 0 ∧ (preadM p g d 2).2 = 0) : stOk p g d := by
 intro k hk
 rw [h] at hk
 have : k = 0 ∨ k = 1 := by omega
 rcases this with rfl | rfl
 ·exact h2.1
 ·exact h2.2
end Go.Proofs.YtjacmfdbmfemkaaGreat
namespace Go.Proofs.YtjacmfdbmfemkaaGreat
open Go.RowKit Go.Maps
set_option maxRecDepth 20000
attribute [local irreducible] uT1 uT2 uN1 uF1 uN2 uF2 exG0
section
variable {w W W' : World} {a a' c c' : PgD} {X X' : Nat → Prop}
def uC0 (pb l b : Nat) : PgD := ⟨pb, l, b, p0, exG0, newM⟩
end
end Go.Proofs.YtjacmfdbmfemkaaGreat
/- Replica in memory: posts of one ship. -/
namespace Go.Proofs.YtjacmfdbmfemkaaGreat
open Go.RowKit Go.Maps
set_option maxRecDepth 20000
def postC (x : Int × List UInt8) : List Value := [.int .i64 x.1, .string (bs x.2)]
def postsC (l : List (Int × List UInt8)) : List Value := l.flatMap postC
theorem postsC_app (a b : List (Int × List UInt8)) : postsC (a ++ b) = postsC a ++ postsC b := by simp [postsC]
theorem postsC_one (l : List (Int × List UInt8)) : ∀ u ∈ postsC l, u.oneCell' = true := by
 intro u hu
 simp only [postsC, List.mem_flatMap] at hu
 obtain ⟨x, -, hx⟩ := hu
 simp only [postC, List.mem_cons, List.not_mem_nil, or_false] at hx
 rcases hx with rfl | rfl <;> rfl
def PostRow (W : World) (base : Nat) (v : Value) (l : List (Int × List UInt8)) : Prop := W.ownsRow base 89 2 v l.length (postsC l)
theorem PostRow.shape {W : World} {base : Nat} {v : Value} {l : List (Int × List UInt8)} (h : PostRow W base v l) : ∃ ao cap, v = .slice ao l.length cap ∧ ∀ i (hi : i < l.length), ∃ q, ao = some ⟨q, 0, none⟩ ∧ base ≤ q ∧ q < W.heap.size ∧ W.cell? ⟨q, i * 2, none⟩ = some (.int .i64 l[i].1) ∧ W.cell? ⟨q, i * 2 + 1, none⟩ = some (.string (bs l[i].2)) := by
 have hc : ∀ (l : List (Int × List UInt8)) (i : Nat) (hi : i < l.length), (postsC l)[i * 2]? = some (.int .i64 l[i].1) ∧ (postsC l)[i * 2 + 1]? = some (.string (bs l[i].2)) := by
  intro l
  induction l with
  | nil => intro i hi; simp at hi
  | cons x r ih =>
   intro i hi
   cases i with
   | zero => exact ⟨rfl, rfl⟩
   | succ j =>
    have := ih j (by simpa using hi)
    have e : (j + 1) * 2 = j * 2 + 2 := by omega
    rw [e]
    exact ⟨by simpa [postsC, postC] using this.1, by simpa [postsC, postC] using this.2⟩
 rcases row_form h with ⟨rfl, h0⟩ | ⟨q, cap, rfl⟩
 ·exact ⟨none, 0, by rw [h0], fun i hi => by omega⟩
 ·refine ⟨_, cap, rfl, fun i hi => ⟨q, rfl, (row_base h rfl).1, (row_base h rfl).2, ?_, ?_⟩⟩
  ·have := h.cells (g := q) rfl (i * 2) _ (hc l i hi).1
   simpa [Addr.add_lit] using this
  ·have := h.cells (g := q) rfl (i * 2 + 1) _ (hc l i hi).2
   simpa [Addr.add_lit] using this
theorem wpList_append_rows_at {P : Program} {w : World} {ops : Array Oper} {rest : List Oper} {o : Oper} {a : Act} {Q : Exit → Act → World → Prop} (hgd : o.guard = none) (s x : Operand) (t : TypeId)
  (ho : o.op = .call { callee := .builtin .append, args := #[s, x], argTypes := #[t, t] })
  (base base2 : Nat) (e : TypeId) (i : TypeInfo) (z : Value) (size bytes : Nat) (ht : P.underlying t = some (.slice e)) (hi : P.info? e = some i) (hz : i.zero = some z)
  (hsize : i.size = size) (hby : i.bytes = bytes) (hzs : z.cells.size = size) (hsz : 0 < size)
  (v : Value) (n : Nat) (xs : List Value) (hs : a.eval s = v) (hown : w.ownsRow base e size v n xs)
  (v2 : Value) (m : Nat) (news : List Value) (hx : a.eval x = v2) (hown2 : w.ownsRow base2 e size v2 m news) (h1 : ∀ u ∈ news, u.oneCell' = true)
  (h63 : n + m ≤ maxLen) (hbytes : (n + m) * bytes ≤ 140737488355328) (hbase : base ≤ w.heap.size)
  (h : ∀ v' w', w'.ownsRow base e size v' (n + m) (xs ++ news) → w.grownBy w' v.ownBlock → (v'.ownBlock = v.ownBlock ∨ v'.ownBlock = some w.heap.size) → wpList P ops Q rest (a.put o.dst v') w') : wpList P ops Q (o :: rest) a w := by
 rcases hown2.2 with ⟨rfl, rfl⟩ | ⟨g, cap, cur, rfl, _, hg, hnc, _, _, _⟩
 ·have hnil : news = [] := List.eq_nil_of_length_eq_zero (by simpa using hown2.1)
  subst hnil
  exact wpList_append_own_none hgd s x t ho base e i size ht hi v n xs hs hown hx (h v w (by simpa using hown) (World.grownBy.refl _ _) (.inl rfl))
 ·exact wpList_append_own_at w hgd s x t ho base e i z size bytes ht hi hz hsize hby hzs hsz v n xs hs hown ⟨g, 0, none⟩ m cap news hx hown2.1 (hown2.cells rfl) h1 h63 hbytes hbase fun v' w' h2 h3 _ h5 => h v' w' h2 h3 h5
def postsM (nd : Int) (m : Sh) : List (Int × List UInt8) := if mayB m then [(nd, putL m)] else []
theorem sput_cases {nd : Int} (m : Sh) (v : Value) : ∃ (s : List UInt8) (e0 : Int), ((e0 = 0 ∧ postsM nd m = [(nd, s)]) ∨ (e0 ≠ 0 ∧ postsM nd m = [])) ∧ ∀ w, ShIn w m v → Calls Tryz.prog 78 #[shipV m v] w fun e w' => e = .returned (.tuple #[.string (bs s), .int .i64 e0]) ∧ Below w.heap.size w w' := by
 unfold postsM
 cases hm : mayB m
 ·exact ⟨[], 2, .inr ⟨by decide, rfl⟩, fun w h => sputS_no m v w h.at' h.n h.big hm⟩
 ·exact ⟨putL m, 0, .inl ⟨rfl, rfl⟩, fun w h => sputS_yes m v w h.at' hm h.wf⟩
theorem two_one (a : Int) (s : ByteArray) : ∀ u ∈ [Value.int .i64 a, .string s], u.oneCell' = true := by
 intro u hu
 simp only [List.mem_cons, List.not_mem_nil, or_false] at hu
 rcases hu with rfl | rfl <;> rfl
set_option maxHeartbeats 4000000 in
set_option maxRecDepth 20000 in
theorem posts_any (nd : Int) (m : Sh) (v : Value) {W : World} {q : Nat} (hm : ShIn W m v) (hq : W.heap[q]? = some (.cells (shCells m v) 25 (0, 0))) :
  Calls Tryz.prog 56 #[.int .i64 nd, .slice (some ⟨q, 0, none⟩) 1 1] W fun e w' => ∃ pv, e = .returned pv ∧ PostRow w' W.heap.size pv (postsM nd m) ∧ Below W.heap.size W w' := by
 obtain ⟨ao, cap, rfl⟩ := imgs_shape hm.at'
 obtain ⟨s, e0, hs, SP⟩ := sput_cases (nd := nd) m (.slice ao m.imgs.length cap)
 obtain ⟨R, hR⟩ : ∃ R, R = postsM nd m := ⟨_, rfl⟩
 rw [← hR] at hs ⊢
 have HS := hid hs
 have HM := hid hm
 unfold shipV at SP
 have SP := hid SP
 have hq' : W.heap[q]? = some (.cells #[.int .u8 m.kind, .int .u64 m.epoch, .int .u64 m.k, .bool m.full, .int .i64 m.pages, .slice ao m.imgs.length cap] 25 (0, 0)) := hq
 obtain ⟨x0, x1, x2, x3, x4, x5, -⟩ := cells6 hq'
 obtain ⟨i1, hi1, hy0, hy1, hy2⟩ := info_parts (P := Tryz.prog) (e := 89) (z := .agg #[.int .i64 0, .string ⟨#[]⟩]) (size := 2) (bytes := 24) (by kernel_rfl)
 have hW0 := Below.refl W.heap.size W
 clear hs hR hm hq hq'
 go_enter Tryz.func56, Tryz.ntmps56
 go_wp2_with fail
 go_loopw [5, 12] (fun v5 v12 wr => (v12 = .int .i64 0 ∧ v5 = .slice none 0 0 ∧ wr = W) ∨ (v12 = .int .i64 1 ∧ PostRow wr W.heap.size v5 R ∧ Below W.heap.size W wr)) (fun _ v12 _ => 1 - (intOf v12).toNat)
 case atStart => exact .inl ⟨rfl, rfl, rfl⟩
 case round =>
  rcases hrel with ⟨rfl, rfl, rfl⟩ | ⟨rfl, hr, hb⟩
  ·go_upto_region 6 with (first
    | (go_at_call 78; refine (SP.out _ (HM.out.kept (hW0.alloc (Nat.le_refl _) _))).mono ?_; rintro e w2 ⟨rfl, hb2⟩; have HB2 := hid hb2; clear hb2)
    | go_in)
   have hbw : Below wr.heap.size wr w2 := (hW0.alloc (Nat.le_refl _) _).trans (HB2.out.mono (by simp))
   have hsz := hbw.size
   have HBW := hid hbw
   have HRN := hid (World.ownsRow_nil w2 wr.heap.size 89 2)
   clear HB2 hbw
   rcases HS.out with ⟨he, hR⟩ | ⟨he, hR⟩
   ·subst he
    have HR := hid hR
    clear hR
    go_wp2_with (first
     | (at_builtin; refine wpList_append_own_at _ rfl _ _ 50 rfl wr.heap.size 89 i1 _ 2 24 Tryz.underlying50 hi1 hy0 hy1 hy2 rfl (by omega) (.slice none 0 0) 0 [] rfl (World.ownsRow_nil _ _ _ _) ⟨w2.heap.size, 0, none⟩ 1 1 [.int .i64 nd, .string (bs s)] rfl (by simp) (World.news_of_block (cs := #[.int .i64 nd, .string (bs s)]) (t := 89) (fr := (0, 0)) (heap_alloc_new w2 _)) (two_one _ _) (by unfold maxLen; omega) (by omega) (by simp; omega) ?_; intro v7' w10 hown hgrow _ hat; have HOwn10 := hid hown; have HGrow10 := hid hgrow; clear hown hgrow hat)
     | go_in)
    go_roundw
    case rel =>
     refine .inr ⟨by simp, ?_, ?_⟩
     ·rw [HR.out]
      exact HOwn10.out
     ·have hg := HGrow10.out
      exact HBW.out.trans (((Below.refl _ w2).alloc (Nat.le_refl _) _).mono HBW.out.size |>.trans ⟨hg.os, hg.tape, hg.output, hg.size, fun k hk => hg.block k (Nat.lt_of_lt_of_le hk (Nat.le_trans HBW.out.size (by simp))) (by simp [Value.ownBlock])⟩)
    case measure => simp [intOf]
   ·have c1 : (e0 == 0) = false := by simp [he]
    have HR := hid hR
    clear he hR
    go_wp2_with fail
    go_roundw
    case rel => exact .inr ⟨by simp, by rw [HR.out]; exact World.ownsRow_nil _ _ _ _, HBW.out⟩
    case measure => simp [intOf]
  ·have HR := hid hr
   have HBB := hid hb
   clear hr hb
   go_wp2_with fail
   go_ret
   exact ⟨_, rfl, HR.out, HBB.out⟩
end Go.Proofs.YtjacmfdbmfemkaaGreat
