/- For the lifts: arguments one by one, and that they all read as they did. -/
import Derived.Test.YtlkkclooihjpiaaGreatBase
import Derived.Test.YtlkkclooihjpiaaGreatRows
import Derived.ProofKit
import Derived.SizedLaws
import Derived.OpenShut
import Derived.Deep.Fields
import Derived.Deep.Slices
import Derived.Test.YtlkkclooihjpiaaGreatSpW
import Derived.ArgAppend
import Derived.Test.YtlkkclooihjpiaaGreatDkM
set_option linter.unusedVariables false
set_option linter.unusedSimpArgs false
namespace Go.Proofs.YtlkkclooihjpiaaGreat
open Go.ChangeShapes Go.WideShapes Go.ChangeAt Go.RowKit Go.Deep
set_option maxRecDepth 20000
theorem own : ownKnob Tryz.prog.godebug = none := by kernel_rfl
theorem laidOut : laidOutB Tryz.prog = true := by kernel_rfl
section
variable {H : Type} {enc : TypeId × Value → H} {w : World} {base : Nat} {sp : Nat → Bool} {held : Bool}
theorem open_cells_struct {ts : TypeId} {fs : Array Field} {fuel : Nat} {cs : List Value} {x : DataW H × List MemPlace} (hs : Tryz.prog.underlying ts = some (.struct fs))
  (hone : oneCellFields Tryz.prog fs = true) (hC : Tryz.prog.cellsOf ts = fs.size) (h : DataW.trod enc Tryz.prog w base sp held fuel ts cs = some x) :
  cs.length = fs.size ∧ ∃ n, ∀ (i : Nat) (f : Field), fs[i]? = some f → ∃ y, DataW.trod enc Tryz.prog w base sp held n f.type [cs.getD i undef] = some y := by
 obtain ⟨xs, n, _, _, hl, hx, hf⟩ := DataW.trod_struct hs h
 rw [hC] at hl
 refine ⟨hl, n, fun i f hi => ?_⟩
 have hlt : i < fs.size := (Array.getElem?_eq_some_iff.1 hi).1
 obtain ⟨ho, hc⟩ := hone_of hone i f hi
 have := hf i f hi
 rw [ho, hc, take1_drop cs i undef (by omega), List.getElem?_eq_getElem (by omega)] at this
 exact ⟨_, this⟩
theorem trod_each : ∀ {ts : List TypeId} {vs : List Value} {ds : List (DataW H)} {ps : List MemPlace}, DataW.TrodAll enc Tryz.prog w base sp held ts vs ds ps →
  vs.length = ts.length ∧ ∀ (i : Nat) (t : TypeId) (v : Value), ts[i]? = some t → vs[i]? = some v → ∃ d p, DataW.Trod enc Tryz.prog w base sp held t v d p
 | [], vs, ds, ps, h => by
  obtain ⟨rfl, rfl, rfl⟩ := trodAll_nil h
  exact ⟨rfl, fun i t v ht _ => by simp at ht⟩
 | t :: ts, vs, ds, ps, h => by
  obtain ⟨v, vs', d, ds', p, q, rfl, rfl, rfl, h1, h2⟩ := trodAll_cons h
  obtain ⟨e1, e2⟩ := trod_each h2
  refine ⟨by simp [e1], fun i t' v' ht hv => ?_⟩
  cases i with
  | zero =>
   simp only [List.getElem?_cons_zero, Option.some.injEq] at ht hv
   subst ht hv
   exact ⟨d, p, h1⟩
  | succ i =>
   simp only [List.getElem?_cons_succ] at ht hv
   exact e2 i t' v' ht hv
theorem trod_ds : ∀ {ts : List TypeId} {vs : List Value} {ds : List (DataW H)} {ps : List MemPlace}, DataW.TrodAll enc Tryz.prog w base sp held ts vs ds ps → ds.length = ts.length
 | [], vs, ds, ps, h => by
  obtain ⟨rfl, rfl, rfl⟩ := trodAll_nil h
  rfl
 | t :: ts, vs, ds, ps, h => by
  obtain ⟨v, vs', d, ds', p, q, rfl, rfl, rfl, h1, h2⟩ := trodAll_cons h
  simp [trod_ds h2]
end
def readB (P : Program) (ts : List TypeId) : Bool := ts.all fun t => P.readableRec t && decide (t < P.types.size)
theorem below_all {H : Type} {enc : TypeId × Value → H} {P : Program} {W W' : World} (hl : laidOutB P = true) (hb : Below W.heap.size W W') : ∀ {ts : List TypeId} {vs : List Value} {ds : List (DataW H)} {ps : List MemPlace}, readB P ts = true →
  DataW.TrodAll enc P W 0 (fun _ => true) true ts vs ds ps → (∀ x ∈ ps, x.block < W.heap.size) → DataW.TrodAll enc P W' 0 (fun b => decide (b < W.heap.size)) true ts vs ds ps
 | [], vs, ds, ps, _, h, _ => by
  obtain ⟨rfl, rfl, rfl⟩ := trodAll_nil h
  exact trodAll_mk0
 | t :: ts, vs, ds, ps, hr, h, hlt => by
  obtain ⟨v, vs', d, ds', p, q, rfl, rfl, rfl, h1, h2⟩ := trodAll_cons h
  simp only [readB, List.all_cons, Bool.and_eq_true, decide_eq_true_eq] at hr
  exact trodAll_cons_mk (Below.trod hl hr.1.1 hr.1.2 h1 hb (fun x hx => hlt x (by simp [hx]))) (below_all hl hb (by simpa [readB] using hr.2) h2 (fun x hx => hlt x (by simp [hx])))
theorem args_two {a : Array Value} (h : a.toList.length = 2) : ∃ v0 v1, a = #[v0, v1] := by
 obtain ⟨l⟩ := a
 match l, h with
 | [v0, v1], _ => exact ⟨v0, v1, rfl⟩
theorem list_two {α : Type} {l : List α} (h : l.length = 2) : ∃ d0 d1, l = [d0, d1] := by
 match l, h with
 | [d0, d1], _ => exact ⟨d0, d1, rfl⟩
theorem i64_wf {n : Int} (h : (Lit.int .i64 n).wf = true) : -9223372036854775808 ≤ n ∧ n ≤ 9223372036854775807 := by
 have h' : (decide ((-9223372036854775808 : Int) ≤ n) && decide (n ≤ 9223372036854775807)) = true := h
 simpa using h'
theorem len_of {s : ByteArray} (h : s.size ≤ maxLen) : s.data.toList.length ≤ 9223372036854775807 := by
 have e : s.size = s.data.toList.length := by show s.data.size = _; exact Array.length_toList.symm
 have hm : maxLen = 9223372036854775807 := rfl
 omega
end Go.Proofs.YtlkkclooihjpiaaGreat
/- SpaceOwns in memory: a pager's disk crashed and opened anew; the pages that are somebody's. -/
namespace Go.Proofs.YtlkkclooihjpiaaGreat
open Go.RowKit Go.Maps
set_option maxRecDepth 20000
section
variable {w W W' : World} {pb l b : Nat} {p : Pg} {g g' : Lg} {d d' : Dsk} {X X' : Nat → Prop}
end
structure Owned (h : Hdr) (M : List (List UInt8)) (F P : List Nat) : Prop where
 spc : Spc h M F
 nodup : (F ++ P).Nodup
 all : F.length + P.length = M.length
 range : ∀ x ∈ P, 2 ≤ x ∧ x ≤ M.length + 1
section
variable {w W W' : World} {pb l b N : Nat} {p : Pg} {g g' : Lg} {d d' : Dsk} {X X' : Nat → Prop} {P : List Nat}
end
def OwnI (W : World) (base : Nat) (v : Value) (xs : List Nat) : Prop :=
 W.ownsRow base 3 1 v xs.length (xs.map fun (x : Nat) => Value.int .i64 (x : Int)) ∨
 ∃ g cur, v = .slice (some ⟨g, 0, none⟩) xs.length xs.length ∧ base ≤ g ∧ W.heap[g]? = some (.cells cur 3 (0, 0)) ∧ cur.toList.take xs.length = (xs.map fun (x : Nat) => Value.int .i64 (x : Int)) ∧ xs.length ≤ maxLen
section
variable {W W' : World} {base : Nat} {v : Value} {xs : List Nat}
theorem OwnI.keep (h : OwnI W base v xs) (hk : ∀ k, v.ownBlock = some k → W'.heap[k]? = W.heap[k]?) : OwnI W' base v xs := by
 rcases h with h | ⟨g, cur, rfl, h1, h2, h3, h4⟩
 ·exact .inl (row_keep h hk)
 ·exact .inr ⟨g, cur, rfl, h1, (hk g rfl).trans h2, h3, h4⟩
end
end Go.Proofs.YtlkkclooihjpiaaGreat
/- SpacePlays: the document's world: its models, and what it is in memory. -/
namespace Go.Proofs.YtlkkclooihjpiaaGreat
open Go.RowKit Go.Maps
set_option maxRecDepth 20000
structure RSt where
 pages : Int
 free : List Nat
 commits : Int
 roots : List Int
structure RWd where
 sure : RSt
 inn : Bool
 now : RSt
 saves : List RSt
def rst0 : RSt := ⟨0, [], 0, [0, 0, 0, 0, 0, 0, 0, 0]⟩
def RWd.st (m : RWd) : RSt := if m.inn then m.now else m.sure
def intsN (xs : List Nat) : List Value := xs.map fun (x : Nat) => .int .i64 (x : Int)
def IRow (W : World) (base : Nat) (v : Value) (xs : List Nat) : Prop := W.ownsRow base 3 1 v xs.length (intsN xs)
def rstCells (s : RSt) (fv : Value) : List Value := .int .i64 s.pages :: fv :: .int .u64 s.commits :: s.roots.map (.int .i64 ·)
def rwdCells (m : RWd) (fs fn sv : Value) : List Value := rstCells m.sure fs ++ (.bool m.inn :: (rstCells m.now fn ++ [sv]))
def savesC (l : List (RSt × Value)) : List Value := l.flatMap fun x => rstCells x.1 x.2
structure WdAt (W : World) (base wb : Nat) (m : RWd) (fs fn sv : Value) (l : List (RSt × Value)) : Prop where
 blk : W.heap[wb]? = some (.cells (rwdCells m fs fn sv).toArray 56 (0, 0))
 ge : base ≤ wb
 l1 : m.sure.roots.length = 8
 l2 : m.now.roots.length = 8
 l3 : ∀ x ∈ l, x.1.roots.length = 8
 rs : IRow W base fs m.sure.free
 rn : IRow W base fn m.now.free
 rv : W.ownsRow base 53 11 sv l.length (savesC l)
 ls : l.map (·.1) = m.saves
 lf : ∀ x ∈ l, IRow W base x.2 x.1.free
 apart : m.inn = true → ∀ k, fn.ownBlock = some k → fs.ownBlock ≠ some k ∧ ∀ x ∈ l, x.2.ownBlock ≠ some k
def WdB (wb : Nat) (fs fn sv : Value) (l : List (RSt × Value)) (k : Nat) : Prop := k = wb ∨ fs.ownBlock = some k ∨ fn.ownBlock = some k ∨ sv.ownBlock = some k ∨ ∃ x ∈ l, x.2.ownBlock = some k
def WdX (W : World) (base wb : Nat) (m : RWd) (B : Nat → Prop) : Prop := ∃ fs fn sv l, WdAt W base wb m fs fn sv l ∧ ∀ k, WdB wb fs fn sv l k → B k
def moreB (W W' : World) (B : Nat → Prop) (k : Nat) : Prop := B k ∨ (W.heap.size ≤ k ∧ k < W'.heap.size)
structure WdDid (W W' : World) (base wb : Nat) (m : RWd) (B : Nat → Prop) : Prop where
 x : WdX W' base wb m (moreB W W' B)
 f : Frm B W W'
section
variable {W W' : World} {base wb : Nat} {m m' : RWd} {fs fn sv : Value} {l : List (RSt × Value)} {B : Nat → Prop} {s : RSt} {fv : Value}
theorem WdAt.keep (h : WdAt W base wb m fs fn sv l) (hk : ∀ k, WdB wb fs fn sv l k → W'.heap[k]? = W.heap[k]?) : WdAt W' base wb m fs fn sv l :=
 ⟨(hk wb (.inl rfl)).trans h.blk, h.ge, h.l1, h.l2, h.l3, row_keep h.rs (fun k e => hk k (.inr (.inl e))), row_keep h.rn (fun k e => hk k (.inr (.inr (.inl e)))), row_keep h.rv (fun k e => hk k (.inr (.inr (.inr (.inl e))))), h.ls, fun x hx => row_keep (h.lf x hx) (fun k e => hk k (.inr (.inr (.inr (.inr ⟨x, hx, e⟩))))), h.apart⟩
theorem WdX.keep (h : WdX W base wb m B) (hk : ∀ k, B k → W'.heap[k]? = W.heap[k]?) : WdX W' base wb m B := by
 obtain ⟨fs, fn, sv, l, h1, h2⟩ := h
 exact ⟨fs, fn, sv, l, h1.keep (fun k e => hk k (h2 k e)), h2⟩
theorem roots8 {r : List Int} (h : r.length = 8) : ∃ r0 r1 r2 r3 r4 r5 r6 r7, r = [r0, r1, r2, r3, r4, r5, r6, r7] := by
 match r, h with
 | [r0, r1, r2, r3, r4, r5, r6, r7], _ => exact ⟨r0, r1, r2, r3, r4, r5, r6, r7, rfl⟩
end
end Go.Proofs.YtlkkclooihjpiaaGreat
/- SpacePlays, the plain part: the document's world, and how a pager answers beside it. -/
namespace Go.Proofs.YtlkkclooihjpiaaGreat
open Go.RowKit Go.Maps
set_option maxRecDepth 20000
structure SRel (h : Hdr) (M : List (List UInt8)) (F : List Nat) (s : RSt) : Prop where
 pages : s.pages = (M.length : Int) + 1
 free : s.free = F.reverse
 commits : s.commits = h.commits
 roots : s.roots = h.roots
 spc : Spc h M F
def TxS (g : Lg) (d : Dsk) (t : Tr) (s : RSt) : Prop := ∃ h M F, Tx ⟨some t, [], 0⟩ g d t (hdrPg h :: M) ∧ SRel h M F s
def CmS (g : Lg) (d : Dsk) (s : RSt) : Prop := ∃ L h M F, Sure g d L ∧ ((L = [] ∧ h = hdr0 ∧ M = [] ∧ F = [] ∧ s = rst0) ∨ (L = hdrPg h :: M ∧ SRel h M F s))
structure PwInv (p : Pg) (g : Lg) (d : Dsk) (m : RWd) : Prop where
 opn : p.opn = 0
 cm : CmS g d m.sure
 on : m.inn = true → ∃ t, p.now = some t ∧ TxS g d t m.now
 off : m.inn = false → p.now = none ∧ m.saves = []
 many : p.saves.length = m.saves.length
 saves : m.inn = true → ∀ (i : Nat) (t : Tr) (s : RSt), p.saves[i]? = some t → m.saves[i]? = some s → TxS g d t s
section
variable {w W W' : World} {pb l b N : Nat} {p p' : Pg} {g g' : Lg} {d d' : Dsk} {X X' : Nat → Prop} {m : RWd} {s : RSt} {t : Tr} {h : Hdr} {M L : List (List UInt8)} {F : List Nat}
end
end Go.Proofs.YtlkkclooihjpiaaGreat
/- SpacePlays: the pager's side of each call. -/
namespace Go.Proofs.YtlkkclooihjpiaaGreat
open Go.RowKit Go.Maps
set_option maxRecDepth 20000
section
variable {w W W' : World} {pb l b N : Nat} {p p' : Pg} {g g' : Lg} {d d' : Dsk} {X X' : Nat → Prop} {m : RWd}
set_option maxHeartbeats 8000000 in
set_option maxRecDepth 20000 in
theorem alloc_err (h : PgX w W pb l b p g d X) (he : (readySM p g d).2 ≠ 0) : Calls Tryz.prog 12 #[.pointer (some ⟨pb, 0, none⟩)] W fun e w' => e = .returned (.tuple #[.int .i64 0, .int .i64 (readySM p g d).2]) ∧ PgX w w' pb l b p g d X ∧ ∀ k, X k → w'.heap[k]? = W.heap[k]? := by
 have SR := sready_any h
 have hwf := (readySM_wf p g d).len
 obtain ⟨Q, hQ⟩ : ∃ Q, Q = readySM p g d := ⟨_, rfl⟩
 rw [← hQ] at he hwf SR ⊢
 obtain ⟨H, E⟩ := Q
 obtain ⟨f, c, k, r0, r1, r2, r3, r4, r5, r6, r7, rfl⟩ := hdr_form hwf
 unfold hdrV hdrCells at SR
 simp only [List.map_cons, List.map_nil] at SR
 replace SR := hid SR
 dsimp only at he ⊢
 have HX := hid h
 have b1 : (E != 0) = true := by simp [he]
 clear hQ hwf h he
 go_enter Tryz.func12, Tryz.ntmps12
 go_wp2_with (first
  | (go_at_call 33; refine (SR.out).mono ?_; rintro e w1 ⟨rfl, hx, hk⟩; have HX1 := hid hx; have HK1 := hid hk; clear hx hk)
  | go_in)
 go_ret2
 have hf := px_fin HX1.out ((Below.refl w1.heap.size w1).alloc (Nat.le_refl _) (.cells #[.int .i64 f, .int .i64 c, .int .u64 k, .int .i64 r0, .int .i64 r1, .int .i64 r2, .int .i64 r3, .int .i64 r4, .int .i64 r5, .int .i64 r6, .int .i64 r7] 38))
 exact ⟨rfl, hf.1, fun k hk => (hf.2 k hk).trans (HK1.out k hk)⟩
end
end Go.Proofs.YtlkkclooihjpiaaGreat
