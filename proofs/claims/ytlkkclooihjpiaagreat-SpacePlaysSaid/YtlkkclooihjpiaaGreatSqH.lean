import Derived.Test.YtlkkclooihjpiaaGreatPlain
import Derived.StillTailTactics
import Derived.Test.YtlkkclooihjpiaaGreatSpE
import Derived.Test.YtlkkclooihjpiaaGreatSpH
import Derived.ChangeKeysEq
import Derived.Test.YtlkkclooihjpiaaGreatHeld
import Derived.Test.YtlkkclooihjpiaaGreatRows
import Derived.ProofKit
import Derived.SizedLaws
import Derived.OpenShut
import Derived.Deep.Fields
import Derived.Deep.Slices
import Derived.Test.YtlkkclooihjpiaaGreatSqG
import Derived.ArgAppend
set_option linter.unusedVariables false
set_option linter.unusedSimpArgs false
namespace Go.Proofs.YtlkkclooihjpiaaGreat
open Go.RowKit
set_option maxRecDepth 20000
def fixedL (n : Int) : Nat → List UInt8
 | 0 => []
 | k + 1 => byt (n / 256 ^ k % 256) :: fixedL n k
attribute [irreducible] fixedL
def wordTo (l : List UInt8) (p k : Nat) : Int := num (((l.drop p).take k) ++ List.replicate (k - ((l.drop p).take k).length) 0)
attribute [irreducible] wordTo
end Go.Proofs.YtlkkclooihjpiaaGreat
namespace Go.Proofs.YtlkkclooihjpiaaGreat
open Go.RowKit Go.Maps
set_option maxRecDepth 20000
def rfour (n : Int) : List UInt8 := fixedL (IntKind.u64.wrap n) 4
attribute [irreducible] rfour
end Go.Proofs.YtlkkclooihjpiaaGreat
namespace Go.Proofs.YtlkkclooihjpiaaGreat
open Go.RowKit Go.Maps
set_option maxRecDepth 20000
structure RkSt (w W : World) (s : List UInt8) (i : Nat) : Prop where
 res : W.heap[w.heap.size]? = some (.cells #[.int .i64 0, .int .i64 0, .int .u64 0, .int .i64 0, .int .i64 0, .int .i64 0, .int .i64 0, .int .i64 0, .int .i64 0, .int .i64 0, .int .i64 0] 38 (0, 0))
 bel : Below w.heap.size w W
 row : W.heap[w.heap.size + 1]? = some (.cells (hdrCells ⟨at4 s 8, at4 s 12, num ((s.drop 16).take 8), rootsTo s i⟩).toArray 38 (0, 0))
end Go.Proofs.YtlkkclooihjpiaaGreat
namespace Go.Proofs.YtlkkclooihjpiaaGreat
open Go.RowKit Go.Maps
set_option maxRecDepth 20000
theorem info_int : (Tryz.prog.info? 3).isSome = true := by kernel_rfl
theorem arr_same (w : World) (a0 a1 a2 a3 a4 a5 a6 a7 : Int) : (Op.equalIn 9999 36 (.agg #[.int .i64 a0, .int .i64 a1, .int .i64 a2, .int .i64 a3, .int .i64 a4, .int .i64 a5, .int .i64 a6, .int .i64 a7]) (.agg #[.int .i64 a0, .int .i64 a1, .int .i64 a2, .int .i64 a3, .int .i64 a4, .int .i64 a5, .int .i64 a6, .int .i64 a7])).run Tryz.prog w = .ok true w := by
 obtain ⟨i, hi⟩ := Option.isSome_iff_exists.1 info_int
 rw [run_equalIn_array w 9998 (n := 8) _ _ Tryz.underlying36 hi]
 have hc : Tryz.prog.cellsOf 3 = 1 := by kernel_rfl
 have q0 : ∀ a, (Op.equalIn 9998 3 (.int .i64 a) (.int .i64 a)).run Tryz.prog w = .ok true w := fun a => by
  rw [run_equalIn_int w 9997 _ _ _ _ _ Tryz.underlying3]
  simp
 have p0 : (part 3 #[.int .i64 a0, .int .i64 a1, .int .i64 a2, .int .i64 a3, .int .i64 a4, .int .i64 a5, .int .i64 a6, .int .i64 a7] 0).run Tryz.prog w = .ok (.int .i64 a0) w := by kernel_rfl
 have p1 : (part 3 #[.int .i64 a0, .int .i64 a1, .int .i64 a2, .int .i64 a3, .int .i64 a4, .int .i64 a5, .int .i64 a6, .int .i64 a7] 1).run Tryz.prog w = .ok (.int .i64 a1) w := by kernel_rfl
 have p2 : (part 3 #[.int .i64 a0, .int .i64 a1, .int .i64 a2, .int .i64 a3, .int .i64 a4, .int .i64 a5, .int .i64 a6, .int .i64 a7] 2).run Tryz.prog w = .ok (.int .i64 a2) w := by kernel_rfl
 have p3 : (part 3 #[.int .i64 a0, .int .i64 a1, .int .i64 a2, .int .i64 a3, .int .i64 a4, .int .i64 a5, .int .i64 a6, .int .i64 a7] 3).run Tryz.prog w = .ok (.int .i64 a3) w := by kernel_rfl
 have p4 : (part 3 #[.int .i64 a0, .int .i64 a1, .int .i64 a2, .int .i64 a3, .int .i64 a4, .int .i64 a5, .int .i64 a6, .int .i64 a7] 4).run Tryz.prog w = .ok (.int .i64 a4) w := by kernel_rfl
 have p5 : (part 3 #[.int .i64 a0, .int .i64 a1, .int .i64 a2, .int .i64 a3, .int .i64 a4, .int .i64 a5, .int .i64 a6, .int .i64 a7] 5).run Tryz.prog w = .ok (.int .i64 a5) w := by kernel_rfl
 have p6 : (part 3 #[.int .i64 a0, .int .i64 a1, .int .i64 a2, .int .i64 a3, .int .i64 a4, .int .i64 a5, .int .i64 a6, .int .i64 a7] 6).run Tryz.prog w = .ok (.int .i64 a6) w := by kernel_rfl
 have p7 : (part 3 #[.int .i64 a0, .int .i64 a1, .int .i64 a2, .int .i64 a3, .int .i64 a4, .int .i64 a5, .int .i64 a6, .int .i64 a7] 7).run Tryz.prog w = .ok (.int .i64 a7) w := by kernel_rfl
 rw [hc, show List.range 8 = [0, 1, 2, 3, 4, 5, 6, 7] from rfl]
 simp only [Op.eqItems, Sem.run_bind, Nat.mul_one, p0, p1, p2, p3, p4, p5, p6, p7, q0, Result.andThen_ok, Bool.not_true, Bool.false_eq_true, if_false, Sem.run_pure]
end Go.Proofs.YtlkkclooihjpiaaGreat
namespace Go.Proofs.YtlkkclooihjpiaaGreat
open Go.RowKit Go.Maps
set_option maxRecDepth 20000
section
variable {w W W' : World} {pb l b : Nat} {p p' : Pg} {g g' : Lg} {d d' : Dsk} {X X' : Nat → Prop}
def sW1 : Pg := (spBeginM p0 exG0 newM).2
def sW2 : Pg := (alloc0M sW1 exG0 newM).2.2
def sW3 : Pg := (alloc0M sW2 exG0 newM).2.2
def sW4 : Pg := (freeM sW3 exG0 newM 2).2
def sWC : Int × Pg × Lg × Dsk := spCommitM sW4 exG0 newM
theorem sk_begin : (spBeginM p0 exG0 newM).1 = 0 := by decide +kernel
theorem sk_z1 : (readySM sW1 exG0 newM).1.free = 0 := by decide +kernel
theorem sk_a1 : (alloc0M sW1 exG0 newM).1 = 2 := by decide +kernel
theorem sk_e1 : (alloc0M sW1 exG0 newM).2.1 = 0 := by decide +kernel
theorem sk_z2 : (readySM sW2 exG0 newM).1.free = 0 := by decide +kernel
theorem sk_a2 : (alloc0M sW2 exG0 newM).1 = 3 := by decide +kernel
theorem sk_e2 : (alloc0M sW2 exG0 newM).2.1 = 0 := by decide +kernel
theorem sk_free : (freeM sW3 exG0 newM 2).1 = 0 := by decide +kernel
theorem sk_commit : sWC.1 = 0 := by decide +kernel
theorem sk_e : (readHM sWC.2.1 sWC.2.2.1 sWC.2.2.2).2 = 0 := by decide +kernel
theorem sk_f : (readHM sWC.2.1 sWC.2.2.1 sWC.2.2.2).1.free = 2 := by decide +kernel
theorem sk_c : (readHM sWC.2.1 sWC.2.2.1 sWC.2.2.2).1.count = 1 := by decide +kernel
theorem sk_k : (readHM sWC.2.1 sWC.2.2.1 sWC.2.2.2).1.commits = 1 := by decide +kernel
theorem sk_r : (readHM sWC.2.1 sWC.2.2.1 sWC.2.2.2).1.roots = [0, 0, 0, 0, 0, 0, 0, 0] := by decide +kernel
theorem sk_h : (readHM sWC.2.1 sWC.2.2.1 sWC.2.2.2).1 = ⟨2, 1, 1, [0, 0, 0, 0, 0, 0, 0, 0]⟩ := hdr_ext sk_f sk_c sk_k sk_r
attribute [local irreducible] sW1 sW2 sW3 sW4 sWC exG0
theorem sw_begin (h : PgX w W pb l b p0 exG0 newM X) : Calls Tryz.prog 11 #[.pointer (some ⟨pb, 0, none⟩)] W fun e w' => e = .returned (.int .i64 0) ∧ PgX w w' pb l b sW1 exG0 newM X := by
 have A := sbegin_any h
 rw [sk_begin] at A
 unfold sW1
 exact A.mono fun e w' hh => ⟨hh.1, hh.2.1⟩
theorem sw_alloc1 (h : PgX w W pb l b sW1 exG0 newM X) : Calls Tryz.prog 12 #[.pointer (some ⟨pb, 0, none⟩)] W fun e w' => e = .returned (.tuple #[.int .i64 2, .int .i64 0]) ∧ PgX w w' pb l b sW2 exG0 newM X := by
 have A := alloc0_any h sk_z1
 rw [sk_a1, sk_e1] at A
 unfold sW2
 exact A.mono fun e w' hh => ⟨hh.1, hh.2.1⟩
theorem sw_alloc2 (h : PgX w W pb l b sW2 exG0 newM X) : Calls Tryz.prog 12 #[.pointer (some ⟨pb, 0, none⟩)] W fun e w' => e = .returned (.tuple #[.int .i64 3, .int .i64 0]) ∧ PgX w w' pb l b sW3 exG0 newM X := by
 have A := alloc0_any h sk_z2
 rw [sk_a2, sk_e2] at A
 unfold sW3
 exact A.mono fun e w' hh => ⟨hh.1, hh.2.1⟩
theorem sw_free (h : PgX w W pb l b sW3 exG0 newM X) : Calls Tryz.prog 13 #[.pointer (some ⟨pb, 0, none⟩), .int .i64 2] W fun e w' => e = .returned (.int .i64 0) ∧ PgX w w' pb l b sW4 exG0 newM X := by
 have A := sfree_any h 2 (by unfold in64; decide)
 rw [sk_free] at A
 unfold sW4
 exact A.mono fun e w' hh => ⟨hh.1, hh.2.1⟩
theorem sw_commit (h : PgX w W pb l b sW4 exG0 newM X) : Calls Tryz.prog 22 #[.pointer (some ⟨pb, 0, none⟩)] W fun e w' => e = .returned (.int .i64 0) ∧ PgX w w' pb l b sWC.2.1 sWC.2.2.1 sWC.2.2.2 X := by
 have A := scommit_any h 100 new_small (by decide)
 have e := sk_commit
 unfold sWC at e ⊢
 rw [e] at A
 exact A.mono fun e w' hh => ⟨hh.1, hh.2.1⟩
theorem sw_read (h : PgX w W pb l b sWC.2.1 sWC.2.2.1 sWC.2.2.2 X) : Calls Tryz.prog 10 #[.pointer (some ⟨pb, 0, none⟩)] W fun e w' => e = .returned (.tuple #[hdrV ⟨2, 1, 1, [0, 0, 0, 0, 0, 0, 0, 0]⟩, .int .i64 0]) ∧ PgX w w' pb l b sWC.2.1 sWC.2.2.1 sWC.2.2.2 X := by
 have A := sread_any h
 rw [sk_h, sk_e] at A
 exact A.mono fun e w' hh => ⟨hh.1, h.below hh.2⟩
set_option maxHeartbeats 4000000 in
set_option maxRecDepth 20000 in
theorem sworks_any (w : World) : Calls Tryz.prog 5 #[] w fun e w' => e = .returned (.bool true) ∧ Below w.heap.size w w' := by
 have RD := fun (W1 : World) (pb l b : Nat) (X : Nat → Prop) (h : PgX w W1 pb l b sWC.2.1 sWC.2.2.1 sWC.2.2.2 X) => sw_read h
 unfold hdrV hdrCells at RD
 simp only [List.map_cons, List.map_nil] at RD
 replace RD := hid RD
 have as0 := fun (W1 : World) => arr_same W1 0 0 0 0 0 0 0 0
 go_enter Tryz.func5, Tryz.ntmps5
 go_upto_region 6 with (first
  | (go_at_call 6; refine (mk_new _).mono ?_; rintro e w1 ⟨b, rfl, hd1⟩; have Hd1 := hid hd1; clear hd1)
  | (go_at_call 8; refine (px_fresh Hd1.out).mono ?_; rintro e w2 ⟨pb, l, rfl, hm2⟩; have Hm2 := hid hm2; clear hm2 Hd1)
  | (go_at_call 11; refine (sw_begin Hm2.out).mono ?_; rintro e w3 ⟨rfl, hm3⟩; have Hm3 := hid hm3; clear hm3 Hm2)
  | (go_at_call 12; refine (sw_alloc1 Hm3.out).mono ?_; rintro e w4 ⟨rfl, hm4⟩; have Hm4 := hid hm4; clear hm4 Hm3)
  | (go_at_call 12; refine (sw_alloc2 Hm4.out).mono ?_; rintro e w5 ⟨rfl, hm5⟩; have Hm5 := hid hm5; clear hm5 Hm4)
  | go_in)
 go_wp2_with (first
  | (go_at_call 13; refine (sw_free Hm5.out).mono ?_; rintro e w6 ⟨rfl, hm6⟩; have Hm6 := hid hm6; clear hm6 Hm5)
  | (go_at_call 22; refine (sw_commit Hm6.out).mono ?_; rintro e w7 ⟨rfl, hm7⟩; have Hm7 := hid hm7; clear hm7 Hm6)
  | (go_at_call 10; refine (RD.out _ _ _ _ _ Hm7.out).mono ?_; rintro e w8 ⟨rfl, hm8⟩; have Hm8 := hid hm8; clear hm8 Hm7)
  | go_in)
 go_ret
 exact ⟨rfl, Hm8.out.bel.alloc Hm8.out.bel.size _⟩
end
end Go.Proofs.YtlkkclooihjpiaaGreat
/- For the lifts: arguments one by one, and that they all read as they did. -/
namespace Go.Proofs.YtlkkclooihjpiaaGreat
open Go.ChangeShapes Go.WideShapes Go.ChangeAt Go.RowKit Go.Deep
set_option maxRecDepth 20000
theorem own : ownKnob Tryz.prog.godebug = none := by kernel_rfl
theorem laidOut : laidOutB Tryz.prog = true := by kernel_rfl
section
variable {H : Type} {enc : TypeId × Value → H} {w : World} {base : Nat} {sp : Nat → Bool} {held : Bool}
theorem open_cells_struct {ts : TypeId} {fs : Array Field} {fuel : Nat} {cs : List Value} {x : DataW H × List MemPlace} (hs : Tryz.prog.underlying ts = some (.struct fs))
  (hone : oneCellFields Tryz.prog fs = true) (hC : Tryz.prog.cellsOf ts = fs.size) (h : DataW.trod enc Tryz.prog w base sp held fuel ts cs = some x) :
  cs.length = fs.size ∧ ∃ n, ∀ (i : Nat) (f : Field), fs[i]? = some f → ∃ y, DataW.trod enc Tryz.prog w base sp held n f.type [cs.getD i undef] = some y := by
 obtain ⟨xs, n, _, _, hl, hx, hf⟩ := DataW.trod_struct hs h
 rw [hC] at hl
 refine ⟨hl, n, fun i f hi => ?_⟩
 have hlt : i < fs.size := (Array.getElem?_eq_some_iff.1 hi).1
 obtain ⟨ho, hc⟩ := hone_of hone i f hi
 have := hf i f hi
 rw [ho, hc, take1_drop cs i undef (by omega), List.getElem?_eq_getElem (by omega)] at this
 exact ⟨_, this⟩
theorem trod_each : ∀ {ts : List TypeId} {vs : List Value} {ds : List (DataW H)} {ps : List MemPlace}, DataW.TrodAll enc Tryz.prog w base sp held ts vs ds ps →
  vs.length = ts.length ∧ ∀ (i : Nat) (t : TypeId) (v : Value), ts[i]? = some t → vs[i]? = some v → ∃ d p, DataW.Trod enc Tryz.prog w base sp held t v d p
 | [], vs, ds, ps, h => by
  obtain ⟨rfl, rfl, rfl⟩ := trodAll_nil h
  exact ⟨rfl, fun i t v ht _ => by simp at ht⟩
 | t :: ts, vs, ds, ps, h => by
  obtain ⟨v, vs', d, ds', p, q, rfl, rfl, rfl, h1, h2⟩ := trodAll_cons h
  obtain ⟨e1, e2⟩ := trod_each h2
  refine ⟨by simp [e1], fun i t' v' ht hv => ?_⟩
  cases i with
  | zero =>
   simp only [List.getElem?_cons_zero, Option.some.injEq] at ht hv
   subst ht hv
   exact ⟨d, p, h1⟩
  | succ i =>
   simp only [List.getElem?_cons_succ] at ht hv
   exact e2 i t' v' ht hv
theorem trod_ds : ∀ {ts : List TypeId} {vs : List Value} {ds : List (DataW H)} {ps : List MemPlace}, DataW.TrodAll enc Tryz.prog w base sp held ts vs ds ps → ds.length = ts.length
 | [], vs, ds, ps, h => by
  obtain ⟨rfl, rfl, rfl⟩ := trodAll_nil h
  rfl
 | t :: ts, vs, ds, ps, h => by
  obtain ⟨v, vs', d, ds', p, q, rfl, rfl, rfl, h1, h2⟩ := trodAll_cons h
  simp [trod_ds h2]
end
def readB (P : Program) (ts : List TypeId) : Bool := ts.all fun t => P.readableRec t && decide (t < P.types.size)
theorem below_all {H : Type} {enc : TypeId × Value → H} {P : Program} {W W' : World} (hl : laidOutB P = true) (hb : Below W.heap.size W W') : ∀ {ts : List TypeId} {vs : List Value} {ds : List (DataW H)} {ps : List MemPlace}, readB P ts = true →
  DataW.TrodAll enc P W 0 (fun _ => true) true ts vs ds ps → (∀ x ∈ ps, x.block < W.heap.size) → DataW.TrodAll enc P W' 0 (fun b => decide (b < W.heap.size)) true ts vs ds ps
 | [], vs, ds, ps, _, h, _ => by
  obtain ⟨rfl, rfl, rfl⟩ := trodAll_nil h
  exact trodAll_mk0
 | t :: ts, vs, ds, ps, hr, h, hlt => by
  obtain ⟨v, vs', d, ds', p, q, rfl, rfl, rfl, h1, h2⟩ := trodAll_cons h
  simp only [readB, List.all_cons, Bool.and_eq_true, decide_eq_true_eq] at hr
  exact trodAll_cons_mk (Below.trod hl hr.1.1 hr.1.2 h1 hb (fun x hx => hlt x (by simp [hx]))) (below_all hl hb (by simpa [readB] using hr.2) h2 (fun x hx => hlt x (by simp [hx])))
theorem args_one {a : Array Value} (h : a.toList.length = 1) : ∃ v0, a = #[v0] := by
 obtain ⟨l⟩ := a
 match l, h with
 | [v0], _ => exact ⟨v0, rfl⟩
theorem list_one {α : Type} {l : List α} (h : l.length = 1) : ∃ d0, l = [d0] := by
 match l, h with
 | [d0], _ => exact ⟨d0, rfl⟩
theorem i64_wf {n : Int} (h : (Lit.int .i64 n).wf = true) : -9223372036854775808 ≤ n ∧ n ≤ 9223372036854775807 := by
 have h' : (decide ((-9223372036854775808 : Int) ≤ n) && decide (n ≤ 9223372036854775807)) = true := h
 simpa using h'
end Go.Proofs.YtlkkclooihjpiaaGreat
/- SpaceOwns in memory: a pager's disk crashed and opened anew; the pages that are somebody's. -/
namespace Go.Proofs.YtlkkclooihjpiaaGreat
open Go.RowKit Go.Maps
set_option maxRecDepth 20000
section
variable {w W W' : World} {pb l b : Nat} {p : Pg} {g g' : Lg} {d d' : Dsk} {X X' : Nat → Prop}
theorem PgX.dsk (h : PgX w W pb l b p g d X) : ∃ F, DiskAt W b F d ∧ (∀ k, F.own k ∨ F.sh k → ¬ X k ∧ w.heap.size ≤ k) ∧ ∀ w' d', Did W b F d' w' → PgX w w' pb l b p g d' X ∧ ∀ k, X k → w'.heap[k]? = W.heap[k]? := by
 obtain ⟨⟨F, G, K, nv, sv, h1, h2, h3, h4⟩, hb, hx⟩ := h
 exact ⟨F, h1.disk, fun k hk => ⟨(h4 k (.inl (hk.elim .inl fun e => .inr (.inl e)))).2, (h4 k (.inl (hk.elim .inl fun e => .inr (.inl e)))).1⟩, fun w' d' hd => pgx_log h1 h2 h3 h4 hb hx (h1.did hd)⟩
theorem px_crash (h : PgX w W pb l b p g d X) (kv : Value) (keep : List Bool) (hk : KeepAt W kv keep) (hkb : ∀ q, keepBlk kv keep = some q → q < w.heap.size) (hs : d.Small 1099511627776) (hkl : keep.length ≤ 1099511627776) :
  Calls Tryz.prog 17 #[.pointer (some ⟨b, 0, none⟩), kv] W fun e w' => e = .returned (.int .i64 0) ∧ PgX w w' pb l b p g (crashM d keep) X ∧ ∀ k, X k → w'.heap[k]? = W.heap[k]? := by
 obtain ⟨F, hF, hFx, hgo⟩ := h.dsk
 exact (crash_any hF kv keep hk (fun q hq => ⟨fun e => by have := (hFx q (.inl e)).2; have := hkb q hq; omega, Nat.lt_of_lt_of_le (hkb q hq) h.bel.size⟩) hs hkl).mono fun r w' hh => ⟨hh.1, hgo _ _ hh.2⟩
theorem px_again {g0 : Lg} {p' : Pg} (h : PgX w W pb l b p' g0 d X) (ho : lopenM d = (some g, 0)) : Calls Tryz.prog 8 #[.pointer (some ⟨b, 0, none⟩)] W fun e w' => ∃ pb2 l2, e = .returned (.tuple #[.pointer (some ⟨pb2, 0, none⟩), .int .i64 0]) ∧ PgX w w' pb2 l2 b p0 g d X ∧ ∀ k, X k → w'.heap[k]? = W.heap[k]? := by
 obtain ⟨F, hF, hge, -⟩ := h.dsk
 have hb := h.bel
 have hxl := h.xlt
 have OP := lopen_any hF
 rw [ho] at OP
 have OP := hid OP
 have HF := hid hge
 have HB := hid hb
 have HX := hid hxl
 clear h hF ho hge hb hxl
 go_enter Tryz.func8, Tryz.ntmps8
 go_wp2_with (first
  | (go_at_call 26; refine (OP.out).mono ?_; rintro e w1 ⟨hb2, l, G, rfl, h3, h4⟩; have HB2 := hid hb2; have H3 := hid h3; have H4 := hid h4; clear hb2 h3 h4)
  | go_in)
 go_ret2
 have h1 := H3.out
 have hsz := HB.out.size
 have hsz2 := HB2.out.size
 have hb1 : Below w1.heap.size w1 (w1.alloc (.cells #[.pointer (some ⟨l, 0, none⟩), .pointer none, .slice none 0 0, .int .i64 0] 83)) := (Below.refl _ w1).alloc (Nat.le_refl _) _
 have hn1 := heap_alloc_new w1 (.cells #[.pointer (some ⟨l, 0, none⟩), .pointer none, .slice none 0 0, .int .i64 0] 83)
 have hbel : Below W.heap.size W (w1.alloc (.cells #[.pointer (some ⟨l, 0, none⟩), .pointer none, .slice none 0 0, .int .i64 0] 83)) := HB2.out.trans (hb1.mono hsz2)
 refine ⟨w1.heap.size, l, rfl, ⟨⟨F, G, ⟨fun k => k = w1.heap.size, fun _ => False⟩, .pointer none, .slice none 0 0, h1.below hb1, ⟨hn1, rfl, ⟨[], rfl, World.ownsRow_nil _ _ _ _, (fun k hk => by cases hk), (fun x hx => by cases hx)⟩, (fun nb e => by cases e), rfl, (fun k hk => by rw [hk]; exact lt_of_block hn1), (fun k hk => hk.elim), (fun k _ hk => hk), ⟨(fun t ht => by cases ht), (fun t ht => by cases ht), by simp [p0], fun _ => rfl⟩⟩, fun k hk => ?_, fun k hk => ?_⟩, HB.out.trans (hbel.mono hsz), fun k hk => Nat.lt_of_lt_of_le (HX.out k hk) hbel.size⟩, fun k hk => hbel.block k (HX.out k hk)⟩
 ·rcases hk with hk | hk
  ·subst hk
   refine ⟨fun f => ?_, fun f => ?_, fun f => ?_⟩
   ·have := h1.flt (k := w1.heap.size) (.inl f); omega
   ·have := h1.flt (k := w1.heap.size) (.inr (.inl f)); omega
   ·have := h1.flt (k := w1.heap.size) (.inr (.inr f)); omega
  ·exact hk.elim
 ·rcases hk with (hk | hk | hk) | hk | hk
  ·exact ⟨(HF.out k (.inl hk)).2, (HF.out k (.inl hk)).1⟩
  ·exact ⟨(HF.out k (.inr hk)).2, (HF.out k (.inr hk)).1⟩
  ·exact ⟨Nat.le_trans hsz (H4.out k hk), fun e => by have := HX.out k e; have := H4.out k hk; omega⟩
  ·have hk : k = w1.heap.size := hk
   exact ⟨by omega, fun e => by have := HX.out k e; omega⟩
  ·exact hk.elim
theorem spc_small {N : Nat} (hg : g.head.pages ≤ 256) (h : d.Small N) (p : Pg) : (spCommitM p g d).2.2.2.Small (N + 8519680) := by
 have hm := h.mono (M := N + 8519680) (by omega)
 unfold spCommitM
 split
 ·exact hm
 split
 ·exact hm
 ·exact commit_small N hg h _
end
structure Owned (h : Hdr) (M : List (List UInt8)) (F P : List Nat) : Prop where
 spc : Spc h M F
 nodup : (F ++ P).Nodup
 all : F.length + P.length = M.length
 range : ∀ x ∈ P, 2 ≤ x ∧ x ≤ M.length + 1
section
variable {w W W' : World} {pb l b N : Nat} {p : Pg} {g g' : Lg} {d d' : Dsk} {X X' : Nat → Prop} {P : List Nat}
end
section
variable {W W' : World} {base : Nat} {v : Value} {xs : List Nat}
end
end Go.Proofs.YtlkkclooihjpiaaGreat
