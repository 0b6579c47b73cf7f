import Derived.Test.YtaelhejmedjgiaaGreatPlain
import Derived.StillTailTactics
import Derived.Test.YtaelhejmedjgiaaGreatSpE
import Derived.Test.YtaelhejmedjgiaaGreatSpH
import Derived.ChangeKeysEq
import Derived.Test.YtaelhejmedjgiaaGreatBase
import Derived.Test.YtaelhejmedjgiaaGreatRows
import Derived.ProofKit
import Derived.SizedLaws
import Derived.OpenShut
import Derived.Deep.Fields
import Derived.Deep.Slices
set_option linter.unusedVariables false
set_option linter.unusedSimpArgs false
namespace Go.Proofs.YtaelhejmedjgiaaGreat
open Go.RowKit
set_option maxRecDepth 20000
def fixedL (n : Int) : Nat → List UInt8
 | 0 => []
 | k + 1 => byt (n / 256 ^ k % 256) :: fixedL n k
attribute [irreducible] fixedL
def wordTo (l : List UInt8) (p k : Nat) : Int := num (((l.drop p).take k) ++ List.replicate (k - ((l.drop p).take k).length) 0)
attribute [irreducible] wordTo
end Go.Proofs.YtaelhejmedjgiaaGreat
namespace Go.Proofs.YtaelhejmedjgiaaGreat
open Go.RowKit Go.Maps
set_option maxRecDepth 20000
def rfour (n : Int) : List UInt8 := fixedL (IntKind.u64.wrap n) 4
attribute [irreducible] rfour
end Go.Proofs.YtaelhejmedjgiaaGreat
namespace Go.Proofs.YtaelhejmedjgiaaGreat
open Go.RowKit Go.Maps
set_option maxRecDepth 20000
structure RkSt (w W : World) (s : List UInt8) (i : Nat) : Prop where
 res : W.heap[w.heap.size]? = some (.cells #[.int .i64 0, .int .i64 0, .int .u64 0, .int .i64 0, .int .i64 0, .int .i64 0, .int .i64 0, .int .i64 0, .int .i64 0, .int .i64 0, .int .i64 0] 38 (0, 0))
 bel : Below w.heap.size w W
 row : W.heap[w.heap.size + 1]? = some (.cells (hdrCells ⟨at4 s 8, at4 s 12, num ((s.drop 16).take 8), rootsTo s i⟩).toArray 38 (0, 0))
end Go.Proofs.YtaelhejmedjgiaaGreat
namespace Go.Proofs.YtaelhejmedjgiaaGreat
open Go.RowKit Go.Maps
set_option maxRecDepth 20000
theorem info_int : (Tryz.prog.info? 3).isSome = true := by kernel_rfl
theorem arr_same (w : World) (a0 a1 a2 a3 a4 a5 a6 a7 : Int) : (Op.equalIn 9999 36 (.agg #[.int .i64 a0, .int .i64 a1, .int .i64 a2, .int .i64 a3, .int .i64 a4, .int .i64 a5, .int .i64 a6, .int .i64 a7]) (.agg #[.int .i64 a0, .int .i64 a1, .int .i64 a2, .int .i64 a3, .int .i64 a4, .int .i64 a5, .int .i64 a6, .int .i64 a7])).run Tryz.prog w = .ok true w := by
 obtain ⟨i, hi⟩ := Option.isSome_iff_exists.1 info_int
 rw [run_equalIn_array w 9998 (n := 8) _ _ Tryz.underlying36 hi]
 have hc : Tryz.prog.cellsOf 3 = 1 := by kernel_rfl
 have q0 : ∀ a, (Op.equalIn 9998 3 (.int .i64 a) (.int .i64 a)).run Tryz.prog w = .ok true w := fun a => by
  rw [run_equalIn_int w 9997 _ _ _ _ _ Tryz.underlying3]
  simp
 have p0 : (part 3 #[.int .i64 a0, .int .i64 a1, .int .i64 a2, .int .i64 a3, .int .i64 a4, .int .i64 a5, .int .i64 a6, .int .i64 a7] 0).run Tryz.prog w = .ok (.int .i64 a0) w := by kernel_rfl
 have p1 : (part 3 #[.int .i64 a0, .int .i64 a1, .int .i64 a2, .int .i64 a3, .int .i64 a4, .int .i64 a5, .int .i64 a6, .int .i64 a7] 1).run Tryz.prog w = .ok (.int .i64 a1) w := by kernel_rfl
 have p2 : (part 3 #[.int .i64 a0, .int .i64 a1, .int .i64 a2, .int .i64 a3, .int .i64 a4, .int .i64 a5, .int .i64 a6, .int .i64 a7] 2).run Tryz.prog w = .ok (.int .i64 a2) w := by kernel_rfl
 have p3 : (part 3 #[.int .i64 a0, .int .i64 a1, .int .i64 a2, .int .i64 a3, .int .i64 a4, .int .i64 a5, .int .i64 a6, .int .i64 a7] 3).run Tryz.prog w = .ok (.int .i64 a3) w := by kernel_rfl
 have p4 : (part 3 #[.int .i64 a0, .int .i64 a1, .int .i64 a2, .int .i64 a3, .int .i64 a4, .int .i64 a5, .int .i64 a6, .int .i64 a7] 4).run Tryz.prog w = .ok (.int .i64 a4) w := by kernel_rfl
 have p5 : (part 3 #[.int .i64 a0, .int .i64 a1, .int .i64 a2, .int .i64 a3, .int .i64 a4, .int .i64 a5, .int .i64 a6, .int .i64 a7] 5).run Tryz.prog w = .ok (.int .i64 a5) w := by kernel_rfl
 have p6 : (part 3 #[.int .i64 a0, .int .i64 a1, .int .i64 a2, .int .i64 a3, .int .i64 a4, .int .i64 a5, .int .i64 a6, .int .i64 a7] 6).run Tryz.prog w = .ok (.int .i64 a6) w := by kernel_rfl
 have p7 : (part 3 #[.int .i64 a0, .int .i64 a1, .int .i64 a2, .int .i64 a3, .int .i64 a4, .int .i64 a5, .int .i64 a6, .int .i64 a7] 7).run Tryz.prog w = .ok (.int .i64 a7) w := by kernel_rfl
 rw [hc, show List.range 8 = [0, 1, 2, 3, 4, 5, 6, 7] from rfl]
 simp only [Op.eqItems, Sem.run_bind, Nat.mul_one, p0, p1, p2, p3, p4, p5, p6, p7, q0, Result.andThen_ok, Bool.not_true, Bool.false_eq_true, if_false, Sem.run_pure]
end Go.Proofs.YtaelhejmedjgiaaGreat
namespace Go.Proofs.YtaelhejmedjgiaaGreat
open Go.RowKit Go.Maps
set_option maxRecDepth 20000
section
variable {w W W' : World} {pb l b : Nat} {p p' : Pg} {g g' : Lg} {d d' : Dsk} {X X' : Nat → Prop}
def sW1 : Pg := (spBeginM p0 exG0 newM).2
def sW2 : Pg := (alloc0M sW1 exG0 newM).2.2
def sW3 : Pg := (alloc0M sW2 exG0 newM).2.2
def sW4 : Pg := (freeM sW3 exG0 newM 2).2
def sWC : Int × Pg × Lg × Dsk := spCommitM sW4 exG0 newM
theorem sk_begin : (spBeginM p0 exG0 newM).1 = 0 := by decide +kernel
theorem sk_z1 : (readySM sW1 exG0 newM).1.free = 0 := by decide +kernel
theorem sk_a1 : (alloc0M sW1 exG0 newM).1 = 2 := by decide +kernel
theorem sk_e1 : (alloc0M sW1 exG0 newM).2.1 = 0 := by decide +kernel
theorem sk_z2 : (readySM sW2 exG0 newM).1.free = 0 := by decide +kernel
theorem sk_a2 : (alloc0M sW2 exG0 newM).1 = 3 := by decide +kernel
theorem sk_e2 : (alloc0M sW2 exG0 newM).2.1 = 0 := by decide +kernel
theorem sk_free : (freeM sW3 exG0 newM 2).1 = 0 := by decide +kernel
theorem sk_commit : sWC.1 = 0 := by decide +kernel
theorem sk_e : (readHM sWC.2.1 sWC.2.2.1 sWC.2.2.2).2 = 0 := by decide +kernel
theorem sk_f : (readHM sWC.2.1 sWC.2.2.1 sWC.2.2.2).1.free = 2 := by decide +kernel
theorem sk_c : (readHM sWC.2.1 sWC.2.2.1 sWC.2.2.2).1.count = 1 := by decide +kernel
theorem sk_k : (readHM sWC.2.1 sWC.2.2.1 sWC.2.2.2).1.commits = 1 := by decide +kernel
theorem sk_r : (readHM sWC.2.1 sWC.2.2.1 sWC.2.2.2).1.roots = [0, 0, 0, 0, 0, 0, 0, 0] := by decide +kernel
theorem sk_h : (readHM sWC.2.1 sWC.2.2.1 sWC.2.2.2).1 = ⟨2, 1, 1, [0, 0, 0, 0, 0, 0, 0, 0]⟩ := hdr_ext sk_f sk_c sk_k sk_r
attribute [local irreducible] sW1 sW2 sW3 sW4 sWC exG0
theorem sw_begin (h : PgX w W pb l b p0 exG0 newM X) : Calls Tryz.prog 8 #[.pointer (some ⟨pb, 0, none⟩)] W fun e w' => e = .returned (.int .i64 0) ∧ PgX w w' pb l b sW1 exG0 newM X := by
 have A := sbegin_any h
 rw [sk_begin] at A
 unfold sW1
 exact A.mono fun e w' hh => ⟨hh.1, hh.2.1⟩
theorem sw_alloc1 (h : PgX w W pb l b sW1 exG0 newM X) : Calls Tryz.prog 9 #[.pointer (some ⟨pb, 0, none⟩)] W fun e w' => e = .returned (.tuple #[.int .i64 2, .int .i64 0]) ∧ PgX w w' pb l b sW2 exG0 newM X := by
 have A := alloc0_any h sk_z1
 rw [sk_a1, sk_e1] at A
 unfold sW2
 exact A.mono fun e w' hh => ⟨hh.1, hh.2.1⟩
theorem sw_alloc2 (h : PgX w W pb l b sW2 exG0 newM X) : Calls Tryz.prog 9 #[.pointer (some ⟨pb, 0, none⟩)] W fun e w' => e = .returned (.tuple #[.int .i64 3, .int .i64 0]) ∧ PgX w w' pb l b sW3 exG0 newM X := by
 have A := alloc0_any h sk_z2
 rw [sk_a2, sk_e2] at A
 unfold sW3
 exact A.mono fun e w' hh => ⟨hh.1, hh.2.1⟩
theorem sw_free (h : PgX w W pb l b sW3 exG0 newM X) : Calls Tryz.prog 10 #[.pointer (some ⟨pb, 0, none⟩), .int .i64 2] W fun e w' => e = .returned (.int .i64 0) ∧ PgX w w' pb l b sW4 exG0 newM X := by
 have A := sfree_any h 2 (by unfold in64; decide)
 rw [sk_free] at A
 unfold sW4
 exact A.mono fun e w' hh => ⟨hh.1, hh.2.1⟩
theorem sw_commit (h : PgX w W pb l b sW4 exG0 newM X) : Calls Tryz.prog 11 #[.pointer (some ⟨pb, 0, none⟩)] W fun e w' => e = .returned (.int .i64 0) ∧ PgX w w' pb l b sWC.2.1 sWC.2.2.1 sWC.2.2.2 X := by
 have A := scommit_any h 100 new_small (by decide)
 have e := sk_commit
 unfold sWC at e ⊢
 rw [e] at A
 exact A.mono fun e w' hh => ⟨hh.1, hh.2.1⟩
theorem sw_read (h : PgX w W pb l b sWC.2.1 sWC.2.2.1 sWC.2.2.2 X) : Calls Tryz.prog 13 #[.pointer (some ⟨pb, 0, none⟩)] W fun e w' => e = .returned (.tuple #[hdrV ⟨2, 1, 1, [0, 0, 0, 0, 0, 0, 0, 0]⟩, .int .i64 0]) ∧ PgX w w' pb l b sWC.2.1 sWC.2.2.1 sWC.2.2.2 X := by
 have A := sread_any h
 rw [sk_h, sk_e] at A
 exact A.mono fun e w' hh => ⟨hh.1, h.below hh.2⟩
set_option maxHeartbeats 4000000 in
set_option maxRecDepth 20000 in
theorem sworks_any (w : World) : Calls Tryz.prog 5 #[] w fun e w' => e = .returned (.bool true) ∧ Below w.heap.size w w' := by
 have RD := fun (W1 : World) (pb l b : Nat) (X : Nat → Prop) (h : PgX w W1 pb l b sWC.2.1 sWC.2.2.1 sWC.2.2.2 X) => sw_read h
 unfold hdrV hdrCells at RD
 simp only [List.map_cons, List.map_nil] at RD
 replace RD := hid RD
 have as0 := fun (W1 : World) => arr_same W1 0 0 0 0 0 0 0 0
 go_enter Tryz.func5, Tryz.ntmps5
 go_upto_region 6 with (first
  | (go_at_call 6; refine (mk_new _).mono ?_; rintro e w1 ⟨b, rfl, hd1⟩; have Hd1 := hid hd1; clear hd1)
  | (go_at_call 7; refine (px_fresh Hd1.out).mono ?_; rintro e w2 ⟨pb, l, rfl, hm2⟩; have Hm2 := hid hm2; clear hm2 Hd1)
  | (go_at_call 8; refine (sw_begin Hm2.out).mono ?_; rintro e w3 ⟨rfl, hm3⟩; have Hm3 := hid hm3; clear hm3 Hm2)
  | (go_at_call 9; refine (sw_alloc1 Hm3.out).mono ?_; rintro e w4 ⟨rfl, hm4⟩; have Hm4 := hid hm4; clear hm4 Hm3)
  | (go_at_call 9; refine (sw_alloc2 Hm4.out).mono ?_; rintro e w5 ⟨rfl, hm5⟩; have Hm5 := hid hm5; clear hm5 Hm4)
  | go_in)
 go_wp2_with (first
  | (go_at_call 10; refine (sw_free Hm5.out).mono ?_; rintro e w6 ⟨rfl, hm6⟩; have Hm6 := hid hm6; clear hm6 Hm5)
  | (go_at_call 11; refine (sw_commit Hm6.out).mono ?_; rintro e w7 ⟨rfl, hm7⟩; have Hm7 := hid hm7; clear hm7 Hm6)
  | (go_at_call 13; refine (RD.out _ _ _ _ _ Hm7.out).mono ?_; rintro e w8 ⟨rfl, hm8⟩; have Hm8 := hid hm8; clear hm8 Hm7)
  | go_in)
 go_ret
 exact ⟨rfl, Hm8.out.bel.alloc Hm8.out.bel.size _⟩
end
end Go.Proofs.YtaelhejmedjgiaaGreat
/- For the lifts: arguments one by one, and that they all read as they did. -/
namespace Go.Proofs.YtaelhejmedjgiaaGreat
open Go.ChangeShapes Go.WideShapes Go.ChangeAt Go.RowKit Go.Deep
set_option maxRecDepth 20000
theorem own : ownKnob Tryz.prog.godebug = none := by kernel_rfl
theorem laidOut : laidOutB Tryz.prog = true := by kernel_rfl
section
variable {H : Type} {enc : TypeId × Value → H} {w : World} {base : Nat} {sp : Nat → Bool} {held : Bool}
theorem trod_each : ∀ {ts : List TypeId} {vs : List Value} {ds : List (DataW H)} {ps : List MemPlace}, DataW.TrodAll enc Tryz.prog w base sp held ts vs ds ps →
  vs.length = ts.length ∧ ∀ (i : Nat) (t : TypeId) (v : Value), ts[i]? = some t → vs[i]? = some v → ∃ d p, DataW.Trod enc Tryz.prog w base sp held t v d p
 | [], vs, ds, ps, h => by
  obtain ⟨rfl, rfl, rfl⟩ := trodAll_nil h
  exact ⟨rfl, fun i t v ht _ => by simp at ht⟩
 | t :: ts, vs, ds, ps, h => by
  obtain ⟨v, vs', d, ds', p, q, rfl, rfl, rfl, h1, h2⟩ := trodAll_cons h
  obtain ⟨e1, e2⟩ := trod_each h2
  refine ⟨by simp [e1], fun i t' v' ht hv => ?_⟩
  cases i with
  | zero =>
   simp only [List.getElem?_cons_zero, Option.some.injEq] at ht hv
   subst ht hv
   exact ⟨d, p, h1⟩
  | succ i =>
   simp only [List.getElem?_cons_succ] at ht hv
   exact e2 i t' v' ht hv
theorem trod_ds : ∀ {ts : List TypeId} {vs : List Value} {ds : List (DataW H)} {ps : List MemPlace}, DataW.TrodAll enc Tryz.prog w base sp held ts vs ds ps → ds.length = ts.length
 | [], vs, ds, ps, h => by
  obtain ⟨rfl, rfl, rfl⟩ := trodAll_nil h
  rfl
 | t :: ts, vs, ds, ps, h => by
  obtain ⟨v, vs', d, ds', p, q, rfl, rfl, rfl, h1, h2⟩ := trodAll_cons h
  simp [trod_ds h2]
end
def readB (P : Program) (ts : List TypeId) : Bool := ts.all fun t => P.readableRec t && decide (t < P.types.size)
theorem below_all {H : Type} {enc : TypeId × Value → H} {P : Program} {W W' : World} (hl : laidOutB P = true) (hb : Below W.heap.size W W') : ∀ {ts : List TypeId} {vs : List Value} {ds : List (DataW H)} {ps : List MemPlace}, readB P ts = true →
  DataW.TrodAll enc P W 0 (fun _ => true) true ts vs ds ps → (∀ x ∈ ps, x.block < W.heap.size) → DataW.TrodAll enc P W' 0 (fun b => decide (b < W.heap.size)) true ts vs ds ps
 | [], vs, ds, ps, _, h, _ => by
  obtain ⟨rfl, rfl, rfl⟩ := trodAll_nil h
  exact trodAll_mk0
 | t :: ts, vs, ds, ps, hr, h, hlt => by
  obtain ⟨v, vs', d, ds', p, q, rfl, rfl, rfl, h1, h2⟩ := trodAll_cons h
  simp only [readB, List.all_cons, Bool.and_eq_true, decide_eq_true_eq] at hr
  exact trodAll_cons_mk (Below.trod hl hr.1.1 hr.1.2 h1 hb (fun x hx => hlt x (by simp [hx]))) (below_all hl hb (by simpa [readB] using hr.2) h2 (fun x hx => hlt x (by simp [hx])))
theorem args_one {a : Array Value} (h : a.toList.length = 1) : ∃ v0, a = #[v0] := by
 obtain ⟨l⟩ := a
 match l, h with
 | [v0], _ => exact ⟨v0, rfl⟩
theorem list_one {α : Type} {l : List α} (h : l.length = 1) : ∃ d0, l = [d0] := by
 match l, h with
 | [d0], _ => exact ⟨d0, rfl⟩
theorem i64_wf {n : Int} (h : (Lit.int .i64 n).wf = true) : -9223372036854775808 ≤ n ∧ n ≤ 9223372036854775807 := by
 have h' : (decide ((-9223372036854775808 : Int) ≤ n) && decide (n ≤ 9223372036854775807)) = true := h
 simpa using h'
end Go.Proofs.YtaelhejmedjgiaaGreat
