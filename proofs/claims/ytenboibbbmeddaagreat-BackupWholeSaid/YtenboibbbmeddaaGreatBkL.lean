/- Plain laws of BackupWhole: Start, Step, and what a crash shows at any time. -/
import Derived.Test.YtenboibbbmeddaaGreatBwD
import Derived.Test.YtenboibbbmeddaaGreatHeld
import Derived.Test.YtenboibbbmeddaaGreatRows
import Derived.ProofKit
import Derived.SizedLaws
import Derived.OpenShut
import Derived.Deep.Fields
import Derived.Deep.Slices
import Derived.Test.YtenboibbbmeddaaGreatBkJ
set_option linter.unusedVariables false
set_option linter.unusedSimpArgs false
namespace Go.Proofs.YtenboibbbmeddaaGreat
open Go.RowKit Go.Maps
set_option maxRecDepth 20000
section
variable {B : Bk} {d d' : Dsk} {h h' : Hdr} {M M' : List (List UInt8)} {p : Pg} {g : Lg} {ds : Dsk}
theorem seq_two (m1 m2 : Dsk → Int × Dsk) (d : Dsk) : bseqM [m1, m2] d = if (m1 d).1 ≠ 0 then m1 d else if (m2 (m1 d).2).1 ≠ 0 then m2 (m1 d).2 else (0, (m2 (m1 d).2).2) := rfl
theorem lid_length : lidL.length = 512 := by decide
theorem lid_seq (hb : Bw B d h M) (h1 : B.opn = true) (h2 : Opn d h M) (h3 : B.next = 1) : ((bseqM [fun d => writeM d 0 0 lidL, fun d => syncM d 0] d).1 ≠ 0 ∧ Bw B (bseqM [fun d => writeM d 0 0 lidL, fun d => syncM d 0] d).2 h M) ∨
  ((bseqM [fun d => writeM d 0 0 lidL, fun d => syncM d 0] d).1 = 0 ∧ Lid (bseqM [fun d => writeM d 0 0 lidL, fun d => syncM d 0] d).2) := by
 rw [seq_two]
 rcases write_or (d := d) (k := 0) (a := 0) (s := lidL) with ⟨w1, w2⟩ | ⟨w1, -, -, w4⟩
 ·have w1 : (writeM d 0 0 lidL).1 ≠ 0 := w1
  rw [if_pos w1]
  exact .inl ⟨w1, hb.alike w2⟩
 ·have w1 : (writeM d 0 0 lidL).1 = 0 := w1
  have w4 : (writeM d 0 0 lidL).2 = wrN (meetsM d).2 0 0 lidL (lidL.length / 64) := w4
  rw [lid_length] at w4
  have hO : Opn (wrN (meetsM d).2 0 0 lidL 8) h M := h2.wr (.inl rfl) lid_sec
  have hN : ∀ i, i < 8 → ((wrN (meetsM d).2 0 0 lidL 8).now 0).getD i nought = secOf lidL i := fun i hi => by
   rw [wr_getD, if_pos (by omega), Nat.sub_zero]
  have e88 : 512 / 64 = 8 := rfl
  rw [e88] at w4
  obtain ⟨D, hD⟩ : ∃ D, D = wrN (meetsM d).2 0 0 lidL 8 := ⟨_, rfl⟩
  rw [← hD] at hO hN w4
  have e : (if (writeM d 0 0 lidL).1 ≠ 0 then writeM d 0 0 lidL else if (syncM (writeM d 0 0 lidL).2 0).1 ≠ 0 then syncM (writeM d 0 0 lidL).2 0 else (0, (syncM (writeM d 0 0 lidL).2 0).2)) = if (syncM D 0).1 ≠ 0 then syncM D 0 else (0, (syncM D 0).2) := by
   rw [if_neg (by rw [w1]; simp), w4]
  show ((if (writeM d 0 0 lidL).1 ≠ 0 then writeM d 0 0 lidL else if (syncM (writeM d 0 0 lidL).2 0).1 ≠ 0 then syncM (writeM d 0 0 lidL).2 0 else (0, (syncM (writeM d 0 0 lidL).2 0).2)).1 ≠ 0 ∧ Bw B (if (writeM d 0 0 lidL).1 ≠ 0 then writeM d 0 0 lidL else if (syncM (writeM d 0 0 lidL).2 0).1 ≠ 0 then syncM (writeM d 0 0 lidL).2 0 else (0, (syncM (writeM d 0 0 lidL).2 0).2)).2 h M) ∨
   ((if (writeM d 0 0 lidL).1 ≠ 0 then writeM d 0 0 lidL else if (syncM (writeM d 0 0 lidL).2 0).1 ≠ 0 then syncM (writeM d 0 0 lidL).2 0 else (0, (syncM (writeM d 0 0 lidL).2 0).2)).1 = 0 ∧ Lid (if (writeM d 0 0 lidL).1 ≠ 0 then writeM d 0 0 lidL else if (syncM (writeM d 0 0 lidL).2 0).1 ≠ 0 then syncM (writeM d 0 0 lidL).2 0 else (0, (syncM (writeM d 0 0 lidL).2 0).2)).2)
  rw [e]
  rcases sync_or (d := D) (k := 0) with ⟨s1, s2⟩ | ⟨s1, s2⟩
  ·have s1 : (syncM D 0).1 ≠ 0 := s1
   rw [if_pos s1]
   exact .inl ⟨s1, ⟨hb.k, hb.pages, .inr ⟨h1, hO.alike s2, .inl h3⟩⟩⟩
  ·have s1 : (syncM D 0).1 = 0 := s1
   have s2 : (syncM D 0).2 = sureM (meetsM D).2 0 := s2
   rw [if_neg (by rw [s1]; simp), s2]
   exact .inr ⟨rfl, opn_lid hO hN⟩
theorem lid_bw (hb : Bw B d h M) (hn : B.next ≠ 0) : ((blidM B d).1 ≠ 0 ∧ (blidM B d).2.1 = B ∧ Bw B (blidM B d).2.2 h M) ∨ ((blidM B d).1 = 0 ∧ (blidM B d).2.1 = { B with opn := false } ∧ Lid (blidM B d).2.2) := by
 rcases hb.phase with ⟨h1, h2, h3⟩ | ⟨h1, h2, h3⟩
 ·unfold blidM
  rw [if_neg (by rw [h1]; decide)]
  refine .inr ⟨rfl, ?_, h2⟩
  obtain ⟨k, pg, nx, op, rs⟩ := B
  have h1 : op = false := h1
  rw [h1]
 ·have hsq := lid_seq hb h1 h2 (h3.resolve_right (fun e => hn e.1))
  unfold blidM
  rw [if_pos h1]
  rcases hsq with ⟨a, b⟩ | ⟨a, b⟩
  ·rw [if_pos a]
   exact .inl ⟨a, rfl, b⟩
  ·rw [if_neg (by rw [a]; simp)]
   exact .inr ⟨rfl, rfl, b⟩
theorem anew_bw {r : Int} (hD : Db g ds (hdrPg h' :: M')) (hl : Lid d) (hop : B.opn = false) : Bw { bkAnew p0 g B h'.commits with restarts := r } d h' M' := by
 have hP : ppagesM p0 g = (M'.length : Int) + 1 := by rw [db_pages hD rfl]; simp
 refine ⟨rfl, hP, .inl ⟨hop, hl, ?_⟩⟩
 have hnx : (bkAnew p0 g B h'.commits).next = if ppagesM p0 g = 1 then 1 else 2 := rfl
 by_cases h0 : M'.length = 0
 ·refine .inl ⟨by show (if ppagesM p0 g = 1 then (1 : Int) else 2) = 1; rw [if_pos (by rw [hP]; omega)], fun n n1 n2 => by omega, ?_⟩
  have := hl.now
  omega
 ·exact .inr ⟨2, Nat.le_refl _, by omega, by show (if ppagesM p0 g = 1 then (1 : Int) else 2) = 2; rw [if_neg (by rw [hP]; omega)], fun n n1 n2 n3 => by omega⟩
theorem step_bw (hD : Db g ds (hdrPg h' :: M')) (hh' : HdOk h') (hl5 : ∀ s ∈ M', s.length = 512) (hb : Bw B d h M) (heq : h.commits = h'.commits → h = h' ∧ M = M') (n : Int) :
  (Bw (bstepM p0 g ds n B d).2.1 (bstepM p0 g ds n B d).2.2 h M ∧ ((bstepM p0 g ds n B d).2.1.next = 0 → B.next = 0)) ∨ Bw (bstepM p0 g ds n B d).2.1 (bstepM p0 g ds n B d).2.2 h' M' := by
 have hr : ∀ n : Nat, 1 ≤ n → n ≤ M'.length + 1 → preadM p0 g ds n = ((hdrPg h' :: M').getD (n - 1) [], 0) := fun n a b => db_read hD rfl n a (by simpa using b)
 unfold bstepM
 by_cases h0 : B.next = 0
 ·rw [if_pos h0]
  exact .inl ⟨hb, fun _ => h0⟩
 rw [if_neg h0, have_db hD hh', if_neg (by simp)]
 dsimp only
 by_cases hk : h'.commits = B.k
 ·rw [if_pos hk]
  obtain ⟨rfl, rfl⟩ := heq (by rw [hk, hb.k])
  exact .inr (copies_bw hh' hl5 hr _ _ _ hb)
 rw [if_neg hk]
 rcases lid_bw hb h0 with ⟨l1, l2, l3⟩ | ⟨l1, l2, l3⟩
 ·rw [if_pos l1, l2]
  exact .inl ⟨l3, fun e => e⟩
 ·rw [if_neg (by rw [l1]; simp), l2]
  exact .inr (copies_bw hh' hl5 hr _ _ _ (anew_bw hD l3 rfl))
theorem bw_crash (hb : Bw B d h M) (hh : HdOk h) (hM : M.length ≤ 255) (hl5 : ∀ s ∈ M, s.length = 512) (keep : List Bool) :
  (B.next ≠ 0 ∧ openedM (crashM d keep) = none) ∨ ∃ g0, openedM (crashM d keep) = some (g0, hdrPg h :: M) ∧ stOk p0 g0 (crashM d keep) := by
 rcases hb.phase with ⟨h1, h2, h3⟩ | ⟨h1, h2, h3 | ⟨h3, h4⟩⟩
 ·refine .inl ⟨?_, lid_crash h2 keep⟩
  rcases h3 with ⟨a, -⟩ | ⟨q, a, -, c, -⟩ <;> omega
 ·rcases opn_crash h2 hh hM hl5 keep with e | e
  ·exact .inl ⟨by omega, e⟩
  ·exact .inr e
 ·exact .inr (done_crash h2 h4 hh hM hl5 keep)
theorem start_lid : (bseqM bstepsM newM).1 = 0 ∧ Lid (bseqM bstepsM newM).2 := by
 have e1 : (bseqM bstepsM newM).1 = 0 := by decide +kernel
 have e2 : (bseqM bstepsM newM).2.loose = [] := by decide +kernel
 have e3 : (bseqM bstepsM newM).2.now 1 = [] := by decide +kernel
 have e4 : (bseqM bstepsM newM).2.sure 1 = [] := by decide +kernel
 have e5 : (bseqM bstepsM newM).2.now 0 = (List.range 8).map (secOf lidL) := by decide +kernel
 have e6 : (bseqM bstepsM newM).2.sure 0 = (List.range 8).map (secOf lidL) := by decide +kernel
 refine ⟨e1, ⟨⟨e3, e4, (fun c hc => by rw [e2] at hc; cases hc)⟩, (by rw [e6]; decide), (by rw [e5]; decide), (fun c hc => by rw [e2] at hc; cases hc), fun i hi s hs => ?_⟩⟩
 have hg : ((List.range 8).map (secOf lidL)).getD i nought = secOf lidL i := by
  rw [List.getD_eq_getElem?_getD, List.getElem?_map, List.getElem?_range hi]
  rfl
 rcases hs with e | e | ⟨c, hc, -⟩
 ·rw [e6, hg] at e; exact e
 ·rw [e5, hg] at e; exact e
 ·rw [e2] at hc; cases hc
theorem new_closed : openedM newM = none := by decide +kernel
theorem start_bw (hD : Db g ds (hdrPg h' :: M')) (hh : HdOk h') (hk : h'.commits ≠ 0) : bstartM p0 g ds newM = (some (bkAnew p0 g ⟨0, 0, 0, false, 0⟩ h'.commits), 0, (bseqM bstepsM newM).2) ∧ Bw (bkAnew p0 g ⟨0, 0, 0, false, 0⟩ h'.commits) (bseqM bstepsM newM).2 h' M' := by
 refine ⟨?_, anew_bw (B := ⟨0, 0, 0, false, 0⟩) (r := 0) hD start_lid.2 rfl⟩
 unfold bstartM
 have hoff : newM.off = false := rfl
 rw [have_db hD hh, if_neg (by simp), if_neg (by simpa using hk), if_neg (by rw [hoff]; decide), new_closed, if_neg (by simp), if_neg (by rw [start_lid.1]; simp)]
end
end Go.Proofs.YtenboibbbmeddaaGreat
/- For the lifts: arguments one by one, and that they all read as they did. -/
namespace Go.Proofs.YtenboibbbmeddaaGreat
open Go.ChangeShapes Go.WideShapes Go.ChangeAt Go.RowKit Go.Deep
set_option maxRecDepth 20000
theorem own : ownKnob Tryz.prog.godebug = none := by kernel_rfl
theorem laidOut : laidOutB Tryz.prog = true := by kernel_rfl
section
variable {H : Type} {enc : TypeId × Value → H} {w : World} {base : Nat} {sp : Nat → Bool} {held : Bool}
theorem open_cells_struct {ts : TypeId} {fs : Array Field} {fuel : Nat} {cs : List Value} {x : DataW H × List MemPlace} (hs : Tryz.prog.underlying ts = some (.struct fs))
  (hone : oneCellFields Tryz.prog fs = true) (hC : Tryz.prog.cellsOf ts = fs.size) (h : DataW.trod enc Tryz.prog w base sp held fuel ts cs = some x) :
  cs.length = fs.size ∧ ∃ n, ∀ (i : Nat) (f : Field), fs[i]? = some f → ∃ y, DataW.trod enc Tryz.prog w base sp held n f.type [cs.getD i undef] = some y := by
 obtain ⟨xs, n, _, _, hl, hx, hf⟩ := DataW.trod_struct hs h
 rw [hC] at hl
 refine ⟨hl, n, fun i f hi => ?_⟩
 have hlt : i < fs.size := (Array.getElem?_eq_some_iff.1 hi).1
 obtain ⟨ho, hc⟩ := hone_of hone i f hi
 have := hf i f hi
 rw [ho, hc, take1_drop cs i undef (by omega), List.getElem?_eq_getElem (by omega)] at this
 exact ⟨_, this⟩
theorem trod_each : ∀ {ts : List TypeId} {vs : List Value} {ds : List (DataW H)} {ps : List MemPlace}, DataW.TrodAll enc Tryz.prog w base sp held ts vs ds ps →
  vs.length = ts.length ∧ ∀ (i : Nat) (t : TypeId) (v : Value), ts[i]? = some t → vs[i]? = some v → ∃ d p, DataW.Trod enc Tryz.prog w base sp held t v d p
 | [], vs, ds, ps, h => by
  obtain ⟨rfl, rfl, rfl⟩ := trodAll_nil h
  exact ⟨rfl, fun i t v ht _ => by simp at ht⟩
 | t :: ts, vs, ds, ps, h => by
  obtain ⟨v, vs', d, ds', p, q, rfl, rfl, rfl, h1, h2⟩ := trodAll_cons h
  obtain ⟨e1, e2⟩ := trod_each h2
  refine ⟨by simp [e1], fun i t' v' ht hv => ?_⟩
  cases i with
  | zero =>
   simp only [List.getElem?_cons_zero, Option.some.injEq] at ht hv
   subst ht hv
   exact ⟨d, p, h1⟩
  | succ i =>
   simp only [List.getElem?_cons_succ] at ht hv
   exact e2 i t' v' ht hv
theorem trod_ds : ∀ {ts : List TypeId} {vs : List Value} {ds : List (DataW H)} {ps : List MemPlace}, DataW.TrodAll enc Tryz.prog w base sp held ts vs ds ps → ds.length = ts.length
 | [], vs, ds, ps, h => by
  obtain ⟨rfl, rfl, rfl⟩ := trodAll_nil h
  rfl
 | t :: ts, vs, ds, ps, h => by
  obtain ⟨v, vs', d, ds', p, q, rfl, rfl, rfl, h1, h2⟩ := trodAll_cons h
  simp [trod_ds h2]
end
def readB (P : Program) (ts : List TypeId) : Bool := ts.all fun t => P.readableRec t && decide (t < P.types.size)
theorem below_all {H : Type} {enc : TypeId × Value → H} {P : Program} {W W' : World} (hl : laidOutB P = true) (hb : Below W.heap.size W W') : ∀ {ts : List TypeId} {vs : List Value} {ds : List (DataW H)} {ps : List MemPlace}, readB P ts = true →
  DataW.TrodAll enc P W 0 (fun _ => true) true ts vs ds ps → (∀ x ∈ ps, x.block < W.heap.size) → DataW.TrodAll enc P W' 0 (fun b => decide (b < W.heap.size)) true ts vs ds ps
 | [], vs, ds, ps, _, h, _ => by
  obtain ⟨rfl, rfl, rfl⟩ := trodAll_nil h
  exact trodAll_mk0
 | t :: ts, vs, ds, ps, hr, h, hlt => by
  obtain ⟨v, vs', d, ds', p, q, rfl, rfl, rfl, h1, h2⟩ := trodAll_cons h
  simp only [readB, List.all_cons, Bool.and_eq_true, decide_eq_true_eq] at hr
  exact trodAll_cons_mk (Below.trod hl hr.1.1 hr.1.2 h1 hb (fun x hx => hlt x (by simp [hx]))) (below_all hl hb (by simpa [readB] using hr.2) h2 (fun x hx => hlt x (by simp [hx])))
theorem args_two {a : Array Value} (h : a.toList.length = 2) : ∃ v0 v1, a = #[v0, v1] := by
 obtain ⟨l⟩ := a
 match l, h with
 | [v0, v1], _ => exact ⟨v0, v1, rfl⟩
theorem list_two {α : Type} {l : List α} (h : l.length = 2) : ∃ d0 d1, l = [d0, d1] := by
 match l, h with
 | [d0, d1], _ => exact ⟨d0, d1, rfl⟩
theorem u8_wf {n : Int} (h : (Lit.int .u8 n).wf = true) : 0 ≤ n ∧ n < 256 := by
 have h' : (decide ((0 : Int) ≤ n) && decide (n ≤ 255)) = true := h
 simp at h'
 omega
theorem u8_of {n : Int} (h : (Lit.int .u8 n).wf = true) : ∃ b : UInt8, n = (b.toNat : Int) := by
 have h' := u8_wf h
 exact ⟨UInt8.ofNat n.toNat, by simp; omega⟩
theorem i64_wf {n : Int} (h : (Lit.int .i64 n).wf = true) : -9223372036854775808 ≤ n ∧ n ≤ 9223372036854775807 := by
 have h' : (decide ((-9223372036854775808 : Int) ≤ n) && decide (n ≤ 9223372036854775807)) = true := h
 simpa using h'
end Go.Proofs.YtenboibbbmeddaaGreat
namespace Go.Proofs.YtenboibbbmeddaaGreat
open Go.RowKit Go.Maps
set_option maxRecDepth 20000
def qT1 : Int × Pg × Lg × Dsk := turnM p0 exG0 newM 3 2 97
def qS1 : Option Bk × Int × Dsk := bstartM qT1.2.1 qT1.2.2.1 qT1.2.2.2 newM
def qB1 : Bk := qS1.1.getD ⟨0, 0, 0, false, 0⟩
def qC1 : Int × Bk × Dsk := bstepM qT1.2.1 qT1.2.2.1 qT1.2.2.2 3 qB1 qS1.2.2
def qG1 : Lg := ((openedM qC1.2.2).map (·.1)).getD exG0
def qL1 : List (List UInt8) := ((openedM qC1.2.2).map (·.2)).getD []
theorem some_getD {α : Type} {x : Option α} {y : α} (h : x.isSome = true) : x = some (x.getD y) := by
 cases x with
 | none => cases h
 | some z => rfl
theorem q_t1 : qT1.1 = 0 := by decide +kernel
theorem q_s1 : qS1.1.isSome = true := by decide +kernel
theorem q_s1' : qS1.1 = some qB1 := some_getD q_s1
theorem q_p1 : 1 ≤ ppagesM qT1.2.1 qT1.2.2.1 := by decide +kernel
theorem q_b1 : BkOk qB1 := ⟨by decide +kernel, by decide +kernel⟩
theorem q_b1r : 0 ≤ qB1.restarts ∧ qB1.restarts ≤ 1000000 := by decide +kernel
theorem q_l1 : bleftM qB1 = 3 := by decide +kernel
theorem q_c1 : qC1.1 = 0 := by decide +kernel
theorem q_c1n : qC1.2.1.next = 0 := by decide +kernel
theorem q_d1 : qS1.2.2.Small 1000 := ⟨by decide +kernel, by decide +kernel, by decide +kernel⟩
theorem q_o1 : (openedM qC1.2.2).isSome = true := by decide +kernel
theorem q_o1' : openedM qC1.2.2 = some (qG1, qL1) := by
 obtain ⟨z, hz⟩ := Option.isSome_iff_exists.1 q_o1
 unfold qG1 qL1
 rw [hz]
 rfl
theorem q_g1 : ppagesM p0 qG1 = 3 := by decide +kernel
theorem q_g1r : (preadM p0 qG1 qC1.2.2 1).2 = 0 ∧ (preadM p0 qG1 qC1.2.2 2).2 = 0 ∧ (preadM p0 qG1 qC1.2.2 3).2 = 0 := by decide +kernel
theorem q_t1p : ppagesM qT1.2.1 qT1.2.2.1 = 3 := by decide +kernel
theorem q_t1r : (preadM qT1.2.1 qT1.2.2.1 qT1.2.2.2 1).2 = 0 ∧ (preadM qT1.2.1 qT1.2.2.1 qT1.2.2.2 2).2 = 0 ∧ (preadM qT1.2.1 qT1.2.2.1 qT1.2.2.2 3).2 = 0 := by decide +kernel
theorem q_same : stL qT1.2.1 qT1.2.2.1 qT1.2.2.2 = qL1 := by decide +kernel
theorem q_len : qL1.length ≤ 1000 := by decide +kernel
theorem stOk3 {p : Pg} {g : Lg} {d : Dsk} (h : ppagesM p g = 3) (h2 : (preadM p g d 1).2 = 0 ∧ (preadM p g d 2).2 = 0 ∧ (preadM p g d 3).2 = 0) : stOk p g d := by
 intro k hk
 rw [h] at hk
 have : k = 0 ∨ k = 1 ∨ k = 2 := by omega
 rcases this with rfl | rfl | rfl
 ·exact h2.1
 ·exact h2.2.1
 ·exact h2.2.2
attribute [local irreducible] qT1 qS1 qB1 qC1 qG1 qL1 exG0
section
variable {w W W' : World} {a : PgD} {db bb : Nat} {d d' : Dsk} {B : Bk} {X X' : Nat → Prop}
def turned (a : PgD) (pages n : Int) (c : UInt8) : PgD := ⟨a.pb, a.l, a.b, (turnM a.p a.g a.d pages n c).2.1, (turnM a.p a.g a.d pages n c).2.2.1, (turnM a.p a.g a.d pages n c).2.2.2⟩
theorem pd_turn (h : PD w W a db d X) (pages n : Int) (c : UInt8) (hpg : in64 pages) (hn : in64 n) (N : Nat) (hsm : a.d.Small N) (hN : N + 33554432 ≤ 1099511527776) :
  Calls Tryz.prog 11 #[.pointer (some ⟨a.pb, 0, none⟩), .int .i64 pages, .int .i64 n, .int .u8 (c.toNat : Int)] W fun e w' => e = .returned (.int .i64 (turnM a.p a.g a.d pages n c).1) ∧ PD w w' (turned a pages n c) db d X ∧ ∀ k, X k → w'.heap[k]? = W.heap[k]? := by
 obtain ⟨T, hpg2, hcl⟩ := h.left
 refine (turn_any hpg2 pages n c hpg hn N hsm hN).mono ?_
 rintro e w' ⟨rfl, h1, h2⟩
 obtain ⟨h3, h4⟩ := hcl w' (turned a pages n c) h1 h2
 exact ⟨rfl, h3, h4⟩
theorem fresh_px (w : World) : Calls Tryz.prog 7 #[] w fun e w' => ∃ pb l b, e = .returned (.tuple #[.pointer (some ⟨pb, 0, none⟩), .bool true]) ∧ PgAtX w w' ⟨pb, l, b, p0, exG0, newM⟩ (fun _ => False) := fresh_any w
set_option maxHeartbeats 8000000 in
set_option maxRecDepth 20000 in
theorem bkworks_any (w : World) : Calls Tryz.prog 9 #[] w fun e w' => e = .returned (.bool true) ∧ Below w.heap.size w w' := by
 have FR := hid (fresh_px w)
 have NW := hid (fun W => mk_new W)
 have T97 : (((97 : UInt8).toNat : Nat) : Int) = 97 := rfl
 have TN := hid (fun (W1 : World) (pb l b db : Nat) (h : PD w W1 ⟨pb, l, b, p0, exG0, newM⟩ db newM (fun _ => False)) => (show Calls Tryz.prog 11 #[.pointer (some ⟨pb, 0, none⟩), .int .i64 3, .int .i64 2, .int .u8 97] W1 fun e w' => e = .returned (.int .i64 0) ∧ PD w w' ⟨pb, l, b, qT1.2.1, qT1.2.2.1, qT1.2.2.2⟩ db newM (fun _ => False) from by
  have A := pd_turn h 3 2 97 (by unfold in64; decide) (by unfold in64; decide) 100 new_small (by decide)
  have e := q_t1
  unfold qT1 at e ⊢
  rw [e] at A
  exact A.mono fun e w' hh => ⟨hh.1, hh.2.1⟩))
 have ST := hid (fun (W1 : World) (pb l b db : Nat) (h : PD w W1 ⟨pb, l, b, qT1.2.1, qT1.2.2.1, qT1.2.2.2⟩ db newM (fun _ => False)) => (show Calls Tryz.prog 10 #[.pointer (some ⟨pb, 0, none⟩), .pointer (some ⟨db, 0, none⟩)] W1 fun e w' => ∃ bb, e = .returned (.tuple #[.pointer (some ⟨bb, 0, none⟩), .int .i64 0]) ∧ PD w w' ⟨pb, l, b, qT1.2.1, qT1.2.2.1, qT1.2.2.2⟩ db qS1.2.2 (fun k => k = bb) ∧ w'.heap[bb]? = some (bkObj pb db qB1) ∧ w.heap.size ≤ bb from by
  have A := bstart_any h (N := 100) new_small (by decide)
  have e := q_s1'
  refine A.mono fun e1 w' hh => ?_
  have hh2 : StartGave w W1 ⟨pb, l, b, qT1.2.1, qT1.2.2.1, qT1.2.2.2⟩ db (fun _ => False) qS1 e1 w' := by unfold qS1; exact hh
  unfold StartGave at hh2
  rw [e] at hh2
  obtain ⟨bb, h1, h2, h3, h4, -⟩ := hh2
  exact ⟨bb, h1, h2.to (fun k hk => .inr hk), h3, Nat.le_trans h.bel.size h4⟩))
 have SP := hid (fun (W1 : World) (pb l b db bb : Nat) (h : PD w W1 ⟨pb, l, b, qT1.2.1, qT1.2.2.1, qT1.2.2.2⟩ db qS1.2.2 (fun k => k = bb)) (hb : W1.heap[bb]? = some (bkObj pb db qB1)) (hge : w.heap.size ≤ bb) => (show Calls Tryz.prog 15 #[.pointer (some ⟨bb, 0, none⟩), .int .i64 3] W1 fun e w' => e = .returned (.int .i64 0) ∧ PD w w' ⟨pb, l, b, qT1.2.1, qT1.2.2.1, qT1.2.2.2⟩ db qC1.2.2 (fun k => k = bb) ∧ w'.heap[bb]? = some (bkObj pb db qC1.2.1) from by
  have A := bstep_any h rfl hge hb q_b1 q_b1r q_p1 3 (by unfold in64; decide) q_d1 (by decide)
  have e := q_c1
  unfold qC1 at e ⊢
  rw [e] at A
  exact A.mono fun e w' hh => ⟨hh.1, hh.2.1, hh.2.2.1⟩))
 have LF := hid (fun (W1 : World) (pb db bb : Nat) (hb : W1.heap[bb]? = some (bkObj pb db qB1)) => (show Calls Tryz.prog 12 #[.pointer (some ⟨bb, 0, none⟩)] W1 fun e w' => e = .returned (.int .i64 3) ∧ Below W1.heap.size W1 w' from by
  have hk := q_b1
  have A := bleft_any hb (by rcases hk.next with e | ⟨e1, e2, -⟩ <;> (have := hk.pages; omega)) (by have := hk.pages; omega)
  rw [q_l1] at A
  exact A))
 have DN := hid (fun (W1 : World) (pb db bb : Nat) (hb : W1.heap[bb]? = some (bkObj pb db qC1.2.1)) => (show Calls Tryz.prog 14 #[.pointer (some ⟨bb, 0, none⟩)] W1 fun e w' => e = .returned (.bool true) ∧ w' = W1 from by
  have A := bdone_any hb
  rw [q_c1n] at A
  exact A))
 have OP := hid (fun (W1 : World) (db : Nat) (h : MkD w W1 db qC1.2.2) => (show Calls Tryz.prog 22 #[.pointer (some ⟨db, 0, none⟩)] W1 fun e w' => ∃ v, e = .returned (.tuple #[v, .bool true]) ∧ StrRow w' W1.heap.size v qL1 ∧ Below W1.heap.size W1 w' from by
  have A := opened_any h (fun g L e => by
   rw [q_o1'] at e
   cases e
   exact stOk3 q_g1 q_g1r)
  rw [q_o1'] at A
  exact A.mono fun e w' hh => by obtain ⟨h1, v, h2, h3⟩ := hh; exact ⟨v, h2, h3, h1⟩))
 have SA := hid (fun (W1 : World) (pb l b : Nat) (X : Nat → Prop) (h : PgX w W1 pb l b qT1.2.1 qT1.2.2.1 qT1.2.2.2 X) => (show Calls Tryz.prog 21 #[.pointer (some ⟨pb, 0, none⟩)] W1 fun e w' => ∃ v, e = .returned (.tuple #[v, .bool true]) ∧ StrRow w' W1.heap.size v qL1 ∧ Below W1.heap.size W1 w' from by
  have A := state_any h (stOk3 q_t1p q_t1r)
  rw [q_same] at A
  exact A))
 go_enter Tryz.func9, Tryz.ntmps9
 go_upto_region 5 with (first
  | (go_at_call 7; refine (FR.out).mono ?_; rintro e w1 ⟨pb, l, b, rfl, hp1⟩; have HP1 := hid hp1; clear hp1)
  | (go_at_call 8; refine (NW.out _).mono ?_; rintro e w2 ⟨db, rfl, hd2⟩; have HP2 := hid (PgX.pd HP1.out hd2); clear hd2)
  | (go_at_call 11; refine (TN.out _ _ _ _ _ HP2.out).mono ?_; rintro e w3 ⟨rfl, hp3⟩; have HP3 := hid hp3; clear hp3)
  | go_in)
 go_upto_region 8 with (first
  | (go_at_call 10; refine (ST.out _ _ _ _ _ HP3.out).mono ?_; rintro e w4 ⟨bb, rfl, hp4, hb4, hg4⟩; have HP4 := hid hp4; have HB4 := hid hb4; have HG4 := hid hg4; clear hp4 hb4 hg4)
  | (go_at_call 12; refine (LF.out _ _ _ _ HB4.out).mono ?_; rintro e w5 ⟨rfl, hb5⟩; have HP5 := hid (HP4.out.below hb5); have HB5 := hid ((hb5.block _ (lt_of_block HB4.out)).trans HB4.out); clear hb5)
  | (go_at_call 15; refine (SP.out _ _ _ _ _ _ HP5.out HB5.out HG4.out).mono ?_; rintro e w6 ⟨rfl, hp6, hb6⟩; have HP6 := hid hp6; have HB6 := hid hb6; clear hp6 hb6)
  | (go_at_call 14; refine (DN.out _ _ _ _ HB6.out).mono ?_; rintro e w7 ⟨rfl, hw⟩; obtain rfl := hw.symm)
  | go_in)
 go_wp2_with (first
  | (go_at_call 22; refine (OP.out _ _ HP6.out.dsk).mono ?_; rintro e w8 ⟨v8, rfl, hr8, hb8⟩; have HR8 := hid hr8; have HP8 := hid (HP6.out.below hb8); clear hr8 hb8)
  | (go_at_call 21; refine (SA.out _ _ _ _ _ HP8.out.pg).mono ?_; rintro e w9 ⟨v9, rfl, hr9, hb9⟩; have HR9 := hid hr9; have HR8' := hid (HR8.out.keep (fun k hk => hb9.block k (row_base HR8.out hk).2)); have HP9 := hid (HP8.out.below hb9); clear hr9 hb9)
  | (go_at_call 23; refine (same_eq HR8'.out HR9.out q_len).mono ?_; rintro e w10 ⟨rfl, hb10⟩; have HP10 := hid (HP9.out.below hb10); clear hb10)
  | go_in)
 go_ret
 exact ⟨rfl, HP10.out.bel⟩
end
end Go.Proofs.YtenboibbbmeddaaGreat
namespace Go.Proofs.YtenboibbbmeddaaGreat
open Go.RowKit Go.Maps
set_option maxRecDepth 20000
def rT2 : Int × Pg × Lg × Dsk := turnM qT1.2.1 qT1.2.2.1 qT1.2.2.2 3 3 98
def rS2 : Option Bk × Int × Dsk := bstartM rT2.2.1 rT2.2.2.1 rT2.2.2.2 newM
def rB2 : Bk := rS2.1.getD ⟨0, 0, 0, false, 0⟩
def rC2 : Int × Bk × Dsk := bstepM rT2.2.1 rT2.2.2.1 rT2.2.2.2 2 rB2 rS2.2.2
def rT3 : Int × Pg × Lg × Dsk := turnM rT2.2.1 rT2.2.2.1 rT2.2.2.2 3 2 99
def rC3 : Int × Bk × Dsk := bstepM rT3.2.1 rT3.2.2.1 rT3.2.2.2 1 rC2.2.1 rC2.2.2
def rC4 : Int × Bk × Dsk := bstepM rT3.2.1 rT3.2.2.1 rT3.2.2.2 9 rC3.2.1 rC3.2.2
def rC5 : Int × Bk × Dsk := bstepM rT3.2.1 rT3.2.2.1 rT3.2.2.2 1 rC4.2.1 rC4.2.2
def rG : Lg := ((lopenM rC2.2.2).1).getD exG0
attribute [local irreducible] qT1 qS1 qB1 qC1 qG1 qL1 exG0 rT2 rS2 rB2 rC2 rT3 rC3 rC4 rC5 rG
section
variable {w W W' : World} {pb l b db bb : Nat} {d d' : Dsk} {B : Bk} {X X' : Nat → Prop}
end
end Go.Proofs.YtenboibbbmeddaaGreat
