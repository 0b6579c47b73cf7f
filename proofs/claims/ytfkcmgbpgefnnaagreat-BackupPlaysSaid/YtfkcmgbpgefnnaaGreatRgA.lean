import Derived.Test.YtfkcmgbpgefnnaaGreatBkJ
import Derived.Laws.OwnMore
set_option linter.unusedVariables false
set_option linter.unusedSimpArgs false
namespace Go.Proofs.YtfkcmgbpgefnnaaGreat
open Go.RowKit Go.Maps
set_option maxRecDepth 20000
def qT1 : Int × Pg × Lg × Dsk := turnM p0 exG0 newM 3 2 97
def qS1 : Option Bk × Int × Dsk := bstartM qT1.2.1 qT1.2.2.1 qT1.2.2.2 newM
def qB1 : Bk := qS1.1.getD ⟨0, 0, 0, false, 0⟩
def qC1 : Int × Bk × Dsk := bstepM qT1.2.1 qT1.2.2.1 qT1.2.2.2 3 qB1 qS1.2.2
def qG1 : Lg := ((openedM qC1.2.2).map (·.1)).getD exG0
def qL1 : List (List UInt8) := ((openedM qC1.2.2).map (·.2)).getD []
theorem some_getD {α : Type} {x : Option α} {y : α} (h : x.isSome = true) : x = some (x.getD y) := by
 cases x with
 | none => cases h
 | some z => rfl
theorem q_t1 : qT1.1 = 0 := by decide +kernel
theorem q_s1 : qS1.1.isSome = true := by decide +kernel
theorem q_s1' : qS1.1 = some qB1 := some_getD q_s1
theorem q_p1 : 1 ≤ ppagesM qT1.2.1 qT1.2.2.1 := by decide +kernel
theorem q_b1 : BkOk qB1 := ⟨by decide +kernel, by decide +kernel⟩
theorem q_b1r : 0 ≤ qB1.restarts ∧ qB1.restarts ≤ 1000000 := by decide +kernel
theorem q_l1 : bleftM qB1 = 3 := by decide +kernel
theorem q_c1 : qC1.1 = 0 := by decide +kernel
theorem q_c1n : qC1.2.1.next = 0 := by decide +kernel
theorem q_d1 : qS1.2.2.Small 1000 := ⟨by decide +kernel, by decide +kernel, by decide +kernel⟩
theorem q_o1 : (openedM qC1.2.2).isSome = true := by decide +kernel
theorem q_o1' : openedM qC1.2.2 = some (qG1, qL1) := by
 obtain ⟨z, hz⟩ := Option.isSome_iff_exists.1 q_o1
 unfold qG1 qL1
 rw [hz]
 rfl
theorem q_g1 : ppagesM p0 qG1 = 3 := by decide +kernel
theorem q_g1r : (preadM p0 qG1 qC1.2.2 1).2 = 0 ∧ (preadM p0 qG1 qC1.2.2 2).2 = 0 ∧ (preadM p0 qG1 qC1.2.2 3).2 = 0 := by decide +kernel
theorem q_t1p : ppagesM qT1.2.1 qT1.2.2.1 = 3 := by decide +kernel
theorem q_t1r : (preadM qT1.2.1 qT1.2.2.1 qT1.2.2.2 1).2 = 0 ∧ (preadM qT1.2.1 qT1.2.2.1 qT1.2.2.2 2).2 = 0 ∧ (preadM qT1.2.1 qT1.2.2.1 qT1.2.2.2 3).2 = 0 := by decide +kernel
theorem q_same : stL qT1.2.1 qT1.2.2.1 qT1.2.2.2 = qL1 := by decide +kernel
theorem q_len : qL1.length ≤ 1000 := by decide +kernel
theorem stOk3 {p : Pg} {g : Lg} {d : Dsk} (h : ppagesM p g = 3) (h2 : (preadM p g d 1).2 = 0 ∧ (preadM p g d 2).2 = 0 ∧ (preadM p g d 3).2 = 0) : stOk p g d := by
 intro k hk
 rw [h] at hk
 have : k = 0 ∨ k = 1 ∨ k = 2 := by omega
 rcases this with rfl | rfl | rfl
 ·exact h2.1
 ·exact h2.2.1
 ·exact h2.2.2
attribute [local irreducible] qT1 qS1 qB1 qC1 qG1 qL1 exG0
section
variable {w W W' : World} {a : PgD} {db bb : Nat} {d d' : Dsk} {B : Bk} {X X' : Nat → Prop}
def turned (a : PgD) (pages n : Int) (c : UInt8) : PgD := ⟨a.pb, a.l, a.b, (turnM a.p a.g a.d pages n c).2.1, (turnM a.p a.g a.d pages n c).2.2.1, (turnM a.p a.g a.d pages n c).2.2.2⟩
theorem pd_turn (h : PD w W a db d X) (pages n : Int) (c : UInt8) (hpg : in64 pages) (hn : in64 n) (N : Nat) (hsm : a.d.Small N) (hN : N + 33554432 ≤ 1099511527776) :
  Calls Tryz.prog 7 #[.pointer (some ⟨a.pb, 0, none⟩), .int .i64 pages, .int .i64 n, .int .u8 (c.toNat : Int)] W fun e w' => e = .returned (.int .i64 (turnM a.p a.g a.d pages n c).1) ∧ PD w w' (turned a pages n c) db d X ∧ ∀ k, X k → w'.heap[k]? = W.heap[k]? := by
 obtain ⟨T, hpg2, hcl⟩ := h.left
 refine (turn_any hpg2 pages n c hpg hn N hsm hN).mono ?_
 rintro e w' ⟨rfl, h1, h2⟩
 obtain ⟨h3, h4⟩ := hcl w' (turned a pages n c) h1 h2
 exact ⟨rfl, h3, h4⟩
theorem fresh_px (w : World) : Calls Tryz.prog 6 #[] w fun e w' => ∃ pb l b, e = .returned (.tuple #[.pointer (some ⟨pb, 0, none⟩), .bool true]) ∧ PgAtX w w' ⟨pb, l, b, p0, exG0, newM⟩ (fun _ => False) := fresh_any w
set_option maxHeartbeats 8000000 in
set_option maxRecDepth 20000 in
theorem bkworks_any (w : World) : Calls Tryz.prog 4 #[] w fun e w' => e = .returned (.bool true) ∧ Below w.heap.size w w' := by
 have FR := hid (fresh_px w)
 have NW := hid (fun W => mk_new W)
 have T97 : (((97 : UInt8).toNat : Nat) : Int) = 97 := rfl
 have TN := hid (fun (W1 : World) (pb l b db : Nat) (h : PD w W1 ⟨pb, l, b, p0, exG0, newM⟩ db newM (fun _ => False)) => (show Calls Tryz.prog 7 #[.pointer (some ⟨pb, 0, none⟩), .int .i64 3, .int .i64 2, .int .u8 97] W1 fun e w' => e = .returned (.int .i64 0) ∧ PD w w' ⟨pb, l, b, qT1.2.1, qT1.2.2.1, qT1.2.2.2⟩ db newM (fun _ => False) from by
  have A := pd_turn h 3 2 97 (by unfold in64; decide) (by unfold in64; decide) 100 new_small (by decide)
  have e := q_t1
  unfold qT1 at e ⊢
  rw [e] at A
  exact A.mono fun e w' hh => ⟨hh.1, hh.2.1⟩))
 have ST := hid (fun (W1 : World) (pb l b db : Nat) (h : PD w W1 ⟨pb, l, b, qT1.2.1, qT1.2.2.1, qT1.2.2.2⟩ db newM (fun _ => False)) => (show Calls Tryz.prog 10 #[.pointer (some ⟨pb, 0, none⟩), .pointer (some ⟨db, 0, none⟩)] W1 fun e w' => ∃ bb, e = .returned (.tuple #[.pointer (some ⟨bb, 0, none⟩), .int .i64 0]) ∧ PD w w' ⟨pb, l, b, qT1.2.1, qT1.2.2.1, qT1.2.2.2⟩ db qS1.2.2 (fun k => k = bb) ∧ w'.heap[bb]? = some (bkObj pb db qB1) ∧ w.heap.size ≤ bb from by
  have A := bstart_any h (N := 100) new_small (by decide)
  have e := q_s1'
  refine A.mono fun e1 w' hh => ?_
  have hh2 : StartGave w W1 ⟨pb, l, b, qT1.2.1, qT1.2.2.1, qT1.2.2.2⟩ db (fun _ => False) qS1 e1 w' := by unfold qS1; exact hh
  unfold StartGave at hh2
  rw [e] at hh2
  obtain ⟨bb, h1, h2, h3, h4, -⟩ := hh2
  exact ⟨bb, h1, h2.to (fun k hk => .inr hk), h3, Nat.le_trans h.bel.size h4⟩))
 have SP := hid (fun (W1 : World) (pb l b db bb : Nat) (h : PD w W1 ⟨pb, l, b, qT1.2.1, qT1.2.2.1, qT1.2.2.2⟩ db qS1.2.2 (fun k => k = bb)) (hb : W1.heap[bb]? = some (bkObj pb db qB1)) (hge : w.heap.size ≤ bb) => (show Calls Tryz.prog 14 #[.pointer (some ⟨bb, 0, none⟩), .int .i64 3] W1 fun e w' => e = .returned (.int .i64 0) ∧ PD w w' ⟨pb, l, b, qT1.2.1, qT1.2.2.1, qT1.2.2.2⟩ db qC1.2.2 (fun k => k = bb) ∧ w'.heap[bb]? = some (bkObj pb db qC1.2.1) from by
  have A := bstep_any h rfl hge hb q_b1 q_b1r q_p1 3 (by unfold in64; decide) q_d1 (by decide)
  have e := q_c1
  unfold qC1 at e ⊢
  rw [e] at A
  exact A.mono fun e w' hh => ⟨hh.1, hh.2.1, hh.2.2.1⟩))
 have LF := hid (fun (W1 : World) (pb db bb : Nat) (hb : W1.heap[bb]? = some (bkObj pb db qB1)) => (show Calls Tryz.prog 29 #[.pointer (some ⟨bb, 0, none⟩)] W1 fun e w' => e = .returned (.int .i64 3) ∧ Below W1.heap.size W1 w' from by
  have hk := q_b1
  have A := bleft_any hb (by rcases hk.next with e | ⟨e1, e2, -⟩ <;> (have := hk.pages; omega)) (by have := hk.pages; omega)
  rw [q_l1] at A
  exact A))
 have DN := hid (fun (W1 : World) (pb db bb : Nat) (hb : W1.heap[bb]? = some (bkObj pb db qC1.2.1)) => (show Calls Tryz.prog 27 #[.pointer (some ⟨bb, 0, none⟩)] W1 fun e w' => e = .returned (.bool true) ∧ w' = W1 from by
  have A := bdone_any hb
  rw [q_c1n] at A
  exact A))
 have OP := hid (fun (W1 : World) (db : Nat) (h : MkD w W1 db qC1.2.2) => (show Calls Tryz.prog 22 #[.pointer (some ⟨db, 0, none⟩)] W1 fun e w' => ∃ v, e = .returned (.tuple #[v, .bool true]) ∧ StrRow w' W1.heap.size v qL1 ∧ Below W1.heap.size W1 w' from by
  have A := opened_any h (fun g L e => by
   rw [q_o1'] at e
   cases e
   exact stOk3 q_g1 q_g1r)
  rw [q_o1'] at A
  exact A.mono fun e w' hh => by obtain ⟨h1, v, h2, h3⟩ := hh; exact ⟨v, h2, h3, h1⟩))
 have SA := hid (fun (W1 : World) (pb l b : Nat) (X : Nat → Prop) (h : PgX w W1 pb l b qT1.2.1 qT1.2.2.1 qT1.2.2.2 X) => (show Calls Tryz.prog 11 #[.pointer (some ⟨pb, 0, none⟩)] W1 fun e w' => ∃ v, e = .returned (.tuple #[v, .bool true]) ∧ StrRow w' W1.heap.size v qL1 ∧ Below W1.heap.size W1 w' from by
  have A := state_any h (stOk3 q_t1p q_t1r)
  rw [q_same] at A
  exact A))
 go_enter Tryz.func4, Tryz.ntmps4
 go_upto_region 5 with (first
  | (go_at_call 6; refine (FR.out).mono ?_; rintro e w1 ⟨pb, l, b, rfl, hp1⟩; have HP1 := hid hp1; clear hp1)
  | (go_at_call 8; refine (NW.out _).mono ?_; rintro e w2 ⟨db, rfl, hd2⟩; have HP2 := hid (PgX.pd HP1.out hd2); clear hd2)
  | (go_at_call 7; refine (TN.out _ _ _ _ _ HP2.out).mono ?_; rintro e w3 ⟨rfl, hp3⟩; have HP3 := hid hp3; clear hp3)
  | go_in)
 go_upto_region 8 with (first
  | (go_at_call 10; refine (ST.out _ _ _ _ _ HP3.out).mono ?_; rintro e w4 ⟨bb, rfl, hp4, hb4, hg4⟩; have HP4 := hid hp4; have HB4 := hid hb4; have HG4 := hid hg4; clear hp4 hb4 hg4)
  | (go_at_call 29; refine (LF.out _ _ _ _ HB4.out).mono ?_; rintro e w5 ⟨rfl, hb5⟩; have HP5 := hid (HP4.out.below hb5); have HB5 := hid ((hb5.block _ (zc HB4.out)).trans HB4.out); clear hb5)
  | (go_at_call 14; refine (SP.out _ _ _ _ _ _ HP5.out HB5.out HG4.out).mono ?_; rintro e w6 ⟨rfl, hp6, hb6⟩; have HP6 := hid hp6; have HB6 := hid hb6; clear hp6 hb6)
  | (go_at_call 27; refine (DN.out _ _ _ _ HB6.out).mono ?_; rintro e w7 ⟨rfl, hw⟩; obtain rfl := hw.symm)
  | go_in)
 go_wp2_with (first
  | (go_at_call 22; refine (OP.out _ _ HP6.out.dsk).mono ?_; rintro e w8 ⟨v8, rfl, hr8, hb8⟩; have HR8 := hid hr8; have HP8 := hid (HP6.out.below hb8); clear hr8 hb8)
  | (go_at_call 11; refine (SA.out _ _ _ _ _ HP8.out.pg).mono ?_; rintro e w9 ⟨v9, rfl, hr9, hb9⟩; have HR9 := hid hr9; have HR8' := hid (HR8.out.keep (fun k hk => hb9.block k (row_base HR8.out hk).2)); have HP9 := hid (HP8.out.below hb9); clear hr9 hb9)
  | (go_at_call 32; refine (same_eq HR8'.out HR9.out q_len).mono ?_; rintro e w10 ⟨rfl, hb10⟩; have HP10 := hid (HP9.out.below hb10); clear hb10)
  | go_in)
 go_ret
 exact ⟨rfl, HP10.out.bel⟩
end
def rT2 : Int × Pg × Lg × Dsk := turnM qT1.2.1 qT1.2.2.1 qT1.2.2.2 3 3 98
def rS2 : Option Bk × Int × Dsk := bstartM rT2.2.1 rT2.2.2.1 rT2.2.2.2 newM
def rB2 : Bk := rS2.1.getD ⟨0, 0, 0, false, 0⟩
def rC2 : Int × Bk × Dsk := bstepM rT2.2.1 rT2.2.2.1 rT2.2.2.2 2 rB2 rS2.2.2
def rT3 : Int × Pg × Lg × Dsk := turnM rT2.2.1 rT2.2.2.1 rT2.2.2.2 3 2 99
def rC3 : Int × Bk × Dsk := bstepM rT3.2.1 rT3.2.2.1 rT3.2.2.2 1 rC2.2.1 rC2.2.2
def rC4 : Int × Bk × Dsk := bstepM rT3.2.1 rT3.2.2.1 rT3.2.2.2 9 rC3.2.1 rC3.2.2
def rC5 : Int × Bk × Dsk := bstepM rT3.2.1 rT3.2.2.1 rT3.2.2.2 1 rC4.2.1 rC4.2.2
def rG : Lg := ((lopenM rC2.2.2).1).getD exG0
attribute [local irreducible] rT2 rS2 rB2 rC2 rT3 rC3 rC4 rC5 rG
section
variable {w W W' : World} {pb l b db bb : Nat} {d d' : Dsk} {B : Bk} {X X' : Nat → Prop}
end
end Go.Proofs.YtfkcmgbpgefnnaaGreat
/- The reference (counterfoilref03): rows of sectors as strings; In, nought, does. -/
namespace Go.Proofs.YtfkcmgbpgefnnaaGreat.Rf
open Go.RowKit Go.Maps
set_option maxRecDepth 20000
def strV (l : List Sec) : List Value := l.map fun s => .string (bs s)
theorem strV_append (a b : List Sec) : strV (a ++ b) = strV a ++ strV b := by simp [strV]
theorem strV_one (l : List Sec) : ∀ u ∈ strV l, u.oneCell' = true := by
 intro u hu
 obtain ⟨_, _, rfl⟩ := List.mem_map.1 hu
 rfl
abbrev FileR (w : World) (base : Nat) (v : Value) (l : List Sec) : Prop := w.ownsRow base 9 1 v l.length (strV l)
theorem FileR.get {w : World} {base : Nat} {l : List Sec} {g cap : Nat} (h : FileR w base (.slice (some ⟨g, 0, none⟩) l.length cap) l) {i : Nat} (hi : i < l.length) : w.cell? ⟨g, i, none⟩ = some (.string (bs l[i])) := by
 rw [h.cellAt i (by omega)]
 simp [strV, hi]
def rchgCells (c : Chg) : List Value := [.int .i64 c.file, .int .i64 c.at_, .bool c.cut, .string (bs (if c.cut then [] else c.bytes))]
theorem in_any (f : Int) (w : World) : Calls Tryz.prog 83 #[.int .i64 f] w fun e w' => e = .returned (.bool (decide (0 ≤ f) && decide (f < 8))) ∧ w' = w := by
 go_enter Tryz.func83, Tryz.ntmps83
 by_cases h1 : 0 ≤ f
 ·have h1' : decide (0 ≤ f) = true := by simpa using h1
  go_wp2_with fail
  go_ret
  exact ⟨by simp [h1], rfl⟩
 ·have h1' : decide (0 ≤ f) = false := by simpa using h1
  go_wp2_with fail
  go_ret
  exact ⟨by simp [h1], rfl⟩
theorem row_lower {w : World} {base b2 n size : Nat} {e : TypeId} {v : Value} {xs : List Value} (h : w.ownsRow base e size v n xs) (hb : b2 ≤ base) : w.ownsRow b2 e size v n xs := by
 refine ⟨h.1, h.2.imp id ?_⟩
 rintro ⟨g, cap, cur, e, hb2, r⟩
 exact ⟨g, cap, cur, e, Nat.le_trans hb hb2, r⟩
theorem fileR_of {w : World} {base n : Nat} {v : Value} {l : List Sec} (h : w.ownsRow base 9 1 v n (strV l)) (hl : l.length = n) : FileR w base v l := by rw [← hl] at h; exact h
theorem row_store {w : World} {base n g cap : Nat} {e : TypeId} {xs : List Value} (h : w.ownsRow base e 1 (.slice (some ⟨g, 0, none⟩) n cap) n xs) {i : Nat} (hi : i < n) (u : Value) :
  (∃ old, w.cell? ⟨g, i, none⟩ = some old) ∧ w.frozen? ⟨g, i, none⟩ = false ∧ (w.setCell ⟨g, i, none⟩ u).ownsRow base e 1 (.slice (some ⟨g, 0, none⟩) n cap) n (xs.set i u) ∧ w.grownBy (w.setCell ⟨g, i, none⟩ u) (some g) := by
 have hl := h.1
 refine ⟨⟨xs[i]'(by omega), ?_⟩, h.frozenAt i, h.stored i u⟩
 rw [h.cellAt i (by omega), List.getElem?_eq_getElem (by omega)]
def noughtRow : List Value := List.replicate 64 (.int .u8 0)
theorem noughtRow_eq : noughtRow = cellsOf nought := by simp [noughtRow, cellsOf, nought]
set_option maxRecDepth 20000 in
theorem nought_any (w : World) : Calls Tryz.prog 88 #[] w fun e w' => e = .returned (.string (bs nought)) ∧ Below w.heap.size w w' := by
 obtain ⟨i, hi, hz, hs, hb⟩ := info_parts (P := Tryz.prog) (e := 5) (z := .int .u8 0) (size := 1) (bytes := 1) (by kernel_rfl)
 obtain ⟨w1, hmk, hown, hgr⟩ := run_make_full (P := Tryz.prog) w w.heap.size 73 5 i _ 1 Tryz.underlying73 hi hz hs .i64 .i64 64 (by rw [hb]; omega) (by unfold maxLen; omega) (Nat.le_refl _)
 have e : (madeCells (Value.int .u8 0).cells (64 * 1)).toList = cellsOf nought := by
  show (madeCells #[.int .u8 0] 64).toList = _
  rw [toList_madeCells_one, ← noughtRow_eq]
  rfl
 rw [e] at hown
 have hconv := run_convert_own (P := Tryz.prog) w1 73 9 5 Tryz.underlying73 Tryz.underlying5 Tryz.underlying9 w.heap.size _ _ _ hown
 have hmk' : (Instr.makeSlice 73 (.int .i64 64) (.int .i64 64)).run Tryz.prog w = .ok (.slice (some ⟨w.heap.size, 0, none⟩) 64 64) w1 := hmk
 have Hgr := hid hgr
 obtain ⟨s, hs2⟩ : ∃ s, s = nought := ⟨_, rfl⟩
 rw [← hs2] at hconv ⊢
 clear hgr hown hmk e hz hs hb hi hs2
 go_enter Tryz.func88, Tryz.ntmps88
 go_wp2_with fail
 go_ret
 exact ⟨rfl, ⟨Hgr.out.os, Hgr.out.tape, Hgr.out.output, Hgr.out.size, fun k hk => Hgr.out.block k hk (fun e => by cases e)⟩⟩
set_option maxHeartbeats 1000000 in
set_option maxRecDepth 20000 in
theorem rdoes_any (v : Value) (l : List Sec) (c : Chg) (w : World) (h : FileR w 0 v l) (hl : l.length ≤ 8192) (hc : c.at_ ≤ 8192) (hw : c.cut = false → c.at_ < 8192) :
  Calls Tryz.prog 59 #[v, .agg (rchgCells c).toArray] w fun e w' => ∃ v', e = .returned v' ∧ FileR w' w.heap.size v' (doesM l c) ∧ Below w.heap.size w w' := by
 obtain ⟨i0, hi, hz0, hz1, hz2⟩ := info_parts (P := Tryz.prog) (e := 9) (z := .string ⟨#[]⟩) (size := 1) (bytes := 16) (by kernel_rfl)
 unfold rchgCells
 obtain ⟨bts, hbts⟩ : ∃ bts, bts = (if c.cut then [] else c.bytes) := ⟨_, rfl⟩
 rw [← hbts]
 have Hbts := hid hbts
 have H := hid h
 clear hbts h
 obtain ⟨n, hn⟩ : ∃ n, n = l.length := ⟨_, rfl⟩
 have Hn := hid hn
 cases hcut : c.cut with
 | true =>
  rw [doesM_cut hcut]
  have hv : (v = .slice none 0 0 ∧ n = 0) ∨ ∃ g cap, v = .slice (some ⟨g, 0, none⟩) n cap := by have := row_form H.out; rwa [← hn] at this
  have hcells : ∃ (ga : Option Addr) (cap : Nat), v = .slice ga n cap := by
   rcases hv with ⟨rfl, rfl⟩ | ⟨g, cap, rfl⟩
   ·exact ⟨none, 0, rfl⟩
   ·exact ⟨_, cap, rfl⟩
  obtain ⟨ga, cap, rfl⟩ := hcells
  have Hv := hid hv
  clear hv hn
  go_enter Tryz.func59, Tryz.ntmps59
  go_wp2_with fail
  have hx0 := ze w (.cells #[.int .i64 (c.file : Int), .int .i64 (c.at_ : Int), .bool true, .string (bs bts)] 106)
  have hb0 := (Below.refl w.heap.size w).alloc (Nat.le_refl _) (.cells #[.int .i64 (c.file : Int), .int .i64 (c.at_ : Int), .bool true, .string (bs bts)] 106)
  obtain ⟨w0, hw0⟩ : ∃ w0, w0 = w.alloc (.cells #[.int .i64 (c.file : Int), .int .i64 (c.at_ : Int), .bool true, .string (bs bts)] 106) := ⟨_, rfl⟩
  rw [← hw0] at hx0 hb0 ⊢
  have X0 := hid hx0
  have B0 := hid hb0
  have HR := hid (row_keep H.out (w' := w0) (fun x hx => hb0.block x (row_base H.out hx).2))
  clear hx0 hb0 hw0
  go_loopw [6, 5] (fun v6 v5 wr => ∃ i : Nat, v6 = .int .i64 (i : Int) ∧ i ≤ n ∧ i ≤ c.at_ ∧ wr.ownsRow w0.heap.size 9 1 v5 i (strV (l.take i)) ∧ Below w0.heap.size w0 wr) (fun v6 _ _ => n - (intOf v6).toNat)
  case atStart => exact ⟨0, rfl, Nat.zero_le _, Nat.zero_le _, World.ownsRow_nil _ _ _ _, Below.refl _ _⟩
  case round =>
   obtain ⟨i, rfl, hin, hia, hrow, hbel⟩ := hrel
   have Hrow := hid hrow
   have Hbel := hid hbel
   have q1 : wr.cell? ⟨w.heap.size, 1, none⟩ = some (.int .i64 (c.at_ : Int)) := (za ((hbel.block _ (zc X0.out)).trans X0.out) 1).trans rfl
   clear hrow hbel
   by_cases hlt : i < n
   ·by_cases hlt2 : i < c.at_
    ·have d1 : decide ((i : Int) < (n : Int)) = true := by simp; omega
     have d2 : decide ((i : Int) < (c.at_ : Int)) = true := by simp; omega
     obtain ⟨g, cap', hgv⟩ := Hv.out.resolve_left (fun e => by omega)
     cases hgv
     have hil : i < l.length := by have := Hn.out; omega
     have hcell : wr.cell? ⟨g, i, none⟩ = some (.string (bs l[i])) := by
      have hg := HR.out
      have hk := row_keep hg (w' := wr) (fun x hx => Hbel.out.block x (row_base hg hx).2)
      rw [Hn.out] at hk
      exact FileR.get hk hil
     obtain ⟨s, hs⟩ : ∃ s, s = l[i] := ⟨_, rfl⟩
     rw [← hs] at hcell
     have Hs := hid hs
     have hin2 : (i : Int) < (n : Int) := by omega
     clear hs
     go_wp2_with (first
      | (at_builtin; refine wpList_append_own_at _ rfl _ _ 37 rfl w0.heap.size 9 i0 _ 1 16 Tryz.underlying37 hi hz0 hz1 hz2 rfl (by omega) _ i (strV (l.take i)) rfl (row_keep Hrow.out (fun x hx => Below.heap_alloc wr _ x (row_base Hrow.out hx).2)) ⟨wr.heap.size, 0, none⟩ 1 1 [.string (bs s)] rfl (by simp) (World.news_of_block (cs := #[.string (bs s)]) (t := 9) (fr := (0, 0)) (ze wr _)) (by intro u hu; rw [List.mem_singleton.1 hu]; rfl) (by unfold maxLen; omega) (by omega) (by simp; have := Hbel.out.size; omega) ?_; intro v' w7 hown7 hgrow7 _ _; have Hown7 := hid hown7; have Hbel7 := hid ((Hbel.out.alloc Hbel.out.size (.cells #[.string (bs s)] 9)).grown hgrow7 (by simp; have := Hbel.out.size; omega) (fun j hj => (row_base Hrow.out hj).1)); clear hown7 hgrow7)
      | go_in)
     go_roundw
     case rel =>
      refine ⟨i + 1, by simp, by omega, by omega, ?_, Hbel7.out⟩
      rw [List.take_succ_eq_append_getElem hil, ← Hs.out, strV_append]
      exact Hown7.out
     case measure => simp [intOf]; omega
    ·have d1 : decide ((i : Int) < (n : Int)) = true := by simp; omega
     have d2 : decide ((i : Int) < (c.at_ : Int)) = false := by simp; omega
     go_wp2_with fail
     go_ret
     refine ⟨_, rfl, ?_, B0.out.trans (Hbel.out.mono B0.out.size)⟩
     have e : c.at_ = i := by omega
     rw [e]
     exact fileR_of (row_lower Hrow.out B0.out.size) (by have := Hn.out; simp; omega)
   ·obtain rfl : i = n := by omega
    have d1 : decide ((i : Int) < (i : Int)) = false := by simp
    go_wp2_with fail
    go_ret
    refine ⟨_, rfl, ?_, B0.out.trans (Hbel.out.mono B0.out.size)⟩
    have e : l.take c.at_ = l.take i := by rw [List.take_of_length_le (by have := Hn.out; omega), List.take_of_length_le (by have := Hn.out; omega)]
    rw [e]
    exact fileR_of (row_lower Hrow.out B0.out.size) (by have := Hn.out; simp; omega)
 | false =>
  have hw' := hw hcut
  have hbb : bts = c.bytes := by rw [Hbts.out, hcut]; rfl
  have Hbb := hid hbb
  have Hcut := hid hcut
  have NG := hid nought_any
  obtain ⟨nn, hnn⟩ : ∃ nn, nn = nought := ⟨_, rfl⟩
  have Hnn := hid hnn
  rw [← hnn] at NG
  clear hn hbb hcut hnn
  go_enter Tryz.func59, Tryz.ntmps59
  go_upto_region 8 with fail
  have hx0 := ze w (.cells #[.int .i64 (c.file : Int), .int .i64 (c.at_ : Int), .bool false, .string (bs bts)] 106)
  have hb0 := (Below.refl w.heap.size w).alloc (Nat.le_refl _) (.cells #[.int .i64 (c.file : Int), .int .i64 (c.at_ : Int), .bool false, .string (bs bts)] 106)
  obtain ⟨w0, hw0⟩ : ∃ w0, w0 = w.alloc (.cells #[.int .i64 (c.file : Int), .int .i64 (c.at_ : Int), .bool false, .string (bs bts)] 106) := ⟨_, rfl⟩
  rw [← hw0] at hx0 hb0 ⊢
  have X0 := hid hx0
  have B0 := hid hb0
  have HR := hid (row_keep H.out (w' := w0) (fun x hx => hb0.block x (row_base H.out hx).2))
  clear hx0 hb0 hw0
  go_wp2_with (first
   | (at_builtin; refine wpList_append_rows rfl _ _ 37 rfl w0.heap.size 0 9 i0 _ 1 16 Tryz.underlying37 hi hz0 hz1 hz2 rfl (by omega) _ 0 [] rfl (World.ownsRow_nil _ _ _ _) _ l.length (strV l) rfl HR.out (strV_one l) (by unfold maxLen; omega) (by omega) (Nat.le_refl _) ?_; intro v1 w1 hown1 hgrow1; have Hown1 := hid hown1; have Hbel1 := hid ((Below.refl w0.heap.size w0).grown hgrow1 (Nat.le_refl _) (fun j hj => by cases hj)); clear hown1 hgrow1)
   | go_in)
  go_loopw [5] (fun v5 wr => ∃ j : Nat, n + j ≤ max n (c.at_ + 1) ∧ wr.ownsRow w0.heap.size 9 1 v5 (n + j) (strV (l ++ List.replicate j nought)) ∧ Below w0.heap.size w0 wr) (fun v5 _ => c.at_ + 1 - sliceLen v5)
  case atStart =>
   refine ⟨0, by omega, ?_, Hbel1.out⟩
   have h1 := Hown1.out
   rw [Hn.out]
   simpa using h1
  case round =>
   obtain ⟨j, hjm, hrow, hbel⟩ := hrel
   have Hrow := hid hrow
   have Hbel := hid hbel
   have Hsl := hid (ownsRow_len hrow)
   have q1 : wr.cell? ⟨w.heap.size, 1, none⟩ = some (.int .i64 (c.at_ : Int)) := (za ((hbel.block _ (zc X0.out)).trans X0.out) 1).trans rfl
   have q3 : wr.cell? ⟨w.heap.size, 3, none⟩ = some (.string (bs bts)) := (za ((hbel.block _ (zc X0.out)).trans X0.out) 3).trans rfl
   obtain ⟨m, hm⟩ : ∃ m, m = n + j := ⟨_, rfl⟩
   have Hm := hid hm
   have hform := row_form hrow
   rw [← hm] at hform
   by_cases hle : m ≤ c.at_
   ·have d1 : decide ((m : Int) ≤ (c.at_ : Int)) = true := decide_eq_true (Int.ofNat_le.2 hle)
    obtain ⟨ga, cap, hv5⟩ : ∃ ga cap, u5 = .slice ga m cap := by
     rcases hform with ⟨h1, h2⟩ | ⟨g, cap, h1⟩
     ·exact ⟨none, 0, by rw [h1, h2]⟩
     ·exact ⟨_, cap, h1⟩
    subst hv5
    clear hrow hbel hform hm hjm
    go_wp2_with (first
     | (go_at_call 88; refine (NG.out wr).mono ?_; rintro e w2 ⟨rfl, hb⟩; have Hb2 := hid hb; clear hb q1 q3)
     | (at_builtin; refine wpList_append_own_at _ rfl _ _ 37 rfl w0.heap.size 9 i0 _ 1 16 Tryz.underlying37 hi hz0 hz1 hz2 rfl (by omega) _ (n + j) (strV (l ++ List.replicate j nought)) rfl (row_keep Hrow.out (fun x hx => (Below.heap_alloc w2 _ x (Nat.lt_of_lt_of_le (row_base Hrow.out hx).2 Hb2.out.size)).trans (Hb2.out.block x (row_base Hrow.out hx).2))) ⟨w2.heap.size, 0, none⟩ 1 1 [.string (bs nn)] rfl (by simp) (World.news_of_block (cs := #[.string (bs nn)]) (t := 9) (fr := (0, 0)) (ze w2 _)) (by intro u hu; rw [List.mem_singleton.1 hu]; rfl) (by have := Hm.out; unfold maxLen; omega) (by have := Hm.out; omega) (by simp; have := Hbel.out.size; have := Hb2.out.size; omega) ?_; intro v' w7 hown7 hgrow7 _ _; have Hown7 := hid hown7; have Hbel7 := hid ((((Hbel.out.trans (Hb2.out.mono Hbel.out.size))).alloc (Nat.le_trans Hbel.out.size Hb2.out.size) (.cells #[.string (bs nn)] 9)).grown hgrow7 (by simp; have := Hbel.out.size; have := Hb2.out.size; omega) (fun x hx => (row_base Hrow.out hx).1)); clear hown7 hgrow7)
     | go_in)
    go_roundw
    case rel =>
     refine ⟨j + 1, by have := Hm.out; omega, ?_, Hbel7.out⟩
     have h1 := Hown7.out
     rw [Hnn.out] at h1
     rw [List.replicate_succ', ← List.append_assoc, strV_append, ← Nat.add_assoc]
     exact h1
    case measure =>
     have h1 := ownsRow_len Hown7.out
     have h2 := Hm.out
     rw [h1]
     simp only [sliceLen]
     omega
   ·have d1 : decide ((m : Int) ≤ (c.at_ : Int)) = false := decide_eq_false (fun h => hle (Int.ofNat_le.1 h))
    obtain ⟨g, cap, hv5⟩ : ∃ g cap, u5 = .slice (some ⟨g, 0, none⟩) m cap := by
     rcases hform with ⟨h1, h2⟩ | h1
     ·omega
     ·exact h1
    subst hv5
    have hlt : (c.at_ : Int) < (m : Int) := by omega
    rw [← hm] at hrow
    obtain ⟨hcell, hfz, hst, hgr⟩ := row_store hrow (i := c.at_) (by omega) (.string (bs bts))
    obtain ⟨old, hold⟩ := hcell
    have Hst := hid hst
    have Hgr := hid hgr
    have Hbase := hid (row_base hrow (g := g) rfl)
    clear hrow hbel hform hm hst hgr
    go_wp2_with fail
    go_ret
    refine ⟨_, rfl, ?_, B0.out.trans ((Hbel.out.grown Hgr.out Hbel.out.size (fun x hx => by cases hx; exact Hbase.out.1)).mono B0.out.size)⟩
    have e : doesM l c = (l ++ List.replicate j nought).set c.at_ c.bytes := by
     rw [doesM_write Hcut.out]
     congr 3
     have := Hm.out; have := Hn.out
     omega
    rw [e]
    refine fileR_of (n := m) (row_lower ?_ B0.out.size) (by have := Hm.out; have := Hn.out; simp; omega)
    have h1 := Hst.out
    unfold strV at h1 ⊢
    rw [List.map_set, ← Hbb.out]
    exact h1
end Go.Proofs.YtfkcmgbpgefnnaaGreat.Rf
