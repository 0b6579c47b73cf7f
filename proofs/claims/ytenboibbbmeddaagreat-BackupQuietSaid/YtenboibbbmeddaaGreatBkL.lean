import Derived.Test.YtenboibbbmeddaaGreatBkJ
/- Backups' laws: the worked example's models; works. -/
namespace Go.Proofs.YtenboibbbmeddaaGreat
open Go.RowKit Go.Maps
set_option linter.unusedVariables false
set_option linter.unusedSimpArgs false
set_option maxRecDepth 20000

def qT1 : Int × Pg × Lg × Dsk := turnM p0 exG0 newM 3 2 97
def qS1 : Option Bk × Int × Dsk := bstartM qT1.2.1 qT1.2.2.1 qT1.2.2.2 newM
def qB1 : Bk := qS1.1.getD ⟨0, 0, 0, false, 0⟩
def qC1 : Int × Bk × Dsk := bstepM qT1.2.1 qT1.2.2.1 qT1.2.2.2 3 qB1 qS1.2.2
def qG1 : Lg := ((openedM qC1.2.2).map (·.1)).getD exG0
def qL1 : List (List UInt8) := ((openedM qC1.2.2).map (·.2)).getD []
theorem some_getD {α : Type} {x : Option α} {y : α} (h : x.isSome = true) : x = some (x.getD y) := by
  cases x with
  | none => cases h
  | some z => rfl
theorem q_t1 : qT1.1 = 0 := by decide +kernel
theorem q_s1 : qS1.1.isSome = true := by decide +kernel
theorem q_s1' : qS1.1 = some qB1 := some_getD q_s1
theorem q_p1 : 1 ≤ ppagesM qT1.2.1 qT1.2.2.1 := by decide +kernel
theorem q_b1 : BkOk qB1 := ⟨by decide +kernel, by decide +kernel⟩
theorem q_b1r : 0 ≤ qB1.restarts ∧ qB1.restarts ≤ 1000000 := by decide +kernel
theorem q_l1 : bleftM qB1 = 3 := by decide +kernel
theorem q_c1 : qC1.1 = 0 := by decide +kernel
theorem q_c1n : qC1.2.1.next = 0 := by decide +kernel
theorem q_d1 : qS1.2.2.Small 1000 := ⟨by decide +kernel, by decide +kernel, by decide +kernel⟩
theorem q_o1 : (openedM qC1.2.2).isSome = true := by decide +kernel
theorem q_o1' : openedM qC1.2.2 = some (qG1, qL1) := by
  obtain ⟨z, hz⟩ := Option.isSome_iff_exists.1 q_o1
  unfold qG1 qL1
  rw [hz]
  rfl
theorem q_g1 : ppagesM p0 qG1 = 3 := by decide +kernel
theorem q_g1r : (preadM p0 qG1 qC1.2.2 1).2 = 0 ∧ (preadM p0 qG1 qC1.2.2 2).2 = 0 ∧ (preadM p0 qG1 qC1.2.2 3).2 = 0 := by decide +kernel
theorem q_t1p : ppagesM qT1.2.1 qT1.2.2.1 = 3 := by decide +kernel
theorem q_t1r : (preadM qT1.2.1 qT1.2.2.1 qT1.2.2.2 1).2 = 0 ∧ (preadM qT1.2.1 qT1.2.2.1 qT1.2.2.2 2).2 = 0 ∧ (preadM qT1.2.1 qT1.2.2.1 qT1.2.2.2 3).2 = 0 := by decide +kernel
theorem q_same : stL qT1.2.1 qT1.2.2.1 qT1.2.2.2 = qL1 := by decide +kernel
theorem q_len : qL1.length ≤ 1000 := by decide +kernel
theorem stOk3 {p : Pg} {g : Lg} {d : Dsk} (h : ppagesM p g = 3) (h2 : (preadM p g d 1).2 = 0 ∧ (preadM p g d 2).2 = 0 ∧ (preadM p g d 3).2 = 0) : stOk p g d := by
  intro k hk
  rw [h] at hk
  have : k = 0 ∨ k = 1 ∨ k = 2 := by omega
  rcases this with rfl | rfl | rfl
  · exact h2.1
  · exact h2.2.1
  · exact h2.2.2
attribute [local irreducible] qT1 qS1 qB1 qC1 qG1 qL1 exG0
section
variable {w W W' : World} {a : PgD} {db bb : Nat} {d d' : Dsk} {B : Bk} {X X' : Nat → Prop}
def turned (a : PgD) (pages n : Int) (c : UInt8) : PgD := ⟨a.pb, a.l, a.b, (turnM a.p a.g a.d pages n c).2.1, (turnM a.p a.g a.d pages n c).2.2.1, (turnM a.p a.g a.d pages n c).2.2.2⟩
theorem pd_turn (h : PD w W a db d X) (pages n : Int) (c : UInt8) (hpg : in64 pages) (hn : in64 n) (N : Nat) (hsm : a.d.Small N) (hN : N + 33554432 ≤ 1099511527776) :
    Calls Tryz.prog 11 #[.pointer (some ⟨a.pb, 0, none⟩), .int .i64 pages, .int .i64 n, .int .u8 (c.toNat : Int)] W fun e w' => e = .returned (.int .i64 (turnM a.p a.g a.d pages n c).1) ∧ PD w w' (turned a pages n c) db d X ∧ ∀ k, X k → w'.heap[k]? = W.heap[k]? := by
  obtain ⟨T, hpg2, hcl⟩ := h.left
  refine (turn_any hpg2 pages n c hpg hn N hsm hN).mono ?_
  rintro e w' ⟨rfl, h1, h2⟩
  obtain ⟨h3, h4⟩ := hcl w' (turned a pages n c) h1 h2
  exact ⟨rfl, h3, h4⟩
theorem fresh_px (w : World) : Calls Tryz.prog 7 #[] w fun e w' => ∃ pb l b, e = .returned (.tuple #[.pointer (some ⟨pb, 0, none⟩), .bool true]) ∧ PgAtX w w' ⟨pb, l, b, p0, exG0, newM⟩ (fun _ => False) := fresh_any w
set_option maxHeartbeats 8000000 in
set_option maxRecDepth 20000 in
theorem bkworks_any (w : World) : Calls Tryz.prog 9 #[] w fun e w' => e = .returned (.bool true) ∧ Below w.heap.size w w' := by
  have FR := hid (fresh_px w)
  have NW := hid (fun W => mk_new W)
  have T97 : (((97 : UInt8).toNat : Nat) : Int) = 97 := rfl
  have TN := hid (fun (W1 : World) (pb l b db : Nat) (h : PD w W1 ⟨pb, l, b, p0, exG0, newM⟩ db newM (fun _ => False)) => (show Calls Tryz.prog 11 #[.pointer (some ⟨pb, 0, none⟩), .int .i64 3, .int .i64 2, .int .u8 97] W1 fun e w' => e = .returned (.int .i64 0) ∧ PD w w' ⟨pb, l, b, qT1.2.1, qT1.2.2.1, qT1.2.2.2⟩ db newM (fun _ => False) from by
    have A := pd_turn h 3 2 97 (by unfold in64; decide) (by unfold in64; decide) 100 new_small (by decide)
    have e := q_t1
    unfold qT1 at e ⊢
    rw [e] at A
    exact A.mono fun e w' hh => ⟨hh.1, hh.2.1⟩))
  have ST := hid (fun (W1 : World) (pb l b db : Nat) (h : PD w W1 ⟨pb, l, b, qT1.2.1, qT1.2.2.1, qT1.2.2.2⟩ db newM (fun _ => False)) => (show Calls Tryz.prog 10 #[.pointer (some ⟨pb, 0, none⟩), .pointer (some ⟨db, 0, none⟩)] W1 fun e w' => ∃ bb, e = .returned (.tuple #[.pointer (some ⟨bb, 0, none⟩), .int .i64 0]) ∧ PD w w' ⟨pb, l, b, qT1.2.1, qT1.2.2.1, qT1.2.2.2⟩ db qS1.2.2 (fun k => k = bb) ∧ w'.heap[bb]? = some (bkObj pb db qB1) ∧ w.heap.size ≤ bb from by
    have A := bstart_any h (N := 100) new_small (by decide)
    have e := q_s1'
    refine A.mono fun e1 w' hh => ?_
    have hh2 : StartGave w W1 ⟨pb, l, b, qT1.2.1, qT1.2.2.1, qT1.2.2.2⟩ db (fun _ => False) qS1 e1 w' := by unfold qS1; exact hh
    unfold StartGave at hh2
    rw [e] at hh2
    obtain ⟨bb, h1, h2, h3, h4, -⟩ := hh2
    exact ⟨bb, h1, h2.to (fun k hk => .inr hk), h3, Nat.le_trans h.bel.size h4⟩))
  have SP := hid (fun (W1 : World) (pb l b db bb : Nat) (h : PD w W1 ⟨pb, l, b, qT1.2.1, qT1.2.2.1, qT1.2.2.2⟩ db qS1.2.2 (fun k => k = bb)) (hb : W1.heap[bb]? = some (bkObj pb db qB1)) (hge : w.heap.size ≤ bb) => (show Calls Tryz.prog 15 #[.pointer (some ⟨bb, 0, none⟩), .int .i64 3] W1 fun e w' => e = .returned (.int .i64 0) ∧ PD w w' ⟨pb, l, b, qT1.2.1, qT1.2.2.1, qT1.2.2.2⟩ db qC1.2.2 (fun k => k = bb) ∧ w'.heap[bb]? = some (bkObj pb db qC1.2.1) from by
    have A := bstep_any h rfl hge hb q_b1 q_b1r q_p1 3 (by unfold in64; decide) q_d1 (by decide)
    have e := q_c1
    unfold qC1 at e ⊢
    rw [e] at A
    exact A.mono fun e w' hh => ⟨hh.1, hh.2.1, hh.2.2.1⟩))
  have LF := hid (fun (W1 : World) (pb db bb : Nat) (hb : W1.heap[bb]? = some (bkObj pb db qB1)) => (show Calls Tryz.prog 12 #[.pointer (some ⟨bb, 0, none⟩)] W1 fun e w' => e = .returned (.int .i64 3) ∧ Below W1.heap.size W1 w' from by
    have hk := q_b1
    have A := bleft_any hb (by rcases hk.next with e | ⟨e1, e2, -⟩ <;> (have := hk.pages; omega)) (by have := hk.pages; omega)
    rw [q_l1] at A
    exact A))
  have DN := hid (fun (W1 : World) (pb db bb : Nat) (hb : W1.heap[bb]? = some (bkObj pb db qC1.2.1)) => (show Calls Tryz.prog 14 #[.pointer (some ⟨bb, 0, none⟩)] W1 fun e w' => e = .returned (.bool true) ∧ w' = W1 from by
    have A := bdone_any hb
    rw [q_c1n] at A
    exact A))
  have OP := hid (fun (W1 : World) (db : Nat) (h : MkD w W1 db qC1.2.2) => (show Calls Tryz.prog 22 #[.pointer (some ⟨db, 0, none⟩)] W1 fun e w' => ∃ v, e = .returned (.tuple #[v, .bool true]) ∧ StrRow w' W1.heap.size v qL1 ∧ Below W1.heap.size W1 w' from by
    have A := opened_any h (fun g L e => by
      rw [q_o1'] at e
      cases e
      exact stOk3 q_g1 q_g1r)
    rw [q_o1'] at A
    exact A.mono fun e w' hh => by obtain ⟨h1, v, h2, h3⟩ := hh; exact ⟨v, h2, h3, h1⟩))
  have SA := hid (fun (W1 : World) (pb l b : Nat) (X : Nat → Prop) (h : PgX w W1 pb l b qT1.2.1 qT1.2.2.1 qT1.2.2.2 X) => (show Calls Tryz.prog 21 #[.pointer (some ⟨pb, 0, none⟩)] W1 fun e w' => ∃ v, e = .returned (.tuple #[v, .bool true]) ∧ StrRow w' W1.heap.size v qL1 ∧ Below W1.heap.size W1 w' from by
    have A := state_any h (stOk3 q_t1p q_t1r)
    rw [q_same] at A
    exact A))
  go_enter Tryz.func9, Tryz.ntmps9
  go_upto_region 5 with (first
    | (go_at_call 7; refine (FR.out).mono ?_; rintro e w1 ⟨pb, l, b, rfl, hp1⟩; have HP1 := hid hp1; clear hp1)
    | (go_at_call 8; refine (NW.out _).mono ?_; rintro e w2 ⟨db, rfl, hd2⟩; have HP2 := hid (PgX.pd HP1.out hd2); clear hd2)
    | (go_at_call 11; refine (TN.out _ _ _ _ _ HP2.out).mono ?_; rintro e w3 ⟨rfl, hp3⟩; have HP3 := hid hp3; clear hp3)
    | go_in)
  go_upto_region 8 with (first
    | (go_at_call 10; refine (ST.out _ _ _ _ _ HP3.out).mono ?_; rintro e w4 ⟨bb, rfl, hp4, hb4, hg4⟩; have HP4 := hid hp4; have HB4 := hid hb4; have HG4 := hid hg4; clear hp4 hb4 hg4)
    | (go_at_call 12; refine (LF.out _ _ _ _ HB4.out).mono ?_; rintro e w5 ⟨rfl, hb5⟩; have HP5 := hid (HP4.out.below hb5); have HB5 := hid ((hb5.block _ (lt_of_block HB4.out)).trans HB4.out); clear hb5)
    | (go_at_call 15; refine (SP.out _ _ _ _ _ _ HP5.out HB5.out HG4.out).mono ?_; rintro e w6 ⟨rfl, hp6, hb6⟩; have HP6 := hid hp6; have HB6 := hid hb6; clear hp6 hb6)
    | (go_at_call 14; refine (DN.out _ _ _ _ HB6.out).mono ?_; rintro e w7 ⟨rfl, hw⟩; obtain rfl := hw.symm)
    | go_in)
  go_wp2_with (first
    | (go_at_call 22; refine (OP.out _ _ HP6.out.dsk).mono ?_; rintro e w8 ⟨v8, rfl, hr8, hb8⟩; have HR8 := hid hr8; have HP8 := hid (HP6.out.below hb8); clear hr8 hb8)
    | (go_at_call 21; refine (SA.out _ _ _ _ _ HP8.out.pg).mono ?_; rintro e w9 ⟨v9, rfl, hr9, hb9⟩; have HR9 := hid hr9; have HR8' := hid (HR8.out.keep (fun k hk => hb9.block k (row_base HR8.out hk).2)); have HP9 := hid (HP8.out.below hb9); clear hr9 hb9)
    | (go_at_call 23; refine (same_eq HR8'.out HR9.out q_len).mono ?_; rintro e w10 ⟨rfl, hb10⟩; have HP10 := hid (HP9.out.below hb10); clear hb10)
    | go_in)
  go_ret
  exact ⟨rfl, HP10.out.bel⟩
end
end Go.Proofs.YtenboibbbmeddaaGreat
/- The law BackupKnown: the document's examples; nothing to copy. -/
namespace Go.Proofs.YtenboibbbmeddaaGreat
open Go.RowKit Go.Maps
set_option linter.unusedVariables false
set_option linter.unusedSimpArgs false
set_option maxRecDepth 20000

def rT2 : Int × Pg × Lg × Dsk := turnM qT1.2.1 qT1.2.2.1 qT1.2.2.2 3 3 98
def rS2 : Option Bk × Int × Dsk := bstartM rT2.2.1 rT2.2.2.1 rT2.2.2.2 newM
def rB2 : Bk := rS2.1.getD ⟨0, 0, 0, false, 0⟩
def rC2 : Int × Bk × Dsk := bstepM rT2.2.1 rT2.2.2.1 rT2.2.2.2 2 rB2 rS2.2.2
def rT3 : Int × Pg × Lg × Dsk := turnM rT2.2.1 rT2.2.2.1 rT2.2.2.2 3 2 99
def rC3 : Int × Bk × Dsk := bstepM rT3.2.1 rT3.2.2.1 rT3.2.2.2 1 rC2.2.1 rC2.2.2
def rC4 : Int × Bk × Dsk := bstepM rT3.2.1 rT3.2.2.1 rT3.2.2.2 9 rC3.2.1 rC3.2.2
def rC5 : Int × Bk × Dsk := bstepM rT3.2.1 rT3.2.2.1 rT3.2.2.2 1 rC4.2.1 rC4.2.2
def rG : Lg := ((lopenM rC2.2.2).1).getD exG0
attribute [local irreducible] qT1 qS1 qB1 qC1 qG1 qL1 exG0 rT2 rS2 rB2 rC2 rT3 rC3 rC4 rC5 rG
section
variable {w W W' : World} {pb l b db bb : Nat} {d d' : Dsk} {B : Bk} {X X' : Nat → Prop}
end
end Go.Proofs.YtenboibbbmeddaaGreat
