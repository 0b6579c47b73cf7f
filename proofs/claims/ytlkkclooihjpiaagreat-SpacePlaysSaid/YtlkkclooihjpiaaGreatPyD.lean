/- SpacePlays: one call on both. -/
import Derived.Test.YtlkkclooihjpiaaGreatPyC
import Derived.Deep.CutBlock
import Derived.Test.YtlkkclooihjpiaaGreatHeld
set_option linter.unusedVariables false
set_option linter.unusedSimpArgs false
namespace Go.Proofs.YtlkkclooihjpiaaGreat
open Go.RowKit Go.Maps
set_option maxRecDepth 20000
section
variable {w W W' : World} {pb l b wb N : Nat} {p p' : Pg} {g g' : Lg} {d d' : Dsk} {m m2 : RWd} {B X X' : Nat → Prop}
theorem PySt.state (h : PySt w W pb l b wb p g d m m N B X) : Calls Tryz.prog 21 #[.pointer (some ⟨wb, 0, none⟩)] W fun e w' => ∃ fv, e = .returned (rstV m.st fv) ∧ IRow w' w.heap.size fv m.st.free ∧ Below W.heap.size W w' := by
 refine (rstate_any h.wd (fun k hk => h.px.xlt k (h.sub k hk))).mono ?_
 rintro e w' ⟨fv, rfl, h1, h2, h3⟩
 exact ⟨fv, rfl, h1, h3⟩
theorem PySt.more {M : Nat} (h : PySt w W pb l b wb p g d m m2 N B X) (hM : N ≤ M) : PySt w W pb l b wb p g d m m2 M B X := ⟨h.px, h.inv, h.wd, h.sub, h.ge, h.sm.mono hM⟩
theorem field_free (P K a0 a1 a2 a3 a4 a5 a6 a7 : Int) (ao : Option Addr) (z cap : Nat) (w1 : World) : (Instr.field 53 (.agg #[.int .i64 P, .slice ao z cap, .int .u64 K, .int .i64 a0, .int .i64 a1, .int .i64 a2, .int .i64 a3, .int .i64 a4, .int .i64 a5, .int .i64 a6, .int .i64 a7]) 1).run Tryz.prog w1 = .ok (.slice ao z cap) w1 := by kernel_rfl
theorem field_pages (P K a0 a1 a2 a3 a4 a5 a6 a7 : Int) (ao : Option Addr) (z cap : Nat) (w1 : World) : (Instr.field 53 (.agg #[.int .i64 P, .slice ao z cap, .int .u64 K, .int .i64 a0, .int .i64 a1, .int .i64 a2, .int .i64 a3, .int .i64 a4, .int .i64 a5, .int .i64 a6, .int .i64 a7]) 0).run Tryz.prog w1 = .ok (.int .i64 P) w1 := by kernel_rfl
theorem below_drew {n : Nat} {w w' : World} (h : Below n w w') : Below n w w'.drew := ⟨h.os, h.tape, h.output, h.size, h.block⟩
def twiceB (m : RWd) (n : Int) : Bool := m.st.free.any fun k => (k : Int) == n
set_option maxHeartbeats 4000000 in
set_option maxRecDepth 20000 in
theorem twice_any (h : PySt w W pb l b wb p g d m m N B X) (n : Int) : Calls Tryz.prog 16 #[.pointer (some ⟨wb, 0, none⟩), .int .i64 n] W fun e w' => e = .returned (.bool (twiceB m n)) ∧ Below W.heap.size W w' := by
 have ST := h.state
 have hb := pw_st h.inv
 unfold twiceB
 obtain ⟨s, hs⟩ : ∃ s, s = m.st := ⟨_, rfl⟩
 rw [← hs] at ST hb ⊢
 obtain ⟨P, F, K, r⟩ := s
 dsimp only at hb ⊢
 obtain ⟨hb1, hr, -⟩ := hb
 obtain ⟨a0, a1, a2, a3, a4, a5, a6, a7, rfl⟩ := roots8 hr
 unfold rstV rstCells at ST
 simp only [List.map_cons, List.map_nil] at ST
 have ST := hid ST
 obtain ⟨z, hz⟩ : ∃ z, z = F.length := ⟨_, rfl⟩
 have HZ := hid hz
 have hz9 : z ≤ 900 := by omega
 clear h hs hr hb1 hz
 go_enter Tryz.func16, Tryz.ntmps16
 go_wp2_with (first
  | (go_at_call 21; refine (ST.out).mono ?_; rintro e w1 ⟨fv, rfl, hrow, hb1⟩; obtain ⟨ao, cap, rfl, -, -, -, hcell⟩ := hrow.shape; rw [← HZ.out]; have HC := hid hcell; have HB1 := hid hb1; have hff := field_free P K a0 a1 a2 a3 a4 a5 a6 a7 ao z cap; clear hrow hb1 hcell)
  | go_in)
 go_loopw [11] (fun v11 wq => ∃ j : Nat, j ≤ z ∧ v11 = .int .i64 (j : Int) ∧ wq = w1 ∧ ((F.take j).any fun k => (k : Int) == n) = false) (fun v11 _ => z - (intOf v11).toNat)
 case atStart => exact ⟨0, Nat.zero_le _, rfl, by simp, by simp⟩
 case round =>
  obtain ⟨j, hj, rfl, rfl, hno⟩ := hrel
  have HNo := hid hno
  clear hno
  by_cases hjz : j < z
  ·have hjl : j < F.length := by have := HZ.out; omega
   obtain ⟨q, hq, -, -, c0⟩ := HC.out j hjl
   subst hq
   obtain ⟨y, hy⟩ : ∃ y, y = F[j] := ⟨_, rfl⟩
   rw [← hy] at c0
   have hj9 : (j : Int) < 9223372036854775807 := by omega
   have hjN : (j : Int) < (z : Int) := by omega
   have hwj : IntKind.i64.wrap ((j : Int) + 1) = (j : Int) + 1 := IntWalk.i64_in _ (by omega)
   have htake : ((F.take (j + 1)).any fun k => (k : Int) == n) = ((y : Int) == n) := by
    rw [List.take_add_one, List.getElem?_eq_getElem hjl, List.any_append, HNo.out, ← hy]
    simp
   have HT := hid htake
   clear htake hy hjl
   by_cases hyn : (y : Int) = n
   ·have b1 : ((y : Int) == n) = true := by simpa using hyn
    have hyes : (F.any fun k => (k : Int) == n) = true := by
     have h1 := HT.out
     rw [b1] at h1
     obtain ⟨x, hx, hxe⟩ := List.any_eq_true.1 h1
     exact List.any_eq_true.2 ⟨x, List.mem_of_mem_take hx, hxe⟩
    have HYes := hid hyes
    clear hyn hyes
    go_wp2_with fail
    go_ret
    rw [HYes.out]
    exact ⟨rfl, HB1.out⟩
   ·have b1 : ((y : Int) == n) = false := by simpa using hyn
    clear hyn
    go_wp2_with fail
    go_roundw
    case rel => exact ⟨j + 1, hjz, by simp, by simp, by rw [HT.out, b1]⟩
    case measure => (simp [intOf]) <;> omega
  ·obtain rfl : z = j := by omega
   have hgo : ¬ z < z := Nat.lt_irrefl z
   clear hj hjz
   go_wp2_with fail
   go_ret
   have h1 := HNo.out
   rw [List.take_of_length_le (by rw [HZ.out]; exact Nat.le_refl _)] at h1
   rw [h1]
   exact ⟨rfl, HB1.out⟩
def DoneBoth (w w' : World) (pb l b wb N : Nat) (e : Ending) : Prop := ∃ p' g' d' m' B' X', e = .returned (.bool true) ∧ PySt w w' pb l b wb p' g' d' m' m' N B' X'
set_option maxHeartbeats 8000000 in
set_option maxRecDepth 20000 in
theorem does0 (h : PySt w W pb l b wb p g d m m N B X) (n i : Int) (hN : N + 33554432 ≤ 1099511527776) : Calls Tryz.prog 19 #[.pointer (some ⟨pb, 0, none⟩), .pointer (some ⟨wb, 0, none⟩), .agg #[.int .i64 0, .int .i64 n, .int .i64 i]] W (fun e w' => DoneBoth w w' pb l b wb (N + 8519680) e) := by
 have h0 := h.below ((Below.refl _ W).alloc (Nat.le_refl _) (.cells #[.int .i64 0, .int .i64 n, .int .i64 i] 43))
 have hm9 := (cms_bounds h.inv.cm).1
 have C1 := hid (h0.begin)
 have C2 := hid (fun W1 p1 g1 d1 N1 (h1 : PySt w W1 pb l b wb p1 g1 d1 m ((rbeginM m).2) N1 B X) => h1.rbegin hm9)
 have Hm := hid h.inv
 clear h h0
 go_enter Tryz.func19, Tryz.ntmps19
 go_wp2_with (first
  | (go_at_call 11; refine (C1.out).mono ?_; rintro e w1 ⟨p1, rfl, h1, -⟩; have H1 := hid h1; clear h1)
  | (go_at_call 38; refine (C2.out _ _ _ _ _ H1.out).mono ?_; rintro e w2 ⟨rfl, h2⟩; have H2 := hid h2; clear h2)
  | go_in)
 go_ret
 exact ⟨_, _, _, _, _, _, rfl, H2.out.st.more (by omega)⟩
set_option maxHeartbeats 8000000 in
set_option maxRecDepth 20000 in
theorem does4 (h : PySt w W pb l b wb p g d m m N B X) (n i : Int) (hN : N + 33554432 ≤ 1099511527776) : Calls Tryz.prog 19 #[.pointer (some ⟨pb, 0, none⟩), .pointer (some ⟨wb, 0, none⟩), .agg #[.int .i64 4, .int .i64 n, .int .i64 i]] W (fun e w' => DoneBoth w w' pb l b wb (N + 8519680) e) := by
 have h0 := h.below ((Below.refl _ W).alloc (Nat.le_refl _) (.cells #[.int .i64 4, .int .i64 n, .int .i64 i] 43))
 have C1 := hid (h0.commit hN)
 have C2 := hid (fun W1 p1 g1 d1 N1 (h1 : PySt w W1 pb l b wb p1 g1 d1 m ((rcommitM m).2) N1 B X) => h1.rcommit)
 have Hm := hid h.inv
 clear h h0
 go_enter Tryz.func19, Tryz.ntmps19
 go_wp2_with (first
  | (go_at_call 22; refine (C1.out).mono ?_; rintro e w1 ⟨p1, g1, d1, rfl, h1, -⟩; have H1 := hid h1; clear h1)
  | (go_at_call 42; refine (C2.out _ _ _ _ _ H1.out).mono ?_; rintro e w2 ⟨rfl, h2⟩; have H2 := hid h2; clear h2)
  | go_in)
 go_ret
 exact ⟨_, _, _, _, _, _, rfl, H2.out.st.more (by omega)⟩
set_option maxHeartbeats 8000000 in
set_option maxRecDepth 20000 in
theorem does5 (h : PySt w W pb l b wb p g d m m N B X) (n i : Int) (hN : N + 33554432 ≤ 1099511527776) : Calls Tryz.prog 19 #[.pointer (some ⟨pb, 0, none⟩), .pointer (some ⟨wb, 0, none⟩), .agg #[.int .i64 5, .int .i64 n, .int .i64 i]] W (fun e w' => DoneBoth w w' pb l b wb (N + 8519680) e) := by
 have h0 := h.below ((Below.refl _ W).alloc (Nat.le_refl _) (.cells #[.int .i64 5, .int .i64 n, .int .i64 i] 43))
 have C1 := hid (h0.roll)
 have C2 := hid (fun W1 p1 g1 d1 N1 (h1 : PySt w W1 pb l b wb p1 g1 d1 m ((rrollM m).2) N1 B X) => h1.rroll)
 have Hm := hid h.inv
 clear h h0
 go_enter Tryz.func19, Tryz.ntmps19
 go_wp2_with (first
  | (go_at_call 15; refine (C1.out).mono ?_; rintro e w1 ⟨p1, rfl, h1, -⟩; have H1 := hid h1; clear h1)
  | (go_at_call 18; refine (C2.out _ _ _ _ _ H1.out).mono ?_; rintro e w2 ⟨rfl, h2⟩; have H2 := hid h2; clear h2)
  | go_in)
 go_ret
 exact ⟨_, _, _, _, _, _, rfl, H2.out.st.more (by omega)⟩
set_option maxHeartbeats 8000000 in
set_option maxRecDepth 20000 in
theorem does1 (h : PySt w W pb l b wb p g d m m N B X) (n i : Int) (hN : N + 33554432 ≤ 1099511527776) : Calls Tryz.prog 19 #[.pointer (some ⟨pb, 0, none⟩), .pointer (some ⟨wb, 0, none⟩), .agg #[.int .i64 1, .int .i64 n, .int .i64 i]] W (fun e w' => DoneBoth w w' pb l b wb (N + 8519680) e) := by
 have h0 := h.below ((Below.refl _ W).alloc (Nat.le_refl _) (.cells #[.int .i64 1, .int .i64 n, .int .i64 i] 43))
 have hm9 := fun e => (pw_now h.inv e).1
 have C1 := hid (h0.alloc)
 have C2 := hid (fun W1 p1 g1 d1 N1 (h1 : PySt w W1 pb l b wb p1 g1 d1 m ((rallocM m).2.2) N1 B X) => h1.ralloc hm9)
 have Hm := hid h.inv
 clear h h0
 go_enter Tryz.func19, Tryz.ntmps19
 go_wp2_with (first
  | (go_at_call 12; refine (C1.out).mono ?_; rintro e w1 ⟨p1, rfl, h1, -⟩; have H1 := hid h1; clear h1)
  | (go_at_call 39; refine (C2.out _ _ _ _ _ H1.out).mono ?_; rintro e w2 ⟨rfl, h2⟩; have H2 := hid h2; clear h2)
  | go_in)
 go_ret
 exact ⟨_, _, _, _, _, _, rfl, H2.out.st.more (by omega)⟩
set_option maxHeartbeats 8000000 in
set_option maxRecDepth 20000 in
theorem does6 (h : PySt w W pb l b wb p g d m m N B X) (n i : Int) (h6 : m.saves.length < 60) (hN : N + 33554432 ≤ 1099511527776) : Calls Tryz.prog 19 #[.pointer (some ⟨pb, 0, none⟩), .pointer (some ⟨wb, 0, none⟩), .agg #[.int .i64 6, .int .i64 n, .int .i64 i]] W (fun e w' => DoneBoth w w' pb l b wb (N + 8519680) e) := by
 have h0 := h.below ((Below.refl _ W).alloc (Nat.le_refl _) (.cells #[.int .i64 6, .int .i64 n, .int .i64 i] 43))
 have hm9 := fun e => (pw_now h.inv e).2
 have C1 := hid (h0.save h6)
 have C2 := hid (fun W1 p1 g1 d1 N1 (h1 : PySt w W1 pb l b wb p1 g1 d1 m ((rsaveM m).2.2) N1 B X) => h1.rsave hm9 h6)
 have Hm := hid h.inv
 clear h h0
 go_enter Tryz.func19, Tryz.ntmps19
 go_wp2_with (first
  | (go_at_call 43; refine (C1.out).mono ?_; rintro e w1 ⟨p1, rfl, h1, -⟩; have H1 := hid h1; clear h1)
  | (go_at_call 44; refine (C2.out _ _ _ _ _ H1.out).mono ?_; rintro e w2 ⟨rfl, h2⟩; have H2 := hid h2; clear h2)
  | go_in)
 go_ret
 exact ⟨_, _, _, _, _, _, rfl, H2.out.st.more (by omega)⟩
set_option maxHeartbeats 8000000 in
set_option maxRecDepth 20000 in
theorem does2 (h : PySt w W pb l b wb p g d m m N B X) (n i : Int) (hn : in64 n) (hF : twiceB m n = false) (hN : N + 33554432 ≤ 1099511527776) : Calls Tryz.prog 19 #[.pointer (some ⟨pb, 0, none⟩), .pointer (some ⟨wb, 0, none⟩), .agg #[.int .i64 2, .int .i64 n, .int .i64 i]] W (fun e w' => DoneBoth w w' pb l b wb (N + 8519680) e) := by
 have hbx := heap_alloc_new W (.cells #[.int .i64 2, .int .i64 n, .int .i64 i] 43)
 have h0 := h.add (W' := W.alloc (.cells #[.int .i64 2, .int .i64 n, .int .i64 i] 43)) (k0 := W.heap.size) ((Below.refl _ W).alloc (Nat.le_refl _) _) (Nat.le_refl _) (by simp)
 have hBlt : ¬ B W.heap.size := fun e => Nat.lt_irrefl _ (h.px.xlt _ (h.sub _ e))
 have hm9 := fun e => (pw_now h.inv e).1
 have hl9 := fun e => (pw_now h.inv e).2
 have hF9 : ¬ (∃ k ∈ m.st.free, (k : Int) = n) := fun ⟨k, hk, e⟩ => by
  have : twiceB m n = true := List.any_eq_true.2 ⟨k, hk, by simpa using e⟩
  rw [hF] at this; cases this
 have C1 := hid (fun (W1 : World) (h1 : PySt w W1 pb l b wb p g d m m N B (fun k => X k ∨ k = W.heap.size)) => h1.free n hn hF9)
 have C2 := hid (fun W1 p1 (h1 : PySt w W1 pb l b wb p1 g d m ((rfreeM m n).2) N B (fun k => X k ∨ k = W.heap.size)) => h1.rfree n hm9 hl9)
 obtain ⟨r, hr⟩ : ∃ r, r = ((rfreeM m n)).1 := ⟨_, rfl⟩
 have HR := hid hr
 have H0 := hid h0
 have HBlt := hid hBlt
 have Hbx := hid hbx
 clear h h0 hBlt hr hbx
 go_enter Tryz.func19, Tryz.ntmps19
 go_upto_region 9 with fail
 have hbx := Hbx.out
 have hlt1 : W.heap.size < (W.alloc (.cells #[.int .i64 2, .int .i64 n, .int .i64 i] 43)).heap.size := by simp
 refine wp_region_held_drew (S := fun W2 => W2.cell? ⟨W.heap.size, 1, none⟩ = some (.int .i64 n)) (by kernel_rfl) ((cell_of_block hbx 1).trans rfl) (fun hHeld => ?_)
 clear hbx
 refine held_take (v := ?sv0) 0 rfl (by kernel_rfl) (by kernel_rfl) (by kernel_rfl) (fun _ _ _ h => h) (by rfl) hHeld ?sy0 ?sr0
 case sy0 => (intro W hSw; go_simp; with_reducible rfl)
 simp only [Act.put, List.setIfInBounds_toArray, List.set_cons_zero, List.set_cons_succ]
 refine held_take (v := ?sv1) 1 rfl (by kernel_rfl) (by kernel_rfl) (by kernel_rfl) (fun _ _ _ h => h) (by rfl) hHeld ?sy1 ?sr1
 case sy1 => (intro W hSw; go_simp; with_reducible rfl)
 simp only [Act.put, List.setIfInBounds_toArray, List.set_cons_zero, List.set_cons_succ]
 refine held_take (v := ?sv2) 2 rfl (by kernel_rfl) (by kernel_rfl) (by kernel_rfl) (fun _ _ _ h => h) (by rfl) hHeld ?sy2 ?sr2
 case sy2 => (intro W hSw; go_simp; with_reducible rfl)
 simp only [Act.put, List.setIfInBounds_toArray, List.set_cons_zero, List.set_cons_succ]
 refine held_take (v := ?sv4) 4 rfl (by kernel_rfl) (by kernel_rfl) (by kernel_rfl) (fun _ _ _ h => h) (by rfl) hHeld ?sy4 ?sr4
 case sy4 => (intro W hSw; go_simp; with_reducible rfl)
 simp only [Act.put, List.setIfInBounds_toArray, List.set_cons_zero, List.set_cons_succ]
 refine held_take (v := ?sv5) 5 rfl (by kernel_rfl) (by kernel_rfl) (by kernel_rfl) (fun _ _ _ h => h) (by rfl) hHeld ?sy5 ?sr5
 case sy5 => (intro W hSw; go_simp; with_reducible rfl)
 simp only [Act.put, List.setIfInBounds_toArray, List.set_cons_zero, List.set_cons_succ]
 refine held_take (v := ?sv6) 6 rfl (by kernel_rfl) (by kernel_rfl) (by kernel_rfl) (fun _ _ _ h => h) (by rfl) hHeld ?sy6 ?sr6
 case sy6 => (intro W hSw; go_simp; with_reducible rfl)
 simp only [Act.put, List.setIfInBounds_toArray, List.set_cons_zero, List.set_cons_succ]
 refine held_one 3 (by kernel_rfl) rfl (fun K hK => ?_)
 go_simp
 refine (C1.out _ (H0.out.below (below_drew (Below.refl _ _)))).mono ?_
 rintro e w1 ⟨p1, rfl, h1, hk1⟩
 rw [← HR.out]
 have hb1 : w1.heap[W.heap.size]? = some (.cells #[.int .i64 2, .int .i64 n, .int .i64 i] 43 (0, 0)) := (hk1 _ (.inr rfl)).trans Hbx.out
 have H1 := hid h1
 have HB1 := hid hb1
 clear h1 hk1 hb1
 refine hK.out _ _ ((cell_of_block HB1.out 1).trans rfl) (fun hHeld => ?_)
 clear hK K
 try simp only [Act.put, List.setIfInBounds_toArray, List.set_cons_zero, List.set_cons_succ]
 refine held_one 7 (by kernel_rfl) rfl (fun K hK => ?_)
 go_simp
 refine (C2.out _ _ H1.out).mono ?_
 rintro e w2 ⟨rfl, h2⟩
 rw [← HR.out]
 have hb2 : w2.heap[W.heap.size]? = some (.cells #[.int .i64 2, .int .i64 n, .int .i64 i] 43 (0, 0)) := (h2.frm.block _ (lt_of_block HB1.out) HBlt.out).trans HB1.out
 have H2 := hid h2
 have HB2 := hid hb2
 clear h2 hb2
 refine hK.out _ _ ((cell_of_block HB2.out 1).trans rfl) (fun hHeld => ?_)
 clear hK K
 try simp only [Act.put, List.setIfInBounds_toArray, List.set_cons_zero, List.set_cons_succ]
 refine held_take (v := ?tv8) 8 rfl (by kernel_rfl) (by kernel_rfl) (by kernel_rfl) (fun _ _ _ h => h) (by rfl) hHeld ?ty8 ?tr8
 case ty8 => (intro W hSw; go_simp; with_reducible rfl)
 simp only [Act.put, List.setIfInBounds_toArray, List.set_cons_zero, List.set_cons_succ]
 refine held_take (v := ?tv9) 9 rfl (by kernel_rfl) (by kernel_rfl) (by kernel_rfl) (fun _ _ _ h => h) (by rfl) hHeld ?ty9 ?tr9
 case ty9 => (intro W hSw; go_simp; with_reducible rfl)
 simp only [Act.put, List.setIfInBounds_toArray, List.set_cons_zero, List.set_cons_succ]
 clear hHeld
 refine wpAnyH_done (by kernel_rfl) ?_ _
 go_wp2_with fail
 go_ret
 exact ⟨_, _, _, _, _, _, rfl, H2.out.st.more (by omega)⟩
set_option maxHeartbeats 8000000 in
set_option maxRecDepth 20000 in
theorem does3 (h : PySt w W pb l b wb p g d m m N B X) (n i : Int) (hn : in64 n) (hi : in64 i) (hN : N + 33554432 ≤ 1099511527776) : Calls Tryz.prog 19 #[.pointer (some ⟨pb, 0, none⟩), .pointer (some ⟨wb, 0, none⟩), .agg #[.int .i64 3, .int .i64 n, .int .i64 i]] W (fun e w' => DoneBoth w w' pb l b wb (N + 8519680) e) := by
 have hbx := heap_alloc_new W (.cells #[.int .i64 3, .int .i64 n, .int .i64 i] 43)
 have h0 := h.add (W' := W.alloc (.cells #[.int .i64 3, .int .i64 n, .int .i64 i] 43)) (k0 := W.heap.size) ((Below.refl _ W).alloc (Nat.le_refl _) _) (Nat.le_refl _) (by simp)
 have hBlt : ¬ B W.heap.size := fun e => Nat.lt_irrefl _ (h.px.xlt _ (h.sub _ e))
 have C1 := hid (fun (W1 : World) (h1 : PySt w W1 pb l b wb p g d m m N B (fun k => X k ∨ k = W.heap.size)) => h1.root i n hi hn)
 have C2 := hid (fun W1 p1 (h1 : PySt w W1 pb l b wb p1 g d m ((rrootM m i n).2) N B (fun k => X k ∨ k = W.heap.size)) => h1.rroot i n)
 obtain ⟨r, hr⟩ : ∃ r, r = ((rrootM m i n)).1 := ⟨_, rfl⟩
 have HR := hid hr
 have H0 := hid h0
 have HBlt := hid hBlt
 have Hbx := hid hbx
 clear h h0 hBlt hr hbx
 go_enter Tryz.func19, Tryz.ntmps19
 go_upto_region 11 with fail
 have hbx := Hbx.out
 have hlt1 : W.heap.size < (W.alloc (.cells #[.int .i64 3, .int .i64 n, .int .i64 i] 43)).heap.size := by simp
 refine wp_region_held_drew (S := fun W2 => W2.cell? ⟨W.heap.size, 2, none⟩ = some (.int .i64 i) ∧ W2.cell? ⟨W.heap.size, 1, none⟩ = some (.int .i64 n)) (by kernel_rfl) ⟨(cell_of_block hbx 2).trans rfl, (cell_of_block hbx 1).trans rfl⟩ (fun hHeld => ?_)
 clear hbx
 refine held_take (v := ?sv0) 0 rfl (by kernel_rfl) (by kernel_rfl) (by kernel_rfl) (fun _ _ _ h => h) (by rfl) hHeld ?sy0 ?sr0
 case sy0 => (intro W hSw; obtain ⟨y0, y1⟩ := hSw; go_simp; with_reducible rfl)
 simp only [Act.put, List.setIfInBounds_toArray, List.set_cons_zero, List.set_cons_succ]
 refine held_take (v := ?sv1) 1 rfl (by kernel_rfl) (by kernel_rfl) (by kernel_rfl) (fun _ _ _ h => h) (by rfl) hHeld ?sy1 ?sr1
 case sy1 => (intro W hSw; obtain ⟨y0, y1⟩ := hSw; go_simp; with_reducible rfl)
 simp only [Act.put, List.setIfInBounds_toArray, List.set_cons_zero, List.set_cons_succ]
 refine held_take (v := ?sv2) 2 rfl (by kernel_rfl) (by kernel_rfl) (by kernel_rfl) (fun _ _ _ h => h) (by rfl) hHeld ?sy2 ?sr2
 case sy2 => (intro W hSw; obtain ⟨y0, y1⟩ := hSw; go_simp; with_reducible rfl)
 simp only [Act.put, List.setIfInBounds_toArray, List.set_cons_zero, List.set_cons_succ]
 refine held_take (v := ?sv3) 3 rfl (by kernel_rfl) (by kernel_rfl) (by kernel_rfl) (fun _ _ _ h => h) (by rfl) hHeld ?sy3 ?sr3
 case sy3 => (intro W hSw; obtain ⟨y0, y1⟩ := hSw; go_simp; with_reducible rfl)
 simp only [Act.put, List.setIfInBounds_toArray, List.set_cons_zero, List.set_cons_succ]
 refine held_take (v := ?sv4) 4 rfl (by kernel_rfl) (by kernel_rfl) (by kernel_rfl) (fun _ _ _ h => h) (by rfl) hHeld ?sy4 ?sr4
 case sy4 => (intro W hSw; obtain ⟨y0, y1⟩ := hSw; go_simp; with_reducible rfl)
 simp only [Act.put, List.setIfInBounds_toArray, List.set_cons_zero, List.set_cons_succ]
 refine held_take (v := ?sv6) 6 rfl (by kernel_rfl) (by kernel_rfl) (by kernel_rfl) (fun _ _ _ h => h) (by rfl) hHeld ?sy6 ?sr6
 case sy6 => (intro W hSw; obtain ⟨y0, y1⟩ := hSw; go_simp; with_reducible rfl)
 simp only [Act.put, List.setIfInBounds_toArray, List.set_cons_zero, List.set_cons_succ]
 refine held_take (v := ?sv7) 7 rfl (by kernel_rfl) (by kernel_rfl) (by kernel_rfl) (fun _ _ _ h => h) (by rfl) hHeld ?sy7 ?sr7
 case sy7 => (intro W hSw; obtain ⟨y0, y1⟩ := hSw; go_simp; with_reducible rfl)
 simp only [Act.put, List.setIfInBounds_toArray, List.set_cons_zero, List.set_cons_succ]
 refine held_take (v := ?sv8) 8 rfl (by kernel_rfl) (by kernel_rfl) (by kernel_rfl) (fun _ _ _ h => h) (by rfl) hHeld ?sy8 ?sr8
 case sy8 => (intro W hSw; obtain ⟨y0, y1⟩ := hSw; go_simp; with_reducible rfl)
 simp only [Act.put, List.setIfInBounds_toArray, List.set_cons_zero, List.set_cons_succ]
 refine held_take (v := ?sv9) 9 rfl (by kernel_rfl) (by kernel_rfl) (by kernel_rfl) (fun _ _ _ h => h) (by rfl) hHeld ?sy9 ?sr9
 case sy9 => (intro W hSw; obtain ⟨y0, y1⟩ := hSw; go_simp; with_reducible rfl)
 simp only [Act.put, List.setIfInBounds_toArray, List.set_cons_zero, List.set_cons_succ]
 refine held_take (v := ?sv10) 10 rfl (by kernel_rfl) (by kernel_rfl) (by kernel_rfl) (fun _ _ _ h => h) (by rfl) hHeld ?sy10 ?sr10
 case sy10 => (intro W hSw; obtain ⟨y0, y1⟩ := hSw; go_simp; with_reducible rfl)
 simp only [Act.put, List.setIfInBounds_toArray, List.set_cons_zero, List.set_cons_succ]
 refine held_one 5 (by kernel_rfl) rfl (fun K hK => ?_)
 go_simp
 refine (C1.out _ (H0.out.below (below_drew (Below.refl _ _)))).mono ?_
 rintro e w1 ⟨p1, rfl, h1, hk1⟩
 rw [← HR.out]
 have hb1 : w1.heap[W.heap.size]? = some (.cells #[.int .i64 3, .int .i64 n, .int .i64 i] 43 (0, 0)) := (hk1 _ (.inr rfl)).trans Hbx.out
 have H1 := hid h1
 have HB1 := hid hb1
 clear h1 hk1 hb1
 refine hK.out _ _ (⟨(cell_of_block HB1.out 2).trans rfl, (cell_of_block HB1.out 1).trans rfl⟩) (fun hHeld => ?_)
 clear hK K
 try simp only [Act.put, List.setIfInBounds_toArray, List.set_cons_zero, List.set_cons_succ]
 refine held_one 11 (by kernel_rfl) rfl (fun K hK => ?_)
 go_simp
 refine (C2.out _ _ H1.out).mono ?_
 rintro e w2 ⟨rfl, h2⟩
 rw [← HR.out]
 have hb2 : w2.heap[W.heap.size]? = some (.cells #[.int .i64 3, .int .i64 n, .int .i64 i] 43 (0, 0)) := (h2.frm.block _ (lt_of_block HB1.out) HBlt.out).trans HB1.out
 have H2 := hid h2
 have HB2 := hid hb2
 clear h2 hb2
 refine hK.out _ _ (⟨(cell_of_block HB2.out 2).trans rfl, (cell_of_block HB2.out 1).trans rfl⟩) (fun hHeld => ?_)
 clear hK K
 try simp only [Act.put, List.setIfInBounds_toArray, List.set_cons_zero, List.set_cons_succ]
 refine held_take (v := ?tv12) 12 rfl (by kernel_rfl) (by kernel_rfl) (by kernel_rfl) (fun _ _ _ h => h) (by rfl) hHeld ?ty12 ?tr12
 case ty12 => (intro W hSw; obtain ⟨y0, y1⟩ := hSw; go_simp; with_reducible rfl)
 simp only [Act.put, List.setIfInBounds_toArray, List.set_cons_zero, List.set_cons_succ]
 refine held_take (v := ?tv13) 13 rfl (by kernel_rfl) (by kernel_rfl) (by kernel_rfl) (fun _ _ _ h => h) (by rfl) hHeld ?ty13 ?tr13
 case ty13 => (intro W hSw; obtain ⟨y0, y1⟩ := hSw; go_simp; with_reducible rfl)
 simp only [Act.put, List.setIfInBounds_toArray, List.set_cons_zero, List.set_cons_succ]
 clear hHeld
 refine wpAnyH_done (by kernel_rfl) ?_ _
 go_wp2_with fail
 go_ret
 exact ⟨_, _, _, _, _, _, rfl, H2.out.st.more (by omega)⟩
set_option maxHeartbeats 8000000 in
set_option maxRecDepth 20000 in
theorem does7 (h : PySt w W pb l b wb p g d m m N B X) (n i : Int) (hn : in64 n) (hN : N + 33554432 ≤ 1099511527776) : Calls Tryz.prog 19 #[.pointer (some ⟨pb, 0, none⟩), .pointer (some ⟨wb, 0, none⟩), .agg #[.int .i64 7, .int .i64 n, .int .i64 i]] W (fun e w' => DoneBoth w w' pb l b wb (N + 8519680) e) := by
 have hbx := heap_alloc_new W (.cells #[.int .i64 7, .int .i64 n, .int .i64 i] 43)
 have h0 := h.add (W' := W.alloc (.cells #[.int .i64 7, .int .i64 n, .int .i64 i] 43)) (k0 := W.heap.size) ((Below.refl _ W).alloc (Nat.le_refl _) _) (Nat.le_refl _) (by simp)
 have hBlt : ¬ B W.heap.size := fun e => Nat.lt_irrefl _ (h.px.xlt _ (h.sub _ e))
 have hs9 := pw_saves h.inv
 have C1 := hid (fun (W1 : World) (h1 : PySt w W1 pb l b wb p g d m m N B (fun k => X k ∨ k = W.heap.size)) => h1.back n hn)
 have C2 := hid (fun W1 p1 (h1 : PySt w W1 pb l b wb p1 g d m ((rbackM m n).2) N B (fun k => X k ∨ k = W.heap.size)) => h1.rback n hs9)
 obtain ⟨r, hr⟩ : ∃ r, r = ((rbackM m n)).1 := ⟨_, rfl⟩
 have HR := hid hr
 have H0 := hid h0
 have HBlt := hid hBlt
 have Hbx := hid hbx
 clear h h0 hBlt hr hbx
 go_enter Tryz.func19, Tryz.ntmps19
 go_upto_region 21 with fail
 have hbx := Hbx.out
 have hlt1 : W.heap.size < (W.alloc (.cells #[.int .i64 7, .int .i64 n, .int .i64 i] 43)).heap.size := by simp
 refine wp_region_held_drew (S := fun W2 => W2.cell? ⟨W.heap.size, 1, none⟩ = some (.int .i64 n)) (by kernel_rfl) ((cell_of_block hbx 1).trans rfl) (fun hHeld => ?_)
 clear hbx
 refine held_take (v := ?sv0) 0 rfl (by kernel_rfl) (by kernel_rfl) (by kernel_rfl) (fun _ _ _ h => h) (by rfl) hHeld ?sy0 ?sr0
 case sy0 => (intro W hSw; go_simp; with_reducible rfl)
 simp only [Act.put, List.setIfInBounds_toArray, List.set_cons_zero, List.set_cons_succ]
 refine held_take (v := ?sv1) 1 rfl (by kernel_rfl) (by kernel_rfl) (by kernel_rfl) (fun _ _ _ h => h) (by rfl) hHeld ?sy1 ?sr1
 case sy1 => (intro W hSw; go_simp; with_reducible rfl)
 simp only [Act.put, List.setIfInBounds_toArray, List.set_cons_zero, List.set_cons_succ]
 refine held_take (v := ?sv2) 2 rfl (by kernel_rfl) (by kernel_rfl) (by kernel_rfl) (fun _ _ _ h => h) (by rfl) hHeld ?sy2 ?sr2
 case sy2 => (intro W hSw; go_simp; with_reducible rfl)
 simp only [Act.put, List.setIfInBounds_toArray, List.set_cons_zero, List.set_cons_succ]
 refine held_take (v := ?sv4) 4 rfl (by kernel_rfl) (by kernel_rfl) (by kernel_rfl) (fun _ _ _ h => h) (by rfl) hHeld ?sy4 ?sr4
 case sy4 => (intro W hSw; go_simp; with_reducible rfl)
 simp only [Act.put, List.setIfInBounds_toArray, List.set_cons_zero, List.set_cons_succ]
 refine held_take (v := ?sv5) 5 rfl (by kernel_rfl) (by kernel_rfl) (by kernel_rfl) (fun _ _ _ h => h) (by rfl) hHeld ?sy5 ?sr5
 case sy5 => (intro W hSw; go_simp; with_reducible rfl)
 simp only [Act.put, List.setIfInBounds_toArray, List.set_cons_zero, List.set_cons_succ]
 refine held_take (v := ?sv6) 6 rfl (by kernel_rfl) (by kernel_rfl) (by kernel_rfl) (fun _ _ _ h => h) (by rfl) hHeld ?sy6 ?sr6
 case sy6 => (intro W hSw; go_simp; with_reducible rfl)
 simp only [Act.put, List.setIfInBounds_toArray, List.set_cons_zero, List.set_cons_succ]
 refine held_one 3 (by kernel_rfl) rfl (fun K hK => ?_)
 go_simp
 refine (C1.out _ (H0.out.below (below_drew (Below.refl _ _)))).mono ?_
 rintro e w1 ⟨p1, rfl, h1, hk1⟩
 rw [← HR.out]
 have hb1 : w1.heap[W.heap.size]? = some (.cells #[.int .i64 7, .int .i64 n, .int .i64 i] 43 (0, 0)) := (hk1 _ (.inr rfl)).trans Hbx.out
 have H1 := hid h1
 have HB1 := hid hb1
 clear h1 hk1 hb1
 refine hK.out _ _ ((cell_of_block HB1.out 1).trans rfl) (fun hHeld => ?_)
 clear hK K
 try simp only [Act.put, List.setIfInBounds_toArray, List.set_cons_zero, List.set_cons_succ]
 refine held_one 7 (by kernel_rfl) rfl (fun K hK => ?_)
 go_simp
 refine (C2.out _ _ H1.out).mono ?_
 rintro e w2 ⟨rfl, h2⟩
 rw [← HR.out]
 have hb2 : w2.heap[W.heap.size]? = some (.cells #[.int .i64 7, .int .i64 n, .int .i64 i] 43 (0, 0)) := (h2.frm.block _ (lt_of_block HB1.out) HBlt.out).trans HB1.out
 have H2 := hid h2
 have HB2 := hid hb2
 clear h2 hb2
 refine hK.out _ _ ((cell_of_block HB2.out 1).trans rfl) (fun hHeld => ?_)
 clear hK K
 try simp only [Act.put, List.setIfInBounds_toArray, List.set_cons_zero, List.set_cons_succ]
 refine held_take (v := ?tv8) 8 rfl (by kernel_rfl) (by kernel_rfl) (by kernel_rfl) (fun _ _ _ h => h) (by rfl) hHeld ?ty8 ?tr8
 case ty8 => (intro W hSw; go_simp; with_reducible rfl)
 simp only [Act.put, List.setIfInBounds_toArray, List.set_cons_zero, List.set_cons_succ]
 refine held_take (v := ?tv9) 9 rfl (by kernel_rfl) (by kernel_rfl) (by kernel_rfl) (fun _ _ _ h => h) (by rfl) hHeld ?ty9 ?tr9
 case ty9 => (intro W hSw; go_simp; with_reducible rfl)
 simp only [Act.put, List.setIfInBounds_toArray, List.set_cons_zero, List.set_cons_succ]
 clear hHeld
 refine wpAnyH_done (by kernel_rfl) ?_ _
 go_wp2_with fail
 go_ret
 exact ⟨_, _, _, _, _, _, rfl, H2.out.st.more (by omega)⟩
set_option maxHeartbeats 8000000 in
set_option maxRecDepth 20000 in
theorem does9 (h : PySt w W pb l b wb p g d m m N B X) (x n i : Int) (hx : x < 0 ∨ 8 ≤ x) : Calls Tryz.prog 19 #[.pointer (some ⟨pb, 0, none⟩), .pointer (some ⟨wb, 0, none⟩), .agg #[.int .i64 x, .int .i64 n, .int .i64 i]] W (fun e w' => DoneBoth w w' pb l b wb (N + 8519680) e) := by
 have H0 := hid (h.below ((Below.refl _ W).alloc (Nat.le_refl _) (.cells #[.int .i64 x, .int .i64 n, .int .i64 i] 43)))
 have b0 : (x == 0) = false := by simp; omega
 have b1 : (x == 1) = false := by simp; omega
 have b2 : (x == 2) = false := by simp; omega
 have b3 : (x == 3) = false := by simp; omega
 have b4 : (x == 4) = false := by simp; omega
 have b5 : (x == 5) = false := by simp; omega
 have b6 : (x == 6) = false := by simp; omega
 have b7 : (x == 7) = false := by simp; omega
 clear h hx
 go_enter Tryz.func19, Tryz.ntmps19
 go_wp2_with fail
 go_ret
 exact ⟨_, _, _, _, _, _, rfl, H0.out.more (by omega)⟩
theorem pdoes_any (h : PySt w W pb l b wb p g d m m N B X) (x n i : Int) (hn : in64 n) (hi : in64 i) (h2 : x = 2 → twiceB m n = false) (h6 : x = 6 → m.saves.length < 60) (hN : N + 33554432 ≤ 1099511527776) : Calls Tryz.prog 19 #[.pointer (some ⟨pb, 0, none⟩), .pointer (some ⟨wb, 0, none⟩), .agg #[.int .i64 x, .int .i64 n, .int .i64 i]] W (fun e w' => DoneBoth w w' pb l b wb (N + 8519680) e) := by
 have hc : x = 0 ∨ x = 1 ∨ x = 2 ∨ x = 3 ∨ x = 4 ∨ x = 5 ∨ x = 6 ∨ x = 7 ∨ (x < 0 ∨ 8 ≤ x) := by omega
 rcases hc with rfl | rfl | rfl | rfl | rfl | rfl | rfl | rfl | hx
 ·exact does0 h n i hN
 ·exact does1 h n i hN
 ·exact does2 h n i hn (h2 rfl) hN
 ·exact does3 h n i hn hi hN
 ·exact does4 h n i hN
 ·exact does5 h n i hN
 ·exact does6 h n i (h6 rfl) hN
 ·exact does7 h n i hn hN
 ·exact does9 h x n i hx
end
end Go.Proofs.YtlkkclooihjpiaaGreat
