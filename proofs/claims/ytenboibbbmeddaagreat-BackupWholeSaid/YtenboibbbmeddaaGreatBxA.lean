/- BackupWhole: a pager beside its destination, the row of states, a copy of the destination that crashes; Commits of a state. -/
import Derived.Test.YtenboibbbmeddaaGreatBkL
import Derived.Test.YtenboibbbmeddaaGreatBcD
import Derived.Test.YtenboibbbmeddaaGreatSpY
set_option linter.unusedVariables false
set_option linter.unusedSimpArgs false
namespace Go.Proofs.YtenboibbbmeddaaGreat
open Go.RowKit Go.Maps
set_option maxRecDepth 20000
section
variable {w W W' : World}
set_option maxHeartbeats 2000000 in
set_option maxRecDepth 20000 in
theorem rcommits_cons {base : Nat} {v : Value} {s : List UInt8} {M : List (List UInt8)} (h : StrRow W base v (s :: M)) (hs : s.length ≤ 9223372036854775807) (hl : M.length ≤ 1000) :
  Calls Tryz.prog 29 #[v] W fun e w' => e = .returned (.tuple #[.int .u64 (takeH s).1.commits, .bool ((takeH s).2 == 0)]) ∧ Below W.heap.size W w' := by
 obtain ⟨ao, cap, rfl, hc⟩ := h.shape
 obtain ⟨q, rfl, c0⟩ := hc 0 (by simp)
 simp only [List.getElem_cons_zero] at c0
 have TK := rtake_any s hs W
 have hwf2 := (takeH_wf s).len
 obtain ⟨Q2, hQ2⟩ : ∃ Q2, Q2 = takeH s := ⟨_, rfl⟩
 rw [← hQ2] at TK hwf2 ⊢
 obtain ⟨H2, E2⟩ := Q2
 obtain ⟨f, c, kk, r0, r1, r2, r3, r4, r5, r6, r7, rfl⟩ := hdr_form hwf2
 unfold hdrV hdrCells at TK
 simp only [List.map_cons, List.map_nil] at TK
 have TK := hid TK
 obtain ⟨n, hn⟩ : ∃ n, n = (s :: M).length := ⟨_, rfl⟩
 have hn1 : 0 < n := by rw [hn]; simp
 have hn2 : n ≤ 1001 := by rw [hn]; simpa using hl
 have bn : ((n : Int) == 0) = false := by simp; omega
 rw [← hn]
 clear h hc hwf2 hQ2 hn
 go_enter Tryz.func29, Tryz.ntmps29
 go_wp2_with (first
  | (go_at_call 53; refine (TK.out).mono ?_; rintro e w1 ⟨rfl, hb1⟩; have HB1 := hid hb1; clear hb1)
  | go_in)
 go_ret2
 exact ⟨rfl, HB1.out.alloc HB1.out.size _⟩
set_option maxRecDepth 20000 in
theorem rcommits_nil {base : Nat} {v : Value} (h : StrRow W base v []) : Calls Tryz.prog 29 #[v] W fun e w' => e = .returned (.tuple #[.int .u64 0, .bool true]) ∧ Below W.heap.size W w' := by
 obtain ⟨ao, cap, rfl, -⟩ := h.shape
 clear h
 go_enter Tryz.func29, Tryz.ntmps29
 go_wp2_with fail
 go_ret2
 exact ⟨rfl, Below.refl _ _⟩
end
def XW (X : Nat → Prop) (s c : Nat) : Nat → Prop := fun k => X k ∨ (s ≤ k ∧ k < c)
section
variable {w W W' : World} {a : PgD} {db : Nat} {d d' : Dsk} {X X' : Nat → Prop}
theorem PD.grow {row : Option Nat} (h : PD w W a db d X) (hg : W.grownBy W' row) (hr : ∀ k, row = some k → X k) (hw : ∀ k, row = some k → w.heap.size ≤ k) (hx : ∀ k, X' k → X k ∨ W.heap.size ≤ k) (hlt : ∀ k, X' k → k < W'.heap.size) : PD w W' a db d X' := by
 obtain ⟨⟨S, T, h1, h2, h3, h4⟩, hb1, hx1⟩ := h
 refine ⟨⟨S, T, h1.keep (fun k hk => hg.block k (h1.lt k hk) (fun e => (h3 k hk).2 (hr k e.symm))), h2.keep (fun k hk => hg.block k (h2.lt k hk) (fun e => h4 k hk (hr k e.symm))), fun k hk => ⟨(h3 k hk).1, fun e => ?_⟩, fun k hk e => ?_⟩, ⟨hg.os.trans hb1.os, hg.tape.trans hb1.tape, hg.output.trans hb1.output, Nat.le_trans hb1.size hg.size, fun k hk => (hg.block k (Nat.lt_of_lt_of_le hk hb1.size) (fun e => by have := hw k e.symm; omega)).trans (hb1.block k hk)⟩, hlt⟩
 ·rcases hx k e with e | e
  ·exact (h3 k hk).2 e
  ·have := h1.lt k hk; omega
 ·rcases hx k e with e | e
  ·exact h4 k hk e
  ·have := h2.lt k hk; omega
theorem pd_start (h : PD w W a db d X) (hb : Below W.heap.size W W') : PD w W' a db d (XW X W.heap.size W'.heap.size) :=
 h.add hb (fun k hk => hk.imp id (fun e => e.1)) (fun k hk => hk.elim (fun e => Nat.lt_of_lt_of_le (h.xlt k e) hb.size) (fun e => e.2))
theorem pd_more {s : Nat} (h : PD w W a db d (XW X s W.heap.size)) (hb : Below W.heap.size W W') : PD w W' a db d (XW X s W'.heap.size) :=
 h.add hb (fun k hk => hk.elim (fun e => .inl (.inl e)) (fun e => (Nat.lt_or_ge k W.heap.size).elim (fun e2 => .inl (.inr ⟨e.1, e2⟩)) .inr)) (fun k hk => hk.elim (fun e => Nat.lt_of_lt_of_le (h.xlt k (.inl e)) hb.size) (fun e => e.2))
theorem pd_moreg {s : Nat} {row : Option Nat} (h : PD w W a db d (XW X s W.heap.size)) (hg : W.grownBy W' row) (hr : ∀ k, row = some k → X k) (hw : ∀ k, row = some k → w.heap.size ≤ k) : PD w W' a db d (XW X s W'.heap.size) :=
 h.grow hg (fun k e => .inl (hr k e)) hw (fun k hk => hk.elim (fun e => .inl (.inl e)) (fun e => (Nat.lt_or_ge k W.heap.size).elim (fun e2 => .inl (.inr ⟨e.1, e2⟩)) .inr)) (fun k hk => hk.elim (fun e => Nat.lt_of_lt_of_le (h.xlt k (.inl e)) hg.size) (fun e => e.2))
theorem pd_arm (h : PD w W a db d X) (n e : Int) (hs : d.Small 1099511627776) : Calls Tryz.prog 24 #[.pointer (some ⟨db, 0, none⟩), .int .i64 n, .int .i64 e] W fun r w' => r = .returned (.int .i64 (armM d n e).1) ∧ PD w w' a db (armM d n e).2 X ∧ ∀ k, X k → w'.heap[k]? = W.heap[k]? := by
 obtain ⟨F, hF, -, hgo⟩ := h.right
 exact (arm_any hF n e hs).mono fun r w' hh => ⟨hh.1, hgo _ _ hh.2⟩
theorem pd_power (h : PD w W a db d X) (n : Int) (hs : d.Small 1099511627776) : Calls Tryz.prog 25 #[.pointer (some ⟨db, 0, none⟩), .int .i64 n] W fun r w' => r = .returned (.int .i64 (powerM d n).1) ∧ PD w w' a db (powerM d n).2 X ∧ ∀ k, X k → w'.heap[k]? = W.heap[k]? := by
 obtain ⟨F, hF, -, hgo⟩ := h.right
 exact (power_any hF n hs).mono fun r w' hh => ⟨hh.1, hgo _ _ hh.2⟩
theorem pd_check (h : PD w W a db d X) (N : Nat) (hsm : a.d.Small N) (hN : N + 16777216 ≤ 1099511527776) : Calls Tryz.prog 26 #[.pointer (some ⟨a.pb, 0, none⟩)] W fun e w' => e = .returned (.int .i64 (pcheckM a.p a.g a.d).1) ∧ PD w w' ⟨a.pb, a.l, a.b, a.p, (pcheckM a.p a.g a.d).2.1, (pcheckM a.p a.g a.d).2.2⟩ db d X ∧ ∀ k, X k → w'.heap[k]? = W.heap[k]? := by
 obtain ⟨T, h1, h2⟩ := h.left
 refine (px_check h1 N hsm hN).mono ?_
 rintro e w' ⟨rfl, h3, h4⟩
 exact ⟨rfl, h2 w' ⟨a.pb, a.l, a.b, a.p, (pcheckM a.p a.g a.d).2.1, (pcheckM a.p a.g a.d).2.2⟩ h3 h4⟩
def CpD (w W0 W : World) (b : Nat) (d : Dsk) : Prop := ∃ F, DiskAt W b F d ∧ (∀ k, F.own k → W0.heap.size ≤ k) ∧ ∀ k, F.own k ∨ F.sh k → w.heap.size ≤ k
theorem cp_copy (h : MkD w W db d) (hs : d.Small 1099511627776) : Calls Tryz.prog 27 #[.pointer (some ⟨db, 0, none⟩)] W fun e w' => ∃ b2, e = .returned (.pointer (some ⟨b2, 0, none⟩)) ∧ CpD w W w' b2 d ∧ Below W.heap.size W w' := by
 obtain ⟨⟨F, h1, h2⟩, hb⟩ := h
 refine (copy_any h1 hs).mono ?_
 rintro e w' ⟨b2, F2, rfl, h3, h4, h5, h6⟩
 exact ⟨b2, rfl, ⟨F2, h3, h5, fun k hk => hk.elim (fun e => Nat.le_trans hb.size (h5 k e)) (fun e => h2 k (.inr (h6 k e)))⟩, h4⟩
theorem cp_crash {W0 : World} {b : Nat} (h : CpD w W0 W b d) (hb : Below W0.heap.size W0 W) (hw : w.heap.size ≤ W0.heap.size) (kv : Value) (keep : List Bool) (hk : KeepAt W kv keep) (hkb : ∀ q, keepBlk kv keep = some q → q < w.heap.size) (hs : d.Small 1099511627776) (hkl : keep.length ≤ 1099511627776) :
  Calls Tryz.prog 28 #[.pointer (some ⟨b, 0, none⟩), kv] W fun e w' => e = .returned (.int .i64 0) ∧ CpD w W0 w' b (crashM d keep) ∧ Below W0.heap.size W0 w' := by
 obtain ⟨F, h1, h2, h3⟩ := h
 refine (crash_any h1 kv keep hk (fun q hq => ⟨fun e => by have := h3 q (.inl e); have := hkb q hq; omega, by have := hkb q hq; have := hb.size; omega⟩) hs hkl).mono ?_
 rintro e w' ⟨rfl, F', h4, hst⟩
 have hz := hb.size
 refine ⟨rfl, ⟨F', h4, fun k hk => ?_, fun k hk => ?_⟩, ⟨hst.frm.os.trans hb.os, hst.frm.tape.trans hb.tape, hst.frm.output.trans hb.output, Nat.le_trans hz hst.frm.size, fun k hk => ?_⟩⟩
 ·rcases hst.own k hk with e | e
  ·exact h2 k e
  ·omega
 ·rcases hk with hk | hk
  ·rcases hst.own k hk with e | e
   ·exact h3 k (.inl e)
   ·omega
  ·rcases hst.sh k hk with e | e
   ·exact h3 k (.inr e)
   ·omega
 ·exact (hst.frm.block k (by omega) (fun e => by have := h2 k e; omega)).trans (hb.block k hk)
theorem CpD.mkd {W0 : World} {b : Nat} (h : CpD w W0 W b d) (hb : Below w.heap.size w W) : MkD w W b d := by
 obtain ⟨F, h1, h2, h3⟩ := h
 exact ⟨⟨F, h1, h3⟩, hb⟩
end
structure StatesAt (W : World) (base : Nat) (v : Value) (T : List (List (List UInt8))) (X : Nat → Prop) : Prop where
 ex : ∃ sv : List Value, sv.length = T.length ∧ W.ownsRow base 52 1 v T.length sv ∧ (∀ i (h1 : i < sv.length) (h2 : i < T.length), StrRow W base sv[i] T[i] ∧ ∀ k, sv[i].ownBlock = some k → X k)
 own : ∀ k, v.ownBlock = some k → X k
section
variable {W W' W4 : World} {base : Nat} {v v' vm : Value} {T : List (List (List UInt8))} {M : List (List UInt8)} {X X' : Nat → Prop}
theorem StatesAt.keep (h : StatesAt W base v T X) (hk : ∀ k, X k → W'.heap[k]? = W.heap[k]?) : StatesAt W' base v T X := by
 obtain ⟨⟨sv, h1, h3, h5⟩, hs⟩ := h
 exact ⟨⟨sv, h1, row_keep h3 (fun k e => hk k (hs k e)), fun i a b => ⟨row_keep (h5 i a b).1 (fun k e => hk k ((h5 i a b).2 k e)), (h5 i a b).2⟩⟩, hs⟩
theorem StatesAt.mono (h : StatesAt W base v T X) (hx : ∀ k, X k → X' k) : StatesAt W base v T X' := by
 obtain ⟨⟨sv, h1, h3, h5⟩, hs⟩ := h
 exact ⟨⟨sv, h1, h3, fun i a b => ⟨(h5 i a b).1, fun k e => hx k ((h5 i a b).2 k e)⟩⟩, fun k e => hx k (hs k e)⟩
theorem StatesAt.get (h : StatesAt W base v T X) {i : Nat} (hi : i < T.length) :
  ∃ q u c, v = .slice (some ⟨q, 0, none⟩) T.length c ∧ X q ∧ W.cell? ⟨q, i, none⟩ = some u ∧ StrRow W base u (T.getD i []) ∧ ∀ k, u.ownBlock = some k → X k := by
 obtain ⟨⟨sv, h1, h3, h5⟩, hs⟩ := h
 rcases row_form h3 with ⟨-, h0⟩ | ⟨q, c, rfl⟩
 ·omega
 ·have hc := h3.cells (g := q) rfl i sv[i] (List.getElem?_eq_getElem (by omega))
  simp only [Addr.add_lit, Nat.zero_add] at hc
  have e : T.getD i [] = T[i] := by rw [List.getD_eq_getElem?_getD, List.getElem?_eq_getElem hi]; rfl
  rw [e]
  exact ⟨q, _, c, rfl, hs q rfl, hc, (h5 i (by omega) hi).1, (h5 i (by omega) hi).2⟩
theorem row_type {w : World} {base M n size : Nat} {e T : TypeId} {v : Value} {xs : List Value} {cs : Array Value} {fr : Nat × Nat} (h : w.ownsRow base e size v n xs) (hM : w.heap[M]? = some (.cells cs T fr)) (hT : T ≠ e) : v.ownBlock ≠ some M := by
 intro ho
 rcases h.2 with ⟨rfl, -⟩ | ⟨g, cap, cur, rfl, -, hg, -⟩
 ·cases ho
 ·have e : g = M := by injection ho
  rw [e, hM] at hg
  injection hg with hg
  injection hg with _ h2 _
  exact hT h2
theorem rows_apart2 {b1 b2 n m s1 s2 : Nat} {e1 e2 : TypeId} {v1 v2 : Value} {xs ys : List Value} (h1 : W.ownsRow b1 e1 s1 v1 n xs) (h2 : W.ownsRow b2 e2 s2 v2 m ys) (hne : e1 ≠ e2) {k : Nat} (hk : v1.ownBlock = some k) : v2.ownBlock ≠ some k := by
 rcases h1.2 with ⟨rfl, -⟩ | ⟨g, cap, cur, rfl, -, hg, -⟩
 ·cases hk
 ·obtain rfl : g = k := by injection hk
  exact fun e => row_type h2 hg hne e
theorem states_push {sv : List Value} (h1 : sv.length = T.length) (h3 : W.ownsRow base 52 1 v T.length sv)
  (h5 : ∀ i (h1 : i < sv.length) (h2 : i < T.length), StrRow W base sv[i] T[i] ∧ ∀ k, sv[i].ownBlock = some k → X k)
  (hm : StrRow W base vm M) (hmx : ∀ k, vm.ownBlock = some k → X' k) (r1 : W4.ownsRow base 52 1 v' (T.length + 1) (sv ++ [vm])) (x1 : ∀ k, v'.ownBlock = some k → X' k) (hX : ∀ k, X k → X' k)
  (hk : ∀ k, k < W.heap.size → v.ownBlock ≠ some k → W4.heap[k]? = W.heap[k]?) : StatesAt W4 base v' (T ++ [M]) X' := by
 have ks : ∀ {u : Value} {l : List (List UInt8)}, StrRow W base u l → StrRow W4 base u l := fun {u l} h => row_keep h (fun k e => hk k (row_base h e).2 (fun e2 => rows_apart2 h3 h (by decide) e2 e))
 refine ⟨⟨sv ++ [vm], by simp [h1], by rw [List.length_append]; exact r1, fun i a b => ?_⟩, x1⟩
 by_cases e : i < sv.length
 ·rw [List.getElem_append_left e, List.getElem_append_left (by omega)]
  exact ⟨ks (h5 i e (by omega)).1, fun k hk2 => hX k ((h5 i e (by omega)).2 k hk2)⟩
 ·rw [List.getElem_append_right (by omega), List.getElem_append_right (by omega)]
  simp only [List.getElem_singleton]
  exact ⟨ks hm, hmx⟩
end
end Go.Proofs.YtenboibbbmeddaaGreat
