/- ReplicaSpoilt: what a spoilt letter is; put, round; what stands behind the net. -/
import Derived.Test.YtjacmfdbmfemkaaGreatRnS
import Derived.Test.YtjacmfdbmfemkaaGreatRnK
import Derived.Test.YtjacmfdbmfemkaaGreatLift
set_option linter.unusedVariables false
set_option linter.unusedSimpArgs false
namespace Go.Proofs.YtjacmfdbmfemkaaGreat
open Go.RowKit Go.Maps
set_option maxRecDepth 20000
theorem byte_ne (m : Sh) (h : mayB m = true) (hw : ShWf m) (s : List UInt8) (hs : s = putL m) (k : Nat) (hk : k < s.length) (x : UInt8) (hx : x ≠ s[k]) : (Rf.takeM (s.take k ++ [x] ++ s.drop (k + 1))).2 ≠ 0 := by
 subst hs
 have hl := Rf.putL_length m h
 generalize hp : putL m = s at *
 have h8 : s.length % 8 = 0 := by omega
 have hset : s.take k ++ [x] ++ s.drop (k + 1) = s.set k x := by
  rw [List.set_eq_take_append_cons_drop, if_pos hk, List.append_assoc]; rfl
 have e1 : s = s.take (8 * (k / 8)) ++ (s.drop (8 * (k / 8))).take 8 ++ s.drop (8 * (k / 8) + 8) := by
  rw [List.append_assoc, ← List.drop_drop, List.take_append_drop, List.take_append_drop]
 have hlb : ((s.drop (8 * (k / 8))).take 8).length = 8 := by simp; omega
 have hla : (s.take (8 * (k / 8))).length = 8 * (k / 8) := by simp; omega
 have hget : ((s.drop (8 * (k / 8))).take 8)[k - 8 * (k / 8)]'(by omega) = s[k] := by
  rw [List.getElem_take, List.getElem_drop]; congr 1; omega
 have e2 : s.set k x = s.take (8 * (k / 8)) ++ ((s.drop (8 * (k / 8))).take 8).set (k - 8 * (k / 8)) x ++ s.drop (8 * (k / 8) + 8) := by
  conv => lhs; rw [e1]
  rw [List.append_assoc, List.set_append_right _ _ (by omega), List.set_append_left _ _ (by omega), List.append_assoc, hla]
 rw [hset, e2]
 refine Rf.take_block m h hw (k / 8) _ ((s.drop (8 * (k / 8))).take 8) _ _ hla hlb (by rw [List.length_set]; exact hlb) (hp.trans e1) ?_
 intro he
 have h3 : (((s.drop (8 * (k / 8))).take 8).set (k - 8 * (k / 8)) x)[k - 8 * (k / 8)]'(by rw [List.length_set]; omega) = x := List.getElem_set_self ..
 have h4 : ((s.drop (8 * (k / 8))).take 8)[k - 8 * (k / 8)]'(by omega) = x := by
  have := List.getElem_of_eq he (i := k - 8 * (k / 8)) (by omega)
  rw [this]; exact h3
 exact hx (h4.symm.trans hget)
theorem spoilt_no (m : Sh) (h : mayB m = true) (hw : ShWf m) (a : Nat) (ha : a < (putL m).length) (b : UInt8) (hb : b ≠ 0) : (Rf.takeM ((putL m).set a ((putL m).getD a 0 ^^^ b))).2 ≠ 0 := by
 have e0 : (putL m).getD a 0 = (putL m)[a] := by simp [List.getD, ha]
 rw [e0]
 have h1 : (putL m)[a] ^^^ b ≠ (putL m)[a] := by
  intro he
  apply hb
  have := congrArg (fun z => (putL m)[a] ^^^ z) he
  simpa [← UInt8.xor_assoc] using this
 have h2 := byte_ne m h hw (putL m) rfl a ha _ h1
 have hset : (putL m).take a ++ [(putL m)[a] ^^^ b] ++ (putL m).drop (a + 1) = (putL m).set a ((putL m)[a] ^^^ b) := by
  rw [List.set_eq_take_append_cons_drop, if_pos ha, List.append_assoc]; rfl
 rw [hset] at h2
 exact h2
def lputM (m : Sh) : List UInt8 := if mayB m then putL m else []
theorem lput_any (m : Sh) (v : Value) (W : World) (h : ShIn W m v) : Calls Tryz.prog 8 #[shipV m v] W fun e w' => e = .returned (.string (bs (lputM m))) ∧ Below W.heap.size W w' := by
 have P : ∀ W', ShIn W' m v → ∃ er : Int, Calls Tryz.prog 36 #[shipV m v] W' fun e w' => e = .returned (.tuple #[.string (bs (lputM m)), .int .i64 er]) ∧ Below W'.heap.size W' w' := by
  intro W' h
  unfold lputM
  cases hm : mayB m with
  | true => exact ⟨0, Rf.refPut_yes m v W' h.at' hm h.wf⟩
  | false => exact ⟨2, Rf.refPut_no m v W' h.at' h.n h.big h.wf.2.2.1 hm⟩
 have hb1 := (Below.refl W.heap.size W).alloc (Nat.le_refl _) (.cells #[.int .u8 m.kind, .int .u64 m.epoch, .int .u64 m.k, .bool m.full, .int .i64 m.pages, v] 25)
 obtain ⟨er, P1⟩ := P _ (h.kept hb1)
 have P1 := hid P1
 clear P
 obtain ⟨l, hl⟩ : ∃ l, l = lputM m := ⟨_, rfl⟩
 rw [← hl] at P1 ⊢
 unfold shipV at P1 ⊢
 have HB := hid hb1
 clear hl hb1 h
 go_enter Tryz.func8, Tryz.ntmps8
 go_wp2_with (first
  | (go_at_call 36; refine (P1.out).mono ?_; rintro e w2 ⟨rfl, hb2⟩; have HB2 := hid hb2; clear hb2)
  | go_in)
 go_ret
 exact ⟨rfl, HB.out.trans (HB2.out.mono HB.out.size)⟩
theorem tmod2 (n : Int) : -1 ≤ n.tmod 2 ∧ n.tmod 2 ≤ 1 := by
 rcases Int.le_total 0 n with h | h
 ·rw [Int.tmod_eq_emod_of_nonneg h]; omega
 ·have e : n = -(-n) := by omega
  rw [e, Int.neg_tmod, Int.tmod_eq_emod_of_nonneg (by omega)]; omega
theorem lround_two (n : Int) (w : World) : Calls Tryz.prog 18 #[.int .i64 n, .int .i64 2] w fun e w' => ∃ r : Nat, e = .returned (.int .i64 (r : Int)) ∧ r < 2 ∧ w' = w := by
 have h1 := tmod2 n
 obtain ⟨t, ht⟩ : ∃ t, t = n.tmod 2 := ⟨_, rfl⟩
 rw [← ht] at h1
 have ht' := ht.symm
 have hw1 : IntKind.i64.wrap t = t := IntWalk.i64_in _ (by omega)
 have hw2 : IntKind.i64.wrap (t + 2) = t + 2 := IntWalk.i64_in _ (by omega)
 have h2 : (t + 2).tmod 2 = (t + 2) % 2 := Int.tmod_eq_emod_of_nonneg (by omega)
 obtain ⟨r, hr⟩ : ∃ r : Nat, (t + 2) % 2 = (r : Int) := ⟨((t + 2) % 2).toNat, by omega⟩
 have hr9 : r < 2 := by omega
 rw [hr] at h2
 have hw3 : IntKind.i64.wrap (r : Int) = (r : Int) := IntWalk.i64_in _ (by omega)
 clear hr ht
 go_enter Tryz.func18, Tryz.ntmps18
 go_wp2_with fail
 go_ret
 exact ⟨r, rfl, hr9, rfl⟩
def zT : Int × Pg × Lg × Dsk := turnGM p0 exG0 newM 2 122
theorem z_t : zT.1 = 0 := by decide +kernel
theorem z_p : ppagesM zT.2.1 zT.2.2.1 = 2 := by decide +kernel
theorem z_pr : (preadM zT.2.1 zT.2.2.1 zT.2.2.2 1).2 = 0 ∧ (preadM zT.2.1 zT.2.2.1 zT.2.2.2 2).2 = 0 := by decide +kernel
theorem z_s : zT.2.2.2.Small 10000 := ⟨by decide +kernel, by decide +kernel, by decide +kernel⟩
attribute [local irreducible] zT
def zC (pb l b : Nat) : PgD := ⟨pb, l, b, zT.2.1, zT.2.2.1, zT.2.2.2⟩
def zL : List (List UInt8) := stL zT.2.1 zT.2.2.1 zT.2.2.2
theorem z_len : zL.length ≤ 1000 := by
 unfold zL stL pgsR
 simp [z_p]
section
variable {w W W' : World} {X : Nat → Prop} {pb l b T L : Nat}
theorem z_turn (h : PgX w W pb l b p0 exG0 newM X) : Calls Tryz.prog 13 #[.pointer (some ⟨pb, 0, none⟩), .int .i64 2, .int .u8 122] W fun e w' => e = .returned (.int .i64 0) ∧ PgAtX w w' (zC pb l b) X ∧ ∀ k, X k → w'.heap[k]? = W.heap[k]? := by
 have A := turn_any h 2 122 (by omega) u_r1 100 new_small (by decide)
 have e := z_t
 unfold zC
 unfold zT at e ⊢
 rw [e] at A
 exact A
theorem z_state (h : PgAtX w W (zC pb l b) X) : Calls Tryz.prog 15 #[.pointer (some ⟨pb, 0, none⟩)] W fun e w' => ∃ v, e = .returned (.tuple #[v, .bool true]) ∧ StrRow w' W.heap.size v zL ∧ Below W.heap.size W w' := state_any h (stOk2 z_p z_pr)
theorem z_get (h : PgAtX w W (zC pb l b) X) (ht : W.heap[T]? = some (tlObj pb 0)) (xt : X T) (hwt : w.heap.size ≤ T) (s : List UInt8) (hs : s.length ≤ 1099511627776) (hn : (Rf.takeM s).2 ≠ 0) : Calls Tryz.prog 16 #[.pointer (some ⟨T, 0, none⟩), .string (bs s)] W fun e w' => ∃ pv, e = .returned (.tuple #[pv, .int .i64 (Rf.takeM s).2]) ∧ PostRow w' w.heap.size pv [] ∧ PgAtX w w' (zC pb l b) X ∧ w'.heap[T]? = some (tlObj pb 0) ∧ ∀ k, X k → k ≠ T → w'.heap[k]? = W.heap[k]? := by
 have A := tget1_any h ht xt hwt ⟨by decide, by decide⟩ s hs 10000 z_s (by decide)
 have e : tgetM 0 (zC pb l b) s = ⟨[], (Rf.takeM s).2, 0, zC pb l b⟩ := by unfold tgetM; rw [if_pos hn]
 rw [e] at A
 refine A.mono ?_
 rintro e w' ⟨pv, rfl, hg⟩
 exact ⟨pv, rfl, hg.row, hg.two.add (Below.refl _ _) (fun k hk => .inl (.inl hk)) (fun k hk => hg.two.xlt k (.inl hk)), hg.blk, hg.keep⟩
theorem z_lget (hb : W.heap[L]? = some (ldObj ⟨7, 0, 0, 0⟩)) (n : Int) (hn : 1 ≤ n ∧ n ≤ 2) (s : List UInt8) (hs : s.length ≤ 1099511627776) (hr : (Rf.takeM s).2 ≠ 0) : Calls Tryz.prog 17 #[.pointer (some ⟨L, 0, none⟩), .int .i64 n, .string (bs s)] W fun e w' => e = .returned (.int .i64 (Rf.takeM s).2) ∧ w'.heap[L]? = some (ldObj ⟨7, 0, 0, 0⟩) ∧ Frm (fun k => k = L) W w' := by
 have A := lget_any hb n s hs
 have e : lgetM ⟨7, 0, 0, 0⟩ n s = ((Rf.takeM s).2, ⟨7, 0, 0, 0⟩) := by unfold lgetM; rw [if_neg (by omega), if_pos hr]
 rw [e] at A
 exact A
end
end Go.Proofs.YtjacmfdbmfemkaaGreat
/- ReplicaSpoilt: a ship that comes in, opened. -/
namespace Go.Proofs.YtjacmfdbmfemkaaGreat
open Go.ChangeShapes Go.WideShapes Go.ChangeAt Go.RowKit Go.Deep
set_option maxRecDepth 20000
set_option maxRecDepth 20000
instance : Inhabited Img := ⟨⟨0, []⟩⟩
section
variable {H : Type} {enc : TypeId × Value → H} {w : World} {base : Nat} {sp : Nat → Bool} {held : Bool}
theorem open_image {fuel : Nat} {cs : List Value} {x : DataW H × List MemPlace} (h : DataW.trod enc Tryz.prog w base sp held fuel 145 cs = some x) :
  ∃ (n : Int) (l : List UInt8), cs = [.int .i64 n, .string (bs l)] ∧ l.length ≤ 9223372036854775807 := by
 obtain ⟨hl, n, hf⟩ := open_cells_struct Tryz.underlying145 (by kernel_rfl) (by kernel_rfl) h
 obtain ⟨a, b, rfl⟩ : ∃ a b, cs = [a, b] := by
  match cs, hl with
  | [a, b], _ => exact ⟨a, b, rfl⟩
 obtain ⟨y0, h0⟩ := hf 0 _ rfl
 obtain ⟨y1, h1⟩ := hf 1 _ rfl
 obtain ⟨p, e0, _, _⟩ := DataW.trod_int Tryz.underlying3 h0
 obtain ⟨q, e1, _, hs⟩ := DataW.trod_string Tryz.underlying9 h1
 simp at e0 e1
 refine ⟨p, q.data.toList, by rw [e0, e1]; rfl, ?_⟩
 have : q.size = q.data.toList.length := by show q.data.size = _; exact Array.length_toList.symm
 have hm : maxLen = 9223372036854775807 := rfl
 omega
theorem open_images {fuel : Nat} {cs : List Value} {x : DataW H × List MemPlace} (h : DataW.trod enc Tryz.prog w base sp held fuel 23 cs = some x) :
  ∃ (v : Value) (l : List Img), cs = [v] ∧ SImgsAt w v l ∧ l.length ≤ 9223372036854775807 ∧ ∀ z ∈ l, z.2.length ≤ 9223372036854775807 := by
 rcases open_slice Tryz.underlying23 h with ⟨rfl, _⟩ | ⟨a, len, cap, m, n, D, Pl, rfl, hb, hle, hcap, hm, _, hx⟩
 ·exact ⟨_, [], rfl, Or.inl ⟨⟨_, _, rfl⟩, rfl⟩, by simp, by simp⟩
 have hlm : len ≤ m := by rw [hm]; split <;> omega
 have hcells : Tryz.prog.cellsOf 145 = 2 := by kernel_rfl
 rw [hcells] at hx
 obtain ⟨V, hV⟩ := choose_lt (α := Img) (p := fun i z => w.cell? (a.add (i * 2)) = some (.int .i64 z.1) ∧ w.cell? (a.add (i * 2 + 1)) = some (.string (bs z.2)) ∧ z.2.length ≤ 9223372036854775807) (n := len) (fun i hi => by
  obtain ⟨cs', h1, h2⟩ := hx i (by omega)
  obtain ⟨p, q, rfl, hq⟩ := open_image h2
  obtain ⟨_, _, hc⟩ := World.cells?_some h1
  have c0 := hc 0 (by omega)
  have c1 := hc 1 (by omega)
  rw [add_add] at c0 c1
  exact ⟨⟨p, q⟩, by simpa using c0, by simpa using c1, hq⟩)
 have hm' : maxLen = 9223372036854775807 := rfl
 refine ⟨_, (List.range len).map V, rfl, ?_, by simp; omega, ?_⟩
 ·by_cases h0 : len = 0
  ·subst h0
   exact Or.inl ⟨⟨_, _, rfl⟩, rfl⟩
  ·obtain ⟨b, off, spot⟩ := a
   have hspot : spot = none := by simpa [Addr.add] using World.cell?_spot (hV 0 (by omega)).1
   subst hspot
   refine Or.inr ⟨b, off, cap, by simp, fun j hj => ?_⟩
   have hj' : j < len := by simpa using hj
   have h := hV j hj'
   simp only [Addr.add_lit] at h
   simp only [List.getElem_map, List.getElem_range]
   exact ⟨h.1, by have := h.2.1; rwa [← Nat.add_assoc] at this⟩
 ·intro z hz
  obtain ⟨i, hi, rfl⟩ := List.mem_map.1 hz
  exact (hV i (by simpa using hi)).2.2
theorem open_ship_cells {fuel : Nat} {cs : List Value} {x : DataW H × List MemPlace} (h : DataW.trod enc Tryz.prog w base sp held fuel 25 cs = some x) :
  ∃ y : Sh × Value, cs = (shCells y.1 y.2).toList ∧ ShIn w y.1 y.2 := by
 obtain ⟨hl, n, hf⟩ := open_cells_struct Tryz.underlying25 (by kernel_rfl) (by kernel_rfl) h
 obtain ⟨a0, a1, a2, a3, a4, a5, rfl⟩ : ∃ a0 a1 a2 a3 a4 a5, cs = [a0, a1, a2, a3, a4, a5] := by
  match cs, hl with
  | [a0, a1, a2, a3, a4, a5], _ => exact ⟨a0, a1, a2, a3, a4, a5, rfl⟩
 obtain ⟨y0, h0⟩ := hf 0 _ rfl
 obtain ⟨y1, h1⟩ := hf 1 _ rfl
 obtain ⟨y2, h2⟩ := hf 2 _ rfl
 obtain ⟨y3, h3⟩ := hf 3 _ rfl
 obtain ⟨y4, h4⟩ := hf 4 _ rfl
 obtain ⟨y5, h5⟩ := hf 5 _ rfl
 obtain ⟨k, e0, _, w0⟩ := DataW.trod_int Tryz.underlying5 h0
 obtain ⟨ep, e1, _, w1⟩ := DataW.trod_int Tryz.underlying22 h1
 obtain ⟨kk, e2, _, w2⟩ := DataW.trod_int Tryz.underlying22 h2
 obtain ⟨fu, e3, _⟩ := DataW.trod_bool Tryz.underlying4 h3
 obtain ⟨pg, e4, _, w4⟩ := DataW.trod_int Tryz.underlying3 h4
 obtain ⟨vs, l, e5, hi, hn, hb⟩ := open_images h5
 simp at e0 e1 e2 e3 e4 e5
 subst e0 e1 e2 e3 e4 e5
 have w0' : 0 ≤ k ∧ k ≤ 255 := by have h : (decide ((0 : Int) ≤ k) && decide (k ≤ 255)) = true := w0; simpa using h
 have w1' : 0 ≤ ep ∧ ep ≤ 18446744073709551615 := by have h : (decide ((0 : Int) ≤ ep) && decide (ep ≤ 18446744073709551615)) = true := w1; simpa using h
 have w2' : 0 ≤ kk ∧ kk ≤ 18446744073709551615 := by have h : (decide ((0 : Int) ≤ kk) && decide (kk ≤ 18446744073709551615)) = true := w2; simpa using h
 exact ⟨(⟨k, ep, kk, fu, pg, l⟩, a5), rfl, hi, hn, hb, ⟨w0'.1, by have := w0'.2; simp only; omega⟩, ⟨w1'.1, by have := w1'.2; simp only; omega⟩, ⟨w2'.1, by have := w2'.2; simp only; omega⟩⟩
theorem open_ship {b0 : Nat} {v : Value} (hval : Value.okWide Tryz.prog w .any b0 25 v) (h : ∃ d p, DataW.Trod enc Tryz.prog w base sp held 25 v d p) : ∃ y : Sh × Value, v = shipV y.1 y.2 ∧ ShIn w y.1 y.2 := by
 obtain ⟨d, p, fuel, hf⟩ := h
 obtain ⟨cs, rfl, hsz⟩ := okWide_struct Tryz.underlying25 hval
 simp only [Value.cells] at hf
 obtain ⟨y, e, hy⟩ := open_ship_cells hf
 obtain ⟨cs⟩ := cs
 have e : cs = (shCells y.1 y.2).toList := e
 subst e
 exact ⟨y, rfl, hy⟩
end
end Go.Proofs.YtjacmfdbmfemkaaGreat
