/- The network: letters on their way. -/
import Derived.Test.YtjacmfdbmfemkaaGreatPgO
import Derived.Maps.OwnSet
import Derived.Carry
set_option linter.unusedVariables false
set_option linter.unusedSimpArgs false
namespace Go.Proofs.YtjacmfdbmfemkaaGreat
open Go.RowKit Go.Maps
set_option maxRecDepth 20000
structure Ltr where
 id : Int
 frm : Int
 tto : Int
 bytes : List UInt8
 spoilt : Bool
def ltr0 : Ltr := ⟨0, 0, 0, [], false⟩
def ltrCells (x : Ltr) : Array Value := #[.int .i64 x.id, .int .i64 x.frm, .int .i64 x.tto, .string (bs x.bytes), .bool x.spoilt]
def ltrV (x : Ltr) : Value := .agg (ltrCells x)
def ltrD (x : Ltr) : DataW Unit := .agg [.lit (.int .i64 x.id), .lit (.int .i64 x.frm), .lit (.int .i64 x.tto), .lit (.string x.bytes), .lit (.bool x.spoilt)]
theorem ltrD_inj {x y : Ltr} (h : ltrD x = ltrD y) : x = y := by
 cases x; cases y
 simp only [ltrD, DataW.agg.injEq, List.cons.injEq, DataW.lit.injEq, Lit.int.injEq, Lit.string.injEq, Lit.bool.injEq, true_and, and_true] at h
 obtain ⟨h1, h2, h3, h4, h5⟩ := h
 simp [h1, h2, h3, h4, h5]
theorem ltrV_inj {x y : Ltr} (h : ltrV x = ltrV y) : x = y := by
 cases x; cases y
 simp only [ltrV, ltrCells, Value.agg.injEq, Array.mk.injEq, List.cons.injEq, Value.int.injEq, Value.string.injEq, Value.bool.injEq, true_and, and_true] at h
 obtain ⟨h1, h2, h3, h4, h5⟩ := h
 simp [h1, h2, h3, bs_inj h4, h5]
open Classical in
noncomputable def ltrElem (v : Value) : Option (DataW Unit × List MemPlace) :=
 if h : ∃ x : Ltr, v = ltrV x then some (ltrD h.choose, []) else none
theorem ltrElem_mk (x : Ltr) : ltrElem (ltrV x) = some (ltrD x, []) := by
 have hx : ∃ y : Ltr, ltrV x = ltrV y := ⟨x, rfl⟩
 unfold ltrElem
 rw [dif_pos hx, ← ltrV_inj hx.choose_spec]
theorem ltrElem_inv {v : Value} {z : DataW Unit × List MemPlace} (h : ltrElem v = some z) : ∃ x : Ltr, v = ltrV x ∧ z = (ltrD x, []) := by
 unfold ltrElem at h
 split at h
 ·rename_i hx
  exact ⟨_, hx.choose_spec, (Option.some.inj h).symm⟩
 ·cases h
def LtrSays (D : DataW Unit) (f : Int → Option Ltr) : Prop :=
 ∀ p : Int, match f p with
  | some x => Maps.has D (ik p) = true ∧ ∀ z, D.atKey (ik p) z = ltrD x
  | none => Maps.has D (ik p) = false
theorem ltr_put {D : DataW Unit} {f : Int → Option Ltr} (h : LtrSays D f) (hm : IsMap D) (n : Int) (x : Ltr) : LtrSays (D.put (ik n) (ltrD x)) (fun k => if k = n then some x else f k) := by
 intro p
 by_cases e : p = n
 ·subst e
  simp only [if_true]
  exact ⟨has_put_same hm (ik_key _) _, fun z => atKey_put_same hm (ik_key _) _ _⟩
 ·simp only [e, if_false]
  have hp := h p
  have hne : ik p ≠ ik n := ik_ne e
  revert hp
  cases f p with
  | some s => exact fun hp => ⟨by rw [has_put_other hne]; exact hp.1, fun z => by rw [atKey_put_other hne]; exact hp.2 z⟩
  | none =>
   intro hp
   show Maps.has _ (ik p) = false
   rw [has_put_other hne]
   exact hp
structure Nt where
 f : Int → Option Ltr
 s : Nat
 last : Int
def ntObj (mb : Nat) (last : Int) : Obj := .cells #[.map (some mb), .int .i64 last] 95 (0, 0)
structure NtAt (W : World) (nb mb : Nat) (t : Nt) : Prop where
 blk : W.heap[nb]? = some (ntObj mb t.last)
 map : ∃ D, W.ownsMap Tryz.prog 3 ltrElem mb 64 D ∧ LtrSays D t.f ∧ Maps.size D = t.s
 low : 0 ≤ t.last ∧ t.last ≤ 1000000
 free : ∀ k, t.last < k → t.f k = none
 room : t.s ≤ 64
theorem own_tight {P : Program} {k : TypeId} {R : Value → Option (DataW Unit × List MemPlace)} {w : World} {b n : Nat} {D : DataW Unit} (h : w.ownsMap P k R b n D) {m : Nat} (hm : Maps.size D ≤ m) : w.ownsMap P k R b m D := by
 obtain ⟨es, clock, hb, F, hs, rfl⟩ := h
 exact ⟨es, clock, hb, F, by simpa [Maps.size, length_sorted] using hm, rfl⟩
theorem NtAt.keep {W W' : World} {nb mb : Nat} {t : Nt} (h : NtAt W nb mb t) (h1 : W'.heap[nb]? = W.heap[nb]?) (h2 : W'.heap[mb]? = W.heap[mb]?) : NtAt W' nb mb t := by
 obtain ⟨D, k1, k2, k3⟩ := h.map
 exact ⟨h1.trans h.blk, ⟨D, map_keep k1 h2, k2, k3⟩, h.low, h.free, h.room⟩
theorem NtAt.nlt {W : World} {nb mb : Nat} {t : Nt} (h : NtAt W nb mb t) : nb < W.heap.size := lt_of_block h.blk
theorem NtAt.mlt {W : World} {nb mb : Nat} {t : Nt} (h : NtAt W nb mb t) : mb < W.heap.size := by
 obtain ⟨D, k1, -, -⟩ := h.map
 exact k1.lt
theorem NtAt.ne {W : World} {nb mb : Nat} {t : Nt} (h : NtAt W nb mb t) : nb ≠ mb := by
 intro e
 obtain ⟨D, ⟨es, clock, hb, -⟩, -, -⟩ := h.map
 rw [← e, h.blk] at hb
 cases hb
theorem NtAt.alloc {W : World} {nb mb : Nat} {t : Nt} (h : NtAt W nb mb t) (o : Obj) : NtAt (W.alloc o) nb mb t := h.keep (Below.heap_alloc _ o _ h.nlt) (Below.heap_alloc _ o _ h.mlt)
theorem NtAt.look {W : World} {nb mb : Nat} {t : Nt} (h : NtAt W nb mb t) {p : Int} (hp : -9223372036854775808 ≤ p ∧ p ≤ 9223372036854775807) :
  (Instr.lookup 93 (.map (some mb)) (.int .i64 p) true).run Tryz.prog W = .ok (.tuple #[ltrV ((t.f p).getD ltr0), .bool (t.f p).isSome]) W := by
 obtain ⟨D, h1, h2, -⟩ := h.map
 obtain ⟨v, ps, hrun, hR⟩ := h1.look_ok (t := 93) (e := 37) keyI Tryz.underlying93 (z := ltrV ltr0) (by kernel_rfl) (ltrElem_mk ltr0) (key := .int .i64 p) (kl := ik p) (keyOf_int_mk Tryz.underlying3 (WalkArith.wf_i64 (by omega)))
 obtain ⟨x, rfl, h4⟩ := ltrElem_inv hR
 refine hrun.trans ?_
 have h5 := (Prod.mk.inj h4).1
 have h6 := h2 p
 clear h4 hR hrun h1 h2
 cases hl : t.f p with
 | some y =>
  rw [hl] at h6
  have h6 : Maps.has D (ik p) = true ∧ ∀ z, D.atKey (ik p) z = ltrD y := h6
  rw [h6.2] at h5
  rw [h6.1, ltrD_inj h5, Option.getD_some, Option.isSome_some]
 | none =>
  rw [hl] at h6
  have h6 : Maps.has D (ik p) = false := h6
  rw [atKey_of_not_has h6] at h5
  rw [h6, ← ltrD_inj h5]
  rfl
theorem net_new (W : World) : Calls Tryz.prog 7 #[] W fun e w' => ∃ nb mb, e = .returned (.pointer (some ⟨nb, 0, none⟩)) ∧ NtAt w' nb mb ⟨fun _ => none, 0, 0⟩ ∧ W.heap.size ≤ nb ∧ W.heap.size ≤ mb ∧ Below W.heap.size W w' := by
 have hmm := @run_makeMap Tryz.prog
 go_enter Tryz.func7, Tryz.ntmps7
 go_wp2_with fail
 go_ret
 have hm := World.ownsMap_made (H := Unit) W Tryz.prog 3 ltrElem
 have hb1 : Below W.heap.size W (W.alloc (.map #[] 0)) := (Below.refl W.heap.size W).alloc (Nat.le_refl _) _
 have hb2 := hb1.alloc (Nat.le_trans (Nat.le_refl _) hb1.size) (ntObj W.heap.size 0)
 refine ⟨_, W.heap.size, rfl, ⟨?_, ⟨_, (hm.mono (Nat.zero_le 64)).alloc _, fun p => rfl, rfl⟩, ⟨by decide, by decide⟩, fun _ _ => rfl, by decide⟩, ?_, Nat.le_refl _, hb2⟩
 ·have := heap_alloc_new (W.alloc (.map #[] 0)) (ntObj W.heap.size 0)
  have e : (W.alloc (.map #[] 0)).heap.size = W.heap.size + 1 := by simp
  rw [e] at this
  exact this
 ·simp
theorem nis_any (n : Int) (W : World) : Calls Tryz.prog 37 #[.int .i64 n] W fun e w' => e = .returned (.bool (decide (0 ≤ n) && decide (n < 4))) ∧ w' = W := by
 by_cases h1 : 0 ≤ n
 ·have b1 : decide (0 ≤ n) = true := by simpa using h1
  go_enter Tryz.func37, Tryz.ntmps37
  go_wp2_with fail
  go_ret
  refine ⟨?_, rfl⟩
  simp [h1]
 ·have b1 : decide (0 ≤ n) = false := by simpa using h1
  go_enter Tryz.func37, Tryz.ntmps37
  go_wp2_with fail
  go_ret
  refine ⟨?_, rfl⟩
  simp [h1]
def ltrObj (x : Ltr) : Obj := .cells (ltrCells x) 37 (0, 0)
theorem cells5 {w : World} {b : Nat} {x : Ltr} (h : w.heap[b]? = some (ltrObj x)) : w.cell? ⟨b, 0, none⟩ = some (.int .i64 x.id) ∧ w.cell? ⟨b, 1, none⟩ = some (.int .i64 x.frm) ∧ w.cell? ⟨b, 2, none⟩ = some (.int .i64 x.tto) ∧ w.cell? ⟨b, 3, none⟩ = some (.string (bs x.bytes)) ∧ w.cell? ⟨b, 4, none⟩ = some (.bool x.spoilt) ∧ ∀ o, w.frozen? ⟨b, o, none⟩ = false := by
 refine ⟨?_, ?_, ?_, ?_, ?_, fun o => by simp [World.frozen?, h, ltrObj]⟩ <;> simp [World.cell?, h, ltrObj, ltrCells]
section
variable {W : World} {nb mb : Nat} {t : Nt}
theorem nt_cells (h : NtAt W nb mb t) : W.cell? ⟨nb, 0, none⟩ = some (.map (some mb)) ∧ W.cell? ⟨nb, 1, none⟩ = some (.int .i64 t.last) ∧ ∀ o, W.frozen? ⟨nb, o, none⟩ = false := by
 have hb := h.blk
 refine ⟨?_, ?_, fun o => by simp [World.frozen?, hb, ntObj]⟩ <;> simp [World.cell?, hb, ntObj]
def findM (t : Nt) (id : Int) : Ltr × Int := match t.f id with | some x => (x, 0) | none => (ltr0, 4)
theorem nfind_any (h : NtAt W nb mb t) (id : Int) (hid : -9223372036854775808 ≤ id ∧ id ≤ 9223372036854775807) : Calls Tryz.prog 39 #[.pointer (some ⟨nb, 0, none⟩), .int .i64 id] W fun e w' => e = .returned (.tuple #[ltrV (findM t id).1, .int .i64 (findM t id).2]) ∧ Below W.heap.size W w' := by
 have x0 := fun o => (nt_cells (h.alloc o)).1
 have hlk := fun o => (h.alloc o).look hid
 unfold findM
 cases hf : t.f id with
 | none =>
  have hl : ∀ o, (Instr.lookup 93 (.map (some mb)) (.int .i64 id) true).run Tryz.prog (W.alloc o) = .ok (.tuple #[.agg (ltrCells ltr0), .bool false]) (W.alloc o) := fun o => (hlk o).trans (by rw [hf]; rfl)
  simp only [ltrCells, ltr0] at hl ⊢
  clear hlk
  clear h hf hid
  go_enter Tryz.func39, Tryz.ntmps39
  go_wp2_with fail
  refine bodyPost_ret (v := .tuple #[ltrV ltr0, .int .i64 4]) (by simp [results, Tryz.results39, go_sem, ltrV, ltrCells, ltr0]; rfl) rfl ⟨rfl, ?_⟩
  repeat (first | exact Below.refl _ _ | refine Below.alloc ?_ (by simp) _ | refine Below.setCell ?_ (by simp) _)
 | some x =>
  have hl : ∀ o, (Instr.lookup 93 (.map (some mb)) (.int .i64 id) true).run Tryz.prog (W.alloc o) = .ok (.tuple #[.agg (ltrCells x), .bool true]) (W.alloc o) := fun o => (hlk o).trans (by rw [hf]; rfl)
  simp only [ltrCells, ltr0] at hl ⊢
  clear hlk
  clear h hf hid
  go_enter Tryz.func39, Tryz.ntmps39
  go_wp2_with fail
  refine bodyPost_ret (v := .tuple #[ltrV x, .int .i64 0]) (by simp [results, Tryz.results39, go_sem, ltrV, ltrCells, ltr0]; done) rfl ⟨rfl, ?_⟩
  repeat (first | exact Below.refl _ _ | refine Below.alloc ?_ (by simp) _ | refine Below.setCell ?_ (by simp) _)
structure NtDid (W : World) (nb mb : Nat) (t' : Nt) (w' : World) : Prop where
 at_ : NtAt w' nb mb t'
 frm : Frm (fun k => k = nb ∨ k = mb) W w'
def gone (t : Nt) (id : Int) : Nt := match t.f id with | some _ => ⟨fun k => if k = id then none else t.f k, t.s - 1, t.last⟩ | none => t
theorem ltr_del {D : DataW Unit} {f : Int → Option Ltr} (h : LtrSays D f) (n : Int) : LtrSays (D.del (ik n)) (fun k => if k = n then none else f k) := by
 intro p
 by_cases e : p = n
 ·subst e
  simp only [if_true]
  exact has_del_same
 ·simp only [e, if_false]
  have hp := h p
  have hne : ik p ≠ ik n := ik_ne e
  revert hp
  cases f p with
  | some s => exact fun hp => ⟨by rw [has_del_other hne]; exact hp.1, fun z => by rw [atKey_del_other hne]; exact hp.2 z⟩
  | none =>
   intro hp
   show Maps.has _ (ik p) = false
   rw [has_del_other hne]
   exact hp
theorem NtAt.below {w' : World} (h : NtAt W nb mb t) (hb : Below W.heap.size W w') : NtAt w' nb mb t := h.keep (hb.block _ h.nlt) (hb.block _ h.mlt)
set_option maxHeartbeats 4000000 in
theorem ndeliver_any (h : NtAt W nb mb t) (id : Int) (hI : -9223372036854775808 ≤ id ∧ id ≤ 9223372036854775807) : Calls Tryz.prog 11 #[.pointer (some ⟨nb, 0, none⟩), .int .i64 id] W fun e w' => e = .returned (.tuple #[ltrV (findM t id).1, .int .i64 (findM t id).2]) ∧ NtDid W nb mb (gone t id) w' := by
 have FD := fun o => nfind_any (h.alloc o) id hI
 unfold findM at FD ⊢
 unfold gone
 cases hf : t.f id with
 | none =>
  rw [hf] at FD
  simp only [ltrV, ltrCells, ltr0] at FD ⊢
  have FD1 := hid FD
  have H := hid h
  clear h hf hI FD
  go_enter Tryz.func11, Tryz.ntmps11
  go_wp2_with (first
   | (go_at_call 39; refine (FD1.out _).mono ?_; rintro e w1 ⟨rfl, hb1⟩; have HB := hid hb1; have r0 := fun o => cells5 (heap_alloc_old (o := o) ((hb1.block W.heap.size (by simp)).trans (heap_alloc_new W (ltrObj ltr0)))); have q0 := fun o => (r0 o).1; have q1 := fun o => (r0 o).2.1; have q2 := fun o => (r0 o).2.2.1; have q3 := fun o => (r0 o).2.2.2.1; have q4 := fun o => (r0 o).2.2.2.2.1; have q5 := fun o => (r0 o).2.2.2.2.2; clear r0 hb1)
   | go_in)
  have hB0 : Below W.heap.size W w1 := ((Below.refl W.heap.size W).alloc (Nat.le_refl _) _).trans (HB.out.mono (by simp))
  have hz := hB0.size
  refine bodyPost_ret (v := .tuple #[ltrV ltr0, .int .i64 4]) (by simp [results, Tryz.results11, go_sem, ltrV, ltrCells, ltr0, q0, q1, q2, q3, q4, q5]; done) rfl ⟨rfl, ?_⟩
  have hB1 : Below W.heap.size W w1 → ∀ w9, Below W.heap.size W w9 → NtDid W nb mb t w9 := fun _ w9 hb => ⟨H.out.below hb, Frm.of_below hb⟩
  refine hB1 hB0 _ ?_
  iterate 5 refine Below.setCell ?_ (by exact Nat.le_refl _) _
  exact hB0.alloc hz _
 | some x =>
  rw [hf] at FD
  simp only [ltrV, ltrCells] at FD ⊢
  have FD1 := hid FD
  have H := hid h
  have Hf := hid hf
  have Hkey : Hid (keyOf Tryz.prog 3 (.int .i64 id) = some (ik id)) := hid (keyOf_int_mk Tryz.underlying3 (WalkArith.wf_i64 (by omega)))
  clear h hf hI FD
  go_enter Tryz.func11, Tryz.ntmps11
  go_upto_region 3 with (first
   | (go_at_call 39; refine (FD1.out _).mono ?_; rintro e w1 ⟨rfl, hb1⟩; have HB := hid hb1; clear hb1)
   | go_in)
  have hb1 := HB.out
  have hB0 : Below W.heap.size W w1 := ((Below.refl W.heap.size W).alloc (Nat.le_refl _) _).trans (hb1.mono (by simp))
  have h1 : NtAt (w1.alloc (ltrObj x)) nb mb t := (H.out.below hB0).alloc _
  obtain ⟨x0, -, -⟩ := nt_cells h1
  have hlt := h1.mlt
  have hlt2 := H.out.mlt
  have hz0 := hB0.size
  have hzw := hb1.block W.heap.size (by simp)
  have hz1 : (w1.alloc (ltrObj x)).heap[W.heap.size]? = some (ltrObj ltr0) := heap_alloc_old (hzw.trans (heap_alloc_new W (ltrObj ltr0)))
  have hz2 : (w1.alloc (ltrObj x)).heap[w1.heap.size]? = some (ltrObj x) := heap_alloc_new _ _
  have hne1 : W.heap.size ≠ mb := fun e => by omega
  have hne2 : w1.heap.size ≠ mb := fun e => by have := hlt; omega
  obtain ⟨D, hown, hsay, hsz⟩ := h1.map
  have H1 := hid h1
  have HD := hid (And.intro hsay hsz)
  have HZ1 := hid hz1
  have HZ2 := hid hz2
  have HN := hid (And.intro hne1 hne2)
  have hBW : Below W.heap.size W (w1.alloc (ltrObj x)) := hB0.alloc hz0 _
  have HT := hid (And.intro (hown.tidy keyI) hBW)
  have hw1 : w1.heap.size < (w1.alloc (ltrObj x)).heap.size := lt_of_block hz2
  have hfr := fun o => (free_of_block hz2 o)
  clear h1 hlt hlt2 hz0 hzw hz1 hz2 hne1 hne2 hsay hsz hB0 hb1 HB FD1 hBW hfr
  dsimp only [ltrObj, ltrCells] at x0 hown H1 HT HZ1 HZ2
  generalize hW2 : (w1.alloc (.cells #[.int .i64 x.id, .int .i64 x.frm, .int .i64 x.tto, .string (bs x.bytes), .bool x.spoilt] 37 (0, 0))) = W2 at *
  clear hW2
  go_wp2_with (first
   | (at_delete; refine wpList_delete_own _ rfl _ _ 93 3 rfl 37 keyI Tryz.underlying93 ltrElem mb 64 D rfl hown _ _ rfl Hkey.out ?_; intro w2 hown2 hturn2; have HO := hid hown2; have HU := hid hturn2; obtain ⟨q0, q1, q2, q3, q4, q5⟩ := cells5 ((hturn2.grown.block _ (lt_of_block HZ1.out) (fun e => HN.out.1 (Option.some.inj e))).trans HZ1.out); obtain ⟨s0, s1, s2, s3, s4, s5⟩ := cells5 ((hturn2.grown.block _ (lt_of_block HZ2.out) (fun e => HN.out.2 (Option.some.inj e))).trans HZ2.out); clear hown2 hturn2 hown)
   | go_in)
  refine bodyPost_ret (v := .tuple #[.agg #[.int .i64 x.id, .int .i64 x.frm, .int .i64 x.tto, .string (bs x.bytes), .bool x.spoilt], .int .i64 0]) (by simp [results, Tryz.results11, go_sem, q0, q1, q2, q3, q4, q5]; done) rfl ⟨rfl, ?_⟩
  have hg := HU.out.grown
  obtain ⟨ht, hB⟩ := HT.out
  have hsz0 : W.heap.size ≤ w2.heap.size := Nat.le_trans hB.size hg.size
  have hne := H1.out.ne
  have hnlt := H.out.nlt
  have hmlt := H.out.mlt
  have hf0 : Frm (fun k => k = nb ∨ k = mb) W w2 := Frm.trans (Frm.of_below hB) ⟨hg.os, hg.tape, hg.output, hg.size, fun k hk hne => hg.block k hk (fun e => hne (.inr (Option.some.inj e)))⟩
  have hat : NtAt w2 nb mb ⟨fun k => if k = id then none else t.f k, t.s - 1, t.last⟩ := by
   refine ⟨(hg.block nb H1.out.nlt (fun e => hne (Option.some.inj e))).trans H1.out.blk, ⟨_, HO.out, ltr_del HD.out.1 id, ?_⟩, H.out.low, fun k hk => ?_, ?_⟩
   ·have hs := HD.out.2
    have := Maps.size_del (k := ik id) ht
    have hh := HD.out.1 id
    rw [Hf.out] at hh
    rw [hh.1] at this
    simp at this
    dsimp only
    omega
   ·dsimp only
    split
    ·rfl
    ·exact H.out.free k hk
   ·have := H.out.room
    dsimp only
    omega
  have hlast : Frm (fun k => k = nb ∨ k = mb) W (((((w2.setCell ⟨W.heap.size, 0, none⟩ (.int .i64 x.id)).setCell ⟨W.heap.size, 1, none⟩ (.int .i64 x.frm)).setCell ⟨W.heap.size, 2, none⟩ (.int .i64 x.tto)).setCell ⟨W.heap.size, 3, none⟩ (.string (bs x.bytes))).setCell ⟨W.heap.size, 4, none⟩ (.bool x.spoilt)) := by
   iterate 5 refine Frm.setCell ?_ (.inr (by exact Nat.le_refl _)) _
   exact hf0
  refine ⟨hat.keep ?_ ?_, hlast⟩
  ·iterate 5 refine (Below.heap_setCell _ _ _ _ (by exact Nat.ne_of_lt hnlt)).trans ?_
   rfl
  ·iterate 5 refine (Below.heap_setCell _ _ _ _ (by exact Nat.ne_of_lt hmlt)).trans ?_
   rfl
def spoil (x : Ltr) (a : Nat) (b : UInt8) : Ltr := { x with bytes := x.bytes.set a (x.bytes.getD a 0 ^^^ b), spoilt := true }
def spoilT (t : Nt) (id : Int) (y : Ltr) : Nt := ⟨fun k => if k = id then some y else t.f k, t.s, t.last⟩
theorem xor_byte (a b : UInt8) : bits .xor .u8 (a.toNat : Int) (b.toNat : Int) = ((a ^^^ b).toNat : Int) := by
 rw [u8_xor_nat _ _ a.toNat_lt b.toNat_lt, UInt8.toNat_xor]
theorem spoilt_string {W3 : World} {B2 cap a : Nat} {l : List UInt8} {v : UInt8} (ha : a < l.length) (hr : W3.rangeAt B2 0 (cellsOf l)) :
  (convert 99 9 (.slice (some ⟨B2, 0, none⟩) l.length cap)).run Tryz.prog (W3.setCell ⟨B2, a, none⟩ (.int .u8 (v.toNat : Int))) = .ok (.string (bs (l.set a v))) (W3.setCell ⟨B2, a, none⟩ (.int .u8 (v.toNat : Int))) := by
 have hc : ∀ i, i < l.length → W3.cell? ⟨B2, i, none⟩ = some (.int .u8 ((l.getD i 0).toNat : Int)) := fun i hi => by
  have := hr i (.int .u8 ((l.getD i 0).toNat : Int)) (by simp [cellsOf, List.getD, hi])
  simpa using this
 have := run_convert_cells (P := Tryz.prog) (W3.setCell ⟨B2, a, none⟩ (.int .u8 (v.toNat : Int))) 99 9 5 Tryz.underlying99 Tryz.underlying5 Tryz.underlying9 B2 0 l.length cap ((l.set a v).map fun c => (c.toNat : Int)) (by simp) (fun i hi => by
  rw [Nat.zero_add]
  by_cases e : i = a
  ·subst e
   have h0 := hc i hi
   refine (World.cell?_setCell_same' W3 _ _ (by rw [h0]; rfl)).trans ?_
   simp [List.getD, hi]
  ·have hne : (⟨B2, a, none⟩ : Addr) ≠ ⟨B2, i, none⟩ := by
    intro h
    injection h with _ h _
    exact e h.symm
   have h1 := World.cell?_setCell_other (w := W3) (v := .int .u8 (v.toNat : Int)) (h := hne)
   rw [h1, hc i hi]
   have e' : ¬ a = i := fun h => e h.symm
   simp [List.getD, hi, e', List.getElem?_set])
 rw [this]
 congr 2
 simp [Function.comp_def, List.map_map]
set_option maxHeartbeats 4000000 in
theorem nspoil_good (h : NtAt W nb mb t) (id : Int) (hI : -9223372036854775808 ≤ id ∧ id ≤ 9223372036854775807) {x : Ltr} (hf : t.f id = some x) (hs : x.spoilt = false) (at_ : Nat) (ha : at_ < x.bytes.length) (hx : x.bytes.length ≤ 262144) (by_ : UInt8) (hy : by_ ≠ 0) :
  Calls Tryz.prog 10 #[.pointer (some ⟨nb, 0, none⟩), .int .i64 id, .int .i64 at_, .int .u8 by_.toNat] W fun e w' => e = .returned (.int .i64 0) ∧ NtDid W nb mb (spoilT t id (spoil x at_ by_)) w' := by
 have FD := nfind_any h id hI
 unfold findM at FD
 rw [hf] at FD
 simp only [ltrV, ltrCells, hs] at FD
 have FD1 := hid FD
 have H := hid h
 have Hkey : Hid (keyOf Tryz.prog 3 (.int .i64 id) = some (ik id)) := hid (keyOf_int_mk Tryz.underlying3 (WalkArith.wf_i64 (by omega)))
 have b1 : decide ((at_ : Int) < 0) = false := by simp
 have b2 : decide (x.bytes.length ≤ at_) = false := by simp; omega
 have b3 : ((by_.toNat : Int) == 0) = false := by
  have : by_.toNat ≠ 0 := fun e => hy (UInt8.toNat_inj.1 e)
  simp; omega
 have Ha := hid (And.intro ha hx)
 have Hs := hid hs
 have Hf := hid hf
 obtain ⟨l, hl⟩ : ∃ l, l = x.bytes := ⟨_, rfl⟩
 rw [← hl] at FD1 b2 Ha
 have Hl := hid hl
 clear h hI FD hf hs ha hx hy hl
 go_enter Tryz.func10, Tryz.ntmps10
 go_upto_region 10 with (first
  | (go_at_call 39; refine (FD1.out).mono ?_; rintro e w1 ⟨rfl, hb1⟩; have HB := hid hb1; clear hb1)
  | go_in)
 have hb1 := HB.out
 have hz2 : (w1.alloc (ltrObj x)).heap[w1.heap.size]? = some (ltrObj x) := heap_alloc_new _ _
 have hBW : Below W.heap.size W (w1.alloc (ltrObj x)) := hb1.alloc hb1.size _
 dsimp only [ltrObj, ltrCells] at hz2 hBW
 rw [← Hl.out, Hs.out] at hz2 hBW
 obtain ⟨B1, hB1⟩ : ∃ B1, B1 = w1.heap.size := ⟨_, rfl⟩
 have hB1W : W.heap.size ≤ B1 := by rw [hB1]; exact hb1.size
 rw [← hB1] at hz2 ⊢
 generalize hW2 : (w1.alloc (.cells #[.int .i64 x.id, .int .i64 x.frm, .int .i64 x.tto, .string (bs l), .bool false] 37 (0, 0))) = W2 at *
 clear hW2 hb1 HB FD1 hB1
 have HB1W := hid hB1W
 have HBW := hid hBW
 have HZ2 := hid hz2
 have z3 := cell_of_block hz2 3
 replace z3 : W2.cell? ⟨B1, 3, none⟩ = some (.string (bs l)) := z3
 clear hB1W hBW hz2
 refine wp_region_lit ?_
 refine wpList_value (w' := W2) rfl (.pointer (some ⟨B1, 3, none⟩)) (by go_simp) ?_
 simp only [Act.put, List.setIfInBounds_toArray, List.set_cons_zero, List.set_cons_succ]
 refine wpList_value (w' := W2) rfl (.string (bs l)) (by go_simp) ?_
 simp only [Act.put, List.setIfInBounds_toArray, List.set_cons_zero, List.set_cons_succ]
 refine wpList_value rfl _ (exec_convert rfl (by rfl) (run_bytes_of_string _ 9 99 5 _ Tryz.underlying9 Tryz.underlying99 Tryz.underlying5)) ?_
 obtain ⟨cap, hcap⟩ : ∃ cap, cap = grownCap W2 (bs l).size 0 5 := ⟨_, rfl⟩
 rw [← hcap]
 clear hcap
 have hB2 := heap_alloc_new W2.drew (.cells (bytesRow (bs l) cap) 5 ((bytesRow (bs l) cap).size, (bytesRow (bs l) cap).size + 1))
 have hB2 : _ = _ := hB2
 have hra : (W2.drew.alloc (.cells (bytesRow (bs l) cap) 5 ((bytesRow (bs l) cap).size, (bytesRow (bs l) cap).size + 1))).rangeAt W2.heap.size 0 (cellsOf l) := bytesRow_range (l := l) (cap := cap) rfl hB2
 have hbel : Below W2.heap.size W2 (W2.drew.alloc (.cells (bytesRow (bs l) cap) 5 ((bytesRow (bs l) cap).size, (bytesRow (bs l) cap).size + 1))) := (Below.refl _ W2).drew.alloc (Nat.le_refl _) _
 have hfz : ∀ j, j < (bytesRow (bs l) cap).size → (W2.drew.alloc (.cells (bytesRow (bs l) cap) 5 ((bytesRow (bs l) cap).size, (bytesRow (bs l) cap).size + 1))).frozen? ⟨W2.heap.size, j, none⟩ = false := fun j hj => by
  refine (World.frozen?_alloc_mark W2.drew _ _ _ _ j).trans ?_
  simp; omega
 have hsz : l.length ≤ (bytesRow (bs l) cap).size := by
  simp [bytesRow, bs]
 obtain ⟨W3, hW3⟩ : ∃ W3, W3 = W2.drew.alloc (.cells (bytesRow (bs l) cap) 5 ((bytesRow (bs l) cap).size, (bytesRow (bs l) cap).size + 1)) := ⟨_, rfl⟩
 rw [← hW3] at hra hbel hfz hB2 ⊢
 simp only [Act.put, List.setIfInBounds_toArray, List.set_cons_zero, List.set_cons_succ]
 rw [bs_size]
 refine wpList_value (w' := W3) rfl (.slice (some ⟨W2.heap.size, 0, none⟩) l.length cap) (by go_simp) ?_
 simp only [Act.put, List.setIfInBounds_toArray, List.set_cons_zero, List.set_cons_succ]
 obtain ⟨B2, hB2e⟩ : ∃ B2, B2 = W2.heap.size := ⟨_, rfl⟩
 rw [← hB2e] at hra hfz ⊢
 have c0 : W3.cell? ⟨B2, at_, none⟩ = some (.int .u8 ((l.getD at_ 0).toNat : Int)) := by
  have := hra at_ (.int .u8 ((l.getD at_ 0).toNat : Int)) (by simp [cellsOf, List.getD, Ha.out.1])
  simpa using this
 have c1 := hfz at_ (by have := Ha.out.1; omega)
 have hal : at_ < l.length := Ha.out.1
 have HRA := hid hra
 have HBE := hid hbel
 have HSZ := hid hsz
 have HB2e := hid hB2e
 clear hra hfz hbel hsz hB2e hW3 hB2
 refine wpList_nil ?_
 go_upto_region 12 with go_in
 have ev : l[at_] = l.getD at_ 0 := by simp [List.getD, hal]
 rw [ev, xor_byte]
 obtain ⟨v, hv⟩ : ∃ v, v = l.getD at_ 0 ^^^ by_ := ⟨_, rfl⟩
 rw [← hv]
 have kd := spoilt_string (v := v) (cap := cap) hal HRA.out
 have hB12 : B1 ≠ B2 := by rw [HB2e.out]; exact Nat.ne_of_lt (lt_of_block HZ2.out)
 have hz4 : (W3.setCell ⟨B2, at_, none⟩ (.int .u8 (v.toNat : Int))).heap[B1]? = _ := (Below.heap_setCell _ _ _ _ hB12).trans ((HBE.out.block B1 (lt_of_block HZ2.out)).trans HZ2.out)
 have hf4 : Below W.heap.size W (W3.setCell ⟨B2, at_, none⟩ (.int .u8 (v.toNat : Int))) := ((HBW.out.trans (HBE.out.mono (by have := HBW.out.size; omega)))).setCell (by rw [HB2e.out]; exact HBW.out.size) _
 generalize W3.setCell ⟨B2, at_, none⟩ (.int .u8 (v.toNat : Int)) = W4 at *
 obtain ⟨y0, y1, y2, y3, y4, y5⟩ := cells5 (x := ⟨x.id, x.frm, x.tto, l, false⟩) hz4
 have HZ4 := hid hz4
 have HF4 := hid hf4
 have HV := hid hv
 have HAL := hid hal
 clear hz4 hf4 hv hal ev c0 c1 hB12 hB2
 go_upto_region 13 with go_in
 have hz5 := heap_setCell_same (heap_setCell_same HZ4.out 3 (.string (bs (l.set at_ v)))) 4 (.bool true)
 have hf5 : Below W.heap.size W ((W4.setCell ⟨B1, 3, none⟩ (.string (bs (l.set at_ v)))).setCell ⟨B1, 4, none⟩ (.bool true)) := (HF4.out.setCell HB1W.out _).setCell HB1W.out _
 generalize (W4.setCell ⟨B1, 3, none⟩ (.string (bs (l.set at_ v)))).setCell ⟨B1, 4, none⟩ (.bool true) = W5 at *
 clear y0 y1 y2 y3 y4 y5
 obtain ⟨y0, y1, y2, y3, y4, y5⟩ := cells5 (x := ⟨x.id, x.frm, x.tto, l.set at_ v, true⟩) hz5
 dsimp only at y0 y1 y2 y3 y4
 have h5 := H.out.below hf5
 obtain ⟨x0, -, -⟩ := nt_cells h5
 obtain ⟨D, hown, hsay, hsz⟩ := h5.map
 have H5 := hid h5
 have HD := hid (And.intro hsay hsz)
 have HT := hid (And.intro (hown.tidy keyI) hown.isMap)
 have HF5 := hid hf5
 have HSl := hid (show Maps.size D ≤ 64 by rw [hsz]; exact H.out.room)
 clear h5 hsay hsz hz5 hf5 kd
 have hown : W5.drew.ownsMap Tryz.prog 3 ltrElem mb 64 D := hown.drew
 refine region_tail 6 (fun W => W = W5.drew) (by kernel_rfl) (by kernel_rfl) rfl ?_
 rintro W rfl
 simp only [List.take_succ_cons, List.take_zero, List.drop_succ_cons, List.drop_zero]
 repeat still_step
 refine wpStill_nil ?_
 go_wp2_with (first
  | (at_mapUpdate; refine wpList_mapUpdate_own _ rfl _ _ _ 93 rfl 3 37 keyI Tryz.underlying93 _ mb 64 D rfl hown (by decide) _ _ (ik id) rfl rfl Hkey.out _ [] (ltrElem_mk ⟨x.id, x.frm, x.tto, l.set at_ v, true⟩) ?_; intro w5 hown5 hgrow5; have Hown5 := hid hown5; have Hgrow5 := hid hgrow5; clear hown5 hgrow5 hown)
  | go_in)
 go_ret
 refine ⟨rfl, ?_⟩
 have hg := Hgrow5.out
 have hne := H5.out.ne
 have hx : (⟨x.id, x.frm, x.tto, l.set at_ v, true⟩ : Ltr) = spoil x at_ by_ := by
  unfold spoil
  rw [HV.out, Hl.out]
 have ho := Hown5.out
 rw [hx] at ho
 refine ⟨⟨(hg.block nb H5.out.nlt (fun e => hne (Option.some.inj e))).trans H5.out.blk, ⟨_, own_tight ho ?_, ltr_put HD.out.1 HT.out.2 id _, ?_⟩, H.out.low, fun k hk => ?_, H.out.room⟩, Frm.trans (Frm.of_below HF5.out) ⟨hg.os, hg.tape, hg.output, hg.size, fun k hk hne => hg.block k hk (fun e => hne (.inr (Option.some.inj e)))⟩⟩
 ·rw [Maps.size_put HT.out.1]
  have := HSl.out
  have h1 := HD.out.1 id
  rw [Hf.out] at h1
  rw [if_pos h1.1]
  exact this
 ·rw [Maps.size_put HT.out.1]
  have h1 := HD.out.1 id
  rw [Hf.out] at h1
  rw [if_pos h1.1]
  exact HD.out.2
 ·have h1 := H.out.free k hk
  show (if k = id then _ else t.f k) = none
  by_cases e : k = id
  ·rw [e, Hf.out] at h1
   cases h1
  ·rw [if_neg e]
   exact h1
def addT (t : Nt) (x : Ltr) : Nt := ⟨fun k => if k = t.last + 1 then some { x with id := t.last + 1 } else t.f k, t.s + 1, t.last + 1⟩
def addM (t : Nt) (x : Ltr) : Int × Int × Nt := if t.s = 64 then (0, 8, t) else (t.last + 1, 0, addT t x)
set_option maxHeartbeats 4000000 in
theorem nadd_any (h : NtAt W nb mb t) (x : Ltr) (hL : t.last < 1000000) :
  Calls Tryz.prog 38 #[.pointer (some ⟨nb, 0, none⟩), ltrV x] W fun e w' => e = .returned (.tuple #[.int .i64 (addM t x).1, .int .i64 (addM t x).2.1]) ∧ NtDid W nb mb (addM t x).2.2 w' := by
 have hn0 : t.f (t.last + 1) = none := h.free _ (by omega)
 have hlow := h.low
 have hroom := h.room
 have h1 := h.alloc (ltrObj x)
 have hb0 : Below W.heap.size W (W.alloc (ltrObj x)) := (Below.refl _ W).alloc (Nat.le_refl _) _
 have hz := heap_alloc_new W (ltrObj x)
 unfold addM
 obtain ⟨D, hown, hsay, hsz⟩ := h1.map
 have HW := hid h
 have H := hid h1
 have HD := hid (And.intro hsay hsz)
 have HT := hid (And.intro (hown.tidy keyI) hown.isMap)
 have HB := hid hb0
 have HZ := hid hz
 simp only [ltrV]
 dsimp only [ltrObj] at hown H HB HZ
 have HO := hid hown
 by_cases hs : t.s = 64
 ·rw [if_pos hs]
  have b1 : ((Maps.size D : Int) == 64) = true := by rw [hsz, hs]; rfl
  obtain ⟨x0, x1, xf⟩ := nt_cells h1
  dsimp only [ltrObj] at x0 x1 xf
  clear h h1 hn0 hlow hroom hb0 hz hown hsay hsz hs
  go_enter Tryz.func38, Tryz.ntmps38
  simp only [ltrCells] at x0 x1 xf H HO HB HZ ⊢
  go_wp2_with (first
   | (at_len; refine wpList_len_own _ rfl _ 93 rfl 3 37 Tryz.underlying93 _ mb 64 D rfl HO.out ?_)
   | go_in)
  refine bodyPost_ret (v := .tuple #[.int .i64 0, .int .i64 8]) (by simp [results, Tryz.results38, go_sem]) rfl ?_
  exact ⟨rfl, HW.out.below HB.out, Frm.of_below HB.out⟩
 ·rw [if_neg hs]
  have b1 : ((Maps.size D : Int) == 64) = false := by rw [hsz]; simpa using (by omega : (t.s : Int) ≠ 64)
  have hw : IntKind.i64.wrap (t.last + 1) = t.last + 1 := IntWalk.i64_in _ (by omega)
  obtain ⟨x0, x1, xf⟩ := nt_cells h1
  dsimp only [ltrObj] at x0 x1 xf
  have Hs := hid hs
  have Hn0 := hid hn0
  have HL := hid hL
  have Hkey : Hid (keyOf Tryz.prog 3 (.int .i64 (t.last + 1)) = some (ik (t.last + 1))) := hid (keyOf_int_mk Tryz.underlying3 (WalkArith.wf_i64 (by omega)))
  have hnW := h.nlt
  have HnW := hid hnW
  have hmW := h.mlt
  have HmW := hid hmW
  clear h h1 hn0 hlow hroom hb0 hz hown hsay hsz hs hL hnW hmW
  go_enter Tryz.func38, Tryz.ntmps38
  simp only [ltrCells] at x0 x1 xf H HO HB HZ ⊢
  go_upto_region 5 with (first
   | (at_len; refine wpList_len_own _ rfl _ 93 rfl 3 37 Tryz.underlying93 _ mb 64 D rfl HO.out ?_)
   | go_in)
  generalize W.alloc (.cells #[.int .i64 x.id, .int .i64 x.frm, .int .i64 x.tto, .string (bs x.bytes), .bool x.spoilt] 37 (0, 0)) = W1 at *
  have hne0 : W.heap.size ≠ nb := by have := HnW.out; omega
  have hne0' : nb ≠ W.heap.size := fun e => hne0 e.symm
  have hnm := H.out.ne
  have hnm' : mb ≠ nb := fun e => hnm e.symm
  have hme0 : mb ≠ W.heap.size := by have := HmW.out; omega
  have hzn : ((W1.setCell ⟨nb, 1, none⟩ (.int .i64 (t.last + 1))).setCell ⟨W.heap.size, 0, none⟩ (.int .i64 (t.last + 1))).heap[nb]? = some (ntObj mb (t.last + 1)) :=
   (Below.heap_setCell _ ⟨W.heap.size, 0, none⟩ _ nb hne0').trans (heap_setCell_same H.out.blk 1 _)
  have hzx := heap_setCell_same ((Below.heap_setCell W1 ⟨nb, 1, none⟩ (.int .i64 (t.last + 1)) W.heap.size hne0).trans HZ.out) 0 (.int .i64 (t.last + 1))
  have hzm : ((W1.setCell ⟨nb, 1, none⟩ (.int .i64 (t.last + 1))).setCell ⟨W.heap.size, 0, none⟩ (.int .i64 (t.last + 1))).heap[mb]? = W1.heap[mb]? := (Below.heap_setCell _ ⟨W.heap.size, 0, none⟩ _ mb hme0).trans (Below.heap_setCell _ ⟨nb, 1, none⟩ _ mb hnm')
  have hF : Frm (fun k => k = nb ∨ k = mb) W ((W1.setCell ⟨nb, 1, none⟩ (.int .i64 (t.last + 1))).setCell ⟨W.heap.size, 0, none⟩ (.int .i64 (t.last + 1))) := ((Frm.of_below HB.out).setCell (.inl (.inl rfl)) _).setCell (.inr (Nat.le_refl _)) _
  generalize (W1.setCell ⟨nb, 1, none⟩ (.int .i64 (t.last + 1))).setCell ⟨W.heap.size, 0, none⟩ (.int .i64 (t.last + 1)) = W2 at *
  have hown2 := map_keep HO.out hzm
  clear x0 x1 xf
  have x0 : W2.cell? ⟨nb, 0, none⟩ = some (.map (some mb)) := (cell_of_block hzn 0).trans rfl
  obtain ⟨y0, y1, y2, y3, y4, y5⟩ := cells5 (x := { x with id := t.last + 1 }) hzx
  dsimp only at y0 y1 y2 y3 y4
  have hown : W2.drew.ownsMap Tryz.prog 3 ltrElem mb 64 D := hown2.drew
  have HZN := hid hzn
  have HF := hid hF
  have HN := hid (And.intro hnm hnm')
  have Hzx := hid hzx
  have Hne := hid (show W.heap.size ≠ mb from fun e => hme0 e.symm)
  clear hne0 hne0' hnm hnm' hme0 hzn hzx hzm hF hown2
  refine region_tail 7 (fun W => W = W2.drew) (by kernel_rfl) (by kernel_rfl) rfl ?_
  rintro W3 rfl
  simp only [List.take_succ_cons, List.take_zero, List.drop_succ_cons, List.drop_zero]
  repeat still_step
  refine wpStill_nil ?_
  go_wp2_with (first
   | (at_mapUpdate; refine wpList_mapUpdate_own _ rfl _ _ _ 93 rfl 3 37 keyI Tryz.underlying93 _ mb 64 D rfl hown (by decide) _ _ (ik (t.last + 1)) rfl rfl Hkey.out _ [] (ltrElem_mk { x with id := t.last + 1 }) ?_; intro w5 hown5 hgrow5; have Hown5 := hid hown5; have Hgrow5 := hid hgrow5; have z0 := (hgrow5.block W.heap.size (lt_of_block (Hzx.out)) (fun e => Hne.out (Option.some.inj e))).trans Hzx.out; obtain ⟨q0, -, -, -, -, q5⟩ := cells5 (x := { x with id := t.last + 1 }) z0; dsimp only at q0; clear hown5 hgrow5 hown z0)
   | go_in)
  refine bodyPost_ret (v := .tuple #[.int .i64 (t.last + 1), .int .i64 0]) (by simp [results, Tryz.results38, go_sem]) rfl ?_
  refine ⟨rfl, ?_⟩
  have hg := Hgrow5.out
  have hsz := HD.out.2
  have hput : Maps.size (D.put (ik (t.last + 1)) (ltrD { x with id := t.last + 1 })) = t.s + 1 := by
   rw [Maps.size_put HT.out.1]
   have h1 := HD.out.1 (t.last + 1)
   rw [Hn0.out] at h1
   have h1 : Maps.has D (ik (t.last + 1)) = false := h1
   rw [h1, hsz]
   rfl
  have hroom := HW.out.room
  have hs := Hs.out
  have hL := HL.out
  have hlow := HW.out.low
  refine ⟨⟨(hg.block nb (lt_of_block HZN.out) (fun e => HN.out.1 (Option.some.inj e))).trans HZN.out, ⟨_, own_tight Hown5.out ?_, ltr_put HD.out.1 HT.out.2 _ _, hput⟩, ⟨?_, ?_⟩, fun k hk => ?_, ?_⟩, Frm.trans HF.out ⟨hg.os, hg.tape, hg.output, hg.size, fun k hk hne => hg.block k hk (fun e => hne (.inr (Option.some.inj e)))⟩⟩
  ·rw [hput]; omega
  ·show 0 ≤ t.last + 1
   omega
  ·show t.last + 1 ≤ 1000000
   omega
  ·have hk : t.last + 1 < k := hk
   show (if k = t.last + 1 then _ else t.f k) = none
   rw [if_neg (by omega)]
   exact HW.out.free k (by omega)
  ·show t.s + 1 ≤ 64
   omega
set_option maxHeartbeats 4000000 in
theorem nsend_any (h : NtAt W nb mb t) (frm tto : Int) (s : List UInt8) (hL : t.last < 1000000) (h1 : 0 ≤ frm ∧ frm < 4) (h2 : 0 ≤ tto ∧ tto < 4) (hs : s.length ≤ 262144) :
  Calls Tryz.prog 9 #[.pointer (some ⟨nb, 0, none⟩), .int .i64 frm, .int .i64 tto, .string (bs s)] W fun e w' => e = .returned (.tuple #[.int .i64 (addM t ⟨0, frm, tto, s, false⟩).1, .int .i64 (addM t ⟨0, frm, tto, s, false⟩).2.1]) ∧ NtDid W nb mb (addM t ⟨0, frm, tto, s, false⟩).2.2 w' := by
 have AD := nadd_any h ⟨0, frm, tto, s, false⟩ hL
 obtain ⟨m, hm⟩ : ∃ m, m = addM t ⟨0, frm, tto, s, false⟩ := ⟨_, rfl⟩
 rw [← hm] at AD ⊢
 simp only [ltrV, ltrCells] at AD
 have AD := hid AD
 have I1 := fun w => nis_any frm w
 have I2 := fun w => nis_any tto w
 have e1 : (decide (0 ≤ frm) && decide (frm < 4)) = true := by simp [h1]
 have e2 : (decide (0 ≤ tto) && decide (tto < 4)) = true := by simp [h2]
 rw [e1] at I1
 rw [e2] at I2
 have I1 := hid I1
 have I2 := hid I2
 have b1 : decide ((s.length : Int) > 262144) = false := by simp; omega
 have b2 : decide (262144 < (s.length : Int)) = false := by simp; omega
 have b3 : decide (262144 < s.length) = false := by simp; omega
 clear h hm h1 h2 hs e1 e2 hL
 go_enter Tryz.func9, Tryz.ntmps9
 go_wp2_with (first
  | (go_at_call 37; first | (refine (I1.out _).mono ?_; rintro e w1 ⟨rfl, hw⟩; obtain rfl := hw.symm) | (refine (I2.out _).mono ?_; rintro e w1 ⟨rfl, hw⟩; obtain rfl := hw.symm))
  | (go_at_call 38; refine (AD.out).mono ?_; rintro e w2 ⟨rfl, hd⟩; have HD := hid hd; clear hd)
  | go_in)
 refine bodyPost_ret (v := .tuple #[.int .i64 m.1, .int .i64 m.2.1]) (by simp [results, Tryz.results9, go_sem]) rfl ?_
 exact ⟨rfl, HD.out⟩
end
