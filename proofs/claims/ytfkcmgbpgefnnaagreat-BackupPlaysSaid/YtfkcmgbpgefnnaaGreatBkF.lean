import Derived.Test.YtfkcmgbpgefnnaaGreatSpE
import Derived.Test.YtfkcmgbpgefnnaaGreatBkA
import Derived.Test.YtfkcmgbpgefnnaaGreatBkD
set_option linter.unusedVariables false
set_option linter.unusedSimpArgs false
namespace Go.Proofs.YtfkcmgbpgefnnaaGreat
open Go.RowKit Go.Maps
set_option maxRecDepth 20000
def ureadyM (p : Pg) (g : Lg) (d : Dsk) : Hdr × Int := if p.now ≠ none then (hdr0, 9) else readHM p g d
def haveM (p : Pg) (g : Lg) (d : Dsk) : Int × Int := if (ureadyM p g d).2 ≠ 0 then (0, (ureadyM p g d).2) else ((ureadyM p g d).1.commits, 0)
theorem ureadyM_wf (p : Pg) (g : Lg) (d : Dsk) : (ureadyM p g d).1.Wf := by
 unfold ureadyM
 split
 ·exact hdr0_wf
 ·exact readHM_wf p g d
section
variable {w W W' : World} {pb l b : Nat} {p p' : Pg} {g g' : Lg} {d d' : Dsk} {X X' : Nat → Prop}
set_option maxHeartbeats 8000000 in
theorem uready_any (h : PgX w W pb l b p g d X) : Calls Tryz.prog 71 #[.pointer (some ⟨pb, 0, none⟩)] W fun e w' => e = .returned (.tuple #[hdrV (ureadyM p g d).1, .int .i64 (ureadyM p g d).2]) ∧ PgX w w' pb l b p g d X ∧ ∀ k, X k → w'.heap[k]? = W.heap[k]? := by
 have hz := ze W (.cells #[.int .i64 0, .int .i64 0, .int .u64 0, .int .i64 0, .int .i64 0, .int .i64 0, .int .i64 0, .int .i64 0, .int .i64 0, .int .i64 0, .int .i64 0] 115)
 have hb := (Below.refl W.heap.size W).alloc (Nat.le_refl _) (.cells #[.int .i64 0, .int .i64 0, .int .u64 0, .int .i64 0, .int .i64 0, .int .i64 0, .int .i64 0, .int .i64 0, .int .i64 0, .int .i64 0, .int .i64 0] 115)
 have hxa := px_add (X' := fun k => X k ∨ k = W.heap.size) h hb (fun k hk => hk.elim .inl (fun e => .inr (Nat.le_of_eq e.symm))) (fun k hk => hk.elim (fun e => Nat.lt_of_lt_of_le (h.xlt k e) hb.size) (fun e => by rw [e]; exact zc hz))
 have WR := px_write hxa 0 [] (by decide) (by simp)
 rw [write0] at WR
 have HX := hid h
 have HB := hid hb
 have Hz := hid hz
 clear hb hz hxa
 unfold ureadyM
 cases hn : p.now with
 | some t =>
  rw [if_neg (by rw [hn]; simp)] at WR
  rw [if_pos (by simp)]
  replace WR := hid WR
  clear h hn
  go_enter Tryz.func71, Tryz.ntmps71
  go_upto_region 4 with (first
   | (go_at_call 36; refine (WR.out).mono ?_; rintro e w4 ⟨rfl, hx, hk⟩; have HX4 := hid hx; have HK4 := hid hk; clear hx hk)
   | go_in)
  have hz4 : w4.heap[W.heap.size]? = some (.cells #[.int .i64 0, .int .i64 0, .int .u64 0, .int .i64 0, .int .i64 0, .int .i64 0, .int .i64 0, .int .i64 0, .int .i64 0, .int .i64 0, .int .i64 0] 115 (0, 0)) := (HK4.out W.heap.size (.inr rfl)).trans Hz.out
  obtain ⟨⟨z0, z1, z2⟩, ⟨z3, z4, z5, z6, z7, z8, z9, z10⟩, zf⟩ := cells11 hz4
  have HF := hid (fun (W5 : World) (hf : Frm (fun k => k = W.heap.size) w4 W5) => px_put (X := X) HX4.out (.inr rfl) HX.out.bel.size hf (fun k hk => ⟨.inl hk, fun e => by have := HX.out.xlt k hk; omega⟩))
  clear hz4
  go_wp2_with fail
  refine bodyPost_ret (v := .tuple #[hdrV hdr0, .int .i64 9]) (by simp [results, Tryz.results71, go_sem, hdrV, hdrCells, hdr0, z0, z1, z2, z3, z4, z5, z6, z7, z8, z9, z10, zf]) rfl ⟨rfl, ?_⟩
  refine (fun hq => ⟨hq.1, fun k hk => (hq.2 k hk).trans ((HK4.out k (.inl hk)).trans (HB.out.block k (HX.out.xlt k hk)))⟩ : (PgX w _ pb l b p g d X ∧ ∀ k, X k → _ = w4.heap[k]?) → _) (HF.out _ ?_)
  iterate 11 refine Frm.setCell (S := fun k => k = W.heap.size) ?_ (.inl rfl) _
  exact Frm.refl _ _
 | none =>
  rw [if_pos hn] at WR
  rw [if_neg (by simp)]
  replace WR := hid WR
  have hwf := (readHM_wf p g d).len
  obtain ⟨Q, hQ⟩ : ∃ Q, Q = readHM p g d := ⟨_, rfl⟩
  rw [← hQ] at hwf ⊢
  have SR := fun (W1 : World) (hm : PgX w W1 pb l b p g d (fun k => X k ∨ k = W.heap.size)) => sread_any hm
  simp only [← hQ] at SR
  obtain ⟨H, E⟩ := Q
  obtain ⟨f, c, k, r0, r1, r2, r3, r4, r5, r6, r7, rfl⟩ := hdr_form hwf
  unfold hdrV hdrCells at SR ⊢
  simp only [List.map_cons, List.map_nil] at SR ⊢
  replace SR := hid SR
  clear h hn hQ hwf
  go_enter Tryz.func71, Tryz.ntmps71
  go_wp2_with (first
   | (go_at_call 36; refine (WR.out).mono ?_; rintro e w4 ⟨rfl, hx, hk⟩; have HX4 := hid hx; have HK4 := hid hk; clear hx hk)
   | (go_at_call 61; refine (SR.out _ HX4.out).mono ?_; rintro e w5 ⟨rfl, hb5⟩; have HB5 := hid hb5; have hz5 : w5.heap[W.heap.size]? = some (.cells #[.int .i64 0, .int .i64 0, .int .u64 0, .int .i64 0, .int .i64 0, .int .i64 0, .int .i64 0, .int .i64 0, .int .i64 0, .int .i64 0, .int .i64 0] 115 (0, 0)) := (hb5.block W.heap.size (HX4.out.xlt W.heap.size (.inr rfl))).trans ((HK4.out W.heap.size (.inr rfl)).trans Hz.out); obtain ⟨⟨z0, z1, z2⟩, ⟨z3, z4, z5, z6, z7, z8, z9, z10⟩, zf⟩ := cells11 hz5; clear hz5 hb5)
   | go_in)
  have HF := hid (fun (W5 : World) (hf : Frm (fun k => k = W.heap.size) w5 W5) => px_put (X := X) (HX4.out.below HB5.out) (.inr rfl) HX.out.bel.size hf (fun k hk => ⟨.inl hk, fun e => by have := HX.out.xlt k hk; omega⟩))
  refine bodyPost_ret (v := .tuple #[.agg #[.int .i64 f, .int .i64 c, .int .u64 k, .int .i64 r0, .int .i64 r1, .int .i64 r2, .int .i64 r3, .int .i64 r4, .int .i64 r5, .int .i64 r6, .int .i64 r7], .int .i64 E]) (by simp [results, Tryz.results71, go_sem, z0, z1, z2, z3, z4, z5, z6, z7, z8, z9, z10, zf]) rfl ⟨rfl, ?_⟩
  refine (fun hq => ⟨hq.1, fun k hk => (hq.2 k hk).trans ((HB5.out.block k (HX4.out.xlt k (.inl hk))).trans ((HK4.out k (.inl hk)).trans (HB.out.block k (HX.out.xlt k hk))))⟩ : (PgX w _ pb l b p g d X ∧ ∀ k, X k → _ = w5.heap[k]?) → _) (HF.out _ ?_)
  iterate 11 refine Frm.setCell (S := fun k => k = W.heap.size) ?_ (.inl rfl) _
  exact Frm.refl _ _
set_option maxHeartbeats 8000000 in
theorem have_any (h : PgX w W pb l b p g d X) : Calls Tryz.prog 38 #[.pointer (some ⟨pb, 0, none⟩)] W fun e w' => e = .returned (.tuple #[.int .u64 (haveM p g d).1, .int .i64 (haveM p g d).2]) ∧ PgX w w' pb l b p g d X ∧ ∀ k, X k → w'.heap[k]? = W.heap[k]? := by
 have SR := uready_any h
 have hwf := (ureadyM_wf p g d).len
 unfold haveM
 obtain ⟨Q, hQ⟩ : ∃ Q, Q = ureadyM p g d := ⟨_, rfl⟩
 rw [← hQ] at hwf SR ⊢
 obtain ⟨H, E⟩ := Q
 obtain ⟨f, c, k, r0, r1, r2, r3, r4, r5, r6, r7, rfl⟩ := hdr_form hwf
 unfold hdrV hdrCells at SR
 simp only [List.map_cons, List.map_nil] at SR
 replace SR := hid SR
 dsimp only
 clear hQ hwf h
 by_cases he : E = 0
 ·have b1 : (E != 0) = false := by simp [he]
  rw [if_neg (by simpa using he)]
  clear he
  go_enter Tryz.func38, Tryz.ntmps38
  go_wp2_with (first
   | (go_at_call 71; refine (SR.out).mono ?_; rintro e w1 ⟨rfl, hx, hk⟩; have HX1 := hid hx; have HK1 := hid hk; clear hx hk)
   | go_in)
  go_ret2
  have hf := px_fin HX1.out ((Below.refl w1.heap.size w1).alloc (Nat.le_refl _) (.cells #[.int .i64 f, .int .i64 c, .int .u64 k, .int .i64 r0, .int .i64 r1, .int .i64 r2, .int .i64 r3, .int .i64 r4, .int .i64 r5, .int .i64 r6, .int .i64 r7] 115))
  exact ⟨rfl, hf.1, fun k hk => (hf.2 k hk).trans (HK1.out k hk)⟩
 ·have b1 : (E != 0) = true := by simp [he]
  rw [if_pos he]
  clear he
  go_enter Tryz.func38, Tryz.ntmps38
  go_wp2_with (first
   | (go_at_call 71; refine (SR.out).mono ?_; rintro e w1 ⟨rfl, hx, hk⟩; have HX1 := hid hx; have HK1 := hid hk; clear hx hk)
   | go_in)
  go_ret2
  have hf := px_fin HX1.out ((Below.refl w1.heap.size w1).alloc (Nat.le_refl _) (.cells #[.int .i64 f, .int .i64 c, .int .u64 k, .int .i64 r0, .int .i64 r1, .int .i64 r2, .int .i64 r3, .int .i64 r4, .int .i64 r5, .int .i64 r6, .int .i64 r7] 115))
  exact ⟨rfl, hf.1, fun k hk => (hf.2 k hk).trans (HK1.out k hk)⟩
end
def turnP (p : Pg) (pages n : Int) (c : UInt8) : Pg := if 1 < n ∧ n ≤ pages then (pwriteM (presizeM p pages).2 n (pageOf c)).2 else (presizeM p pages).2
def turnM (p : Pg) (g : Lg) (d : Dsk) (pages n : Int) (c : UInt8) : Int × Pg × Lg × Dsk :=
 if (spBeginM p g d).1 ≠ 0 then ((spBeginM p g d).1, (spBeginM p g d).2, g, d) else spCommitM (turnP (spBeginM p g d).2 pages n c) g d
structure Bk where
 k : Int
 pages : Int
 next : Int
 opn : Bool
 restarts : Int
def bkCells (pb db : Nat) (B : Bk) : Array Value := #[.pointer (some ⟨pb, 0, none⟩), .pointer (some ⟨db, 0, none⟩), .int .u64 B.k, .int .i64 B.pages, .int .i64 B.next, .bool B.opn, .int .i64 B.restarts]
def pgsR (p : Pg) (g : Lg) (d : Dsk) (c : Nat) : List (List UInt8) := (List.range c).map fun (k : Nat) => (preadM p g d ((k : Int) + 1)).1
theorem pgsR_length (p : Pg) (g : Lg) (d : Dsk) (c : Nat) : (pgsR p g d c).length = c := by simp [pgsR]
theorem pgsR_succ (p : Pg) (g : Lg) (d : Dsk) (c : Nat) : pgsR p g d (c + 1) = pgsR p g d c ++ [(preadM p g d ((c : Int) + 1)).1] := by simp [pgsR, List.range_succ]
def stOk (p : Pg) (g : Lg) (d : Dsk) : Prop := ∀ k : Nat, (k : Int) < ppagesM p g → (preadM p g d ((k : Int) + 1)).2 = 0
def stL (p : Pg) (g : Lg) (d : Dsk) : List (List UInt8) := pgsR p g d (ppagesM p g).toNat
def openedM (d : Dsk) : Option (Lg × List (List UInt8)) :=
 match lopenM d with
 | (some g, _) => if ppagesM p0 g = 0 ∨ (readHM p0 g d).2 ≠ 0 then none else some (g, stL p0 g d)
 | (none, _) => none
def bkAnew (p : Pg) (g : Lg) (B : Bk) (k : Int) : Bk := { B with k := k, pages := ppagesM p g, next := if ppagesM p g = 1 then 1 else 2 }
def bstartM (p : Pg) (g : Lg) (ds d : Dsk) : Option Bk × Int × Dsk :=
 if (haveM p g ds).2 ≠ 0 then (none, (haveM p g ds).2, d)
 else if (haveM p g ds).1 = 0 then (none, 4, d)
 else if d.off then (none, 32, d)
 else if (openedM d).isSome then (none, 9, d)
 else if (bseqM bstepsM d).1 ≠ 0 then (none, (bseqM bstepsM d).1, (bseqM bstepsM d).2)
 else (some (bkAnew p g ⟨0, 0, 0, false, 0⟩ (haveM p g ds).1), 0, (bseqM bstepsM d).2)
def blastM (s : List UInt8) (B : Bk) (d : Dsk) : Int × Bk × Dsk :=
 if (bseqM [bcutM 0 (8 * B.pages), fun d => syncM d 0] d).1 ≠ 0 then ((bseqM [bcutM 0 (8 * B.pages), fun d => syncM d 0] d).1, B, (bseqM [bcutM 0 (8 * B.pages), fun d => syncM d 0] d).2)
 else if (writeM (bseqM [bcutM 0 (8 * B.pages), fun d => syncM d 0] d).2 0 (8 * (B.next - 1)) s).1 ≠ 0 then ((writeM (bseqM [bcutM 0 (8 * B.pages), fun d => syncM d 0] d).2 0 (8 * (B.next - 1)) s).1, B, (writeM (bseqM [bcutM 0 (8 * B.pages), fun d => syncM d 0] d).2 0 (8 * (B.next - 1)) s).2)
 else if (syncM (writeM (bseqM [bcutM 0 (8 * B.pages), fun d => syncM d 0] d).2 0 (8 * (B.next - 1)) s).2 0).1 ≠ 0 then ((syncM (writeM (bseqM [bcutM 0 (8 * B.pages), fun d => syncM d 0] d).2 0 (8 * (B.next - 1)) s).2 0).1, { B with opn := true }, (syncM (writeM (bseqM [bcutM 0 (8 * B.pages), fun d => syncM d 0] d).2 0 (8 * (B.next - 1)) s).2 0).2)
 else (0, { B with opn := true, next := 0 }, (syncM (writeM (bseqM [bcutM 0 (8 * B.pages), fun d => syncM d 0] d).2 0 (8 * (B.next - 1)) s).2 0).2)
def bcopyM (p : Pg) (g : Lg) (ds : Dsk) (B : Bk) (d : Dsk) : Int × Bk × Dsk :=
 if (preadM p g ds B.next).2 ≠ 0 then ((preadM p g ds B.next).2, B, d)
 else if 1 < B.next then (if (writeM d 0 (8 * (B.next - 1)) (preadM p g ds B.next).1).1 ≠ 0 then ((writeM d 0 (8 * (B.next - 1)) (preadM p g ds B.next).1).1, B, (writeM d 0 (8 * (B.next - 1)) (preadM p g ds B.next).1).2)
  else (0, { B with next := if B.pages < B.next + 1 then 1 else B.next + 1 }, (writeM d 0 (8 * (B.next - 1)) (preadM p g ds B.next).1).2))
 else blastM (preadM p g ds B.next).1 B d
def bcopiesM (p : Pg) (g : Lg) (ds : Dsk) : Nat → Bk → Dsk → Int × Bk × Dsk
 | 0, B, d => (0, B, d)
 | n + 1, B, d => if B.next ≤ 0 then (0, B, d) else if (bcopyM p g ds B d).1 ≠ 0 then bcopyM p g ds B d else bcopiesM p g ds n (bcopyM p g ds B d).2.1 (bcopyM p g ds B d).2.2
def blidM (B : Bk) (d : Dsk) : Int × Bk × Dsk :=
 if B.opn then (if (bseqM [fun d => writeM d 0 0 lidL, fun d => syncM d 0] d).1 ≠ 0 then ((bseqM [fun d => writeM d 0 0 lidL, fun d => syncM d 0] d).1, B, (bseqM [fun d => writeM d 0 0 lidL, fun d => syncM d 0] d).2)
  else (0, { B with opn := false }, (bseqM [fun d => writeM d 0 0 lidL, fun d => syncM d 0] d).2)) else (0, B, d)
def bstepM (p : Pg) (g : Lg) (ds : Dsk) (n : Int) (B : Bk) (d : Dsk) : Int × Bk × Dsk :=
 if B.next = 0 then (0, B, d)
 else if (haveM p g ds).2 ≠ 0 then ((haveM p g ds).2, B, d)
 else if (haveM p g ds).1 = B.k then bcopiesM p g ds n.toNat B d
 else if (blidM B d).1 ≠ 0 then blidM B d
 else bcopiesM p g ds n.toNat { bkAnew p g (blidM B d).2.1 (haveM p g ds).1 with restarts := IntKind.i64.wrap ((blidM B d).2.1.restarts + 1) } (blidM B d).2.2
def bleftM (B : Bk) : Int := if B.next = 0 then 0 else if B.next = 1 then 1 else B.pages - B.next + 2
section
variable {w W W' : World} {pb l b db : Nat} {p p' : Pg} {g g' : Lg} {d d' : Dsk} {X X' : Nat → Prop}
theorem fresh_any (w : World) : Calls Tryz.prog 6 #[] w fun e w' => ∃ pb l b, e = .returned (.tuple #[.pointer (some ⟨pb, 0, none⟩), .bool true]) ∧ PgX w w' pb l b p0 exG0 newM (fun _ => False) := by
 go_enter Tryz.func6, Tryz.ntmps6
 go_wp2_with (first
  | (go_at_call 8; refine (mk_new _).mono ?_; rintro e w1 ⟨b, rfl, hd1⟩; have Hd1 := hid hd1; clear hd1)
  | (go_at_call 33; refine (px_fresh Hd1.out).mono ?_; rintro e w2 ⟨pb, l, rfl, hm2⟩; have Hm2 := hid hm2; clear hm2)
  | go_in)
 go_ret2
 exact ⟨pb, l, b, rfl, Hm2.out.to (fun k hk => hk.elim)⟩
set_option maxHeartbeats 2000000 in
theorem state_any (h : PgX w W pb l b p g d X) (hok : stOk p g d) :
  Calls Tryz.prog 11 #[.pointer (some ⟨pb, 0, none⟩)] W fun e w' => ∃ v, e = .returned (.tuple #[v, .bool true]) ∧ StrRow w' W.heap.size v (stL p g d) ∧ Below W.heap.size W w' := by
 obtain ⟨i0, hi, hz0, hz1, hz2⟩ := info_parts (P := Tryz.prog) (e := 9) (z := .string ⟨#[]⟩) (size := 1) (bytes := 16) (by kernel_rfl)
 have hpr := ppages_range h
 unfold stL
 obtain ⟨P, hP⟩ : ∃ P : Nat, ppagesM p g = (P : Int) := ⟨(ppagesM p g).toNat, by omega⟩
 have hP2 : P ≤ 256 := by omega
 have hPn : (ppagesM p g).toNat = P := by omega
 rw [hPn]
 have PG : ∀ w1, PgX w w1 pb l b p g d X → Calls Tryz.prog 47 #[.pointer (some ⟨pb, 0, none⟩)] w1 fun e w' => e = .returned (.int .i64 (P : Int)) ∧ w' = w1 := fun w1 hm => by
  have := px_pages hm
  rwa [hP] at this
 have PG := hid PG
 have Hok := hid (fun (k : Nat) (hk : k < P) => hok k (by rw [hP]; omega))
 have H := hid h
 clear h hok hP hpr hPn
 go_enter Tryz.func11, Tryz.ntmps11
 go_wp2_with fail
 go_loopw [4, 5] (fun v4 v5 wr => ∃ (i : Nat), i ≤ P ∧ wr.ownsRow W.heap.size 9 1 v4 i (strV (pgsR p g d i)) ∧ v5 = .int .i64 ((i : Int) + 1) ∧ Below W.heap.size W wr) (fun _ v5 _ => P + 1 - (intOf v5).toNat)
 case atStart => exact ⟨0, Nat.zero_le _, World.ownsRow_nil _ _ _ _, rfl, Below.refl _ _⟩
 case round =>
  obtain ⟨i, hi1, hrow, rfl, hbw⟩ := hrel
  have HBw := hid hbw
  have hm := H.out.below hbw
  have Hm := hid hm
  have Hrow := hid hrow
  have PA := px_read hm ((i : Int) + 1) (by omega)
  obtain ⟨pg, hpg⟩ : ∃ pg, pg = preadM p g d ((i : Int) + 1) := ⟨_, rfl⟩
  rw [← hpg] at PA
  have PA := hid PA
  have Hpg := hid hpg
  clear hm hbw hrow hpg
  by_cases hlt : i < P
  ·have hlt1 : i + 1 ≤ P := hlt
   have hle1 : decide ((i : Int) + 1 ≤ (P : Int)) = true := by simp; omega
   have hwi : IntKind.i64.wrap ((i : Int) + 1 + 1) = (i : Int) + 1 + 1 := IntWalk.i64_in _ (by omega)
   have hpe1 : (pg.2 != 0) = false := by
    rw [Hpg.out, Hok.out i hlt]
    rfl
   obtain ⟨s, hs⟩ : ∃ s, s = pg.1 := ⟨_, rfl⟩
   rw [← hs] at PA
   have PA := hid PA.out
   have Hs := hid hs
   clear hs
   go_wp2_with (first
    | (go_at_call 47; refine (PG.out _ Hm.out).mono ?_; rintro e w1 ⟨rfl, hw⟩; obtain rfl := hw.symm)
    | (go_at_call 48; refine (PA.out).mono ?_; rintro e w2 ⟨rfl, hb2⟩; have HBw2 := hid (HBw.out.trans (hb2.mono HBw.out.size)); have Hrow2 := hid (row_keep Hrow.out (w' := w2) (fun x hx => hb2.block x (row_base Hrow.out hx).2)); clear hb2)
    | (at_builtin; refine wpList_append_own_at _ rfl _ _ 38 rfl W.heap.size 9 i0 _ 1 16 Tryz.underlying38 hi hz0 hz1 hz2 rfl (by omega) _ i (strV (pgsR p g d i)) rfl (row_keep Hrow2.out (fun x hx => Below.heap_alloc w2 _ x (row_base Hrow2.out hx).2)) ⟨w2.heap.size, 0, none⟩ 1 1 [.string (bs s)] rfl (by simp) (World.news_of_block (cs := #[.string (bs s)]) (t := 9) (fr := (0, 0)) (ze w2 _)) (by intro u hu; rw [List.mem_singleton.1 hu]; rfl) (by unfold maxLen; omega) (by omega) (by simp; have := HBw2.out.size; omega) ?_; intro v' w7 hown7 hgrow7 _ hat7; have Hown7 := hid hown7; have Hgrow7 := hid hgrow7; clear hown7 hgrow7 hat7)
    | go_in)
   go_roundw
   case rel =>
    refine ⟨i + 1, hlt, ?_, by simp, (HBw2.out.alloc HBw2.out.size _).grown Hgrow7.out (by simp; have := HBw2.out.size; omega) (fun j hj => (row_base Hrow2.out hj).1)⟩
    rw [pgsR_succ, strV_append, ← Hpg.out, ← Hs.out]
    exact Hown7.out
   case measure => (simp [intOf]) <;> omega
  ·obtain rfl : P = i := by omega
   have hlt1 : ¬ (P + 1 ≤ P) := by omega
   go_wp2_with (first
    | (go_at_call 47; refine (PG.out _ Hm.out).mono ?_; rintro e w1 ⟨rfl, hw⟩; obtain rfl := hw.symm)
    | go_in)
   go_ret2
   refine ⟨_, rfl, ?_, HBw.out⟩
   have hr := Hrow.out
   unfold StrRow
   rw [pgsR_length]
   exact hr
theorem StrRow.shape {base : Nat} {v : Value} {l : List (List UInt8)} (h : StrRow W base v l) : ∃ ao cap, v = .slice ao l.length cap ∧ ∀ i (hi : i < l.length), ∃ q, ao = some ⟨q, 0, none⟩ ∧ W.cell? ⟨q, i, none⟩ = some (.string (bs l[i])) := by
 rcases row_form h with ⟨rfl, h0⟩ | ⟨g, c, rfl⟩
 ·exact ⟨none, 0, by rw [h0], fun i hi => by omega⟩
 ·exact ⟨_, c, rfl, fun i hi => ⟨g, rfl, StrRow.cell h hi⟩⟩
set_option maxHeartbeats 2000000 in
theorem same_eq {b1 b2 : Nat} {v1 v2 : Value} {l : List (List UInt8)} (h1 : StrRow W b1 v1 l) (h2 : StrRow W b2 v2 l) (hl : l.length ≤ 1000) :
  Calls Tryz.prog 32 #[v1, v2] W fun e w' => e = .returned (.bool true) ∧ Below W.heap.size W w' := by
 obtain ⟨a1, c1, rfl, g1⟩ := h1.shape
 obtain ⟨a2, c2, rfl, g2⟩ := h2.shape
 obtain ⟨n, hn⟩ : ∃ n, n = l.length := ⟨_, rfl⟩
 rw [← hn]
 have Hn := hid hn
 have hn2 : n ≤ 1000 := by omega
 have G1 := hid g1
 have G2 := hid g2
 clear g1 g2 h1 h2 hn hl
 go_enter Tryz.func32, Tryz.ntmps32
 go_wp2_with fail
 go_loopw [5] (fun v5 wr => ∃ i : Nat, i ≤ n ∧ v5 = .int .i64 (i : Int) ∧ wr.heap = W.heap ∧ Below W.heap.size W wr) (fun v5 _ => n - (intOf v5).toNat)
 case atStart => exact ⟨0, Nat.zero_le _, rfl, rfl, Below.refl _ _⟩
 case round =>
  obtain ⟨i, hi, rfl, hwh, hb⟩ := hrel
  have HB := hid hb
  clear hb
  by_cases hlt : i < n
  ·have hil : i < l.length := by have := Hn.out; omega
   obtain ⟨q1, rfl, e1⟩ := G1.out i hil
   obtain ⟨q2, rfl, e2⟩ := G2.out i hil
   obtain ⟨s, hs⟩ : ∃ s, s = l[i] := ⟨_, rfl⟩
   rw [← hs] at e1 e2
   have c1 : wr.cell? ⟨q1, i, none⟩ = some (.string (bs s)) := by
    rw [← e1]; unfold World.cell?; rw [hwh]
   have c2 : wr.cell? ⟨q2, i, none⟩ = some (.string (bs s)) := by
    rw [← e2]; unfold World.cell?; rw [hwh]
   have Hwh := hid hwh
   clear e1 e2 hs hwh
   go_wp2_with fail
   go_quiet (fail)
   go_wp2_with fail
   go_roundw
   case rel => exact ⟨i + 1, by omega, by go_num, Hwh.out, below_drewN HB.out _⟩
   case measure => simp [intOf]; omega
  ·obtain rfl : n = i := by omega
   go_wp2_with fail
   go_ret
   exact ⟨rfl, HB.out⟩
def fillC (c : UInt8) (i : Nat) : List UInt8 := List.replicate i c ++ List.replicate (512 - i) 0
theorem fillC_length (c : UInt8) {i : Nat} (h : i ≤ 512) : (fillC c i).length = 512 := by simp [fillC]; omega
theorem fillC_set (c : UInt8) {i : Nat} (h : i < 512) : (fillC c i).set i c = fillC c (i + 1) := by
 unfold fillC
 obtain ⟨k, hk⟩ : ∃ k, 512 - i = k + 1 := ⟨511 - i, by omega⟩
 have hk2 : 512 - (i + 1) = k := by omega
 rw [hk, hk2, show List.replicate (k + 1) (0 : UInt8) = 0 :: List.replicate k 0 from rfl, List.set_append_right _ _ (by simp), List.length_replicate, Nat.sub_self, List.replicate_succ' (n := i), List.append_assoc]
 rfl
theorem fillC_full (c : UInt8) : fillC c 512 = pageOf c := by simp [fillC, pageOf]
theorem fill_cells (c : UInt8) {i : Nat} (h : i < 512) : (cellsOf (fillC c i)).toArray.setIfInBounds i (.int .u8 (c.toNat : Int)) = (cellsOf (fillC c (i + 1))).toArray := by
 rw [List.setIfInBounds_toArray, ← fillC_set c h]
 unfold cellsOf
 rw [List.map_set]
theorem z512 : Tryz.zeroCells71 = (cellsOf (fillC 0 0)).toArray := by kernel_rfl
theorem fill_conv (W : World) (bb : Nat) (l : List UInt8) (hl : l.length = 512) (hb : W.heap[bb]? = some (.cells (cellsOf l).toArray 71 (0, 0))) :
  (convert 73 9 (.slice (some ⟨bb, 0, none⟩) 512 512)).run Tryz.prog W = .ok (.string (bs l)) W := by
 have := run_convert_cells (P := Tryz.prog) W 73 9 5 Tryz.underlying73 Tryz.underlying5 Tryz.underlying9 bb 0 512 512 (l.map fun c => (c.toNat : Int)) (by simp [hl]) (fun i hi => by
  rw [Nat.zero_add, za hb]
  simp [cellsOf, hl, hi])
 rw [this]
 congr 3
 simp [Function.comp_def]
set_option maxHeartbeats 4000000 in
theorem turn_any (h : PgX w W pb l b p g d X) (pages n : Int) (c : UInt8) (hpg : in64 pages) (hn : in64 n) (N : Nat) (hsm : d.Small N) (hN : N + 33554432 ≤ 1099511527776) :
  Calls Tryz.prog 7 #[.pointer (some ⟨pb, 0, none⟩), .int .i64 pages, .int .i64 n, .int .u8 (c.toNat : Int)] W fun e w' => e = .returned (.int .i64 (turnM p g d pages n c).1) ∧ PgX w w' pb l b (turnM p g d pages n c).2.1 (turnM p g d pages n c).2.2.1 (turnM p g d pages n c).2.2.2 X ∧ ∀ k, X k → w'.heap[k]? = W.heap[k]? := by
 have BG := hid (sbegin_any h)
 obtain ⟨R, hR⟩ : ∃ R, R = turnM p g d pages n c := ⟨_, rfl⟩
 rw [← hR]
 unfold turnM turnP at hR
 obtain ⟨B, hB⟩ : ∃ B, B = spBeginM p g d := ⟨_, rfl⟩
 have BG := BG.out
 rw [← hB] at BG hR
 replace BG := hid BG
 have HX := hid h
 clear h hB
 by_cases he : B.1 = 0
 rotate_left
 ·have b1 : (B.1 != 0) = true := by simp [he]
  rw [if_pos he] at hR
  have HR := hid hR
  clear hR he
  go_enter Tryz.func7, Tryz.ntmps7
  go_wp2_with (first
   | (go_at_call 34; refine (BG.out).mono ?_; rintro e w1 ⟨rfl, hx, hk⟩; have HX1 := hid hx; have HK1 := hid hk; clear hx hk)
   | go_in)
  go_ret
  rw [HR.out]
  exact ⟨rfl, HX1.out, HK1.out⟩
 have b1 : (B.1 != 0) = false := by simp [he]
 rw [if_neg (by simpa using he)] at hR
 have HR := hid hR
 clear hR he
 go_enter Tryz.func7, Tryz.ntmps7
 go_upto_region 6 with (first
  | (go_at_call 34; refine (BG.out).mono ?_; rintro e w1 ⟨rfl, hx, hk⟩; have HX1 := hid hx; have HK1 := hid hk; clear hx hk)
  | (go_at_call 35; refine (px_resize HX1.out pages hpg).mono ?_; rintro e w2 ⟨rfl, hx, hk⟩; have HX2 := hid hx; have HK2 := hid hk; clear hx hk)
  | go_in)
 have hz := z512
 have hbb := ze w2 (.cells Tryz.zeroCells71 71)
 have hb3 := (Below.refl w2.heap.size w2).alloc (Nat.le_refl _) (.cells Tryz.zeroCells71 71)
 obtain ⟨bb, hbbe⟩ : ∃ bb, bb = w2.heap.size := ⟨_, rfl⟩
 obtain ⟨w3, hw3⟩ : ∃ w3, w3 = w2.alloc (.cells Tryz.zeroCells71 71) := ⟨_, rfl⟩
 rw [← hw3] at hbb hb3 ⊢
 rw [← hbbe] at hbb ⊢
 rw [hz] at hbb
 have e0 : fillC 0 0 = fillC c 0 := by simp [fillC]
 rw [e0] at hbb
 have Hbb := hid hbb
 have HB3 := hid hb3
 have Hbbe := hid hbbe
 clear hbb hb3 hbbe hw3 hz e0
 go_wp2_with fail
 go_loopw [20] (fun v20 wr => ∃ i : Nat, i ≤ 512 ∧ v20 = .int .i64 (i : Int) ∧ wr.heap[bb]? = some (.cells (cellsOf (fillC c i)).toArray 71 (0, 0)) ∧ Below w2.heap.size w2 wr) (fun v20 _ => 512 - (intOf v20).toNat)
 case atStart => exact ⟨0, by omega, rfl, Hbb.out, HB3.out⟩
 case round =>
  obtain ⟨i, hi, rfl, hrow, hbw⟩ := hrel
  have Hrow := hid hrow
  have HBw := hid hbw
  by_cases hlt : i < 512
  ·have c0 : wr.cell? ⟨bb, i, none⟩ = some (.int .u8 (((fillC c i)[i]'(by rw [fillC_length c hi]; exact hlt)).toNat : Int)) := by
    rw [za hrow]
    simp [cellsOf, fillC_length c hi, hlt]
   have f0 := zg hrow i
   clear hrow hbw
   go_wp2_with fail
   go_roundw
   case rel =>
    refine ⟨i + 1, by omega, by simp, ?_, HBw.out.setCell (by have := Hbbe.out; show w2.heap.size ≤ bb; omega) _⟩
    rw [← fill_cells c hlt]
    exact zd Hrow.out i _
   case measure => (simp [intOf]) <;> omega
  ·obtain rfl : i = 512 := by omega
   rw [fillC_full] at hrow
   have hx4 := HX2.out.below hbw
   have hcv := fill_conv wr bb (pageOf c) (pageOf_length c) hrow
   have HX4 := hid hx4
   have hk4 : ∀ k, X k → wr.heap[k]? = W.heap[k]? := fun k hk => (hbw.block k (HX2.out.xlt k hk)).trans ((HK2.out k hk).trans (HK1.out k hk))
   have HK4 := hid hk4
   have PW := hid (px_write hx4 n (pageOf c) hn (by rw [pageOf_length]; decide))
   obtain ⟨s, hs⟩ : ∃ s, s = pageOf c := ⟨_, rfl⟩
   have HRo := HR.out
   rw [← hs] at hcv HRo
   have PW := PW.out
   rw [← hs] at PW
   replace PW := hid PW
   clear hrow hbw hx4 hk4 Hrow HBw hlt hs HR hi
   by_cases hin : 1 < n ∧ n ≤ pages
   ·have d1 : decide (1 < n) = true := by simpa using hin.1
    have d2 : decide (n ≤ pages) = true := by simpa using hin.2
    rw [if_pos hin] at HRo
    have HR := hid HRo
    obtain ⟨g1, g2⟩ := hin
    have CM := fun (W1 : World) (hm : PgX w W1 pb l b (pwriteM (presizeM B.2 pages).2 n s).2 g d X) => scommit_any hm N hsm hN
    have CM := hid CM
    clear HRo
    go_wp2_with (first
     | (go_at_call 36; refine (PW.out).mono ?_; rintro e w5 ⟨rfl, hx, hk⟩; have HX5 := hid hx; have HK5 := hid hk; clear hx hk)
     | (go_at_call 37; refine (CM.out _ HX5.out).mono ?_; rintro e w6 ⟨rfl, hx, hk⟩; have HX6 := hid hx; have HK6 := hid hk; clear hx hk)
     | go_in)
    go_ret
    rw [HR.out]
    exact ⟨rfl, HX6.out, fun k hk => (HK6.out k hk).trans ((HK5.out k hk).trans (HK4.out k hk))⟩
   ·rw [if_neg hin] at HRo
    have HR := hid HRo
    have CM := hid (fun (W1 : World) (hm : PgX w W1 pb l b (presizeM B.2 pages).2 g d X) => scommit_any hm N hsm hN)
    clear HRo PW hcv
    by_cases g1 : 1 < n
    ·have d1 : decide (1 < n) = true := by simpa using g1
     have g2 : ¬ n ≤ pages := fun e => hin ⟨g1, e⟩
     have g3 : pages < n := by omega
     have d2 : decide (n ≤ pages) = false := by simpa using g2
     clear hin
     go_wp2_with (first
      | (go_at_call 37; refine (CM.out _ HX4.out).mono ?_; rintro e w6 ⟨rfl, hx, hk⟩; have HX6 := hid hx; have HK6 := hid hk; clear hx hk)
      | go_in)
     go_ret
     rw [HR.out]
     exact ⟨rfl, HX6.out, fun k hk => (HK6.out k hk).trans (HK4.out k hk)⟩
    ·have d1 : decide (1 < n) = false := by simpa using g1
     have g3 : n ≤ 1 := by omega
     clear hin
     go_wp2_with (first
      | (go_at_call 37; refine (CM.out _ HX4.out).mono ?_; rintro e w6 ⟨rfl, hx, hk⟩; have HX6 := hid hx; have HK6 := hid hk; clear hx hk)
      | go_in)
     go_ret
     rw [HR.out]
     exact ⟨rfl, HX6.out, fun k hk => (HK6.out k hk).trans (HK4.out k hk)⟩
end
section
variable {w W W' : World} {pb l b db : Nat} {p p' : Pg} {g g' : Lg} {d d' : Dsk} {X X' : Nat → Prop}
theorem row_lower {w : World} {base b2 n size : Nat} {e : TypeId} {v : Value} {xs : List Value} (h : w.ownsRow base e size v n xs) (hb : b2 ≤ base) : w.ownsRow b2 e size v n xs := by
 refine ⟨h.1, h.2.imp id ?_⟩
 rintro ⟨g, cap, cur, e, hb2, r⟩
 exact ⟨g, cap, cur, e, Nat.le_trans hb hb2, r⟩
theorem lopen_shape (d : Dsk) : (∃ e, lopenM d = (none, e) ∧ e ≠ 0) ∨ ∃ g, lopenM d = (some g, 0) := by
 unfold lopenM
 split
 ·exact .inl ⟨_, rfl, by decide⟩
 split
 ·split
  ·exact .inl ⟨_, rfl, by decide⟩
  ·exact .inr ⟨_, rfl⟩
 split
 ·exact .inl ⟨_, rfl, by decide⟩
 split
 ·exact .inl ⟨_, rfl, by decide⟩
 split
 ·exact .inl ⟨_, rfl, by decide⟩
 ·exact .inr ⟨_, rfl⟩
theorem px_openN {er : Int} (h : MkD w W db d) (ho : lopenM d = (none, er)) (he : er ≠ 0) : Calls Tryz.prog 33 #[.pointer (some ⟨db, 0, none⟩)] W fun e w' => e = .returned (.tuple #[.pointer none, .int .i64 er]) ∧ Below W.heap.size W w' := by
 obtain ⟨⟨F, hF, hge⟩, hb⟩ := h
 have OP := lopen_any hF
 rw [ho] at OP
 have OP := hid OP
 have b1 : (er != 0) = true := by simp [he]
 clear hF ho hge hb he
 go_enter Tryz.func33, Tryz.ntmps33
 go_wp2_with (first
  | (go_at_call 63; refine (OP.out).mono ?_; rintro e w1 ⟨hb2, rfl⟩; have HB2 := hid hb2; clear hb2)
  | go_in)
 go_ret2
 exact ⟨rfl, HB2.out⟩
theorem opened_none {er : Int} (ho : lopenM d = (none, er)) : openedM d = none := by unfold openedM; rw [ho]
theorem opened_some (ho : lopenM d = (some g, 0)) : openedM d = if ppagesM p0 g = 0 ∨ (readHM p0 g d).2 ≠ 0 then none else some (g, stL p0 g d) := by unfold openedM; rw [ho]
set_option maxHeartbeats 2000000 in
theorem database_any (h : MkD w W db d) : Calls Tryz.prog 39 #[.pointer (some ⟨db, 0, none⟩)] W fun e w' => e = .returned (.bool (openedM d).isSome) ∧ Below W.heap.size W w' := by
 rcases lopen_shape d with ⟨er, ho, he⟩ | ⟨g, ho⟩
 ·have OP := hid (px_openN h ho he)
  rw [opened_none ho]
  have b1 : (er != 0) = true := by simp [he]
  clear h ho he
  go_enter Tryz.func39, Tryz.ntmps39
  go_wp2_with (first
   | (go_at_call 33; refine (OP.out).mono ?_; rintro e w1 ⟨rfl, hb⟩; have HB := hid hb; clear hb)
   | go_in)
  go_ret
  exact ⟨rfl, HB.out⟩
 ·have OP := hid (px_openB h ho)
  rw [opened_some ho]
  obtain ⟨P, hP⟩ : ∃ P, P = ppagesM p0 g := ⟨_, rfl⟩
  obtain ⟨Q, hQ⟩ : ∃ Q, Q = readHM p0 g d := ⟨_, rfl⟩
  have PG := fun (W1 : World) (pb l : Nat) (hm : PgX w W1 pb l db p0 g d (fun _ => False)) => px_pages hm
  have RD := fun (W1 : World) (pb l : Nat) (hm : PgX w W1 pb l db p0 g d (fun _ => False)) => sread_any hm
  simp only [← hP] at PG
  simp only [← hQ] at RD
  rw [← hP, ← hQ]
  have PG := hid PG
  have RD := hid RD
  clear h ho hP hQ
  by_cases h0 : P = 0
  ·have b0 : (P == 0) = true := by simp [h0]
   rw [if_pos (.inl h0)]
   clear h0
   go_enter Tryz.func39, Tryz.ntmps39
   go_wp2_with (first
    | (go_at_call 33; refine (OP.out).mono ?_; rintro e w1 ⟨pb, l, rfl, hm, hb⟩; have HM := hid hm; have HB := hid hb; clear hb hm)
    | (go_at_call 47; refine (PG.out _ _ _ HM.out).mono ?_; rintro e w2 ⟨rfl, hw⟩; obtain rfl := hw.symm)
    | go_in)
   go_ret
   exact ⟨rfl, HB.out⟩
  ·have b0 : (P == 0) = false := by simp [h0]
   have hfin : (if P = 0 ∨ Q.2 ≠ 0 then none else some (g, stL p0 g d)).isSome = (Q.2 == 0) := by
    by_cases hq : Q.2 = 0
    ·rw [if_neg (by simp [h0, hq]), hq]; rfl
    ·rw [if_pos (.inr hq)]; simp [hq]
   rw [hfin]
   clear h0 hfin
   go_enter Tryz.func39, Tryz.ntmps39
   go_wp2_with (first
    | (go_at_call 33; refine (OP.out).mono ?_; rintro e w1 ⟨pb, l, rfl, hm, hb⟩; have HM := hid hm; have HB := hid hb; clear hb hm)
    | (go_at_call 47; refine (PG.out _ _ _ HM.out).mono ?_; rintro e w2 ⟨rfl, hw⟩; obtain rfl := hw.symm)
    | (go_at_call 61; refine (RD.out _ _ _ HM.out).mono ?_; rintro e w3 ⟨rfl, hb3⟩; have HB3 := hid (then_below HB.out hb3); clear hb3)
    | go_in)
   go_ret
   exact ⟨rfl, HB3.out⟩
set_option maxHeartbeats 4000000 in
theorem opened_any (h : MkD w W db d) (hok : ∀ g L, openedM d = some (g, L) → stOk p0 g d) : Calls Tryz.prog 22 #[.pointer (some ⟨db, 0, none⟩)] W fun e w' => Below W.heap.size W w' ∧ match openedM d with
  | none => e = .returned (.tuple #[.slice none 0 0, .bool false])
  | some x => ∃ v, e = .returned (.tuple #[v, .bool true]) ∧ StrRow w' W.heap.size v x.2 := by
 rcases lopen_shape d with ⟨er, ho, he⟩ | ⟨g, ho⟩
 ·have OP := hid (px_openN h ho he)
  rw [opened_none ho]
  have b1 : (er != 0) = true := by simp [he]
  clear h ho he hok
  go_enter Tryz.func22, Tryz.ntmps22
  go_wp2_with (first
   | (go_at_call 33; refine (OP.out).mono ?_; rintro e w1 ⟨rfl, hb⟩; have HB := hid hb; clear hb)
   | go_in)
  go_ret2
  exact ⟨HB.out, rfl⟩
 ·have OP := hid (px_openB h ho)
  have hop := opened_some ho
  rw [hop] at hok ⊢
  have hwfQ := readHM_wf p0 g d
  obtain ⟨P, hP⟩ : ∃ P, P = ppagesM p0 g := ⟨_, rfl⟩
  obtain ⟨Q, hQ⟩ : ∃ Q, Q = readHM p0 g d := ⟨_, rfl⟩
  have PG := fun (W1 : World) (pb l : Nat) (hm : PgX w W1 pb l db p0 g d (fun _ => False)) => px_pages hm
  have RD := fun (W1 : World) (pb l : Nat) (hm : PgX w W1 pb l db p0 g d (fun _ => False)) => sread_any hm
  simp only [← hP] at PG
  simp only [← hQ] at RD
  rw [← hP, ← hQ] at hok ⊢
  rw [← hQ] at hwfQ
  obtain ⟨H, E⟩ := Q
  obtain ⟨f, c, k, r0, r1, r2, r3, r4, r5, r6, r7, rfl⟩ := hdr_form hwfQ.len
  unfold hdrV hdrCells at RD
  simp only [List.map_cons, List.map_nil] at RD
  dsimp only at hok ⊢
  have PG := hid PG
  have RD := hid RD
  clear h ho hP hQ hop hwfQ
  by_cases h0 : P = 0
  ·have b0 : (P == 0) = true := by simp [h0]
   rw [if_pos (.inl h0)]
   clear h0 hok
   go_enter Tryz.func22, Tryz.ntmps22
   go_wp2_with (first
    | (go_at_call 33; refine (OP.out).mono ?_; rintro e w1 ⟨pb, l, rfl, hm, hb⟩; have HM := hid hm; have HB := hid hb; clear hb hm)
    | (go_at_call 47; refine (PG.out _ _ _ HM.out).mono ?_; rintro e w2 ⟨rfl, hw⟩; obtain rfl := hw.symm)
    | go_in)
   go_ret2
   exact ⟨HB.out, rfl⟩
  have b0 : (P == 0) = false := by simp [h0]
  by_cases hq : E = 0
  ·have b2 : (E != 0) = false := by simp [hq]
   rw [if_neg (by simp [h0, hq])] at hok ⊢
   have Hok := hid (hok g (stL p0 g d) rfl)
   clear h0 hq hok
   go_enter Tryz.func22, Tryz.ntmps22
   go_wp2_with (first
    | (go_at_call 33; refine (OP.out).mono ?_; rintro e w1 ⟨pb, l, rfl, hm, hb⟩; have HM := hid hm; have HB := hid hb; clear hb hm)
    | (go_at_call 47; refine (PG.out _ _ _ HM.out).mono ?_; rintro e w2 ⟨rfl, hw⟩; obtain rfl := hw.symm)
    | (go_at_call 61; refine (RD.out _ _ _ HM.out).mono ?_; rintro e w3 ⟨rfl, hb3⟩; have hb4 := hb3.alloc hb3.size (.cells #[.int .i64 f, .int .i64 c, .int .u64 k, .int .i64 r0, .int .i64 r1, .int .i64 r2, .int .i64 r3, .int .i64 r4, .int .i64 r5, .int .i64 r6, .int .i64 r7] 115); have HB3 := hid (then_below HB.out hb4); have HM3 := hid (HM.out.below hb4); clear hb3 hb4)
    | (go_at_call 11; refine (state_any HM3.out Hok.out).mono ?_; rintro e w5 ⟨v, rfl, hr, hb5⟩; have HR := hid hr; have HB5 := hid hb5; clear hr hb5)
    | go_in)
   go_ret2
   refine ⟨then_below HB3.out HB5.out, v, rfl, ?_⟩
   have := HB3.out.size
   exact row_lower HR.out this
  ·have b2 : (E != 0) = true := by simp [hq]
   rw [if_pos (.inr hq)]
   clear h0 hq hok
   go_enter Tryz.func22, Tryz.ntmps22
   go_wp2_with (first
    | (go_at_call 33; refine (OP.out).mono ?_; rintro e w1 ⟨pb, l, rfl, hm, hb⟩; have HM := hid hm; have HB := hid hb; clear hb hm)
    | (go_at_call 47; refine (PG.out _ _ _ HM.out).mono ?_; rintro e w2 ⟨rfl, hw⟩; obtain rfl := hw.symm)
    | (go_at_call 61; refine (RD.out _ _ _ HM.out).mono ?_; rintro e w3 ⟨rfl, hb3⟩; have HB3 := hid (then_below HB.out (hb3.alloc hb3.size (.cells #[.int .i64 f, .int .i64 c, .int .u64 k, .int .i64 r0, .int .i64 r1, .int .i64 r2, .int .i64 r3, .int .i64 r4, .int .i64 r5, .int .i64 r6, .int .i64 r7] 115))); clear hb3)
    | go_in)
   go_ret2
   exact ⟨HB3.out, rfl⟩
end
end Go.Proofs.YtfkcmgbpgefnnaaGreat
