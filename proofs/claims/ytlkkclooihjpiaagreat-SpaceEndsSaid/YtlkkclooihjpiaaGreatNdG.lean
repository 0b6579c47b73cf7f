/- SpaceEnds, the plain part: Alloc in any state; a disk whose main file is laid; what Begin answers. -/
import Derived.Test.YtlkkclooihjpiaaGreatNdF
import Derived.Test.YtlkkclooihjpiaaGreatPyB
set_option linter.unusedVariables false
set_option linter.unusedSimpArgs false
namespace Go.Proofs.YtlkkclooihjpiaaGreat
open Go.RowKit Go.Maps
set_option maxRecDepth 20000
def Like (p q : Pg) : Prop := q.opn = p.opn ∧ q.now.isSome = p.now.isSome
section
variable {w W W' : World} {pb l b : Nat} {p p' : Pg} {g g' : Lg} {d d' : Dsk} {X X' : Nat → Prop}
theorem Like.refl (p : Pg) : Like p p := ⟨rfl, rfl⟩
theorem Like.trans {p q r : Pg} (h : Like p q) (k : Like q r) : Like p r := ⟨k.1.trans h.1, k.2.trans h.2⟩
theorem pwrite_like (p : Pg) (n : Int) (s : List UInt8) : Like p (pwriteM p n s).2 := by
 unfold pwriteM
 cases h : p.now with
 | none => exact Like.refl p
 | some t =>
  dsimp only
  split
  ·exact Like.refl p
  split
  ·exact Like.refl p
  ·exact ⟨rfl, by rw [h]; rfl⟩
theorem presize_like (p : Pg) (n : Int) : Like p (presizeM p n).2 := by
 unfold presizeM
 cases h : p.now with
 | none => exact Like.refl p
 | some t =>
  dsimp only
  split
  ·exact Like.refl p
  ·exact ⟨rfl, by rw [h]; rfl⟩
theorem writeH_like (p : Pg) (h : Hdr) : Like p (writeHM p h).2 := by
 unfold writeHM
 split
 ·exact Like.refl p
 ·exact pwrite_like p _ _
theorem free_like (n : Int) : Like p (freeM p g d n).2 := by
 unfold freeM
 split
 ·exact Like.refl p
 split
 ·exact Like.refl p
 split
 ·exact pwrite_like p _ _
 ·exact (pwrite_like p _ _).trans (writeH_like _ _)
theorem root_like (i n : Int) : Like p (rootM p g d i n).2 := by
 unfold rootM
 split
 ·exact Like.refl p
 split
 ·exact Like.refl p
 ·exact writeH_like p _
theorem ready_in (h : (readySM p g d).2 = 0) : p.now.isSome = true := by
 unfold readySM at h
 split at h
 ·rename_i h1; exact absurd h h1
 split at h
 ·cases h
 ·rename_i h1 h2
  cases e : p.now with
  | some t => rfl
  | none => exact absurd (.inr e) h2
theorem alloc_gen (h : PgX w W pb l b p g d X) : Calls Tryz.prog 12 #[.pointer (some ⟨pb, 0, none⟩)] W fun e w' => ∃ (n E : Int) (p' : Pg), e = .returned (.tuple #[.int .i64 n, .int .i64 E]) ∧ (E = 0 ↔ 0 < n) ∧ Like p p' ∧ PgX w w' pb l b p' g d X ∧ ∀ k, X k → w'.heap[k]? = W.heap[k]? := by
 by_cases he : (readySM p g d).2 = 0
 rotate_left
 ·exact (alloc_err h he).mono fun e w' hh => ⟨0, _, p, hh.1, by omega, Like.refl p, hh.2.1, hh.2.2⟩
 by_cases hf : (readySM p g d).1.free = 0
 ·have hP := ppages_range h
  refine (alloc0_any h hf).mono fun e w' hh => ⟨_, _, _, hh.1, ?_, ?_, hh.2.1, hh.2.2⟩
  ·unfold alloc0M
   rw [if_neg (by simpa using he)]
   split
   ·simp
   ·rename_i h1
    have hs := ready_in he
    obtain ⟨t, ht⟩ := Option.isSome_iff_exists.1 hs
    have : (presizeM p (ppagesM p g + 1)).1 = 0 := by
     unfold presizeM
     rw [ht]
     dsimp only
     rw [if_neg (by omega)]
    rw [this]
    dsimp only
    omega
  ·unfold alloc0M
   rw [if_neg (by simpa using he)]
   split
   ·exact Like.refl p
   ·exact presize_like p _
 ·have hm := (hdrMay_all (readySM_may he)).2.1
  refine (alloc2_any h he hf).mono fun e w' hh => ⟨_, _, _, hh.1, ?_, ?_, hh.2.1, hh.2.2⟩
  ·unfold alloc2M
   split
   ·simp
   split
   ·simp
   split
   ·simp
   ·dsimp only
    omega
  ·unfold alloc2M
   split
   ·exact Like.refl p
   split
   ·exact Like.refl p
   split
   ·exact writeH_like p _
   ·exact writeH_like p _
theorem begin_like (hg : 0 ≤ g.head.pages) : ((spBeginM p0 g d).1 = 0 ↔ (readHM p0 g d).2 = 0) ∧ (spBeginM p0 g d).2.opn = 0 ∧ ((spBeginM p0 g d).2.now.isSome = true ↔ (readHM p0 g d).2 = 0) := by
 have e0 : beginM p0 g = (0, ⟨some ⟨g.head.pages, fun _ => none⟩, [], 0⟩) := rfl
 have hP : ppagesM p0 g = g.head.pages := rfl
 have hP2 : ppagesM ⟨some ⟨g.head.pages, fun _ => none⟩, [], 0⟩ g = g.head.pages := rfl
 unfold spBeginM
 rw [e0, if_neg (by simp)]
 dsimp only
 rw [hP2]
 by_cases h0 : g.head.pages = 0
 ·rw [if_pos h0]
  have hr : (readHM p0 g d).2 = 0 := by unfold readHM; rw [hP, if_pos h0]
  have e1 : (presizeM ⟨some ⟨g.head.pages, fun _ => none⟩, [], 0⟩ 1).2 = ⟨some ⟨1, fun k => if (1 : Int) < k then none else if g.head.pages < k then some (zeros 512) else none⟩, [], 0⟩ := rfl
  have e2 : writeHM (presizeM ⟨some ⟨g.head.pages, fun _ => none⟩, [], 0⟩ 1).2 hdr0 = pwriteM (presizeM ⟨some ⟨g.head.pages, fun _ => none⟩, [], 0⟩ 1).2 1 (hdrPg hdr0) := writeHM_ok hd0_ok
  rw [e2, e1]
  have e3 : (pwriteM ⟨some ⟨1, fun k => if (1 : Int) < k then none else if g.head.pages < k then some (zeros 512) else none⟩, [], 0⟩ 1 (hdrPg hdr0)).1 = 0 := by
   unfold pwriteM
   dsimp only
   rw [if_neg (by omega), if_neg (by rw [hdrPg_length _ hdr0_wf.len]; simp)]
  have e4 := pwrite_like ⟨some ⟨1, fun k => if (1 : Int) < k then none else if g.head.pages < k then some (zeros 512) else none⟩, [], 0⟩ 1 (hdrPg hdr0)
  exact ⟨⟨fun _ => hr, fun _ => e3⟩, e4.1, fun _ => hr, fun _ => e4.2⟩
 ·rw [if_neg h0]
  have e5 : readHM ⟨some ⟨g.head.pages, fun _ => none⟩, [], 0⟩ g d = readHM p0 g d := rfl
  rw [e5]
  by_cases hr : (readHM p0 g d).2 = 0
  ·rw [if_neg (by simpa using hr)]
   exact ⟨⟨fun _ => hr, fun _ => rfl⟩, rfl, fun _ => hr, fun _ => rfl⟩
  ·rw [if_pos hr]
   exact ⟨Iff.rfl, rfl, (fun e => by cases e), fun e => absurd e hr⟩
end
structure LaidD (d : Dsk) (n : Nat) : Prop where
 calm : Calm d
 main : (d.now 0).length = 8 * n
 log : d.now 1 = []
theorem laid_new : LaidD newM 0 := ⟨new_calm, rfl, rfl⟩
theorem laid_write {d : Dsk} {n : Nat} {s : List UInt8} (h : LaidD d n) (hs : s.length = 512) (hn : n ≤ 12) : (writeM d 0 (8 * (n : Int)) s).1 = 0 ∧ LaidD (writeM d 0 (8 * (n : Int)) s).2 (n + 1) := by
 have h1 := write_ok h.calm (k := 0) (a := 8 * n) (m := 8) (s := s) (by decide) (by omega) (by decide) (by omega)
 have e : ((8 * n : Nat) : Int) = 8 * (n : Int) := by omega
 rw [e] at h1
 refine ⟨h1, calm_write h.calm _ _ _, ?_, by rw [write_now _ _ (by decide)]; exact h.log⟩
 have e8 : s.length / 64 = 8 := by omega
 have hm := (calm_meets h.calm).1
 have e2 : (writeM d 0 (8 * (n : Int)) s).2 = wrN (meetsM d).2 0 (8 * n) s 8 := by
  unfold writeM
  have hr : readyM d 0 = 0 := ready_on (k := 0) (by decide) h.calm.on
  rw [if_neg (by simpa using hr), e8, if_neg (by omega), if_neg (by omega), if_neg (by simpa using hm)]
  have : (8 * (n : Int)).toNat = 8 * n := by omega
  rw [this]
  rfl
 rw [e2, wr_len, if_neg (by decide)]
 have e3 : ((meetsM d).2.now 0).length = 8 * n := h.main
 rw [e3]
 omega
theorem laid_open {d : Dsk} {n : Nat} (h : LaidD d n) (hn : n ≤ 12) : lopenM d = (some ⟨⟨0, 0, (n : Int)⟩, false, [], startP 0, false, false⟩, 0) := by
 have hf : firstM d = zeros 64 := by unfold firstM; rw [h.log]; rfl
 unfold lopenM
 rw [h.calm.on, if_neg (by simp), if_pos hf, h.main, if_neg (by omega)]
 have : 8 * n / 8 = n := by omega
 rw [this]
end Go.Proofs.YtlkkclooihjpiaaGreat
