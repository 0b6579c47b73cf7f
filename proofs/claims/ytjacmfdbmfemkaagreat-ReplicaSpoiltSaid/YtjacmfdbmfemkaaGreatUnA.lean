/- Units: ready, Have. -/
import Derived.Test.YtjacmfdbmfemkaaGreatSpE
set_option linter.unusedVariables false
set_option linter.unusedSimpArgs false
namespace Go.Proofs.YtjacmfdbmfemkaaGreat
open Go.RowKit Go.Maps
set_option maxRecDepth 20000
def ureadyM (p : Pg) (g : Lg) (d : Dsk) : Hdr × Int := if p.now ≠ none then (hdr0, 9) else readHM p g d
def haveM (p : Pg) (g : Lg) (d : Dsk) : Int × Int := if (ureadyM p g d).2 ≠ 0 then (0, (ureadyM p g d).2) else ((ureadyM p g d).1.commits, 0)
theorem ureadyM_wf (p : Pg) (g : Lg) (d : Dsk) : (ureadyM p g d).1.Wf := by
 unfold ureadyM
 split
 ·exact hdr0_wf
 ·exact readHM_wf p g d
section
variable {w W W' : World} {pb l b : Nat} {p p' : Pg} {g g' : Lg} {d d' : Dsk} {X X' : Nat → Prop}
set_option maxHeartbeats 8000000 in
set_option maxRecDepth 20000 in
theorem uready_any (h : PgX w W pb l b p g d X) : Calls Tryz.prog 52 #[.pointer (some ⟨pb, 0, none⟩)] W fun e w' => e = .returned (.tuple #[hdrV (ureadyM p g d).1, .int .i64 (ureadyM p g d).2]) ∧ PgX w w' pb l b p g d X ∧ ∀ k, X k → w'.heap[k]? = W.heap[k]? := by
 have hz := heap_alloc_new W (.cells #[.int .i64 0, .int .i64 0, .int .u64 0, .int .i64 0, .int .i64 0, .int .i64 0, .int .i64 0, .int .i64 0, .int .i64 0, .int .i64 0, .int .i64 0] 114)
 have hb := (Below.refl W.heap.size W).alloc (Nat.le_refl _) (.cells #[.int .i64 0, .int .i64 0, .int .u64 0, .int .i64 0, .int .i64 0, .int .i64 0, .int .i64 0, .int .i64 0, .int .i64 0, .int .i64 0, .int .i64 0] 114)
 have hxa := px_add (X' := fun k => X k ∨ k = W.heap.size) h hb (fun k hk => hk.elim .inl (fun e => .inr (Nat.le_of_eq e.symm))) (fun k hk => hk.elim (fun e => Nat.lt_of_lt_of_le (h.xlt k e) hb.size) (fun e => by rw [e]; exact lt_of_block hz))
 have WR := px_write hxa 0 [] (by decide) (by simp)
 rw [write0] at WR
 have HX := hid h
 have HB := hid hb
 have Hz := hid hz
 clear hb hz hxa
 unfold ureadyM
 cases hn : p.now with
 | some t =>
  rw [if_neg (by rw [hn]; simp)] at WR
  rw [if_pos (by simp)]
  replace WR := hid WR
  clear h hn
  go_enter Tryz.func52, Tryz.ntmps52
  go_upto_region 4 with (first
   | (go_at_call 46; refine (WR.out).mono ?_; rintro e w4 ⟨rfl, hx, hk⟩; have HX4 := hid hx; have HK4 := hid hk; clear hx hk)
   | go_in)
  have hz4 : w4.heap[W.heap.size]? = some (.cells #[.int .i64 0, .int .i64 0, .int .u64 0, .int .i64 0, .int .i64 0, .int .i64 0, .int .i64 0, .int .i64 0, .int .i64 0, .int .i64 0, .int .i64 0] 114 (0, 0)) := (HK4.out W.heap.size (.inr rfl)).trans Hz.out
  obtain ⟨⟨z0, z1, z2⟩, ⟨z3, z4, z5, z6, z7, z8, z9, z10⟩, zf⟩ := cells11 hz4
  have HF := hid (fun (W5 : World) (hf : Frm (fun k => k = W.heap.size) w4 W5) => px_put (X := X) HX4.out (.inr rfl) HX.out.bel.size hf (fun k hk => ⟨.inl hk, fun e => by have := HX.out.xlt k hk; omega⟩))
  clear hz4
  go_wp2_with fail
  refine bodyPost_ret (v := .tuple #[hdrV hdr0, .int .i64 9]) (by simp [results, Tryz.results52, go_sem, hdrV, hdrCells, hdr0, z0, z1, z2, z3, z4, z5, z6, z7, z8, z9, z10, zf]) rfl ⟨rfl, ?_⟩
  refine (fun hq => ⟨hq.1, fun k hk => (hq.2 k hk).trans ((HK4.out k (.inl hk)).trans (HB.out.block k (HX.out.xlt k hk)))⟩ : (PgX w _ pb l b p g d X ∧ ∀ k, X k → _ = w4.heap[k]?) → _) (HF.out _ ?_)
  iterate 11 refine Frm.setCell (S := fun k => k = W.heap.size) ?_ (.inl rfl) _
  exact Frm.refl _ _
 | none =>
  rw [if_pos hn] at WR
  rw [if_neg (by simp)]
  replace WR := hid WR
  have hwf := (readHM_wf p g d).len
  obtain ⟨Q, hQ⟩ : ∃ Q, Q = readHM p g d := ⟨_, rfl⟩
  rw [← hQ] at hwf ⊢
  have SR := fun (W1 : World) (hm : PgX w W1 pb l b p g d (fun k => X k ∨ k = W.heap.size)) => sread_any hm
  simp only [← hQ] at SR
  obtain ⟨H, E⟩ := Q
  obtain ⟨f, c, k, r0, r1, r2, r3, r4, r5, r6, r7, rfl⟩ := hdr_form hwf
  unfold hdrV hdrCells at SR ⊢
  simp only [List.map_cons, List.map_nil] at SR ⊢
  replace SR := hid SR
  clear h hn hQ hwf
  go_enter Tryz.func52, Tryz.ntmps52
  go_wp2_with (first
   | (go_at_call 46; refine (WR.out).mono ?_; rintro e w4 ⟨rfl, hx, hk⟩; have HX4 := hid hx; have HK4 := hid hk; clear hx hk)
   | (go_at_call 66; refine (SR.out _ HX4.out).mono ?_; rintro e w5 ⟨rfl, hb5⟩; have HB5 := hid hb5; have hz5 : w5.heap[W.heap.size]? = some (.cells #[.int .i64 0, .int .i64 0, .int .u64 0, .int .i64 0, .int .i64 0, .int .i64 0, .int .i64 0, .int .i64 0, .int .i64 0, .int .i64 0, .int .i64 0] 114 (0, 0)) := (hb5.block W.heap.size (HX4.out.xlt W.heap.size (.inr rfl))).trans ((HK4.out W.heap.size (.inr rfl)).trans Hz.out); obtain ⟨⟨z0, z1, z2⟩, ⟨z3, z4, z5, z6, z7, z8, z9, z10⟩, zf⟩ := cells11 hz5; clear hz5 hb5)
   | go_in)
  have HF := hid (fun (W5 : World) (hf : Frm (fun k => k = W.heap.size) w5 W5) => px_put (X := X) (HX4.out.below HB5.out) (.inr rfl) HX.out.bel.size hf (fun k hk => ⟨.inl hk, fun e => by have := HX.out.xlt k hk; omega⟩))
  refine bodyPost_ret (v := .tuple #[.agg #[.int .i64 f, .int .i64 c, .int .u64 k, .int .i64 r0, .int .i64 r1, .int .i64 r2, .int .i64 r3, .int .i64 r4, .int .i64 r5, .int .i64 r6, .int .i64 r7], .int .i64 E]) (by simp [results, Tryz.results52, go_sem, z0, z1, z2, z3, z4, z5, z6, z7, z8, z9, z10, zf]) rfl ⟨rfl, ?_⟩
  refine (fun hq => ⟨hq.1, fun k hk => (hq.2 k hk).trans ((HB5.out.block k (HX4.out.xlt k (.inl hk))).trans ((HK4.out k (.inl hk)).trans (HB.out.block k (HX.out.xlt k hk))))⟩ : (PgX w _ pb l b p g d X ∧ ∀ k, X k → _ = w5.heap[k]?) → _) (HF.out _ ?_)
  iterate 11 refine Frm.setCell (S := fun k => k = W.heap.size) ?_ (.inl rfl) _
  exact Frm.refl _ _
set_option maxHeartbeats 8000000 in
set_option maxRecDepth 20000 in
theorem have_any (h : PgX w W pb l b p g d X) : Calls Tryz.prog 24 #[.pointer (some ⟨pb, 0, none⟩)] W fun e w' => e = .returned (.tuple #[.int .u64 (haveM p g d).1, .int .i64 (haveM p g d).2]) ∧ PgX w w' pb l b p g d X ∧ ∀ k, X k → w'.heap[k]? = W.heap[k]? := by
 have SR := uready_any h
 have hwf := (ureadyM_wf p g d).len
 unfold haveM
 obtain ⟨Q, hQ⟩ : ∃ Q, Q = ureadyM p g d := ⟨_, rfl⟩
 rw [← hQ] at hwf SR ⊢
 obtain ⟨H, E⟩ := Q
 obtain ⟨f, c, k, r0, r1, r2, r3, r4, r5, r6, r7, rfl⟩ := hdr_form hwf
 unfold hdrV hdrCells at SR
 simp only [List.map_cons, List.map_nil] at SR
 replace SR := hid SR
 dsimp only
 clear hQ hwf h
 by_cases he : E = 0
 ·have b1 : (E != 0) = false := by simp [he]
  rw [if_neg (by simpa using he)]
  clear he
  go_enter Tryz.func24, Tryz.ntmps24
  go_wp2_with (first
   | (go_at_call 52; refine (SR.out).mono ?_; rintro e w1 ⟨rfl, hx, hk⟩; have HX1 := hid hx; have HK1 := hid hk; clear hx hk)
   | go_in)
  go_ret2
  have hf := px_fin HX1.out ((Below.refl w1.heap.size w1).alloc (Nat.le_refl _) (.cells #[.int .i64 f, .int .i64 c, .int .u64 k, .int .i64 r0, .int .i64 r1, .int .i64 r2, .int .i64 r3, .int .i64 r4, .int .i64 r5, .int .i64 r6, .int .i64 r7] 114))
  exact ⟨rfl, hf.1, fun k hk => (hf.2 k hk).trans (HK1.out k hk)⟩
 ·have b1 : (E != 0) = true := by simp [he]
  rw [if_pos he]
  clear he
  go_enter Tryz.func24, Tryz.ntmps24
  go_wp2_with (first
   | (go_at_call 52; refine (SR.out).mono ?_; rintro e w1 ⟨rfl, hx, hk⟩; have HX1 := hid hx; have HK1 := hid hk; clear hx hk)
   | go_in)
  go_ret2
  have hf := px_fin HX1.out ((Below.refl w1.heap.size w1).alloc (Nat.le_refl _) (.cells #[.int .i64 f, .int .i64 c, .int .u64 k, .int .i64 r0, .int .i64 r1, .int .i64 r2, .int .i64 r3, .int .i64 r4, .int .i64 r5, .int .i64 r6, .int .i64 r7] 114))
  exact ⟨rfl, hf.1, fun k hk => (hf.2 k hk).trans (HK1.out k hk)⟩
end
end Go.Proofs.YtjacmfdbmfemkaaGreat
