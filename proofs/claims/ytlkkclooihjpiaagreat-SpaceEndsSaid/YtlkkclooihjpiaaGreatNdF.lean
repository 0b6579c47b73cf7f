/- Space over a pager: Alloc where a page is free. -/
import Derived.Test.YtlkkclooihjpiaaGreatSpK
import Derived.Test.YtlkkclooihjpiaaGreatNdE
set_option linter.unusedVariables false
set_option linter.unusedSimpArgs false
namespace Go.Proofs.YtlkkclooihjpiaaGreat
open Go.RowKit Go.Maps
set_option maxRecDepth 20000
def usedH (h : Hdr) (x : Int) : Hdr := { h with free := x, count := h.count - 1 }
section
variable {w W W' : World} {pb l b : Nat} {p p' : Pg} {g g' : Lg} {d d' : Dsk} {X X' : Nat → Prop}
end
end Go.Proofs.YtlkkclooihjpiaaGreat
/- Space over a pager: Alloc where a page is free, whatever that page holds. -/
namespace Go.Proofs.YtlkkclooihjpiaaGreat
open Go.RowKit Go.Maps
set_option maxRecDepth 20000
def alloc2M (p : Pg) (g : Lg) (d : Dsk) : Int × Int × Pg :=
 if (preadM p g d (readySM p g d).1.free).2 ≠ 0 then (0, 7, p)
 else if (ntakeM (preadM p g d (readySM p g d).1.free).1).2 ≠ 0 ∨ (ntakeM (preadM p g d (readySM p g d).1.free).1).1.kind ≠ 4 ∨ (readySM p g d).1.count = 0 then (0, 7, p)
 else if (writeHM p (usedH (readySM p g d).1 (ntakeM (preadM p g d (readySM p g d).1.free).1).1.first)).1 ≠ 0 then (0, 7, (writeHM p (usedH (readySM p g d).1 (ntakeM (preadM p g d (readySM p g d).1.free).1).1.first)).2)
 else ((readySM p g d).1.free, 0, (writeHM p (usedH (readySM p g d).1 (ntakeM (preadM p g d (readySM p g d).1.free).1).1.first)).2)
theorem ntake_ok {s : List UInt8} (h : (ntakeM s).2 = 0) : NdOk (ntakeM s).1 := by
 unfold ntakeM at h ⊢
 by_cases h1 : s.length ≠ 512
 ·rw [if_pos h1] at h; cases h
 rw [if_neg h1] at h ⊢
 by_cases h2 : nputM (tnodeR s) = (s, 0)
 ·rw [if_pos h2]
  refine ndok_of ?_
  unfold nputM at h2
  cases e : nmayB (tnodeR s) with
  | true => rfl
  | false =>
   rw [if_pos e] at h2
   have := congrArg Prod.snd h2
   cases this
 ·rw [if_neg h2] at h; cases h
section
variable {w W W' : World} {pb l b : Nat} {p p' : Pg} {g g' : Lg} {d d' : Dsk} {X X' : Nat → Prop}
set_option maxHeartbeats 16000000 in
set_option maxRecDepth 20000 in
theorem alloc2_any (h : PgX w W pb l b p g d X) (he : (readySM p g d).2 = 0) (hf : (readySM p g d).1.free ≠ 0) :
  Calls Tryz.prog 12 #[.pointer (some ⟨pb, 0, none⟩)] W fun e w' => e = .returned (.tuple #[.int .i64 (alloc2M p g d).1, .int .i64 (alloc2M p g d).2.1]) ∧ PgX w w' pb l b (alloc2M p g d).2.2 g d X ∧ ∀ k, X k → w'.heap[k]? = W.heap[k]? := by
 have SR := sready_any h
 have hwfQ := readySM_wf p g d
 have hmay := readySM_may he
 have PR := fun (W1 : World) (X1 : Nat → Prop) (hm : PgX w W1 pb l b p g d X1) => px_read hm (readySM p g d).1.free hwfQ.free
 have hpl := pread_len h (readySM p g d).1.free
 obtain ⟨R, hR⟩ : ∃ R, R = alloc2M p g d := ⟨_, rfl⟩
 rw [← hR]
 unfold alloc2M at hR
 obtain ⟨Q, hQ⟩ : ∃ Q, Q = readySM p g d := ⟨_, rfl⟩
 simp only [← hQ] at hR hwfQ SR he hf hmay PR hpl
 obtain ⟨H, E⟩ := Q
 dsimp only at hR hpl PR
 obtain ⟨RP, hRP⟩ : ∃ RP, RP = preadM p g d H.free := ⟨_, rfl⟩
 simp only [← hRP] at hR PR hpl
 obtain ⟨f, c, k, r0, r1, r2, r3, r4, r5, r6, r7, rfl⟩ := hdr_form hwfQ.len
 unfold hdrV hdrCells at SR
 simp only [List.map_cons, List.map_nil] at SR
 replace SR := hid SR
 dsimp only at hR hwfQ he hf hmay PR
 subst he
 obtain ⟨s, e1⟩ := RP
 dsimp only at hR PR hpl
 have PR := hid PR
 obtain ⟨hm1, hm2, hm3⟩ := hdrMay_all hmay
 dsimp only at hm2 hm3
 have b1 : ((0 : Int) != 0) = false := rfl
 have b2 : (f == 0) = false := by simp [hf]
 have HX := hid h
 by_cases hE1 : e1 = 0
 rotate_left
 ·have b9 : (e1 != 0) = true := by simpa using hE1
  rw [if_pos hE1] at hR
  have HR := hid hR
  clear hR h hf hm1 hm2 hm3 hwfQ hQ hmay hpl hRP hE1
  go_enter Tryz.func12, Tryz.ntmps12
  go_wp2_with (first
   | (go_at_call 33; refine (SR.out).mono ?_; rintro e w1 ⟨rfl, hx, hk⟩; have HX1 := hid hx; have HK1 := hid hk; have HF1 := hid (px_fin hx ((Below.refl w1.heap.size w1).alloc (Nat.le_refl _) (.cells #[.int .i64 f, .int .i64 c, .int .u64 k, .int .i64 r0, .int .i64 r1, .int .i64 r2, .int .i64 r3, .int .i64 r4, .int .i64 r5, .int .i64 r6, .int .i64 r7] 38))); clear hx hk)
   | (go_at_call 28; refine (PR.out _ _ HF1.out.1).mono ?_; rintro e w3 ⟨rfl, hb3⟩; have Hb3 := hid hb3; have H13 := hid ((hb3.block _ (lt_of_block (heap_alloc_new w1 (.cells #[.int .i64 f, .int .i64 c, .int .u64 k, .int .i64 r0, .int .i64 r1, .int .i64 r2, .int .i64 r3, .int .i64 r4, .int .i64 r5, .int .i64 r6, .int .i64 r7] 38)))).trans (heap_alloc_new w1 (.cells #[.int .i64 f, .int .i64 c, .int .u64 k, .int .i64 r0, .int .i64 r1, .int .i64 r2, .int .i64 r3, .int .i64 r4, .int .i64 r5, .int .i64 r6, .int .i64 r7] 38))); clear hb3)
   | go_in)
  go_ret2
  rw [HR.out]
  have hq : Below w1.heap.size w1 w3 := ((Below.refl w1.heap.size w1).alloc (Nat.le_refl _) _).trans (Hb3.out.mono (by simp))
  have hf2 := px_fin HX1.out hq
  exact ⟨rfl, hf2.1, fun k hk => (hf2.2 k hk).trans (HK1.out k hk)⟩
 subst hE1
 rw [if_neg (by simp)] at hR
 obtain ⟨T, hT⟩ : ∃ T, T = ntakeM s := ⟨_, rfl⟩
 have NT := fun W => ntake_any s (by omega) W
 have hok := fun e => ntake_ok (s := s) e
 simp only [← hT] at NT hok
 rw [← hT] at hR
 obtain ⟨⟨kd, x, L, D⟩, et⟩ := T
 unfold ndV at NT
 dsimp only at NT hok hR
 replace NT := hid NT
 by_cases hbad : et ≠ 0 ∨ kd ≠ 4 ∨ c = 0
 ·rw [if_pos hbad] at hR
  have HR := hid hR
  have HC3 : (et ≠ 0) ∨ (et = 0 ∧ kd ≠ 4) ∨ (et = 0 ∧ kd = 4 ∧ c = 0) := by omega
  clear hR h hf hm1 hm2 hm3 hwfQ hQ hmay hpl hRP hT hok hbad
  rcases HC3 with h9 | ⟨rfl, h9⟩ | ⟨rfl, rfl, rfl⟩
  ·have b9 : (et != 0) = true := by simpa using h9
   clear h9
   go_enter Tryz.func12, Tryz.ntmps12
   go_upto_region 13 with (first
    | (go_at_call 33; refine (SR.out).mono ?_; rintro e w1 ⟨rfl, hx, hk⟩; have HX1 := hid hx; have HK1 := hid hk; have HF1 := hid (px_fin hx ((Below.refl w1.heap.size w1).alloc (Nat.le_refl _) (.cells #[.int .i64 f, .int .i64 c, .int .u64 k, .int .i64 r0, .int .i64 r1, .int .i64 r2, .int .i64 r3, .int .i64 r4, .int .i64 r5, .int .i64 r6, .int .i64 r7] 38))); clear hx hk)
    | (go_at_call 28; refine (PR.out _ _ HF1.out.1).mono ?_; rintro e w3 ⟨rfl, hb3⟩; have Hb3 := hid hb3; have H13 := hid ((hb3.block _ (lt_of_block (heap_alloc_new w1 (.cells #[.int .i64 f, .int .i64 c, .int .u64 k, .int .i64 r0, .int .i64 r1, .int .i64 r2, .int .i64 r3, .int .i64 r4, .int .i64 r5, .int .i64 r6, .int .i64 r7] 38)))).trans (heap_alloc_new w1 (.cells #[.int .i64 f, .int .i64 c, .int .u64 k, .int .i64 r0, .int .i64 r1, .int .i64 r2, .int .i64 r3, .int .i64 r4, .int .i64 r5, .int .i64 r6, .int .i64 r7] 38))); clear hb3)
    | (go_at_call 34; refine (NT.out _).mono ?_; rintro e w4 ⟨v, rfl, hrow, hb4⟩; obtain ⟨ao, z, cap, rfl⟩ : ∃ ao z cap, v = .slice ao z cap := (row_form hrow).elim (fun e => ⟨none, 0, 0, e.1⟩) (fun ⟨q, c, e⟩ => ⟨_, _, c, e⟩); clear hrow; have Hb4 := hid hb4; have H14 := hid ((hb4.block _ (lt_of_block H13.out)).trans H13.out); clear hb4)
    | go_in)
   have hq : Below w1.heap.size w1 w4 := (((Below.refl w1.heap.size w1).alloc (Nat.le_refl _) _).trans (Hb3.out.mono (by simp))).trans (Hb4.out.mono (by have := Hb3.out.size; simp at this; omega))
   obtain ⟨⟨y0, y1, y2⟩, ⟨y3, y4, y5, y6, y7, y8, y9, y10⟩, yf⟩ := cells11 (heap_alloc_old (o := (.cells #[.int .u8 kd, .int .i64 x, .slice ao z cap, .string (bs D)] 93)) H14.out)
   obtain ⟨n0, n1, n2, n3⟩ := cells4' (heap_alloc_new w4 (.cells #[.int .u8 kd, .int .i64 x, .slice ao z cap, .string (bs D)] 93))
   have hq2 := hq.alloc hq.size (.cells #[.int .u8 kd, .int .i64 x, .slice ao z cap, .string (bs D)] 93)
   have hf2 := px_fin HX1.out hq2
   have HF2 := hid hf2
   clear hq hq2 hf2
   go_wp2_with fail
   go_ret2
   rw [HR.out]
   exact ⟨rfl, HF2.out.1, fun k hk => (HF2.out.2 k hk).trans (HK1.out k hk)⟩
  ·have b9 : (kd != 4) = true := by simpa using h9
   clear h9
   go_enter Tryz.func12, Tryz.ntmps12
   go_upto_region 13 with (first
    | (go_at_call 33; refine (SR.out).mono ?_; rintro e w1 ⟨rfl, hx, hk⟩; have HX1 := hid hx; have HK1 := hid hk; have HF1 := hid (px_fin hx ((Below.refl w1.heap.size w1).alloc (Nat.le_refl _) (.cells #[.int .i64 f, .int .i64 c, .int .u64 k, .int .i64 r0, .int .i64 r1, .int .i64 r2, .int .i64 r3, .int .i64 r4, .int .i64 r5, .int .i64 r6, .int .i64 r7] 38))); clear hx hk)
    | (go_at_call 28; refine (PR.out _ _ HF1.out.1).mono ?_; rintro e w3 ⟨rfl, hb3⟩; have Hb3 := hid hb3; have H13 := hid ((hb3.block _ (lt_of_block (heap_alloc_new w1 (.cells #[.int .i64 f, .int .i64 c, .int .u64 k, .int .i64 r0, .int .i64 r1, .int .i64 r2, .int .i64 r3, .int .i64 r4, .int .i64 r5, .int .i64 r6, .int .i64 r7] 38)))).trans (heap_alloc_new w1 (.cells #[.int .i64 f, .int .i64 c, .int .u64 k, .int .i64 r0, .int .i64 r1, .int .i64 r2, .int .i64 r3, .int .i64 r4, .int .i64 r5, .int .i64 r6, .int .i64 r7] 38))); clear hb3)
    | (go_at_call 34; refine (NT.out _).mono ?_; rintro e w4 ⟨v, rfl, hrow, hb4⟩; obtain ⟨ao, z, cap, rfl⟩ : ∃ ao z cap, v = .slice ao z cap := (row_form hrow).elim (fun e => ⟨none, 0, 0, e.1⟩) (fun ⟨q, c, e⟩ => ⟨_, _, c, e⟩); clear hrow; have Hb4 := hid hb4; have H14 := hid ((hb4.block _ (lt_of_block H13.out)).trans H13.out); clear hb4)
    | go_in)
   have hq : Below w1.heap.size w1 w4 := (((Below.refl w1.heap.size w1).alloc (Nat.le_refl _) _).trans (Hb3.out.mono (by simp))).trans (Hb4.out.mono (by have := Hb3.out.size; simp at this; omega))
   obtain ⟨⟨y0, y1, y2⟩, ⟨y3, y4, y5, y6, y7, y8, y9, y10⟩, yf⟩ := cells11 (heap_alloc_old (o := (.cells #[.int .u8 kd, .int .i64 x, .slice ao z cap, .string (bs D)] 93)) H14.out)
   obtain ⟨n0, n1, n2, n3⟩ := cells4' (heap_alloc_new w4 (.cells #[.int .u8 kd, .int .i64 x, .slice ao z cap, .string (bs D)] 93))
   have hq2 := hq.alloc hq.size (.cells #[.int .u8 kd, .int .i64 x, .slice ao z cap, .string (bs D)] 93)
   have hf2 := px_fin HX1.out hq2
   have HF2 := hid hf2
   clear hq hq2 hf2
   go_wp2_with fail
   go_ret2
   rw [HR.out]
   exact ⟨rfl, HF2.out.1, fun k hk => (HF2.out.2 k hk).trans (HK1.out k hk)⟩
  ·go_enter Tryz.func12, Tryz.ntmps12
   go_upto_region 13 with (first
    | (go_at_call 33; refine (SR.out).mono ?_; rintro e w1 ⟨rfl, hx, hk⟩; have HX1 := hid hx; have HK1 := hid hk; have HF1 := hid (px_fin hx ((Below.refl w1.heap.size w1).alloc (Nat.le_refl _) (.cells #[.int .i64 f, .int .i64 0, .int .u64 k, .int .i64 r0, .int .i64 r1, .int .i64 r2, .int .i64 r3, .int .i64 r4, .int .i64 r5, .int .i64 r6, .int .i64 r7] 38))); clear hx hk)
    | (go_at_call 28; refine (PR.out _ _ HF1.out.1).mono ?_; rintro e w3 ⟨rfl, hb3⟩; have Hb3 := hid hb3; have H13 := hid ((hb3.block _ (lt_of_block (heap_alloc_new w1 (.cells #[.int .i64 f, .int .i64 0, .int .u64 k, .int .i64 r0, .int .i64 r1, .int .i64 r2, .int .i64 r3, .int .i64 r4, .int .i64 r5, .int .i64 r6, .int .i64 r7] 38)))).trans (heap_alloc_new w1 (.cells #[.int .i64 f, .int .i64 0, .int .u64 k, .int .i64 r0, .int .i64 r1, .int .i64 r2, .int .i64 r3, .int .i64 r4, .int .i64 r5, .int .i64 r6, .int .i64 r7] 38))); clear hb3)
    | (go_at_call 34; refine (NT.out _).mono ?_; rintro e w4 ⟨v, rfl, hrow, hb4⟩; obtain ⟨ao, z, cap, rfl⟩ : ∃ ao z cap, v = .slice ao z cap := (row_form hrow).elim (fun e => ⟨none, 0, 0, e.1⟩) (fun ⟨q, c, e⟩ => ⟨_, _, c, e⟩); clear hrow; have Hb4 := hid hb4; have H14 := hid ((hb4.block _ (lt_of_block H13.out)).trans H13.out); clear hb4)
    | go_in)
   have hq : Below w1.heap.size w1 w4 := (((Below.refl w1.heap.size w1).alloc (Nat.le_refl _) _).trans (Hb3.out.mono (by simp))).trans (Hb4.out.mono (by have := Hb3.out.size; simp at this; omega))
   obtain ⟨⟨y0, y1, y2⟩, ⟨y3, y4, y5, y6, y7, y8, y9, y10⟩, yf⟩ := cells11 (heap_alloc_old (o := (.cells #[.int .u8 4, .int .i64 x, .slice ao z cap, .string (bs D)] 93)) H14.out)
   obtain ⟨n0, n1, n2, n3⟩ := cells4' (heap_alloc_new w4 (.cells #[.int .u8 4, .int .i64 x, .slice ao z cap, .string (bs D)] 93))
   have hq2 := hq.alloc hq.size (.cells #[.int .u8 4, .int .i64 x, .slice ao z cap, .string (bs D)] 93)
   have hf2 := px_fin HX1.out hq2
   have HF2 := hid hf2
   clear hq hq2 hf2
   go_wp2_with fail
   go_ret2
   rw [HR.out]
   exact ⟨rfl, HF2.out.1, fun k hk => (HF2.out.2 k hk).trans (HK1.out k hk)⟩
 rw [if_neg hbad] at hR
 have he0 : et = 0 := by omega
 have hk4 : kd = 4 := by omega
 have hc : c ≠ 0 := by omega
 subst he0 hk4
 have hfi := (hok rfl).first
 dsimp only at hfi
 have hx0 : 0 ≤ x := hfi.1
 have hx1 : x ≤ 256 := hfi.2
 have b3 : (c == 0) = false := by simp [hc]
 obtain ⟨m, hm⟩ : ∃ m, m = c - 1 := ⟨_, rfl⟩
 have hfh : usedH ⟨f, c, k, [r0, r1, r2, r3, r4, r5, r6, r7]⟩ x = ⟨x, m, k, [r0, r1, r2, r3, r4, r5, r6, r7]⟩ := by rw [hm]; rfl
 have hwf2 : (⟨x, m, k, [r0, r1, r2, r3, r4, r5, r6, r7]⟩ : Hdr).Wf := ⟨⟨by show _ ≤ x; omega, by show x ≤ _; omega⟩, ⟨by show _ ≤ m; omega, by show m ≤ _; omega⟩, hwfQ.commits, hwfQ.len, hwfQ.roots⟩
 rw [hfh] at hR
 have hcw : IntKind.i64.wrap (c - 1) = m := (IntWalk.i64_in _ (by omega)).trans hm.symm
 have hcv : wrap64 (c - 1) = m := by unfold wrap64; omega
 obtain ⟨Wr, hWr⟩ : ∃ Wr, Wr = writeHM p ⟨x, m, k, [r0, r1, r2, r3, r4, r5, r6, r7]⟩ := ⟨_, rfl⟩
 rw [← hWr] at hR
 have SW := fun (W1 : World) (X1 : Nat → Prop) (hm : PgX w W1 pb l b p g d X1) => swrite_any hm ⟨x, m, k, [r0, r1, r2, r3, r4, r5, r6, r7]⟩ hwf2
 simp only [← hWr] at SW
 unfold hdrV hdrCells at SW
 simp only [List.map_cons, List.map_nil] at SW
 replace SW := hid SW
 have HR := hid hR
 clear hR h hf hc hm1 hm2 hm3 hfh hwf2 hWr hm hwfQ hQ hx0 hx1 hmay hpl hRP hT hok hbad hfi
 go_enter Tryz.func12, Tryz.ntmps12
 go_upto_region 13 with (first
  | (go_at_call 33; refine (SR.out).mono ?_; rintro e w1 ⟨rfl, hx, hk⟩; have HX1 := hid hx; have HK1 := hid hk; have HF1 := hid (px_fin hx ((Below.refl w1.heap.size w1).alloc (Nat.le_refl _) (.cells #[.int .i64 f, .int .i64 c, .int .u64 k, .int .i64 r0, .int .i64 r1, .int .i64 r2, .int .i64 r3, .int .i64 r4, .int .i64 r5, .int .i64 r6, .int .i64 r7] 38))); clear hx hk)
  | (go_at_call 28; refine (PR.out _ _ HF1.out.1).mono ?_; rintro e w3 ⟨rfl, hb3⟩; have Hb3 := hid hb3; have H13 := hid ((hb3.block _ (lt_of_block (heap_alloc_new w1 (.cells #[.int .i64 f, .int .i64 c, .int .u64 k, .int .i64 r0, .int .i64 r1, .int .i64 r2, .int .i64 r3, .int .i64 r4, .int .i64 r5, .int .i64 r6, .int .i64 r7] 38)))).trans (heap_alloc_new w1 (.cells #[.int .i64 f, .int .i64 c, .int .u64 k, .int .i64 r0, .int .i64 r1, .int .i64 r2, .int .i64 r3, .int .i64 r4, .int .i64 r5, .int .i64 r6, .int .i64 r7] 38))); clear hb3)
  | (go_at_call 34; refine (NT.out _).mono ?_; rintro e w4 ⟨v, rfl, hrow, hb4⟩; obtain ⟨ao, z, cap, rfl⟩ : ∃ ao z cap, v = .slice ao z cap := (row_form hrow).elim (fun e => ⟨none, 0, 0, e.1⟩) (fun ⟨q, c, e⟩ => ⟨_, _, c, e⟩); clear hrow; have Hb4 := hid hb4; have H14 := hid ((hb4.block _ (lt_of_block H13.out)).trans H13.out); clear hb4)
  | go_in)
 obtain ⟨⟨y0, y1, y2⟩, ⟨y3, y4, y5, y6, y7, y8, y9, y10⟩, yf⟩ := cells11 (heap_alloc_old (o := (.cells #[.int .u8 4, .int .i64 x, .slice ao z cap, .string (bs D)] 93)) H14.out)
 obtain ⟨n0, n1, n2, n3⟩ := cells4' (heap_alloc_new w4 (.cells #[.int .u8 4, .int .i64 x, .slice ao z cap, .string (bs D)] 93))
 have hsz : w1.heap.size < w4.heap.size := lt_of_block H14.out
 have h15 : (w4.alloc (.cells #[.int .u8 4, .int .i64 x, .slice ao z cap, .string (bs D)] 93)).heap[w1.heap.size]? = _ := heap_alloc_old H14.out
 have hb5 : Below w1.heap.size w1 (w4.alloc (.cells #[.int .u8 4, .int .i64 x, .slice ao z cap, .string (bs D)] 93)) := (((Below.refl w1.heap.size w1).alloc (Nat.le_refl _) _).trans (Hb3.out.mono (by simp))).trans (Hb4.out.mono (by have := Hb3.out.size; simp at this; omega)) |>.alloc (by omega) _
 obtain ⟨yb, hyb⟩ : ∃ yb, yb = w1.heap.size := ⟨_, rfl⟩
 obtain ⟨nb, hnb⟩ : ∃ nb, nb = w4.heap.size := ⟨_, rfl⟩
 obtain ⟨w5, hw5⟩ : ∃ w5, w5 = w4.alloc (.cells #[.int .u8 4, .int .i64 x, .slice ao z cap, .string (bs D)] 93) := ⟨_, rfl⟩
 rw [← hyb, ← hw5] at y0 y1 y2 y3 y4 y5 y6 y7 y8 y9 y10 yf h15
 rw [← hnb, ← hw5] at n0 n1 n2 n3
 rw [← hw5] at hb5
 rw [← hyb, ← hnb, ← hw5]
 have H15 := hid h15
 have Hb5 := hid hb5
 have Hyb := hid hyb
 clear hw5 h15 hb5 H14 H13 Hb3 Hb4 hsz hyb hnb
 go_upto_region 17 with fail
 have hyb := Hyb.out
 have h8 : ((w5.setCell ⟨yb, 0, none⟩ (.int .i64 x)).setCell ⟨yb, 1, none⟩ (.int .i64 m)).heap[yb]? = some (.cells #[.int .i64 x, .int .i64 m, .int .u64 k, .int .i64 r0, .int .i64 r1, .int .i64 r2, .int .i64 r3, .int .i64 r4, .int .i64 r5, .int .i64 r6, .int .i64 r7] 38 (0, 0)) :=
  (heap_setCell_same (heap_setCell_same H15.out 0 (.int .i64 x)) 1 (.int .i64 m)).trans rfl
 have hb8 : Below w1.heap.size w1 ((w5.setCell ⟨yb, 0, none⟩ (.int .i64 x)).setCell ⟨yb, 1, none⟩ (.int .i64 m)) := (Hb5.out.setCell (by show _ ≤ yb; omega) _).setCell (by show _ ≤ yb; omega) _
 obtain ⟨w8, hw8⟩ : ∃ w8, w8 = (w5.setCell ⟨yb, 0, none⟩ (.int .i64 x)).setCell ⟨yb, 1, none⟩ (.int .i64 m) := ⟨_, rfl⟩
 rw [← hw8] at h8 hb8
 rw [← hw8]
 have hx8 := px_add (X' := fun k => X k ∨ k = yb) HX1.out hb8 (fun k hk => hk.elim .inl (fun e => .inr (by omega))) (fun k hk => hk.elim (fun e => Nat.lt_of_lt_of_le (HX1.out.xlt k e) hb8.size) (fun e => by rw [e]; exact lt_of_block h8))
 have SW8 := hid (SW.out _ _ hx8)
 have Hb8 := hid hb8
 clear y0 y1 y2 y3 y4 y5 y6 y7 y8 y9 y10 yf
 obtain ⟨⟨y0, y1, y2⟩, ⟨y3, y4, y5, y6, y7, y8, y9, y10⟩, yf⟩ := cells11 h8
 clear hw8 hyb h8 hb8 hx8 HF1 NT PR hcw hcv
 by_cases hE2 : Wr.1 = 0
 rotate_left
 ·have b4 : (Wr.1 != 0) = true := by simp [hE2]
  have hR := HR.out
  rw [if_pos hE2] at hR
  replace HR := hid hR
  clear hR hE2
  go_wp2_with (first
   | (go_at_call 32; refine (SW8.out).mono ?_; rintro e w9 ⟨rfl, hx, hk⟩; have HX9 := hid hx; have HK9 := hid hk; clear hx hk)
   | go_in)
  go_ret2
  rw [HR.out]
  exact ⟨rfl, HX9.out.to (fun k hk => .inl hk), fun k hk => (HK9.out k (.inl hk)).trans ((Hb8.out.block k (HX1.out.xlt k hk)).trans (HK1.out k hk))⟩
 ·have b4 : (Wr.1 != 0) = false := by simp [hE2]
  have hR := HR.out
  rw [if_neg (by simpa using hE2)] at hR
  replace HR := hid hR
  clear hR hE2
  go_wp2_with (first
   | (go_at_call 32; refine (SW8.out).mono ?_; rintro e w9 ⟨rfl, hx, hk⟩; have HX9 := hid hx; have HK9 := hid hk; clear hx hk)
   | go_in)
  go_ret2
  rw [HR.out]
  exact ⟨rfl, HX9.out.to (fun k hk => .inl hk), fun k hk => (HK9.out k (.inl hk)).trans ((Hb8.out.block k (HX1.out.xlt k hk)).trans (HK1.out k hk))⟩
end
end Go.Proofs.YtlkkclooihjpiaaGreat
