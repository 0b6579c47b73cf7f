import Derived.Test.YtlkkclooihjpiaaGreatSpC
set_option linter.unusedVariables false
set_option linter.unusedSimpArgs false
namespace Go.Proofs.YtlkkclooihjpiaaGreat
open Go.RowKit Go.Maps
set_option maxRecDepth 20000
def readHM (p : Pg) (g : Lg) (d : Dsk) : Hdr × Int :=
 if ppagesM p g = 0 then (hdr0, 0) else if (preadM p g d 1).2 ≠ 0 then (hdr0, (preadM p g d 1).2) else takeH (preadM p g d 1).1
def writeHM (p : Pg) (h : Hdr) : Int × Pg := if (putH h).2 ≠ 0 then ((putH h).2, p) else pwriteM p 1 (putH h).1
def readySM (p : Pg) (g : Lg) (d : Dsk) : Hdr × Int :=
 if (readHM p g d).2 ≠ 0 then readHM p g d else if ppagesM p g = 0 ∨ p.now = none then ((readHM p g d).1, 9) else ((readHM p g d).1, 0)
def spBeginM (p : Pg) (g : Lg) (d : Dsk) : Int × Pg :=
 if (beginM p g).1 ≠ 0 then beginM p g
 else if ppagesM (beginM p g).2 g = 0 then writeHM (presizeM (beginM p g).2 1).2 hdr0
 else if (readHM (beginM p g).2 g d).2 ≠ 0 then ((readHM (beginM p g).2 g d).2, (prollM (beginM p g).2).2) else (0, (beginM p g).2)
def bumped (h : Hdr) : Hdr := { h with commits := IntKind.u64.wrap (h.commits + 1) }
def spCommitM (p : Pg) (g : Lg) (d : Dsk) : Int × Pg × Lg × Dsk :=
 if (readySM p g d).2 ≠ 0 then ((readySM p g d).2, p, g, d)
 else if (writeHM p (bumped (readySM p g d).1)).1 ≠ 0 then ((writeHM p (bumped (readySM p g d).1)).1, (writeHM p (bumped (readySM p g d).1)).2, g, d)
 else pcommitM (writeHM p (bumped (readySM p g d).1)).2 g d
theorem readHM_wf (p : Pg) (g : Lg) (d : Dsk) : (readHM p g d).1.Wf := by
 unfold readHM
 split
 ·exact hdr0_wf
 split
 ·exact hdr0_wf
 ·exact takeH_wf _
theorem readySM_fst (p : Pg) (g : Lg) (d : Dsk) : (readySM p g d).1 = (readHM p g d).1 := by
 unfold readySM
 split
 ·rfl
 split <;> rfl
theorem readySM_wf (p : Pg) (g : Lg) (d : Dsk) : (readySM p g d).1.Wf := by rw [readySM_fst]; exact readHM_wf p g d
theorem bumped_wf {h : Hdr} (hw : h.Wf) : (bumped h).Wf := by
 refine ⟨hw.free, hw.count, ?_, hw.len, hw.roots⟩
 show 0 ≤ IntKind.u64.wrap (h.commits + 1) ∧ IntKind.u64.wrap (h.commits + 1) < 18446744073709551616
 simp only [IntKind.wrap, IntKind.bits, IntKind.signed]
 simp
 omega
section
variable {w W W' : World} {pb l b : Nat} {p p' : Pg} {g g' : Lg} {d d' : Dsk} {X X' : Nat → Prop}
theorem pread_len (h : PgX w W pb l b p g d X) (n : Int) : (preadM p g d n).1.length ≤ 512 := by
 have hok := h.ok
 obtain ⟨hg, hd⟩ := h.oks
 unfold preadM
 split
 ·simp
 split
 ·rename_i s hs
  split at hs
  ·rename_i t ht
   exact Nat.le_of_eq ((hok.now t ht).dom n s hs).2.2
  ·cases hs
 ·exact page_len hg hd _ _
set_option maxHeartbeats 4000000 in
set_option maxRecDepth 20000 in
theorem sread_any (h : PgX w W pb l b p g d X) : Calls Tryz.prog 10 #[.pointer (some ⟨pb, 0, none⟩)] W fun e w' => e = .returned (.tuple #[hdrV (readHM p g d).1, .int .i64 (readHM p g d).2]) ∧ Below W.heap.size W w' := by
 have hz := heap_alloc_new W (.cells #[.int .i64 0, .int .i64 0, .int .u64 0, .int .i64 0, .int .i64 0, .int .i64 0, .int .i64 0, .int .i64 0, .int .i64 0, .int .i64 0, .int .i64 0] 38)
 have hb := (Below.refl W.heap.size W).alloc (Nat.le_refl _) (.cells #[.int .i64 0, .int .i64 0, .int .u64 0, .int .i64 0, .int .i64 0, .int .i64 0, .int .i64 0, .int .i64 0, .int .i64 0, .int .i64 0, .int .i64 0] 38)
 have HB := hid hb
 have h1 := h.below hb
 have PG := hid (px_pages h1)
 have PR := px_read h1 1 (by decide)
 have hlen := pread_len h 1
 have hwf := (readHM_wf p g d).len
 obtain ⟨R, hR⟩ : ∃ R, R = readHM p g d := ⟨_, rfl⟩
 rw [← hR] at hwf ⊢
 have Hwf := hid hwf
 unfold readHM at hR
 obtain ⟨P, hP⟩ : ∃ P, P = ppagesM p g := ⟨_, rfl⟩
 rw [← hP] at PG hR
 obtain ⟨s, hs⟩ : ∃ s, s = preadM p g d 1 := ⟨_, rfl⟩
 rw [← hs] at PR hR hlen
 replace PR := hid PR
 have Hz := hid hz
 have Hlen := hid hlen
 clear h h1 hb hwf hP hs hlen
 by_cases hp0 : P = 0
 ·have b0 : (P == 0) = true := by simp [hp0]
  rw [if_pos hp0] at hR
  have HR := hid hR
  obtain ⟨⟨z0, z1, z2⟩, ⟨z3, z4, z5, z6, z7, z8, z9, z10⟩, zf⟩ := cells11 hz
  clear hR hp0 hz
  go_enter Tryz.func10, Tryz.ntmps10
  go_wp2_with (first | (go_at_call 9; refine (PG.out).mono ?_; rintro e w1 ⟨rfl, hw⟩; obtain rfl := hw.symm) | go_in)
  rw [HR.out]
  refine bodyPost_ret (v := .tuple #[hdrV hdr0, .int .i64 0]) (by simp [results, Tryz.results10, go_sem, hdrV, hdrCells, hdr0, z0, z1, z2, z3, z4, z5, z6, z7, z8, z9, z10, zf]) rfl ⟨rfl, ?_⟩
  exact HB.out
 have b0 : (P == 0) = false := by simp [hp0]
 rw [if_neg hp0] at hR
 by_cases he : s.2 = 0
 ·have b1 : (s.2 != 0) = false := by simp [he]
  rw [if_neg (by simpa using he)] at hR
  have HR := hid hR
  have TK := fun W => stake_any s.1 (by have := Hlen.out; omega) W
  rw [← hR] at TK
  obtain ⟨f, c, k, r0, r1, r2, r3, r4, r5, r6, r7, hform⟩ := hdr_form Hwf.out
  obtain ⟨RE, hRE⟩ : ∃ RE, RE = R.2 := ⟨_, rfl⟩
  rw [hform, ← hRE] at TK
  have hfin : hdrV R.1 = .agg #[.int .i64 f, .int .i64 c, .int .u64 k, .int .i64 r0, .int .i64 r1, .int .i64 r2, .int .i64 r3, .int .i64 r4, .int .i64 r5, .int .i64 r6, .int .i64 r7] := by rw [hform]; rfl
  have Hfin := hid hfin
  have HRE := hid hRE
  unfold hdrV hdrCells at TK
  simp only [List.map_cons, List.map_nil] at TK
  replace TK := hid TK
  clear hR hp0 he hz hform hRE hfin
  go_enter Tryz.func10, Tryz.ntmps10
  go_wp2_with (first
   | (go_at_call 9; refine (PG.out).mono ?_; rintro e w1 ⟨rfl, hw⟩; obtain rfl := hw.symm)
   | (go_at_call 28; refine (PR.out).mono ?_; rintro e w2 ⟨rfl, hb2⟩; have HB2 := hid (then_below HB.out hb2); have Hz2 := hid ((hb2.block _ (lt_of_block Hz.out)).trans Hz.out); clear hb2)
   | (go_at_call 29; refine (TK.out _).mono ?_; rintro e w3 ⟨rfl, hb3⟩; have HB3 := hid (then_below HB2.out hb3); have hz3 := (hb3.block _ (lt_of_block Hz2.out)).trans Hz2.out; obtain ⟨⟨z0, z1, z2⟩, ⟨z3, z4, z5, z6, z7, z8, z9, z10⟩, zf⟩ := cells11 hz3; clear hb3 hz3)
   | go_in)
  rw [Hfin.out, ← HRE.out]
  refine bodyPost_ret (v := .tuple #[.agg #[.int .i64 f, .int .i64 c, .int .u64 k, .int .i64 r0, .int .i64 r1, .int .i64 r2, .int .i64 r3, .int .i64 r4, .int .i64 r5, .int .i64 r6, .int .i64 r7], .int .i64 RE]) (by simp [results, Tryz.results10, go_sem, z0, z1, z2, z3, z4, z5, z6, z7, z8, z9, z10, zf]) rfl ⟨rfl, ?_⟩
  iterate 11 refine Below.setCell ?_ (by simp) _
  exact HB3.out
 ·have b1 : (s.2 != 0) = true := by simp [he]
  rw [if_pos he] at hR
  have HR := hid hR
  clear hR hp0 he hz
  go_enter Tryz.func10, Tryz.ntmps10
  go_wp2_with (first
   | (go_at_call 9; refine (PG.out).mono ?_; rintro e w1 ⟨rfl, hw⟩; obtain rfl := hw.symm)
   | (go_at_call 28; refine (PR.out).mono ?_; rintro e w2 ⟨rfl, hb2⟩; have HB2 := hid (then_below HB.out hb2); have hz2 := (hb2.block _ (lt_of_block Hz.out)).trans Hz.out; obtain ⟨⟨z0, z1, z2⟩, ⟨z3, z4, z5, z6, z7, z8, z9, z10⟩, zf⟩ := cells11 hz2; clear hb2 hz2)
   | go_in)
  rw [HR.out]
  refine bodyPost_ret (v := .tuple #[hdrV hdr0, .int .i64 s.2]) (by simp [results, Tryz.results10, go_sem, hdrV, hdrCells, hdr0, z0, z1, z2, z3, z4, z5, z6, z7, z8, z9, z10, zf]) rfl ⟨rfl, ?_⟩
  iterate 11 refine Below.setCell ?_ (by simp) _
  exact HB2.out
set_option maxHeartbeats 4000000 in
set_option maxRecDepth 20000 in
theorem swrite_any (h : PgX w W pb l b p g d X) (H : Hdr) (hw : H.Wf) : Calls Tryz.prog 32 #[.pointer (some ⟨pb, 0, none⟩), hdrV H] W fun e w' => e = .returned (.int .i64 (writeHM p H).1) ∧ PgX w w' pb l b (writeHM p H).2 g d X ∧ ∀ k, X k → w'.heap[k]? = W.heap[k]? := by
 have SP := fun W => sput_any H hw W
 have hlen : (putH H).1.length ≤ 512 := by
  unfold putH
  split
  ·exact Nat.le_of_eq (hdrPg_length H hw.len)
  ·simp
 obtain ⟨R, hR⟩ : ∃ R, R = writeHM p H := ⟨_, rfl⟩
 rw [← hR]
 unfold writeHM at hR
 obtain ⟨s, hs⟩ : ∃ s, s = putH H := ⟨_, rfl⟩
 simp only [← hs] at SP hR hlen
 obtain ⟨f, c, k, r0, r1, r2, r3, r4, r5, r6, r7, rfl⟩ := hdr_form hw.len
 have hb := (Below.refl W.heap.size W).alloc (Nat.le_refl _) (.cells #[.int .i64 f, .int .i64 c, .int .u64 k, .int .i64 r0, .int .i64 r1, .int .i64 r2, .int .i64 r3, .int .i64 r4, .int .i64 r5, .int .i64 r6, .int .i64 r7] 38)
 have HB := hid hb
 have HX := hid h
 unfold hdrV hdrCells at *
 simp only [List.map_cons, List.map_nil] at *
 replace SP := hid SP
 clear h hb hw hs
 by_cases he : s.2 = 0
 ·have b1 : (s.2 != 0) = false := by simp [he]
  rw [if_neg (by simpa using he)] at hR
  have HR := hid hR
  clear hR he
  go_enter Tryz.func32, Tryz.ntmps32
  go_wp2_with (first
   | (go_at_call 62; refine (SP.out _).mono ?_; rintro e w1 ⟨rfl, hb1⟩; have HB1 := hid (then_below HB.out hb1); have PW := hid (px_write (HX.out.below HB1.out) 1 s.1 (by decide) (by omega)); clear hb1)
   | (go_at_call 36; refine (PW.out).mono ?_; rintro e w2 ⟨rfl, hx, hk⟩; have HX2 := hid hx; have HK2 := hid hk; clear hx hk)
   | go_in)
  go_ret
  rw [HR.out]
  exact ⟨rfl, HX2.out, fun k hk => (HK2.out k hk).trans (HB1.out.block k (HX.out.xlt k hk))⟩
 ·have b1 : (s.2 != 0) = true := by simp [he]
  rw [if_pos he] at hR
  have HR := hid hR
  clear hR he
  go_enter Tryz.func32, Tryz.ntmps32
  go_wp2_with (first
   | (go_at_call 62; refine (SP.out _).mono ?_; rintro e w1 ⟨rfl, hb1⟩; have HB1 := hid (then_below HB.out hb1); clear hb1)
   | go_in)
  go_ret
  rw [HR.out]
  exact ⟨rfl, HX.out.below HB1.out, fun k hk => HB1.out.block k (HX.out.xlt k hk)⟩
end
end Go.Proofs.YtlkkclooihjpiaaGreat
namespace Go.Proofs.YtlkkclooihjpiaaGreat
open Go.RowKit Go.Maps
set_option maxRecDepth 20000
section
variable {w W W' : World} {pb l b : Nat} {p p' : Pg} {g g' : Lg} {d d' : Dsk} {X X' : Nat → Prop}
theorem write0 (p : Pg) : pwriteM p 0 [] = (if p.now = none then 9 else 5, p) := by
 unfold pwriteM
 cases hp : p.now with
 | none => simp
 | some t => simp
theorem px_fin (h : PgX w W pb l b p g d X) (hb : Below W.heap.size W W') : PgX w W' pb l b p g d X ∧ ∀ k, X k → W'.heap[k]? = W.heap[k]? := ⟨h.below hb, fun k hk => hb.block k (h.xlt k hk)⟩
theorem px_put {zb : Nat} {W4 W5 : World} (h : PgX w W4 pb l b p g d X') (hz : X' zb) (hw : w.heap.size ≤ zb) (hf : Frm (fun k => k = zb) W4 W5) (hsub : ∀ k, X k → X' k ∧ k ≠ zb) : PgX w W5 pb l b p g d X ∧ ∀ k, X k → W5.heap[k]? = W4.heap[k]? := by
 refine ⟨(px_law h ⟨hf.os, hf.tape, hf.output, hf.size, fun k hk hn => hf.block k hk (fun e => hn (by rw [e]; exact hz))⟩ (fun k hk => ?_)).to (fun k hk => (hsub k hk).1), fun k hk => hf.block k (h.xlt k (hsub k hk).1) (hsub k hk).2⟩
 by_cases e : k = zb
 ·exact .inl (by omega)
 ·exact .inr (hf.block k (h.xlt k hk) e)
set_option maxHeartbeats 8000000 in
set_option maxRecDepth 20000 in
theorem sready_any (h : PgX w W pb l b p g d X) : Calls Tryz.prog 33 #[.pointer (some ⟨pb, 0, none⟩)] W fun e w' => e = .returned (.tuple #[hdrV (readySM p g d).1, .int .i64 (readySM p g d).2]) ∧ PgX w w' pb l b p g d X ∧ ∀ k, X k → w'.heap[k]? = W.heap[k]? := by
 have hz := heap_alloc_new W (.cells #[.int .i64 0, .int .i64 0, .int .u64 0, .int .i64 0, .int .i64 0, .int .i64 0, .int .i64 0, .int .i64 0, .int .i64 0, .int .i64 0, .int .i64 0] 38)
 have hb := (Below.refl W.heap.size W).alloc (Nat.le_refl _) (.cells #[.int .i64 0, .int .i64 0, .int .u64 0, .int .i64 0, .int .i64 0, .int .i64 0, .int .i64 0, .int .i64 0, .int .i64 0, .int .i64 0, .int .i64 0] 38)
 have HB := hid hb
 have SR := sread_any (h.below hb)
 have hwf := (readHM_wf p g d).len
 obtain ⟨R, hR⟩ : ∃ R, R = readySM p g d := ⟨_, rfl⟩
 rw [← hR]
 unfold readySM at hR
 obtain ⟨Q, hQ⟩ : ∃ Q, Q = readHM p g d := ⟨_, rfl⟩
 rw [← hQ] at hR SR hwf
 obtain ⟨P, hP⟩ : ∃ P, P = ppagesM p g := ⟨_, rfl⟩
 have PG := fun (W1 : World) (X1 : Nat → Prop) (hm : PgX w W1 pb l b p g d X1) => px_pages hm
 rw [← hP] at hR
 simp only [← hP] at PG
 have PG := hid PG
 have WR := fun (W1 : World) (X1 : Nat → Prop) (hm : PgX w W1 pb l b p g d X1) => px_write hm 0 [] (by decide) (by simp)
 simp only [write0] at WR
 obtain ⟨H, E⟩ := Q
 obtain ⟨f, c, k, r0, r1, r2, r3, r4, r5, r6, r7, rfl⟩ := hdr_form hwf
 unfold hdrV hdrCells at SR
 simp only [List.map_cons, List.map_nil] at SR
 have HX := hid h
 have Hz := hid hz
 replace SR := hid SR
 replace WR := hid WR
 dsimp only at hR
 have HR := hid hR
 obtain ⟨n, hn⟩ : ∃ n, n = p.now := ⟨_, rfl⟩
 have Hn := hid hn
 clear h hb hz hwf hQ hP hR hn
 go_enter Tryz.func33, Tryz.ntmps33
 go_upto_region 2 with (first
  | (go_at_call 10; refine (SR.out).mono ?_; rintro e w1 ⟨rfl, hb1⟩; have HB1 := hid (then_below HB.out hb1); have Hz1 := hid ((hb1.block _ (lt_of_block Hz.out)).trans Hz.out); clear hb1)
  | go_in)
 have hy := heap_alloc_new w1 (.cells #[.int .i64 f, .int .i64 c, .int .u64 k, .int .i64 r0, .int .i64 r1, .int .i64 r2, .int .i64 r3, .int .i64 r4, .int .i64 r5, .int .i64 r6, .int .i64 r7] 38)
 have hz2 : (w1.alloc (.cells #[.int .i64 f, .int .i64 c, .int .u64 k, .int .i64 r0, .int .i64 r1, .int .i64 r2, .int .i64 r3, .int .i64 r4, .int .i64 r5, .int .i64 r6, .int .i64 r7] 38)).heap[W.heap.size]? = some (.cells #[.int .i64 0, .int .i64 0, .int .u64 0, .int .i64 0, .int .i64 0, .int .i64 0, .int .i64 0, .int .i64 0, .int .i64 0, .int .i64 0, .int .i64 0] 38 (0, 0)) := heap_alloc_old Hz1.out
 have hb2 := HB1.out.alloc HB1.out.size (.cells #[.int .i64 f, .int .i64 c, .int .u64 k, .int .i64 r0, .int .i64 r1, .int .i64 r2, .int .i64 r3, .int .i64 r4, .int .i64 r5, .int .i64 r6, .int .i64 r7] 38)
 obtain ⟨yb, hyb⟩ : ∃ yb, yb = w1.heap.size := ⟨_, rfl⟩
 obtain ⟨zb, hzb⟩ : ∃ zb, zb = W.heap.size := ⟨_, rfl⟩
 have hyz : zb < yb := by rw [hyb, hzb]; exact lt_of_block Hz1.out
 have hzW : W.heap.size ≤ zb := by omega
 obtain ⟨w2, hw2⟩ : ∃ w2, w2 = w1.alloc (.cells #[.int .i64 f, .int .i64 c, .int .u64 k, .int .i64 r0, .int .i64 r1, .int .i64 r2, .int .i64 r3, .int .i64 r4, .int .i64 r5, .int .i64 r6, .int .i64 r7] 38) := ⟨_, rfl⟩
 rw [← hw2, ← hyb] at hy
 rw [← hw2, ← hzb] at hz2
 rw [← hw2] at hb2
 rw [← hw2, ← hyb, ← hzb]
 have HB2 := hid hb2
 have hxa := px_add (X' := fun k => (X k ∨ k = zb) ∨ k = yb) HX.out hb2 (fun k hk => hk.elim (fun e => e.elim .inl (fun e => .inr (by omega))) (fun e => .inr (by omega))) (fun k hk => hk.elim (fun e => e.elim (fun e => Nat.lt_of_lt_of_le (HX.out.xlt k e) hb2.size) (fun e => by rw [e]; exact lt_of_block hz2)) (fun e => by rw [e]; exact lt_of_block hy))
 have HXA := hid hxa
 have Hy2 := hid hy
 have Hz2 := hid hz2
 have HzW := hid (And.intro hzW hyz)
 clear hb2 hxa hw2 hyb hzb hyz hzW SR HB HB1 Hz Hz1
 by_cases he : E = 0
 rotate_left
 ·have b1 : (E != 0) = true := by simp [he]
  have hR := HR.out
  rw [if_pos he] at hR
  replace HR := hid hR
  obtain ⟨⟨z0, z1, z2⟩, ⟨z3, z4, z5, z6, z7, z8, z9, z10⟩, zf⟩ := cells11 hz2
  obtain ⟨⟨y0, y1, y2⟩, ⟨y3, y4, y5, y6, y7, y8, y9, y10⟩, yf⟩ := cells11 hy
  clear hR he WR hz2 hy
  go_wp2_with fail
  rw [HR.out]
  refine bodyPost_ret (v := .tuple #[.agg #[.int .i64 f, .int .i64 c, .int .u64 k, .int .i64 r0, .int .i64 r1, .int .i64 r2, .int .i64 r3, .int .i64 r4, .int .i64 r5, .int .i64 r6, .int .i64 r7], .int .i64 E]) (by simp [results, Tryz.results33, go_sem, z0, z1, z2, z3, z4, z5, z6, z7, z8, z9, z10, zf]) rfl ⟨rfl, px_fin HX.out ?_⟩
  iterate 11 refine Below.setCell ?_ HzW.out.1 _
  exact HB2.out
 have b1 : (E != 0) = false := by simp [he]
 have hR := HR.out
 rw [if_neg (by simpa using he)] at hR
 by_cases hp0 : P = 0
 ·have b0 : (P == 0) = true := by simp [hp0]
  rw [if_pos (.inl hp0)] at hR
  replace HR := hid hR
  obtain ⟨⟨z0, z1, z2⟩, ⟨z3, z4, z5, z6, z7, z8, z9, z10⟩, zf⟩ := cells11 hz2
  obtain ⟨⟨y0, y1, y2⟩, ⟨y3, y4, y5, y6, y7, y8, y9, y10⟩, yf⟩ := cells11 hy
  clear hR he WR hz2 hy hp0
  go_wp2_with (first | (go_at_call 9; refine (PG.out _ _ HXA.out).mono ?_; rintro e w3 ⟨rfl, hw⟩; obtain rfl := hw.symm) | go_in)
  rw [HR.out]
  refine bodyPost_ret (v := .tuple #[.agg #[.int .i64 f, .int .i64 c, .int .u64 k, .int .i64 r0, .int .i64 r1, .int .i64 r2, .int .i64 r3, .int .i64 r4, .int .i64 r5, .int .i64 r6, .int .i64 r7], .int .i64 9]) (by simp [results, Tryz.results33, go_sem, z0, z1, z2, z3, z4, z5, z6, z7, z8, z9, z10, zf]) rfl ⟨rfl, px_fin HX.out ?_⟩
  iterate 11 refine Below.setCell ?_ HzW.out.1 _
  exact HB2.out
 have b0 : (P == 0) = false := by simp [hp0]
 cases n with
 | none =>
  rw [if_pos (.inr Hn.out.symm)] at hR
  have WR2 := WR.out _ _ HXA.out
  rw [if_pos Hn.out.symm] at WR2
  replace WR2 := hid WR2
  replace HR := hid hR
  clear hR he WR hz2 hy hp0 Hn
  go_upto_region 5 with (first
   | (go_at_call 9; refine (PG.out _ _ HXA.out).mono ?_; rintro e w3 ⟨rfl, hw⟩; obtain rfl := hw.symm)
   | (go_at_call 36; refine (WR2.out).mono ?_; rintro e w4 ⟨rfl, hx, hk⟩; have HX4 := hid hx; have HK4 := hid hk; clear hx hk)
   | go_in)
  obtain ⟨⟨z0, z1, z2⟩, ⟨z3, z4, z5, z6, z7, z8, z9, z10⟩, zf⟩ := cells11 ((HK4.out zb (.inl (.inr rfl))).trans Hz2.out)
  obtain ⟨⟨y0, y1, y2⟩, ⟨y3, y4, y5, y6, y7, y8, y9, y10⟩, yf⟩ := cells11 ((HK4.out yb (.inr rfl)).trans Hy2.out)
  have HF := hid (fun (W5 : World) (hf : Frm (fun k => k = zb) w4 W5) => px_put (X := X) HX4.out (.inl (.inr rfl)) (Nat.le_trans HX.out.bel.size HzW.out.1) hf (fun k hk => ⟨.inl (.inl hk), fun e => by have := HX.out.xlt k hk; have := HzW.out.1; omega⟩))
  go_wp2_with fail
  rw [HR.out]
  refine bodyPost_ret (v := .tuple #[.agg #[.int .i64 f, .int .i64 c, .int .u64 k, .int .i64 r0, .int .i64 r1, .int .i64 r2, .int .i64 r3, .int .i64 r4, .int .i64 r5, .int .i64 r6, .int .i64 r7], .int .i64 9]) (by simp [results, Tryz.results33, go_sem, z0, z1, z2, z3, z4, z5, z6, z7, z8, z9, z10, zf]) rfl ⟨rfl, ?_⟩
  refine (fun hq => ⟨hq.1, fun k hk => (hq.2 k hk).trans ((HK4.out k (.inl (.inl hk))).trans (HB2.out.block k (HX.out.xlt k hk)))⟩ : (PgX w _ pb l b p g d X ∧ ∀ k, X k → _ = w4.heap[k]?) → _) (HF.out _ ?_)
  iterate 11 refine Frm.setCell (S := fun k => k = zb) ?_ (.inl rfl) _
  exact Frm.refl _ _
 | some t =>
  rw [if_neg (by rw [← Hn.out]; simp [hp0])] at hR
  have WR2 := WR.out _ _ HXA.out
  rw [if_neg (by rw [← Hn.out]; simp)] at WR2
  replace WR2 := hid WR2
  replace HR := hid hR
  clear hR he WR hz2 hy hp0 Hn
  go_upto_region 6 with (first
   | (go_at_call 9; refine (PG.out _ _ HXA.out).mono ?_; rintro e w3 ⟨rfl, hw⟩; obtain rfl := hw.symm)
   | (go_at_call 36; refine (WR2.out).mono ?_; rintro e w4 ⟨rfl, hx, hk⟩; have HX4 := hid hx; have HK4 := hid hk; clear hx hk)
   | go_in)
  obtain ⟨⟨z0, z1, z2⟩, ⟨z3, z4, z5, z6, z7, z8, z9, z10⟩, zf⟩ := cells11 ((HK4.out zb (.inl (.inr rfl))).trans Hz2.out)
  obtain ⟨⟨y0, y1, y2⟩, ⟨y3, y4, y5, y6, y7, y8, y9, y10⟩, yf⟩ := cells11 ((HK4.out yb (.inr rfl)).trans Hy2.out)
  have HF := hid (fun (W5 : World) (hf : Frm (fun k => k = zb) w4 W5) => px_put (X := X) HX4.out (.inl (.inr rfl)) (Nat.le_trans HX.out.bel.size HzW.out.1) hf (fun k hk => ⟨.inl (.inl hk), fun e => by have := HX.out.xlt k hk; have := HzW.out.1; omega⟩))
  go_wp2_with fail
  rw [HR.out]
  refine bodyPost_ret (v := .tuple #[.agg #[.int .i64 f, .int .i64 c, .int .u64 k, .int .i64 r0, .int .i64 r1, .int .i64 r2, .int .i64 r3, .int .i64 r4, .int .i64 r5, .int .i64 r6, .int .i64 r7], .int .i64 0]) (by simp [results, Tryz.results33, go_sem, z0, z1, z2, z3, z4, z5, z6, z7, z8, z9, z10, zf]) rfl ⟨rfl, ?_⟩
  refine (fun hq => ⟨hq.1, fun k hk => (hq.2 k hk).trans ((HK4.out k (.inl (.inl hk))).trans (HB2.out.block k (HX.out.xlt k hk)))⟩ : (PgX w _ pb l b p g d X ∧ ∀ k, X k → _ = w4.heap[k]?) → _) (HF.out _ ?_)
  iterate 11 refine Frm.setCell (S := fun k => k = zb) ?_ (.inl rfl) _
  exact Frm.refl _ _
set_option maxHeartbeats 8000000 in
set_option maxRecDepth 20000 in
theorem sbegin_any (h : PgX w W pb l b p g d X) : Calls Tryz.prog 11 #[.pointer (some ⟨pb, 0, none⟩)] W fun e w' => e = .returned (.int .i64 (spBeginM p g d).1) ∧ PgX w w' pb l b (spBeginM p g d).2 g d X ∧ ∀ k, X k → w'.heap[k]? = W.heap[k]? := by
 have BG := px_begin h
 obtain ⟨R, hR⟩ : ∃ R, R = spBeginM p g d := ⟨_, rfl⟩
 rw [← hR]
 unfold spBeginM at hR
 obtain ⟨B, hB⟩ : ∃ B, B = beginM p g := ⟨_, rfl⟩
 rw [← hB] at BG hR
 replace BG := hid BG
 have HX := hid h
 clear h hB
 by_cases he : B.1 = 0
 rotate_left
 ·have b1 : (B.1 != 0) = true := by simp [he]
  rw [if_pos he] at hR
  have HR := hid hR
  clear hR he
  go_enter Tryz.func11, Tryz.ntmps11
  go_wp2_with (first | (go_at_call 30; refine (BG.out).mono ?_; rintro e w1 ⟨rfl, hx, hk⟩; have HX1 := hid hx; have HK1 := hid hk; clear hx hk) | go_in)
  go_ret
  rw [HR.out]
  exact ⟨rfl, HX1.out, HK1.out⟩
 have b1 : (B.1 != 0) = false := by simp [he]
 rw [if_neg (by simpa using he)] at hR
 obtain ⟨p1, hp1⟩ : ∃ p1, p1 = B.2 := ⟨_, rfl⟩
 have BG := BG.out
 rw [← hp1] at BG hR
 replace BG := hid BG
 obtain ⟨P, hP⟩ : ∃ P, P = ppagesM p1 g := ⟨_, rfl⟩
 rw [← hP] at hR
 have PG := fun (W1 : World) (hm : PgX w W1 pb l b p1 g d X) => px_pages hm
 simp only [← hP] at PG
 replace PG := hid PG
 clear hP he hp1
 by_cases hp0 : P = 0
 ·have b0 : (P == 0) = true := by simp [hp0]
  rw [if_pos hp0] at hR
  have HR := hid hR
  clear hR hp0
  go_enter Tryz.func11, Tryz.ntmps11
  go_wp2_with (first
   | (go_at_call 30; refine (BG.out).mono ?_; rintro e w1 ⟨rfl, hx, hk⟩; have HX1 := hid hx; have HK1 := hid hk; clear hx hk)
   | (go_at_call 9; refine (PG.out _ HX1.out).mono ?_; rintro e w2 ⟨rfl, hw⟩; obtain rfl := hw.symm)
   | (go_at_call 31; refine (px_resize HX1.out 1 (by decide)).mono ?_; rintro e w3 ⟨rfl, hx, hk⟩; have HX3 := hid hx; have HK3 := hid hk; clear hx hk)
   | (go_at_call 32; refine (swrite_any HX3.out hdr0 hdr0_wf).mono ?_; rintro e w4 ⟨rfl, hx, hk⟩; have HX4 := hid hx; have HK4 := hid hk; clear hx hk)
   | go_in)
  go_ret
  rw [HR.out]
  exact ⟨rfl, HX4.out, fun k hk => (HK4.out k hk).trans ((HK3.out k hk).trans (HK1.out k hk))⟩
 have b0 : (P == 0) = false := by simp [hp0]
 rw [if_neg hp0] at hR
 have hwf := (readHM_wf p1 g d).len
 obtain ⟨Q, hQ⟩ : ∃ Q, Q = readHM p1 g d := ⟨_, rfl⟩
 rw [← hQ] at hR hwf
 have SR := fun (W1 : World) (hm : PgX w W1 pb l b p1 g d X) => sread_any hm
 simp only [← hQ] at SR
 obtain ⟨H, E⟩ := Q
 obtain ⟨f, c, k, r0, r1, r2, r3, r4, r5, r6, r7, rfl⟩ := hdr_form hwf
 unfold hdrV hdrCells at SR
 simp only [List.map_cons, List.map_nil] at SR
 replace SR := hid SR
 dsimp only at hR
 clear hQ hwf hp0
 by_cases hE : E = 0
 ·have b2 : (E != 0) = false := by simp [hE]
  rw [if_neg (by simpa using hE)] at hR
  have HR := hid hR
  clear hR hE
  go_enter Tryz.func11, Tryz.ntmps11
  go_wp2_with (first
   | (go_at_call 30; refine (BG.out).mono ?_; rintro e w1 ⟨rfl, hx, hk⟩; have HX1 := hid hx; have HK1 := hid hk; clear hx hk)
   | (go_at_call 9; refine (PG.out _ HX1.out).mono ?_; rintro e w2 ⟨rfl, hw⟩; obtain rfl := hw.symm)
   | (go_at_call 10; refine (SR.out _ HX1.out).mono ?_; rintro e w3 ⟨rfl, hb3⟩; have HB3 := hid hb3; clear hb3)
   | go_in)
  go_ret
  rw [HR.out]
  have hf := px_fin HX1.out (HB3.out.alloc HB3.out.size (.cells #[.int .i64 f, .int .i64 c, .int .u64 k, .int .i64 r0, .int .i64 r1, .int .i64 r2, .int .i64 r3, .int .i64 r4, .int .i64 r5, .int .i64 r6, .int .i64 r7] 38))
  exact ⟨rfl, hf.1, fun k hk => (hf.2 k hk).trans (HK1.out k hk)⟩
 ·have b2 : (E != 0) = true := by simp [hE]
  rw [if_pos hE] at hR
  have HR := hid hR
  clear hR hE
  go_enter Tryz.func11, Tryz.ntmps11
  go_wp2_with (first
   | (go_at_call 30; refine (BG.out).mono ?_; rintro e w1 ⟨rfl, hx, hk⟩; have HX1 := hid hx; have HK1 := hid hk; clear hx hk)
   | (go_at_call 9; refine (PG.out _ HX1.out).mono ?_; rintro e w2 ⟨rfl, hw⟩; obtain rfl := hw.symm)
   | (go_at_call 10; refine (SR.out _ HX1.out).mono ?_; rintro e w3 ⟨rfl, hb3⟩; have HF3 := hid (px_fin HX1.out (hb3.alloc hb3.size (.cells #[.int .i64 f, .int .i64 c, .int .u64 k, .int .i64 r0, .int .i64 r1, .int .i64 r2, .int .i64 r3, .int .i64 r4, .int .i64 r5, .int .i64 r6, .int .i64 r7] 38))); clear hb3)
   | (go_at_call 15; refine (px_roll HF3.out.1).mono ?_; rintro e w4 ⟨rfl, hx, hk⟩; have HX4 := hid hx; have HK4 := hid hk; clear hx hk)
   | go_in)
  go_ret
  rw [HR.out]
  exact ⟨rfl, HX4.out, fun k hk => (HK4.out k hk).trans ((HF3.out.2 k hk).trans (HK1.out k hk))⟩
set_option maxHeartbeats 8000000 in
set_option maxRecDepth 20000 in
theorem scommit_any (h : PgX w W pb l b p g d X) (N : Nat) (hsm : d.Small N) (hN : N + 33554432 ≤ 1099511527776) : Calls Tryz.prog 22 #[.pointer (some ⟨pb, 0, none⟩)] W fun e w' => e = .returned (.int .i64 (spCommitM p g d).1) ∧ PgX w w' pb l b (spCommitM p g d).2.1 (spCommitM p g d).2.2.1 (spCommitM p g d).2.2.2 X ∧ ∀ k, X k → w'.heap[k]? = W.heap[k]? := by
 have SR := sready_any h
 have hwfH := readySM_wf p g d
 obtain ⟨R, hR⟩ : ∃ R, R = spCommitM p g d := ⟨_, rfl⟩
 rw [← hR]
 unfold spCommitM at hR
 obtain ⟨Q, hQ⟩ : ∃ Q, Q = readySM p g d := ⟨_, rfl⟩
 rw [← hQ] at hR hwfH SR
 obtain ⟨H, E⟩ := Q
 have hbw := bumped_wf hwfH
 obtain ⟨f, c, k, r0, r1, r2, r3, r4, r5, r6, r7, rfl⟩ := hdr_form hwfH.len
 unfold hdrV hdrCells at SR
 simp only [List.map_cons, List.map_nil] at SR
 replace SR := hid SR
 dsimp only at hR
 have HX := hid h
 have Hbw := hid hbw
 have Hsm := hid hsm
 clear hQ hwfH h hbw hsm
 by_cases hE : E = 0
 rotate_left
 ·have b1 : (E != 0) = true := by simp [hE]
  rw [if_pos hE] at hR
  have HR := hid hR
  clear hR hE
  go_enter Tryz.func22, Tryz.ntmps22
  go_wp2_with (first
   | (go_at_call 33; refine (SR.out).mono ?_; rintro e w1 ⟨rfl, hx, hk⟩; have HX1 := hid hx; have HK1 := hid hk; clear hx hk)
   | go_in)
  go_ret
  rw [HR.out]
  have hf := px_fin HX1.out ((Below.refl w1.heap.size w1).alloc (Nat.le_refl _) (.cells #[.int .i64 f, .int .i64 c, .int .u64 k, .int .i64 r0, .int .i64 r1, .int .i64 r2, .int .i64 r3, .int .i64 r4, .int .i64 r5, .int .i64 r6, .int .i64 r7] 38))
  exact ⟨rfl, hf.1, fun k hk => (hf.2 k hk).trans (HK1.out k hk)⟩
 have b1 : (E != 0) = false := by simp [hE]
 rw [if_neg (by simpa using hE)] at hR
 obtain ⟨k2, hk2⟩ : ∃ k2, k2 = IntKind.u64.wrap (k + 1) := ⟨_, rfl⟩
 have hbu : bumped ⟨f, c, k, [r0, r1, r2, r3, r4, r5, r6, r7]⟩ = ⟨f, c, k2, [r0, r1, r2, r3, r4, r5, r6, r7]⟩ := by rw [hk2]; rfl
 rw [hbu] at hR
 have hw2 := Hbw.out
 rw [hbu] at hw2
 have hk2' := hk2.symm
 obtain ⟨Wm, hWm⟩ : ∃ Wm, Wm = writeHM p ⟨f, c, k2, [r0, r1, r2, r3, r4, r5, r6, r7]⟩ := ⟨_, rfl⟩
 rw [← hWm] at hR
 have SW := fun (W1 : World) (hm : PgX w W1 pb l b p g d X) => swrite_any hm ⟨f, c, k2, [r0, r1, r2, r3, r4, r5, r6, r7]⟩ hw2
 simp only [← hWm] at SW
 unfold hdrV hdrCells at SW
 simp only [List.map_cons, List.map_nil] at SW
 replace SW := hid SW
 clear hE hbu hw2 hWm hk2 Hbw
 by_cases hE2 : Wm.1 = 0
 rotate_left
 ·have b2 : (Wm.1 != 0) = true := by simp [hE2]
  rw [if_pos hE2] at hR
  have HR := hid hR
  clear hR hE2
  go_enter Tryz.func22, Tryz.ntmps22
  go_wp2_with (first
   | (go_at_call 33; refine (SR.out).mono ?_; rintro e w1 ⟨rfl, hx, hk⟩; have HX1 := hid hx; have HK1 := hid hk; have HF1 := hid (px_fin hx ((Below.refl w1.heap.size w1).alloc (Nat.le_refl _) (.cells #[.int .i64 f, .int .i64 c, .int .u64 k2, .int .i64 r0, .int .i64 r1, .int .i64 r2, .int .i64 r3, .int .i64 r4, .int .i64 r5, .int .i64 r6, .int .i64 r7] 38))); clear hx hk)
   | (go_at_call 32; refine (SW.out _ HF1.out.1).mono ?_; rintro e w2 ⟨rfl, hx, hk⟩; have HX2 := hid hx; have HK2 := hid hk; clear hx hk)
   | go_in)
  go_ret
  rw [HR.out]
  exact ⟨rfl, HX2.out, fun k hk => (HK2.out k hk).trans ((HF1.out.2 k hk).trans (HK1.out k hk))⟩
 ·have b2 : (Wm.1 != 0) = false := by simp [hE2]
  rw [if_neg (by simpa using hE2)] at hR
  have HR := hid hR
  clear hR hE2
  go_enter Tryz.func22, Tryz.ntmps22
  go_wp2_with (first
   | (go_at_call 33; refine (SR.out).mono ?_; rintro e w1 ⟨rfl, hx, hk⟩; have HX1 := hid hx; have HK1 := hid hk; have HF1 := hid (px_fin hx ((Below.refl w1.heap.size w1).alloc (Nat.le_refl _) (.cells #[.int .i64 f, .int .i64 c, .int .u64 k2, .int .i64 r0, .int .i64 r1, .int .i64 r2, .int .i64 r3, .int .i64 r4, .int .i64 r5, .int .i64 r6, .int .i64 r7] 38))); clear hx hk)
   | (go_at_call 32; refine (SW.out _ HF1.out.1).mono ?_; rintro e w2 ⟨rfl, hx, hk⟩; have HX2 := hid hx; have HK2 := hid hk; clear hx hk)
   | (go_at_call 47; refine (px_commit HX2.out N Hsm.out hN).mono ?_; rintro e w3 ⟨rfl, hx, hk⟩; have HX3 := hid hx; have HK3 := hid hk; clear hx hk)
   | go_in)
  go_ret
  rw [HR.out]
  exact ⟨rfl, HX3.out, fun k hk => (HK3.out k hk).trans ((HK2.out k hk).trans ((HF1.out.2 k hk).trans (HK1.out k hk)))⟩
end
end Go.Proofs.YtlkkclooihjpiaaGreat
