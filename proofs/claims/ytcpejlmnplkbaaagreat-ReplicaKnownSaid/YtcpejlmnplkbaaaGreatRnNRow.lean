/- The law ReplicaKnown: its walk. -/
import Derived.Test.YtcpejlmnplkbaaaGreatRnM
import Derived.Test.YtcpejlmnplkbaaaGreatHeld
set_option linter.unusedVariables false
set_option linter.unusedSimpArgs false
namespace Go.Proofs.YtcpejlmnplkbaaaGreat
open Go.RowKit Go.Maps
set_option maxRecDepth 20000
section
variable {w W : World} {pb l b : Nat} {p : Pg} {g : Lg} {d : Dsk}
theorem px_base {w1 : World} {X : Nat → Prop} (h : PgX w1 W pb l b p g d X) (hb : Below w.heap.size w w1) : PgX w W pb l b p g d X := by
 obtain ⟨⟨F, G, K, nv, sv, h1, h2, h3, h4⟩, hb1, hx⟩ := h
 exact ⟨⟨F, G, K, nv, sv, h1, h2, h3, fun k hk => ⟨Nat.le_trans hb.size (h4 k hk).1, (h4 k hk).2⟩⟩, hb.trans (hb1.mono hb.size), hx⟩
end
theorem kT (ep k : Int) (he : 0 ≤ ep ∧ ep < 18446744073709551616) (hk : 0 ≤ k ∧ k < 18446744073709551616) : Rf.takeM (putL (ackSh ep k)) = (ackSh ep k, 0) := Rf.take_put _ (ack_may ep k) ⟨⟨by show (0 : Int) ≤ 2; decide, by show (2 : Int) < 256; decide⟩, he, hk⟩
theorem kL (ep k : Int) : (putL (ackSh ep k)).length ≤ 1099511627776 := by
 rw [Rf.putL_length _ (ack_may ep k)]
 show 56 + 520 * 0 ≤ _
 omega
theorem kG2 : lgetM ⟨3, 0, 0, 0⟩ 0 [] = (2, ⟨3, 0, 0, 0⟩) := rfl
theorem kG3 : lgetM ⟨3, 0, 0, 0⟩ 1 [] = (7, ⟨3, 0, 0, 0⟩) := rfl
theorem kG5 : lgetM ⟨3, 0, 0, 0⟩ 1 (putL (ackSh 3 5)) = (0, ⟨3, 0, 5, 0⟩) := by
 unfold lgetM
 rw [kT 3 5 ⟨by decide, by decide⟩ ⟨by decide, by decide⟩]
 rfl
theorem kG8 : lgetM ⟨3, 0, 5, 0⟩ 1 (putL (ackSh 3 4)) = (0, ⟨3, 0, 5, 0⟩) := by
 unfold lgetM
 rw [kT 3 4 ⟨by decide, by decide⟩ ⟨by decide, by decide⟩]
 rfl
theorem kG11 : lgetM ⟨3, 0, 5, 0⟩ 1 (putL (ackSh 4 9)) = (9, ⟨3, 0, 5, 0⟩) := by
 unfold lgetM
 rw [kT 4 9 ⟨by decide, by decide⟩ ⟨by decide, by decide⟩]
 rfl
def kM : Sh := ⟨1, 3, 2, false, 1, []⟩
theorem k_may : mayB kM = true := by decide +kernel
theorem k_wf : ShWf kM := by unfold ShWf kM; decide
theorem k_h0 : haveM p0 exG0 newM = (0, 0) := by decide +kernel
theorem k_f : (followM p0 exG0 newM kM).1 = 5 := by decide +kernel
theorem k_h1 : haveM (followM p0 exG0 newM kM).2.1 (followM p0 exG0 newM kM).2.2.1 (followM p0 exG0 newM kM).2.2.2 = (0, 0) := by decide +kernel
theorem k_len : (putL kM).length ≤ 1099511627776 := by
 rw [Rf.putL_length _ k_may]
 show 56 + 520 * 0 ≤ _
 omega
attribute [local irreducible] exG0 putL
theorem k_tick (pb l b : Nat) : ackL 0 ⟨pb, l, b, p0, exG0, newM⟩ = [(0, putL (ackSh 0 0))] := by
 unfold ackL
 dsimp only
 rw [k_h0]
 rfl
theorem k_get (pb l b : Nat) : tgetM 0 ⟨pb, l, b, p0, exG0, newM⟩ (putL kM) = ⟨[(0, putL (ackSh 3 0))], 5, 3, gFollowed ⟨pb, l, b, p0, exG0, newM⟩ kM⟩ := by
 have e : Rf.takeM (putL kM) = (kM, 0) := Rf.take_put _ k_may k_wf
 unfold tgetM
 rw [e]
 dsimp only
 rw [if_neg (by simp), if_neg (by decide), if_neg (by decide), k_f]
 have e3 : ackL 3 (gFollowed ⟨pb, l, b, p0, exG0, newM⟩ kM) = [(0, putL (ackSh 3 0))] := by
  unfold ackL gFollowed
  dsimp only
  rw [k_h1]
  rfl
 show TgR.mk (ackL 3 _) _ _ _ = _
 rw [e3]
 rfl
theorem lead_b (ep : Int) (W : World) : Calls Tryz.prog 8 #[.int .u64 ep] W fun e w' => ∃ L, e = .returned (.pointer (some ⟨L, 0, none⟩)) ∧ w'.heap[L]? = some (ldObj ⟨ep, 0, 0, 0⟩) ∧ Below W.heap.size W w' := by
 refine (lead_any ep W).mono ?_
 rintro e w' ⟨rfl, rfl⟩
 exact ⟨_, rfl, heap_alloc_new _ _, (Below.refl _ _).alloc (Nat.le_refl _) _⟩
theorem trail_b (W : World) : Calls Tryz.prog 13 #[.pointer none] W fun e w' => ∃ T, e = .returned (.pointer (some ⟨T, 0, none⟩)) ∧ w'.heap[T]? = some (.cells #[.pointer none, .int .u64 0] 92 (0, 0)) ∧ Below W.heap.size W w' := by
 refine (trail_nil W).mono ?_
 rintro e w' ⟨rfl, rfl⟩
 exact ⟨_, rfl, heap_alloc_new _ _, (Below.refl _ _).alloc (Nat.le_refl _) _⟩
structure KS (w W : World) (L T : Nat) (c : PgD) (ld : Ld) (ep : Int) (X : Nat → Prop) : Prop where
 px : PgAtX w W c X
 hl : W.heap[L]? = some (ldObj ld)
 ht : W.heap[T]? = some (tlObj c.pb ep)
 xl : X L
 xt : X T
 wl : w.heap.size ≤ L
 wt : w.heap.size ≤ T
 ne : L ≠ T
section
variable {w W W' : World} {L T : Nat} {c : PgD} {ld : Ld} {ep : Int} {X : Nat → Prop}
theorem KS.below (h : KS w W L T c ld ep X) (hb : Below W.heap.size W W') : KS w W' L T c ld ep X :=
 ⟨h.px.below hb, (hb.block L (lt_of_block h.hl)).trans h.hl, (hb.block T (lt_of_block h.ht)).trans h.ht, h.xl, h.xt, h.wl, h.wt, h.ne⟩
theorem KS.has (h : KS w W L T c ld ep X) (n v : Int) (hv : ldHas ld n = v) : Calls Tryz.prog 11 #[.pointer (some ⟨L, 0, none⟩), .int .i64 n] W fun e w' => e = .returned (.int .u64 v) ∧ KS w w' L T c ld ep X := by
 have A := lhas_any h.hl n
 rw [hv] at A
 refine A.mono ?_
 rintro e w' ⟨rfl, rfl⟩
 exact ⟨rfl, h⟩
theorem KS.get (h : KS w W L T c ld ep X) (n : Int) (s : List UInt8) (e0 : Int) (ld2 : Ld) (hg : lgetM ld n s = (e0, ld2)) (hs : s.length ≤ 1099511627776) : Calls Tryz.prog 9 #[.pointer (some ⟨L, 0, none⟩), .int .i64 n, .string (bs s)] W fun e w' => e = .returned (.int .i64 e0) ∧ KS w w' L T c ld2 ep X := by
 have A := lget_any h.hl n s hs
 rw [hg] at A
 refine A.mono ?_
 rintro e w' ⟨rfl, h1, h2⟩
 exact ⟨rfl, h.px.turned h.xl h.wl h2, h1, (h2.block T (lt_of_block h.ht) (fun e => h.ne e.symm)).trans h.ht, h.xl, h.xt, h.wl, h.wt, h.ne⟩
theorem KS.get0 (h : KS w W L T c ld ep X) (n e0 : Int) (ld2 : Ld) (hg : lgetM ld n [] = (e0, ld2)) : Calls Tryz.prog 9 #[.pointer (some ⟨L, 0, none⟩), .int .i64 n, .string ⟨#[]⟩] W fun e w' => e = .returned (.int .i64 e0) ∧ KS w w' L T c ld2 ep X := h.get n [] e0 ld2 hg (by simp)
theorem KS.ack (h : KS w W L T c ld ep X) (a k : Int) (he : 0 ≤ a ∧ a < 18446744073709551616) (hk : 0 ≤ k ∧ k < 18446744073709551616) : Calls Tryz.prog 14 #[.int .u64 a, .int .u64 k] W fun e w' => e = .returned (.string (bs (putL (ackSh a k)))) ∧ KS w w' L T c ld ep X := by
 refine (ack_any a k he hk).mono ?_
 rintro e w' ⟨rfl, hb⟩
 exact ⟨rfl, h.below hb⟩
theorem KS.works (h : KS w W L T c ld ep X) : Calls Tryz.prog 7 #[] W fun e w' => e = .returned (.bool true) ∧ KS w w' L T c ld ep X := by
 refine (rworks_any W).mono ?_
 rintro e w' ⟨rfl, hb⟩
 exact ⟨rfl, h.below hb⟩
theorem KS.tick (h : KS w W L T c ld ep X) (he : 0 ≤ ep ∧ ep < 18446744073709551616) : Calls Tryz.prog 16 #[.pointer (some ⟨T, 0, none⟩)] W fun e w' => ∃ pv, e = .returned pv ∧ PostRow w' w.heap.size pv (ackL ep c) ∧ KS w w' L T c ld ep (fun k => X k ∨ pv.ownBlock = some k) := by
 refine (ttick1_any h.px h.ht h.xt he).mono ?_
 rintro e w' ⟨pv, rfl, h1, h2, h3, h4⟩
 exact ⟨pv, rfl, h1, h2, (h3 L h.xl).trans h.hl, (h3 T h.xt).trans h.ht, .inl h.xl, .inl h.xt, h.wl, h.wt, h.ne⟩
theorem KS.tget {pb l b : Nat} (h : KS w W L T ⟨pb, l, b, p0, exG0, newM⟩ ld 0 X) : Calls Tryz.prog 18 #[.pointer (some ⟨T, 0, none⟩), .string (bs (putL kM))] W fun e w' => ∃ pv, e = .returned (.tuple #[pv, .int .i64 5]) ∧ PostRow w' w.heap.size pv [(0, putL (ackSh 3 0))] ∧ KS w w' L T (gFollowed ⟨pb, l, b, p0, exG0, newM⟩ kM) ld 3 (fun k => X k ∨ pv.ownBlock = some k) := by
 have A := tget1_any h.px h.ht h.xt h.wt ⟨by decide, by decide⟩ (putL kM) k_len 100 new_small (by decide)
 rw [k_get] at A
 refine A.mono ?_
 rintro e w' ⟨pv, rfl, hg⟩
 exact ⟨pv, rfl, hg.row, hg.two, (hg.keep L h.xl h.ne).trans h.hl, hg.blk, .inl h.xl, .inl h.xt, h.wl, h.wt, h.ne⟩
end
set_option maxHeartbeats 16000000 in
set_option maxRecDepth 20000 in
theorem rknown_any (w : World) : Calls Tryz.prog 4 #[] w fun e w' => e = .returned (.bool true) ∧ Below w.heap.size w w' := by
 go_enter Tryz.func4, Tryz.ntmps4
 go_upto_region 4 with (first
  | (go_at_call 8; refine (lead_any 3 _).mono ?_; rintro e w1 ⟨rfl, hw1⟩; have HW1 := hid hw1; clear hw1)
  | (go_at_call 12; refine (fresh_any w1).mono ?_; rintro e w2 ⟨pb, l, b, rfl, hp2⟩; have HP2 := hid hp2; clear hp2)
  | (go_at_call 13; refine (trail_any pb _).mono ?_; rintro e w3 ⟨rfl, hw3⟩; have HW3 := hid hw3; clear hw3)
  | go_in)
 have hL1 : w1.heap[w.heap.size]? = some (ldObj ⟨3, 0, 0, 0⟩) := by rw [HW1.out]; exact heap_alloc_new _ _
 have hb1 : Below w.heap.size w w1 := by rw [HW1.out]; exact (Below.refl _ _).alloc (Nat.le_refl _) _
 have hb2 := HP2.out.bel
 have hp2 : PgAtX w w2 ⟨pb, l, b, p0, exG0, newM⟩ (fun k => k < w1.heap.size) := px_base HP2.out hb1
 have hb3 : Below w2.heap.size w2 w3 := by rw [HW3.out]; exact (Below.refl _ _).alloc (Nat.le_refl _) _
 have ht3 : w3.heap[w2.heap.size]? = some (tlObj pb 0) := by rw [HW3.out]; exact heap_alloc_new _ _
 have hlt := lt_of_block hL1
 have hl3 := (hb3.block w.heap.size (Nat.lt_of_lt_of_le hlt hb2.size)).trans ((hb2.block w.heap.size hlt).trans hL1)
 have S0 : KS w w3 w.heap.size w2.heap.size ⟨pb, l, b, p0, exG0, newM⟩ ⟨3, 0, 0, 0⟩ 0 (fun k => k < w1.heap.size ∨ k = w2.heap.size) :=
  ⟨hp2.add hb3 (fun y hy => hy.imp id (fun e => by rw [e]; exact Nat.le_refl _)) (fun y hy => hy.elim (fun e => Nat.lt_of_lt_of_le e (Nat.le_trans hb2.size hb3.size)) (fun e => by rw [e]; exact lt_of_block ht3)), hl3, ht3, .inl hlt, .inr rfl, Nat.le_refl _, Nat.le_trans hb1.size hb2.size, by have := hb2.size; omega⟩
 obtain ⟨L, hL⟩ : ∃ L, L = w.heap.size := ⟨_, rfl⟩
 obtain ⟨T, hT⟩ : ∃ T, T = w2.heap.size := ⟨_, rfl⟩
 have hS : ∃ X, KS w w3 L T ⟨pb, l, b, p0, exG0, newM⟩ ⟨3, 0, 0, 0⟩ 0 X := by rw [hL, hT]; exact ⟨_, S0⟩
 obtain ⟨X, hS⟩ := hS
 rw [← hL, ← hT]
 have S0 := hid hS
 clear hL1 hb1 hb2 hp2 hb3 ht3 hlt hl3 hS hL hT HW1 HP2 HW3
 go_upto_region 6 with (first
  | (go_at_call 7; have hq := S0.out; refine (hq.works).mono ?_; rintro e wa0 ⟨rfl, h⟩; have S1 := hid h; clear hq h S0)
  | (go_at_call 11; have hq := S1.out; refine (hq.has 1 0 rfl).mono ?_; rintro e wa1 ⟨rfl, h⟩; have S2 := hid h; clear hq h S1)
  | (go_at_call 11; have hq := S2.out; refine (hq.has 0 0 rfl).mono ?_; rintro e wa2 ⟨rfl, h⟩; have S3 := hid h; clear hq h S2)
  | (go_at_call 9; have hq := S3.out; refine (hq.get0 0 2 ⟨3, 0, 0, 0⟩ kG2).mono ?_; rintro e wa3 ⟨rfl, h⟩; have S4 := hid h; clear hq h S3)
  | (go_at_call 9; have hq := S4.out; refine (hq.get0 1 7 ⟨3, 0, 0, 0⟩ kG3).mono ?_; rintro e wa4 ⟨rfl, h⟩; have S5 := hid h; clear hq h S4)
  | (go_at_call 14; have hq := S5.out; refine (hq.ack 3 5 ⟨by decide, by decide⟩ ⟨by decide, by decide⟩).mono ?_; rintro e wa5 ⟨rfl, h⟩; have S6 := hid h; clear hq h S5)
  | (go_at_call 9; have hq := S6.out; refine (hq.get 1 (putL (ackSh 3 5)) 0 ⟨3, 0, 5, 0⟩ kG5 (kL _ _)).mono ?_; rintro e wa6 ⟨rfl, h⟩; have S7 := hid h; clear hq h S6)
  | (go_at_call 11; have hq := S7.out; refine (hq.has 1 5 rfl).mono ?_; rintro e wa7 ⟨rfl, h⟩; have S8 := hid h; clear hq h S7)
  | (go_at_call 14; have hq := S8.out; refine (hq.ack 3 4 ⟨by decide, by decide⟩ ⟨by decide, by decide⟩).mono ?_; rintro e wa8 ⟨rfl, h⟩; have S9 := hid h; clear hq h S8)
  | (go_at_call 9; have hq := S9.out; refine (hq.get 1 (putL (ackSh 3 4)) 0 ⟨3, 0, 5, 0⟩ kG8 (kL _ _)).mono ?_; rintro e wa9 ⟨rfl, h⟩; have S10 := hid h; clear hq h S9)
  | (go_at_call 11; have hq := S10.out; refine (hq.has 1 5 rfl).mono ?_; rintro e wa10 ⟨rfl, h⟩; have S11 := hid h; clear hq h S10)
  | (go_at_call 14; have hq := S11.out; refine (hq.ack 4 9 ⟨by decide, by decide⟩ ⟨by decide, by decide⟩).mono ?_; rintro e wa11 ⟨rfl, h⟩; have S12 := hid h; clear hq h S11)
  | (go_at_call 9; have hq := S12.out; refine (hq.get 1 (putL (ackSh 4 9)) 9 ⟨3, 0, 5, 0⟩ kG11 (kL _ _)).mono ?_; rintro e wa12 ⟨rfl, h⟩; have S13 := hid h; clear hq h S12)
  | go_in)
 have RP := fun W => Rf.refPut_yes kM (.slice none 0 0) W (.inl ⟨⟨_, _, rfl⟩, rfl⟩) k_may k_wf
 unfold shipV kM at RP
 dsimp only at RP
 have RP := hid (show ∀ W, Calls Tryz.prog 17 #[.agg #[.int .u8 1, .int .u64 3, .int .u64 2, .bool false, .int .i64 1, .slice none 0 0]] W fun e w' => e = .returned (.tuple #[.string (bs (putL kM)), .int .i64 0]) ∧ Below W.heap.size W w' from RP)
 go_upto_region 8 with (first
  | (go_at_call 16; have hq := S13.out; refine (hq.tick ⟨by decide, by decide⟩).mono ?_; rintro e wb1 ⟨pv, rfl, hr, h⟩; rw [k_tick] at hr; obtain ⟨ao, cap, rfl, -⟩ := hr.shape; have R1 := hid hr; have S14 := hid h; clear hq h hr S13)
  | (go_at_call 14; have hq := R1.out; refine (ack_any 0 0 ⟨by decide, by decide⟩ ⟨by decide, by decide⟩).mono ?_; rintro e wb2 ⟨rfl, hb⟩; have S15 := hid (S14.out.below hb); have R2 := hid (row_keep hq (fun y hy => hb.block y (row_base hq hy).2)); clear hq hb S14 R1)
  | (go_at_call 15; have hq := R2.out; refine (posts_equal (row_keep hq (fun y hy => Below.heap_alloc wb2 (.cells #[.int .i64 0, .string (bs (putL (ackSh 0 0)))] 46) y (row_base hq hy).2)) (post_lit wb2 0 (Nat.zero_le _) 0 (putL (ackSh 0 0))) (by decide)).mono ?_; rintro e wb3 ⟨rfl, hb⟩; have S16 := hid (S15.out.below (below_step hb)); clear hq hb S15 R2)
  | go_in)
 go_upto_region 13 with (first
  | (go_at_call 17; have hq := S16.out; refine (RP.out _).mono ?_; rintro e wb4 ⟨rfl, hb⟩; have S17 := hid (hq.below hb); clear hq hb S16)
  | (go_at_call 18; have hq := S17.out; refine (hq.tget).mono ?_; rintro e wb5 ⟨pv2, rfl, hr, h⟩; obtain ⟨ao2, cap2, rfl, -⟩ := hr.shape; have R3 := hid hr; have S18 := hid h; clear hq h hr S17)
  | (go_at_call 18; have hq := S18.out; refine (tget_nil _ _).mono ?_; rintro e wb6 ⟨rfl, hw⟩; obtain rfl := hw.symm; have S19 := hid hq; clear hq S18)
  | go_in)
 go_wp2_with (first
  | (go_at_call 14; have hq := S19.out; refine (ack_any 3 0 ⟨by decide, by decide⟩ ⟨by decide, by decide⟩).mono ?_; rintro e wc2 ⟨rfl, hb⟩; have S20 := hid (hq.below hb); have R4 := hid (row_keep R3.out (fun y hy => hb.block y (row_base R3.out hy).2)); clear hq hb S19 R3)
  | (go_at_call 15; have hq := R4.out; refine (posts_equal (row_keep hq (fun y hy => Below.heap_alloc wc2 (.cells #[.int .i64 0, .string (bs (putL (ackSh 3 0)))] 46) y (row_base hq hy).2)) (post_lit wc2 0 (Nat.zero_le _) 0 (putL (ackSh 3 0))) (by decide)).mono ?_; rintro e wc3 ⟨rfl, hb⟩; have S21 := hid (S20.out.below (below_step hb)); clear hq hb S20 R4)
  | (go_at_call 9; have hq := S21.out; refine (lget_nil _ _ _).mono ?_; rintro e wc4 ⟨rfl, hw⟩; obtain rfl := hw.symm; have S22 := hid hq; clear hq S21)
  | (go_at_call 11; have hq := S22.out; refine (lhas_nil _ _).mono ?_; rintro e wc5 ⟨rfl, hw⟩; obtain rfl := hw.symm; have S23 := hid hq; clear hq S22)
  | (go_at_call 19; have hq := S23.out; refine (ltick_nil _ _).mono ?_; rintro e wc6 ⟨rfl, hw⟩; obtain rfl := hw.symm; have S24 := hid hq.px.bel; clear hq S23)
  | (go_at_call 16; have hq := S24.out; refine (ttick_nil _).mono ?_; rintro e wc7 ⟨rfl, hw⟩; obtain rfl := hw.symm; have S25 := hid hq; clear hq S24)
  | (go_at_call 20; have hq := S25.out; refine (epoch_nil _).mono ?_; rintro e wc8 ⟨rfl, hw⟩; obtain rfl := hw.symm; have S26 := hid hq; clear hq S25)
  | (go_at_call 8; have hq := S26.out; refine (lead_b 1 _).mono ?_; rintro e wc9 ⟨L9, rfl, hl, hb⟩; have S27 := hid (hq.trans (hb.mono hq.size)); have B27 := hid hl; clear hq hb hl S26)
  | (go_at_call 19; have hq := S27.out; refine (ltick_np B27.out).mono ?_; rintro e wc10 ⟨rfl, hb⟩; have S28 := hid (hq.trans (hb.mono hq.size)); clear hq hb S27 B27)
  | (go_at_call 13; have hq := S28.out; refine (trail_b _).mono ?_; rintro e wc11 ⟨T9, rfl, hl, hb⟩; have S29 := hid (hq.trans (hb.mono hq.size)); have B29 := hid hl; clear hq hb hl S28)
  | (go_at_call 16; have hq := S29.out; refine (ttick_np B29.out).mono ?_; rintro e wc12 ⟨rfl, hb⟩; have S30 := hid (hq.trans (hb.mono hq.size)); clear hq hb S29 B29)
  | go_in)
 go_ret
 exact ⟨rfl, S30.out⟩
end Go.Proofs.YtcpejlmnplkbaaaGreat
/- The row of ReplicaKnown, lifted: the document's examples; nobody, ReplicaKnown answers true, and what came in reads as it did. No condition. -/
namespace Go.Proofs.YtcpejlmnplkbaaaGreat
open Go.ChangeShapes Go.WideShapes Go.ChangeAt Go.RowKit Go.Deep
set_option maxRecDepth 20000
set_option maxHeartbeats 800000 in
set_option maxRecDepth 100000 in
theorem replicaKnown_lifted (os : Os) (started : os.Started) (H : Type) (enc : TypeId × Value → H) :
  ReturnsInHanded {} Tryz.checked os 4 .any (Rows.replicaKnownSpec.pre6 enc Tryz.prog Tryz.f4 Rows.replicaKnownRow.domain false) (Rows.replicaKnownSpec.post enc Tryz.prog Tryz.f4 false true false false) := by
 refine returnsInHanded_of_change (C := Tryz.checked) own started (by kernel_rfl) Tryz.func4
  (ChangeSpec.witness6 (enc := enc) (C := Tryz.checked) false ⟨#[], #[], []⟩ 8 (by kernel_rfl) (by kernel_rfl) (by kernel_rfl) (by kernel_rfl)) ?_
 intro W base args ds gs before hval0 hW hcnd _
 have hval : ∀ (j : Nat) t v, Tryz.f4.params[j]? = some t → args[j]? = some v → Value.okWide Tryz.prog W .any base t v := hval0
 have hW' := hW
 obtain ⟨plcs, plcs2, hA0, hV, rfl, hfz, hnd⟩ := hW
 have hA : DataW.TrodAll enc Tryz.prog W 0 (fun _ => true) true Tryz.f4.params.toList args.toList ds plcs := hA0
 rw [Tryz.params4] at hA hval
 obtain ⟨rfl, rfl⟩ := trodVars_none hV
 have each := trod_each hA
 obtain rfl := args_none each.1
 obtain rfl := list_none (trod_ds hA)
 clear hA0 hval0 each
 simp only [List.append_nil] at hW'
 have hlt : ∀ y ∈ plcs, y.block < W.heap.size := fun y hy => by simpa using hW'.lt y (by simpa using hy)
 refine (show Calls _ _ _ _ _ from rknown_any W).mono fun e W' ⟨he, hb⟩ => ?_
 subst he
 exact ⟨_, rfl, _, _, _, [], _, [], hW', trodAll_mk1 (shut_bool Tryz.underlying4 _), below_all laidOut hb (by kernel_rfl) hA hlt, rfl, hb.frame _, fun h => by cases h⟩
theorem replicaKnown_holds : Rows.ReplicaKnownSaid :=
 OpenClaim.holds_of_wide 4 Tryz.f4 rfl rfl rfl rfl rfl rfl rfl ⟨rfl, rfl, rfl, rfl, rfl⟩ rfl rfl rfl rfl rfl (by kernel_rfl) Tryz.func4 (by kernel_rfl)
  (of_decide_eq_true (by kernel_rfl)) (by unfold Func.isWrapper; first | (rw [if_pos (by decide +kernel)]; kernel_rfl) | (rw [if_neg (by decide +kernel)]; exact ⟨rfl, rfl⟩))
  (fun os started H enc _ => replicaKnown_lifted os started H enc)
#print axioms replicaKnown_holds
end Go.Proofs.YtcpejlmnplkbaaaGreat
