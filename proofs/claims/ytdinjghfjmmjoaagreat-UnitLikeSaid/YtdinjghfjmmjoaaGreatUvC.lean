import Derived.Test.YtdinjghfjmmjoaaGreatUnF
import Derived.Test.YtdinjghfjmmjoaaGreatBkA
set_option linter.unusedVariables false
set_option linter.unusedSimpArgs false
namespace Go.Proofs.YtdinjghfjmmjoaaGreat
open Go.RowKit Go.Maps
set_option maxRecDepth 20000
section
variable {w W W' : World} {a a' c c' : PgD} {X X' : Nat → Prop}
theorem Two.leftG (h : Two w W a c X) : ∃ T : Nat → Prop, PgAtX w W a (fun k => X k ∨ T k) ∧ ∀ (w' : World) (a' : PgD) (X' : Nat → Prop), PgAtX w w' a' (fun k => X' k ∨ T k) → (∀ k, X k ∨ T k → w'.heap[k]? = W.heap[k]?) → (∀ k, X' k → X k ∨ W.heap.size ≤ k) → Two w w' a' c X' ∧ ∀ k, X k → w'.heap[k]? = W.heap[k]? := by
 obtain ⟨⟨S, T, h1, h2, h3, h4⟩, hb, hx⟩ := h
 refine ⟨T, h1.x hb (fun k hk => hk.elim (hx k) (h2.lt k)) (fun k hk e => e.elim (h3 k hk).2 (h3 k hk).1), fun w' a' X' ha hk hX => ⟨?_, fun k hk1 => hk k (.inl hk1)⟩⟩
 obtain ⟨S', hs, hd⟩ := PgX.s ha
 exact ⟨⟨S', T, hs, h2.keep (fun k hk1 => hk k (.inr hk1)), fun k hk1 => ⟨fun e => hd k hk1 (.inr e), fun e => hd k hk1 (.inl e)⟩, fun k hk1 e => (hX k e).elim (h4 k hk1) (fun e2 => by have := h2.lt k hk1; omega)⟩, ha.bel, fun k hk1 => ha.xlt k (.inl hk1)⟩
theorem Two.snd (h : Two w W a c X) : PgAtX w W c X := h.swap.fst
def gTurned (a : PgD) (n : Int) (x : UInt8) : PgD := ⟨a.pb, a.l, a.b, (turnGM a.p a.g a.d n x).2.1, (turnGM a.p a.g a.d n x).2.2.1, (turnGM a.p a.g a.d n x).2.2.2⟩
def gFollowed (c : PgD) (m : Sh) : PgD := ⟨c.pb, c.l, c.b, (followM c.p c.g c.d m).2.1, (followM c.p c.g c.d m).2.2.1, (followM c.p c.g c.d m).2.2.2⟩
def gChecked (a : PgD) : PgD := ⟨a.pb, a.l, a.b, a.p, (pcheckM a.p a.g a.d).2.1, (pcheckM a.p a.g a.d).2.2⟩
theorem tw_turn (h : Two w W a c X) (n : Int) (x : UInt8) (hn : 2 ≤ n ∧ n ≤ 256) (hrz : ppagesM (spBeginM a.p a.g a.d).2 a.g < n → (presizeM (spBeginM a.p a.g a.d).2 n).1 = 0) (N : Nat) (hsm : a.d.Small N) (hN : N + 33554432 ≤ 1099511527776) :
  Calls Tryz.prog 9 #[.pointer (some ⟨a.pb, 0, none⟩), .int .i64 n, .int .u8 (x.toNat : Int)] W fun e w' => e = .returned (.int .i64 (turnGM a.p a.g a.d n x).1) ∧ Two w w' (gTurned a n x) c X ∧ ∀ k, X k → w'.heap[k]? = W.heap[k]? := by
 obtain ⟨T, h1, h2⟩ := h.left
 refine (turn_any h1 n x hn hrz N hsm hN).mono ?_
 rintro e w' ⟨rfl, h3, h4⟩
 obtain ⟨h5, h6⟩ := h2 w' (gTurned a n x) h3 h4
 exact ⟨rfl, h5, h6⟩
def TwGave (w W : World) (a c : PgD) (X : Nat → Prop) (R : Sh × Int) (e : Ending) (w' : World) : Prop :=
 ∃ v, e = .returned (.tuple #[shipV R.1 v, .int .i64 R.2]) ∧ ImgRow w' W.heap.size v R.1.imgs ∧ Two w w' a c (fun k => X k ∨ v.ownBlock = some k) ∧ ∀ k, X k → w'.heap[k]? = W.heap[k]?
theorem twGave_of {R : Sh × Int} {e : Ending} {w' : World} {T : Nat → Prop} (hc : ∀ (w' : World) (a' : PgD) (X' : Nat → Prop), PgAtX w w' a' (fun k => X' k ∨ T k) → (∀ k, X k ∨ T k → w'.heap[k]? = W.heap[k]?) → (∀ k, X' k → X k ∨ W.heap.size ≤ k) → Two w w' a' c X' ∧ ∀ k, X k → w'.heap[k]? = W.heap[k]?) (h : ShGave w W a.pb a.l a.b a.p a.g a.d (fun k => X k ∨ T k) R e w') : TwGave w W a c X R e w' := by
 obtain ⟨v, rfl, h1, h2, h3⟩ := h
 obtain ⟨h4, h5⟩ := hc w' a (fun k => X k ∨ v.ownBlock = some k) (h2.to (fun k hk => by
  rcases hk with (hk | hk) | hk
  ·exact .inl (.inl hk)
  ·exact .inr hk
  ·exact .inl (.inr hk))) h3 (fun k hk => hk.imp id (fun e => (row_base h1 e).1))
 exact ⟨v, rfl, h1, h4, h5⟩
theorem tw_next (h : Two w W a c X) (hok : stOk a.p a.g a.d) (ep k : Int) : Calls Tryz.prog 10 #[.pointer (some ⟨a.pb, 0, none⟩), .int .u64 ep, .int .u64 k] W (TwGave w W a c X (nextM a.p a.g a.d ep k)) := by
 obtain ⟨T, h1, h2⟩ := h.leftG
 exact (next_any h1 hok ep k).mono fun e w' hh => twGave_of h2 hh
theorem tw_snap (h : Two w W a c X) (hok : stOk a.p a.g a.d) (ep : Int) : Calls Tryz.prog 15 #[.pointer (some ⟨a.pb, 0, none⟩), .int .u64 ep] W (TwGave w W a c X (snapM a.p a.g a.d ep)) := by
 obtain ⟨T, h1, h2⟩ := h.leftG
 exact (snap_any h1 hok ep).mono fun e w' hh => twGave_of h2 hh
theorem tw_follow (h : Two w W a c X) {m : Sh} {v : Value} (hm : ShOk w W X m v) (N : Nat) (hsm : c.d.Small N) (hN : N + 33554432 ≤ 1099511527776) :
  Calls Tryz.prog 12 #[.pointer (some ⟨c.pb, 0, none⟩), shipV m v] W fun e w' => e = .returned (.int .i64 (followM c.p c.g c.d m).1) ∧ Two w w' a (gFollowed c m) X ∧ ∀ k, X k → w'.heap[k]? = W.heap[k]? := by
 obtain ⟨T, h1, h2⟩ := h.right
 refine (follow_any h1 (hm.mono fun k hk => .inl hk) N hsm hN).mono ?_
 rintro e w' ⟨rfl, h3, h4⟩
 obtain ⟨h5, h6⟩ := h2 w' (gFollowed c m) h3 h4
 exact ⟨rfl, h5, h6⟩
theorem tw_have (h : Two w W a c X) : Calls Tryz.prog 14 #[.pointer (some ⟨c.pb, 0, none⟩)] W fun e w' => e = .returned (.tuple #[.int .u64 (haveM c.p c.g c.d).1, .int .i64 (haveM c.p c.g c.d).2]) ∧ Two w w' a c X ∧ ∀ k, X k → w'.heap[k]? = W.heap[k]? := by
 obtain ⟨T, h1, h2⟩ := h.right
 refine (have_any h1).mono ?_
 rintro e w' ⟨rfl, h3, h4⟩
 obtain ⟨h5, h6⟩ := h2 w' c h3 h4
 exact ⟨rfl, h5, h6⟩
theorem tw_check (h : Two w W a c X) (N : Nat) (hsm : a.d.Small N) (hN : N + 16777216 ≤ 1099511527776) : Calls Tryz.prog 11 #[.pointer (some ⟨a.pb, 0, none⟩)] W fun e w' => e = .returned (.int .i64 (pcheckM a.p a.g a.d).1) ∧ Two w w' (gChecked a) c X ∧ ∀ k, X k → w'.heap[k]? = W.heap[k]? := by
 obtain ⟨T, h1, h2⟩ := h.left
 refine (px_check h1 N hsm hN).mono ?_
 rintro e w' ⟨rfl, h3, h4⟩
 obtain ⟨h5, h6⟩ := h2 w' (gChecked a) h3 h4
 exact ⟨rfl, h5, h6⟩
theorem ShOk.made {m : Sh} {v : Value} {base : Nat} (h : ImgRow W base v m.imgs) (hX : ∀ k, v.ownBlock = some k → X k) (hn : m.imgs.length ≤ 1000) (hb : ∀ x ∈ m.imgs, x.2.length ≤ 1000) (hw : ShWf m) : ShOk w W X m v := by
 obtain ⟨ao, cap, rfl, hc⟩ := h.get
 refine ⟨?_, fun q off n cap' e hne => ?_, by omega, fun x hx => by have := hb x hx; omega, hw⟩
 ·by_cases h0 : m.imgs = []
  ·exact .inl ⟨⟨ao, cap, by rw [h0]; rfl⟩, h0⟩
  ·obtain ⟨q, rfl, -, -, -, -⟩ := hc 0 (by cases hi : m.imgs with | nil => exact absurd hi h0 | cons x r => simp)
   refine .inr ⟨q, 0, cap, rfl, fun j hj => ?_⟩
   obtain ⟨q', e, -, -, c1, c2⟩ := hc j hj
   injection e with e
   injection e with e
   subst e
   rw [Nat.zero_add]
   exact ⟨c1, c2⟩
 ·injection e with e1 e2 e3
  refine .inr (hX q ?_)
  rw [e1]
  obtain ⟨q', e4, -⟩ := hc 0 (by cases hi : m.imgs with | nil => exact absurd hi hne | cons x r => simp)
  rw [e1] at e4
  injection e4 with e4
  injection e4 with e4 e5
  rw [e5]
  rfl
end
end Go.Proofs.YtdinjghfjmmjoaaGreat
namespace Go.Proofs.YtdinjghfjmmjoaaGreat
open Go.RowKit Go.Maps
set_option maxRecDepth 20000
def uT1 : Int × Pg × Lg × Dsk := turnGM p0 exG0 newM 2 97
def uT2 : Int × Pg × Lg × Dsk := turnGM uT1.2.1 uT1.2.2.1 uT1.2.2.2 2 98
def uN1 : Sh × Int := nextM uT2.2.1 uT2.2.2.1 uT2.2.2.2 1 0
def uF1 : Int × Pg × Lg × Dsk := followM p0 exG0 newM uN1.1
def uN2 : Sh × Int := nextM uT2.2.1 uT2.2.2.1 uT2.2.2.2 1 1
def uF2 : Int × Pg × Lg × Dsk := followM uF1.2.1 uF1.2.2.1 uF1.2.2.2 uN2.1
theorem u_t1 : uT1.1 = 0 := by decide +kernel
theorem u_r1 : ppagesM (spBeginM p0 exG0 newM).2 exG0 < 2 → (presizeM (spBeginM p0 exG0 newM).2 2).1 = 0 := by decide +kernel
theorem u_t2 : uT2.1 = 0 := by decide +kernel
theorem u_r2 : ppagesM (spBeginM uT1.2.1 uT1.2.2.1 uT1.2.2.2).2 uT1.2.2.1 < 2 → (presizeM (spBeginM uT1.2.1 uT1.2.2.1 uT1.2.2.2).2 2).1 = 0 := by decide +kernel
theorem u_s1 : uT1.2.2.2.Small 10000 := ⟨by decide +kernel, by decide +kernel, by decide +kernel⟩
theorem u_n1 : uN1.2 = 0 := by decide +kernel
theorem u_n1f : uN1.1.full = false := by decide +kernel
theorem u_n1k : uN1.1.k = 1 := by decide +kernel
theorem u_n1w : ShWf uN1.1 := by unfold ShWf; decide +kernel
theorem u_n1l : uN1.1.imgs.length ≤ 1000 := by decide +kernel
theorem u_n1b : ∀ x ∈ uN1.1.imgs, x.2.length ≤ 1000 := by decide +kernel
theorem u_f1 : uF1.1 = 0 := by decide +kernel
theorem u_f1s : uF1.2.2.2.Small 10000 := ⟨by decide +kernel, by decide +kernel, by decide +kernel⟩
theorem u_n2 : uN2.2 = 0 := by decide +kernel
theorem u_n2f : uN2.1.full = false := by decide +kernel
theorem u_n2k : uN2.1.k = 2 := by decide +kernel
theorem u_n2w : ShWf uN2.1 := by unfold ShWf; decide +kernel
theorem u_n2l : uN2.1.imgs.length ≤ 1000 := by decide +kernel
theorem u_n2b : ∀ x ∈ uN2.1.imgs, x.2.length ≤ 1000 := by decide +kernel
theorem u_f2 : uF2.1 = 0 := by decide +kernel
theorem u_h2 : haveM uF2.2.1 uF2.2.2.1 uF2.2.2.2 = (2, 0) := by decide +kernel
theorem u_same : stL uT2.2.1 uT2.2.2.1 uT2.2.2.2 = stL uF2.2.1 uF2.2.2.1 uF2.2.2.2 := by decide +kernel
theorem u_p2 : ppagesM uT2.2.1 uT2.2.2.1 = 2 := by decide +kernel
theorem u_p2r : (preadM uT2.2.1 uT2.2.2.1 uT2.2.2.2 1).2 = 0 ∧ (preadM uT2.2.1 uT2.2.2.1 uT2.2.2.2 2).2 = 0 := by decide +kernel
theorem u_q2 : ppagesM uF2.2.1 uF2.2.2.1 = 2 := by decide +kernel
theorem u_q2r : (preadM uF2.2.1 uF2.2.2.1 uF2.2.2.2 1).2 = 0 ∧ (preadM uF2.2.1 uF2.2.2.1 uF2.2.2.2 2).2 = 0 := by decide +kernel
theorem stOk2 {p : Pg} {g : Lg} {d : Dsk} (h : ppagesM p g = 2) (h2 : (preadM p g d 1).2 = 0 ∧ (preadM p g d 2).2 = 0) : stOk p g d := by
 intro k hk
 rw [h] at hk
 have : k = 0 ∨ k = 1 := by omega
 rcases this with rfl | rfl
 ·exact h2.1
 ·exact h2.2
theorem u_len : (stL uT2.2.1 uT2.2.2.1 uT2.2.2.2).length ≤ 1000 := by decide +kernel
end Go.Proofs.YtdinjghfjmmjoaaGreat
namespace Go.Proofs.YtdinjghfjmmjoaaGreat
open Go.RowKit Go.Maps
set_option maxRecDepth 20000
attribute [local irreducible] uT1 uT2 uN1 uF1 uN2 uF2 exG0
section
variable {w W W' : World} {a a' c c' : PgD} {X X' : Nat → Prop}
set_option maxRecDepth 20000 in
theorem tw_like (h1 : PgAtX w W a X) (h2 : PgAtX w W c X') (o1 : stOk a.p a.g a.d) (o2 : stOk c.p c.g c.d) (he : stL a.p a.g a.d = stL c.p c.g c.d) (hl : (stL a.p a.g a.d).length ≤ 1000) :
  Calls Tryz.prog 13 #[.pointer (some ⟨a.pb, 0, none⟩), .pointer (some ⟨c.pb, 0, none⟩)] W fun e w' => e = .returned (.bool true) ∧ Below W.heap.size W w' := by
 have S1 := hid (state_any h1 o1)
 have S2 := hid (fun (W2 : World) (hb : Below W.heap.size W W2) => state_any (h2.below hb) o2)
 obtain ⟨L, hL⟩ : ∃ L, L = stL a.p a.g a.d := ⟨_, rfl⟩
 have S1 := S1.out
 have S2 := S2.out
 rw [← hL] at S1
 rw [← he, ← hL] at S2
 rw [← hL] at hl
 replace S1 := hid S1
 replace S2 := hid S2
 clear h1 h2 o1 o2 he hL
 go_enter Tryz.func13, Tryz.ntmps13
 go_upto_region 2 with (first
  | (go_at_call 20; refine (S1.out).mono ?_; rintro e w1 ⟨v1, rfl, hr, hb⟩; have HR1 := hid hr; have HB1 := hid hb; clear hr hb)
  | go_in)
 go_wp2_with (first
  | (go_at_call 20; refine (S2.out _ HB1.out).mono ?_; rintro e w2 ⟨v2, rfl, hr, hb⟩; have HR1' := hid (HR1.out.keep (fun k hk => hb.block k (row_base HR1.out hk).2)); have HR2 := hid hr; have HB2 := hid (HB1.out.trans (hb.mono HB1.out.size)); clear hr hb)
  | (go_at_call 27; refine (same_eq HR1'.out HR2.out hl).mono ?_; rintro e w3 ⟨rfl, hb⟩; have HB3 := hid (HB2.out.trans (hb.mono HB2.out.size)); clear hb)
  | go_in)
 go_ret
 exact ⟨rfl, HB3.out⟩
def uC0 (pb l b : Nat) : PgD := ⟨pb, l, b, p0, exG0, newM⟩
def uC1 (pb l b : Nat) : PgD := ⟨pb, l, b, uF1.2.1, uF1.2.2.1, uF1.2.2.2⟩
def uC2 (pb l b : Nat) : PgD := ⟨pb, l, b, uF2.2.1, uF2.2.2.1, uF2.2.2.2⟩
def RoundOk (w : World) (A : PgD) (c c' : PgD) (k : Int) : Prop := ∃ (kd ep pg : Int) (im : List Img),
 (∀ W, Two w W A c (fun _ => False) → Calls Tryz.prog 10 #[.pointer (some ⟨A.pb, 0, none⟩), .int .u64 1, .int .u64 k] W fun e w' => ∃ ao cap, e = .returned (.tuple #[.agg #[.int .u8 kd, .int .u64 ep, .int .u64 (k + 1), .bool false, .int .i64 pg, .slice ao im.length cap], .int .i64 0]) ∧
  Two w w' A c (fun k => (Value.slice ao im.length cap).ownBlock = some k) ∧ ImgRow w' W.heap.size (.slice ao im.length cap) im) ∧
 ∀ W ao cap base, Two w W A c (fun k => (Value.slice ao im.length cap).ownBlock = some k) → ImgRow W base (.slice ao im.length cap) im → Calls Tryz.prog 12 #[.pointer (some ⟨c.pb, 0, none⟩), .agg #[.int .u8 kd, .int .u64 ep, .int .u64 (k + 1), .bool false, .int .i64 pg, .slice ao im.length cap]] W fun e w' => e = .returned (.int .i64 0) ∧ Two w w' A c' (fun _ => False)
theorem roundOk_of {A c : PgD} {k : Int} {R : Sh × Int} {F : Int × Pg × Lg × Dsk} (hok : stOk A.p A.g A.d) (hR : R = nextM A.p A.g A.d 1 k) (h0 : R.2 = 0) (hf : R.1.full = false) (hk : R.1.k = k + 1) (hw : ShWf R.1) (hl : R.1.imgs.length ≤ 1000) (hb : ∀ x ∈ R.1.imgs, x.2.length ≤ 1000) (hF : F = followM c.p c.g c.d R.1) (hF0 : F.1 = 0) (N : Nat) (hsm : c.d.Small N) (hN : N + 33554432 ≤ 1099511527776) :
  RoundOk w A c ⟨c.pb, c.l, c.b, F.2.1, F.2.2.1, F.2.2.2⟩ k := by
 obtain ⟨⟨kd, ep, kk, fu, pg, im⟩, er⟩ := R
 dsimp only at h0 hf hk hl hb hF
 subst hf
 subst hk
 subst h0
 refine ⟨kd, ep, pg, im, fun W hT => ?_, fun W ao cap base hT hr => ?_⟩
 ·have := tw_next hT hok 1 k
  rw [← hR] at this
  refine this.mono ?_
  rintro e w' ⟨v, rfl, h1, h2, -⟩
  obtain ⟨ao, cap, rfl, -⟩ := h1.get
  exact ⟨ao, cap, rfl, h2.add (Below.refl _ _) (fun k hk => .inl (.inr hk)) (fun k hk => h2.xlt k (.inr hk)), h1⟩
 ·have hs : ShOk w W (fun k => (Value.slice ao im.length cap).ownBlock = some k) ⟨kd, ep, k + 1, false, pg, im⟩ (.slice ao im.length cap) := ShOk.made hr (fun k hk => hk) hl hb hw
  have := tw_follow hT hs N hsm hN
  rw [← hF, hF0] at this
  refine this.mono ?_
  rintro e w' ⟨rfl, h1, -⟩
  refine ⟨rfl, ?_⟩
  unfold gFollowed at h1
  rw [← hF] at h1
  exact h1.add (Below.refl _ _) (fun k hk => hk.elim) (fun k hk => hk.elim)
theorem round1 {pa la ba pb l b : Nat} : RoundOk w ⟨pa, la, ba, uT2.2.1, uT2.2.2.1, uT2.2.2.2⟩ (uC0 pb l b) (uC1 pb l b) 0 := by
 have hR : uN1 = nextM uT2.2.1 uT2.2.2.1 uT2.2.2.2 1 0 := by unfold uN1; rfl
 have hF : uF1 = followM p0 exG0 newM uN1.1 := by unfold uF1; rfl
 exact roundOk_of (c := uC0 pb l b) (stOk2 u_p2 u_p2r) hR u_n1 u_n1f (by rw [u_n1k]; rfl) u_n1w u_n1l u_n1b hF u_f1 100 new_small (by decide)
theorem round2 {pa la ba pb l b : Nat} : RoundOk w ⟨pa, la, ba, uT2.2.1, uT2.2.2.1, uT2.2.2.2⟩ (uC1 pb l b) (uC2 pb l b) 1 := by
 have hR : uN2 = nextM uT2.2.1 uT2.2.2.1 uT2.2.2.2 1 1 := by unfold uN2; rfl
 have hF : uF2 = followM uF1.2.1 uF1.2.2.1 uF1.2.2.2 uN2.1 := by unfold uF2; rfl
 exact roundOk_of (c := uC1 pb l b) (stOk2 u_p2 u_p2r) hR u_n2 u_n2f (by rw [u_n2k]; rfl) u_n2w u_n2l u_n2b hF u_f2 10000 u_f1s (by decide)
set_option maxHeartbeats 8000000 in
set_option maxRecDepth 20000 in
theorem works_any (w : World) : Calls Tryz.prog 8 #[] w fun e w' => e = .returned (.bool true) ∧ Below w.heap.size w w' := by
 have FR := hid (fun W => fresh_any W)
 have T1 := hid (fun (W1 : World) (pa la ba pb l b : Nat) (h : Two w W1 ⟨pa, la, ba, p0, exG0, newM⟩ (uC0 pb l b) (fun _ => False)) => (show Calls Tryz.prog 9 #[.pointer (some ⟨pa, 0, none⟩), .int .i64 2, .int .u8 97] W1 fun e w' => e = .returned (.int .i64 0) ∧ Two w w' ⟨pa, la, ba, uT1.2.1, uT1.2.2.1, uT1.2.2.2⟩ (uC0 pb l b) (fun _ => False) from by
  have A := tw_turn h 2 97 (by omega) u_r1 100 new_small (by decide)
  have e := u_t1
  unfold gTurned at A
  unfold uT1 at e ⊢
  rw [e] at A
  exact A.mono fun e w' hh => ⟨hh.1, hh.2.1⟩))
 have T2 := hid (fun (W1 : World) (pa la ba pb l b : Nat) (h : Two w W1 ⟨pa, la, ba, uT1.2.1, uT1.2.2.1, uT1.2.2.2⟩ (uC0 pb l b) (fun _ => False)) => (show Calls Tryz.prog 9 #[.pointer (some ⟨pa, 0, none⟩), .int .i64 2, .int .u8 98] W1 fun e w' => e = .returned (.int .i64 0) ∧ Two w w' ⟨pa, la, ba, uT2.2.1, uT2.2.2.1, uT2.2.2.2⟩ (uC0 pb l b) (fun _ => False) from by
  have A := tw_turn h 2 98 (by omega) u_r2 10000 u_s1 (by decide)
  have e := u_t2
  unfold gTurned at A
  unfold uT2 at e ⊢
  rw [e] at A
  exact A.mono fun e w' hh => ⟨hh.1, hh.2.1⟩))
 have HV := hid (fun (W1 : World) (pa la ba pb l b : Nat) (h : Two w W1 ⟨pa, la, ba, uT2.2.1, uT2.2.2.1, uT2.2.2.2⟩ (uC2 pb l b) (fun _ => False)) => (show Calls Tryz.prog 14 #[.pointer (some ⟨pb, 0, none⟩)] W1 fun e w' => e = .returned (.tuple #[.int .u64 2, .int .i64 0]) ∧ Two w w' ⟨pa, la, ba, uT2.2.1, uT2.2.2.1, uT2.2.2.2⟩ (uC2 pb l b) (fun _ => False) from by
  have A := tw_have h
  unfold uC2 at A ⊢
  dsimp only at A
  rw [u_h2] at A
  exact A.mono fun e w' hh => ⟨hh.1, hh.2.1⟩))
 have LK := hid (fun (W1 : World) (pa la ba pb l b : Nat) (h : Two w W1 ⟨pa, la, ba, uT2.2.1, uT2.2.2.1, uT2.2.2.2⟩ (uC2 pb l b) (fun _ => False)) => tw_like h.fst h.snd (stOk2 u_p2 u_p2r) (stOk2 u_q2 u_q2r) u_same u_len)
 go_enter Tryz.func8, Tryz.ntmps8
 go_upto_region 2 with (first
  | (go_at_call 7; refine (FR.out _).mono ?_; rintro e w1 ⟨pa, la, ba, rfl, hp1⟩; have HP1 := hid (hp1.to (X' := fun _ => False) (fun k hk => hk.elim)); clear hp1)
  | go_in)
 go_upto_region 3 with (first
  | (go_at_call 7; refine (FR.out _).mono ?_; rintro e w2 ⟨pb, l, b, rfl, hp2⟩; have HP2 := hid (PgX.two (a := ⟨pa, la, ba, p0, exG0, newM⟩) (c := uC0 pb l b) HP1.out hp2); clear hp2)
  | go_in)
 clear FR HP1
 go_upto_region 5 with (first
  | (go_at_call 9; with_reducible refine (T1.out _ _ _ _ _ _ _ HP2.out).mono ?_; rintro e w3 ⟨rfl, hp3⟩; have HP3 := hid hp3; clear hp3 HP2)
  | (go_at_call 9; with_reducible refine (T2.out _ _ _ _ _ _ _ HP3.out).mono ?_; rintro e w4 ⟨rfl, hp4⟩; have HP4 := hid hp4; clear hp4 HP3)
  | go_in)
 clear T1 T2
 go_wp2_with fail
 go_loopw [34] (fun v34 wr => (v34 = .int .u64 0 ∧ Two w wr ⟨pa, la, ba, uT2.2.1, uT2.2.2.1, uT2.2.2.2⟩ (uC0 pb l b) (fun _ => False)) ∨ (v34 = .int .u64 1 ∧ Two w wr ⟨pa, la, ba, uT2.2.1, uT2.2.2.1, uT2.2.2.2⟩ (uC1 pb l b) (fun _ => False)) ∨ (v34 = .int .u64 2 ∧ Two w wr ⟨pa, la, ba, uT2.2.1, uT2.2.2.1, uT2.2.2.2⟩ (uC2 pb l b) (fun _ => False))) (fun v34 _ => 2 - (intOf v34).toNat)
 case atStart => exact .inl ⟨rfl, HP4.out⟩
 case round =>
  rcases hrel with ⟨rfl, hT⟩ | ⟨rfl, hT⟩ | ⟨rfl, hT⟩
  ·obtain ⟨kd, ep, pg, im, NX, FL⟩ := round1 (w := w) (pa := pa) (la := la) (ba := ba) (pb := pb) (l := l) (b := b)
   have HT := hid hT
   have NX := hid NX
   have FL := hid FL
   clear hT HP4
   go_wp2_with (first
    | (go_at_call 10; refine (NX.out _ HT.out).mono ?_; rintro e w5 ⟨ao, cap, rfl, hT5, hr5⟩; have HT5 := hid (hT5.below ((Below.refl w5.heap.size w5).alloc (Nat.le_refl _) (.cells #[.int .u8 kd, .int .u64 ep, .int .u64 (0 + 1), .bool false, .int .i64 pg, .slice ao im.length cap] 31))); have HR5 := hid (hr5.below ((Below.refl w5.heap.size w5).alloc (Nat.le_refl _) (.cells #[.int .u8 kd, .int .u64 ep, .int .u64 (0 + 1), .bool false, .int .i64 pg, .slice ao im.length cap] 31))); clear hT5 hr5)
    | (go_at_call 12; refine (FL.out _ _ _ _ HT5.out HR5.out).mono ?_; rintro e w6 ⟨rfl, hT6⟩; have HT6 := hid hT6; clear hT6)
    | go_in)
   go_roundw
   case rel => exact .inr (.inl ⟨rfl, HT6.out⟩)
   case measure => simp [intOf]
  ·obtain ⟨kd, ep, pg, im, NX, FL⟩ := round2 (w := w) (pa := pa) (la := la) (ba := ba) (pb := pb) (l := l) (b := b)
   have HT := hid hT
   have NX := hid NX
   have FL := hid FL
   clear hT HP4
   go_wp2_with (first
    | (go_at_call 10; refine (NX.out _ HT.out).mono ?_; rintro e w5 ⟨ao, cap, rfl, hT5, hr5⟩; have HT5 := hid (hT5.below ((Below.refl w5.heap.size w5).alloc (Nat.le_refl _) (.cells #[.int .u8 kd, .int .u64 ep, .int .u64 (1 + 1), .bool false, .int .i64 pg, .slice ao im.length cap] 31))); have HR5 := hid (hr5.below ((Below.refl w5.heap.size w5).alloc (Nat.le_refl _) (.cells #[.int .u8 kd, .int .u64 ep, .int .u64 (1 + 1), .bool false, .int .i64 pg, .slice ao im.length cap] 31))); clear hT5 hr5)
    | (go_at_call 12; refine (FL.out _ _ _ _ HT5.out HR5.out).mono ?_; rintro e w6 ⟨rfl, hT6⟩; have HT6 := hid hT6; clear hT6)
    | go_in)
   go_roundw
   case rel => exact .inr (.inr ⟨rfl, HT6.out⟩)
   case measure => simp [intOf]
  ·have HT := hid hT
   clear hT HP4
   go_wp2_with (first
    | (go_at_call 14; refine (HV.out _ _ _ _ _ _ _ HT.out).mono ?_; rintro e w5 ⟨rfl, hT5⟩; have HT5 := hid hT5; clear hT5)
    | (go_at_call 13; refine (LK.out _ _ _ _ _ _ _ HT5.out).mono ?_; rintro e w6 ⟨rfl, hb6⟩; have HB6 := hid hb6; clear hb6)
    | go_in)
   go_ret
   exact ⟨rfl, HT5.out.bel.trans (HB6.out.mono HT5.out.bel.size)⟩
end
end Go.Proofs.YtdinjghfjmmjoaaGreat
