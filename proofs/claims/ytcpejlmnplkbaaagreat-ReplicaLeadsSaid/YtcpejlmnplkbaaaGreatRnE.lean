/- Replica's laws: works. -/
import Derived.Test.YtcpejlmnplkbaaaGreatRnD
import Derived.Test.YtcpejlmnplkbaaaGreatRmB
set_option linter.unusedVariables false
set_option linter.unusedSimpArgs false
namespace Go.Proofs.YtcpejlmnplkbaaaGreat
open Go.RowKit Go.Maps
set_option maxRecDepth 20000
def vN : Sh × Int := nextM uT1.2.1 uT1.2.2.1 uT1.2.2.2 3 0
def vM : Sh × Int := nextM uT1.2.1 uT1.2.2.1 uT1.2.2.2 3 1
def vF : Int × Pg × Lg × Dsk := followM p0 exG0 newM vN.1
theorem v_n : vN.2 = 0 := by decide +kernel
theorem v_k : vN.1.kind = 1 := by decide +kernel
theorem v_ep : vN.1.epoch = 3 := by decide +kernel
theorem v_may : mayB vN.1 = true := by decide +kernel
theorem v_w : ShWf vN.1 := by unfold ShWf; decide +kernel
theorem v_l : vN.1.imgs.length ≤ 1000 := by decide +kernel
theorem v_b : ∀ x ∈ vN.1.imgs, x.2.length ≤ 1000 := by decide +kernel
theorem v_m : vM.2 ≠ 0 := by decide +kernel
theorem v_mw : ShWf vM.1 := by unfold ShWf; decide +kernel
theorem v_ml : vM.1.imgs.length ≤ 1000 := by decide +kernel
theorem v_mb : ∀ x ∈ vM.1.imgs, x.2.length ≤ 1000 := by decide +kernel
theorem v_f : vF.1 = 0 := by decide +kernel
theorem v_h : haveM vF.2.1 vF.2.2.1 vF.2.2.2 = (1, 0) := by decide +kernel
theorem v_p : ppagesM uT1.2.1 uT1.2.2.1 = 2 := by decide +kernel
theorem v_pr : (preadM uT1.2.1 uT1.2.2.1 uT1.2.2.2 1).2 = 0 ∧ (preadM uT1.2.1 uT1.2.2.1 uT1.2.2.2 2).2 = 0 := by decide +kernel
theorem v_eN : nextM uT1.2.1 uT1.2.2.1 uT1.2.2.2 3 0 = vN := by unfold vN; rfl
theorem v_eM : nextM uT1.2.1 uT1.2.2.1 uT1.2.2.2 3 1 = vM := by unfold vM; rfl
theorem v_eF : followM p0 exG0 newM vN.1 = vF := by unfold vF; rfl
def sN : List UInt8 := putL vN.1
def aK : List UInt8 := putL (ackSh 3 1)
def vA (pa la ba : Nat) : PgD := ⟨pa, la, ba, uT1.2.1, uT1.2.2.1, uT1.2.2.2⟩
def vC (pb l b : Nat) : PgD := ⟨pb, l, b, vF.2.1, vF.2.2.1, vF.2.2.2⟩
attribute [local irreducible] uT1 vN vM vF exG0 putL
theorem v_ok0 {l : Ld} {n : Int} {pa la ba : Nat} (he : l.ep = 3) (hh : ldHas l n = 0) : NextOk l (vA pa la ba) n := by
 have e : nextM (vA pa la ba).p (vA pa la ba).g (vA pa la ba).d l.ep (ldHas l n) = vN := by rw [he, hh]; exact v_eN
 exact ⟨by rw [e]; exact v_w, by rw [e]; exact v_l, by rw [e]; exact v_b⟩
theorem v_ok1 {l : Ld} {n : Int} {pa la ba : Nat} (he : l.ep = 3) (hh : ldHas l n = 1) : NextOk l (vA pa la ba) n := by
 have e : nextM (vA pa la ba).p (vA pa la ba).g (vA pa la ba).d l.ep (ldHas l n) = vM := by rw [he, hh]; exact v_eM
 exact ⟨by rw [e]; exact v_mw, by rw [e]; exact v_ml, by rw [e]; exact v_mb⟩
theorem v_t0 {l : Ld} {n : Int} (he : l.ep = 3) (hh : ldHas l n = 0) : tickM1 l uT1.2.1 uT1.2.2.1 uT1.2.2.2 n = [(n, sN)] := by
 unfold tickM1 postsM
 rw [he, hh, v_eN, if_pos v_n, if_pos v_may]
 rfl
theorem v_t1 {l : Ld} {n : Int} (he : l.ep = 3) (hh : ldHas l n = 1) : tickM1 l uT1.2.1 uT1.2.2.1 uT1.2.2.2 n = [] := by
 unfold tickM1
 rw [he, hh, v_eM, if_neg v_m]
theorem aK_wf : ShWf (ackSh 3 1) := ⟨⟨by decide, by decide⟩, ⟨by decide, by decide⟩, by decide, by decide⟩
theorem sN_len : sN.length ≤ 1099511627776 := by
 unfold sN
 rw [Rf.putL_length _ v_may]
 have := v_l
 omega
theorem aK_len : aK.length ≤ 1099511627776 := by
 unfold aK
 rw [Rf.putL_length _ (ack_may 3 1)]
 show 56 + 520 * 0 ≤ _
 omega
theorem v_get (pb l b : Nat) : tgetM 0 (uC0 pb l b) sN = ⟨[(0, aK)], 0, 3, vC pb l b⟩ := by
 have e : Rf.takeM sN = (vN.1, 0) := Rf.take_put _ v_may v_w
 unfold tgetM
 rw [e]
 dsimp only
 rw [if_neg (by simp), if_neg (by rw [v_k]; simp), v_ep, if_neg (by decide)]
 have e2 : gFollowed (uC0 pb l b) vN.1 = vC pb l b := by
  unfold gFollowed uC0 vC
  dsimp only
  rw [v_eF]
 rw [e2]
 have e3 : ackL 3 (vC pb l b) = [(0, aK)] := by
  unfold ackL vC aK
  dsimp only
  rw [v_h]
  rfl
 rw [e3]
 have e4 : (followM (uC0 pb l b).p (uC0 pb l b).g (uC0 pb l b).d vN.1).1 = 0 := by
  unfold uC0
  dsimp only
  rw [v_eF]
  exact v_f
 rw [e4]
theorem v_lget : lgetM ⟨3, 0, 0, 0⟩ 1 aK = (0, ⟨3, 0, 1, 0⟩) := by
 have e : Rf.takeM aK = (ackSh 3 1, 0) := Rf.take_put _ (ack_may 3 1) aK_wf
 unfold lgetM
 rw [e]
 rfl
section
variable {w W : World} {a c : PgD} {X : Nat → Prop} {L T pa la ba pb l b : Nat}
theorem wk_turn (h : Two w W ⟨pa, la, ba, p0, exG0, newM⟩ c X) : Calls Tryz.prog 30 #[.pointer (some ⟨pa, 0, none⟩), .int .i64 2, .int .u8 97] W fun e w' => e = .returned (.int .i64 0) ∧ Two w w' (vA pa la ba) c X := by
 have A := tw_turn h 2 97 (by omega) u_r1 100 new_small (by decide)
 have e := u_t1
 unfold gTurned at A
 unfold vA
 unfold uT1 at e ⊢
 rw [e] at A
 exact A.mono fun e w' hh => ⟨hh.1, hh.2.1⟩
theorem wk_tick1 (h : Two w W (vA pa la ba) c X) (hb : W.heap[L]? = some (ldObj ⟨3, 0, 0, 0⟩)) (xb : X L) : Calls Tryz.prog 19 #[.pointer (some ⟨L, 0, none⟩), .pointer (some ⟨pa, 0, none⟩)] W fun e w' => ∃ pv, e = .returned pv ∧ PostRow w' w.heap.size pv [(1, sN), (2, sN)] ∧ Two w w' (vA pa la ba) c (fun k => X k ∨ pv.ownBlock = some k) ∧ ∀ k, X k → w'.heap[k]? = W.heap[k]? := by
 have A := ltick_any h hb xb (stOk2 v_p v_pr) (v_ok0 rfl rfl) (v_ok0 rfl rfl)
 unfold tickM at A
 have e1 : tickM1 ⟨3, 0, 0, 0⟩ (vA pa la ba).p (vA pa la ba).g (vA pa la ba).d 1 = [(1, sN)] := v_t0 rfl rfl
 have e2 : tickM1 ⟨3, 0, 0, 0⟩ (vA pa la ba).p (vA pa la ba).g (vA pa la ba).d 2 = [(2, sN)] := v_t0 rfl rfl
 rw [e1, e2] at A
 exact A
theorem wk_tick2 (h : Two w W (vA pa la ba) c X) (hb : W.heap[L]? = some (ldObj ⟨3, 0, 1, 0⟩)) (xb : X L) : Calls Tryz.prog 19 #[.pointer (some ⟨L, 0, none⟩), .pointer (some ⟨pa, 0, none⟩)] W fun e w' => ∃ pv, e = .returned pv ∧ PostRow w' w.heap.size pv [(2, sN)] ∧ Two w w' (vA pa la ba) c (fun k => X k ∨ pv.ownBlock = some k) ∧ ∀ k, X k → w'.heap[k]? = W.heap[k]? := by
 have A := ltick_any h hb xb (stOk2 v_p v_pr) (v_ok1 rfl rfl) (v_ok0 rfl rfl)
 unfold tickM at A
 have e1 : tickM1 ⟨3, 0, 1, 0⟩ (vA pa la ba).p (vA pa la ba).g (vA pa la ba).d 1 = [] := v_t1 rfl rfl
 have e2 : tickM1 ⟨3, 0, 1, 0⟩ (vA pa la ba).p (vA pa la ba).g (vA pa la ba).d 2 = [(2, sN)] := v_t0 rfl rfl
 rw [e1, e2] at A
 exact A
theorem wk_get (h : Two w W a (uC0 pb l b) X) (ht : W.heap[T]? = some (tlObj pb 0)) (xt : X T) (hwt : w.heap.size ≤ T) : Calls Tryz.prog 18 #[.pointer (some ⟨T, 0, none⟩), .string (bs sN)] W fun e w' => ∃ pv, e = .returned (.tuple #[pv, .int .i64 0]) ∧ TgGave w W a X T ⟨[(0, aK)], 0, 3, vC pb l b⟩ pv w' := by
 have A := tget_any h ht xt hwt ⟨by decide, by decide⟩ sN sN_len 100 new_small (by decide)
 rw [v_get] at A
 exact A
theorem wk_lget (hb : W.heap[L]? = some (ldObj ⟨3, 0, 0, 0⟩)) : Calls Tryz.prog 9 #[.pointer (some ⟨L, 0, none⟩), .int .i64 1, .string (bs aK)] W fun e w' => e = .returned (.int .i64 0) ∧ w'.heap[L]? = some (ldObj ⟨3, 0, 1, 0⟩) ∧ Frm (fun k => k = L) W w' := by
 have A := lget_any hb 1 aK aK_len
 rw [v_lget] at A
 exact A
theorem ack_any (ep k : Int) (he : 0 ≤ ep ∧ ep < 18446744073709551616) (hk : 0 ≤ k ∧ k < 18446744073709551616) : Calls Tryz.prog 14 #[.int .u64 ep, .int .u64 k] W fun e w' => e = .returned (.string (bs (putL (ackSh ep k)))) ∧ Below W.heap.size W w' := by
 have RP := fun W => Rf.refPut_yes (ackSh ep k) (.slice none 0 0) W (.inl ⟨⟨_, _, rfl⟩, rfl⟩) (ack_may ep k) ⟨⟨by show (0 : Int) ≤ 2; decide, by show (2 : Int) < 256; decide⟩, he, hk⟩
 obtain ⟨s, hs⟩ : ∃ s, s = putL (ackSh ep k) := ⟨_, rfl⟩
 rw [← hs] at RP ⊢
 unfold shipV ackSh at RP
 dsimp only at RP
 have RP := hid RP
 clear hs
 go_enter Tryz.func14, Tryz.ntmps14
 go_wp2_with (first
  | (go_at_call 17; refine (RP.out _).mono ?_; rintro e w1 ⟨rfl, hb1⟩; have HB1 := hid hb1; clear hb1)
  | go_in)
 go_ret
 exact ⟨rfl, HB1.out⟩
end
end Go.Proofs.YtcpejlmnplkbaaaGreat
