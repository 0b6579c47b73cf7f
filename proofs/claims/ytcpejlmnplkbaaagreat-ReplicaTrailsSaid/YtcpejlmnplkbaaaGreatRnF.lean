/- Replica's laws: works. -/
import Derived.Test.YtcpejlmnplkbaaaGreatRnD
import Derived.Test.YtcpejlmnplkbaaaGreatRmB
set_option linter.unusedVariables false
set_option linter.unusedSimpArgs false
namespace Go.Proofs.YtcpejlmnplkbaaaGreat
open Go.RowKit Go.Maps
set_option maxRecDepth 20000
def vN : Sh × Int := nextM uT1.2.1 uT1.2.2.1 uT1.2.2.2 3 0
def vM : Sh × Int := nextM uT1.2.1 uT1.2.2.1 uT1.2.2.2 3 1
def vF : Int × Pg × Lg × Dsk := followM p0 exG0 newM vN.1
theorem v_n : vN.2 = 0 := by decide +kernel
theorem v_k : vN.1.kind = 1 := by decide +kernel
theorem v_ep : vN.1.epoch = 3 := by decide +kernel
theorem v_may : mayB vN.1 = true := by decide +kernel
theorem v_w : ShWf vN.1 := by unfold ShWf; decide +kernel
theorem v_l : vN.1.imgs.length ≤ 1000 := by decide +kernel
theorem v_b : ∀ x ∈ vN.1.imgs, x.2.length ≤ 1000 := by decide +kernel
theorem v_m : vM.2 ≠ 0 := by decide +kernel
theorem v_mw : ShWf vM.1 := by unfold ShWf; decide +kernel
theorem v_ml : vM.1.imgs.length ≤ 1000 := by decide +kernel
theorem v_mb : ∀ x ∈ vM.1.imgs, x.2.length ≤ 1000 := by decide +kernel
theorem v_f : vF.1 = 0 := by decide +kernel
theorem v_h : haveM vF.2.1 vF.2.2.1 vF.2.2.2 = (1, 0) := by decide +kernel
theorem v_p : ppagesM uT1.2.1 uT1.2.2.1 = 2 := by decide +kernel
theorem v_pr : (preadM uT1.2.1 uT1.2.2.1 uT1.2.2.2 1).2 = 0 ∧ (preadM uT1.2.1 uT1.2.2.1 uT1.2.2.2 2).2 = 0 := by decide +kernel
theorem v_eN : nextM uT1.2.1 uT1.2.2.1 uT1.2.2.2 3 0 = vN := by unfold vN; rfl
theorem v_eM : nextM uT1.2.1 uT1.2.2.1 uT1.2.2.2 3 1 = vM := by unfold vM; rfl
theorem v_eF : followM p0 exG0 newM vN.1 = vF := by unfold vF; rfl
def sN : List UInt8 := putL vN.1
def aK : List UInt8 := putL (ackSh 3 1)
def vA (pa la ba : Nat) : PgD := ⟨pa, la, ba, uT1.2.1, uT1.2.2.1, uT1.2.2.2⟩
def vC (pb l b : Nat) : PgD := ⟨pb, l, b, vF.2.1, vF.2.2.1, vF.2.2.2⟩
attribute [local irreducible] uT1 vN vM vF exG0 putL
theorem v_ok0 {l : Ld} {n : Int} {pa la ba : Nat} (he : l.ep = 3) (hh : ldHas l n = 0) : NextOk l (vA pa la ba) n := by
 have e : nextM (vA pa la ba).p (vA pa la ba).g (vA pa la ba).d l.ep (ldHas l n) = vN := by rw [he, hh]; exact v_eN
 exact ⟨by rw [e]; exact v_w, by rw [e]; exact v_l, by rw [e]; exact v_b⟩
theorem v_ok1 {l : Ld} {n : Int} {pa la ba : Nat} (he : l.ep = 3) (hh : ldHas l n = 1) : NextOk l (vA pa la ba) n := by
 have e : nextM (vA pa la ba).p (vA pa la ba).g (vA pa la ba).d l.ep (ldHas l n) = vM := by rw [he, hh]; exact v_eM
 exact ⟨by rw [e]; exact v_mw, by rw [e]; exact v_ml, by rw [e]; exact v_mb⟩
theorem v_t0 {l : Ld} {n : Int} (he : l.ep = 3) (hh : ldHas l n = 0) : tickM1 l uT1.2.1 uT1.2.2.1 uT1.2.2.2 n = [(n, sN)] := by
 unfold tickM1 postsM
 rw [he, hh, v_eN, if_pos v_n, if_pos v_may]
 rfl
theorem v_t1 {l : Ld} {n : Int} (he : l.ep = 3) (hh : ldHas l n = 1) : tickM1 l uT1.2.1 uT1.2.2.1 uT1.2.2.2 n = [] := by
 unfold tickM1
 rw [he, hh, v_eM, if_neg v_m]
theorem aK_wf : ShWf (ackSh 3 1) := ⟨⟨by decide, by decide⟩, ⟨by decide, by decide⟩, by decide, by decide⟩
theorem sN_len : sN.length ≤ 1099511627776 := by
 unfold sN
 rw [Rf.putL_length _ v_may]
 have := v_l
 omega
theorem aK_len : aK.length ≤ 1099511627776 := by
 unfold aK
 rw [Rf.putL_length _ (ack_may 3 1)]
 show 56 + 520 * 0 ≤ _
 omega
theorem v_get (pb l b : Nat) : tgetM 0 (uC0 pb l b) sN = ⟨[(0, aK)], 0, 3, vC pb l b⟩ := by
 have e : Rf.takeM sN = (vN.1, 0) := Rf.take_put _ v_may v_w
 unfold tgetM
 rw [e]
 dsimp only
 rw [if_neg (by simp), if_neg (by rw [v_k]; simp), v_ep, if_neg (by decide)]
 have e2 : gFollowed (uC0 pb l b) vN.1 = vC pb l b := by
  unfold gFollowed uC0 vC
  dsimp only
  rw [v_eF]
 rw [e2]
 have e3 : ackL 3 (vC pb l b) = [(0, aK)] := by
  unfold ackL vC aK
  dsimp only
  rw [v_h]
  rfl
 rw [e3]
 have e4 : (followM (uC0 pb l b).p (uC0 pb l b).g (uC0 pb l b).d vN.1).1 = 0 := by
  unfold uC0
  dsimp only
  rw [v_eF]
  exact v_f
 rw [e4]
theorem v_lget : lgetM ⟨3, 0, 0, 0⟩ 1 aK = (0, ⟨3, 0, 1, 0⟩) := by
 have e : Rf.takeM aK = (ackSh 3 1, 0) := Rf.take_put _ (ack_may 3 1) aK_wf
 unfold lgetM
 rw [e]
 rfl
section
variable {w W : World} {a c : PgD} {X : Nat → Prop} {L T pa la ba pb l b : Nat}
theorem wk_turn (h : Two w W ⟨pa, la, ba, p0, exG0, newM⟩ c X) : Calls Tryz.prog 30 #[.pointer (some ⟨pa, 0, none⟩), .int .i64 2, .int .u8 97] W fun e w' => e = .returned (.int .i64 0) ∧ Two w w' (vA pa la ba) c X := by
 have A := tw_turn h 2 97 (by omega) u_r1 100 new_small (by decide)
 have e := u_t1
 unfold gTurned at A
 unfold vA
 unfold uT1 at e ⊢
 rw [e] at A
 exact A.mono fun e w' hh => ⟨hh.1, hh.2.1⟩
theorem wk_tick1 (h : Two w W (vA pa la ba) c X) (hb : W.heap[L]? = some (ldObj ⟨3, 0, 0, 0⟩)) (xb : X L) : Calls Tryz.prog 19 #[.pointer (some ⟨L, 0, none⟩), .pointer (some ⟨pa, 0, none⟩)] W fun e w' => ∃ pv, e = .returned pv ∧ PostRow w' w.heap.size pv [(1, sN), (2, sN)] ∧ Two w w' (vA pa la ba) c (fun k => X k ∨ pv.ownBlock = some k) ∧ ∀ k, X k → w'.heap[k]? = W.heap[k]? := by
 have A := ltick_any h hb xb (stOk2 v_p v_pr) (v_ok0 rfl rfl) (v_ok0 rfl rfl)
 unfold tickM at A
 have e1 : tickM1 ⟨3, 0, 0, 0⟩ (vA pa la ba).p (vA pa la ba).g (vA pa la ba).d 1 = [(1, sN)] := v_t0 rfl rfl
 have e2 : tickM1 ⟨3, 0, 0, 0⟩ (vA pa la ba).p (vA pa la ba).g (vA pa la ba).d 2 = [(2, sN)] := v_t0 rfl rfl
 rw [e1, e2] at A
 exact A
theorem wk_tick2 (h : Two w W (vA pa la ba) c X) (hb : W.heap[L]? = some (ldObj ⟨3, 0, 1, 0⟩)) (xb : X L) : Calls Tryz.prog 19 #[.pointer (some ⟨L, 0, none⟩), .pointer (some ⟨pa, 0, none⟩)] W fun e w' => ∃ pv, e = .returned pv ∧ PostRow w' w.heap.size pv [(2, sN)] ∧ Two w w' (vA pa la ba) c (fun k => X k ∨ pv.ownBlock = some k) ∧ ∀ k, X k → w'.heap[k]? = W.heap[k]? := by
 have A := ltick_any h hb xb (stOk2 v_p v_pr) (v_ok1 rfl rfl) (v_ok0 rfl rfl)
 unfold tickM at A
 have e1 : tickM1 ⟨3, 0, 1, 0⟩ (vA pa la ba).p (vA pa la ba).g (vA pa la ba).d 1 = [] := v_t1 rfl rfl
 have e2 : tickM1 ⟨3, 0, 1, 0⟩ (vA pa la ba).p (vA pa la ba).g (vA pa la ba).d 2 = [(2, sN)] := v_t0 rfl rfl
 rw [e1, e2] at A
 exact A
theorem wk_get (h : Two w W a (uC0 pb l b) X) (ht : W.heap[T]? = some (tlObj pb 0)) (xt : X T) (hwt : w.heap.size ≤ T) : Calls Tryz.prog 18 #[.pointer (some ⟨T, 0, none⟩), .string (bs sN)] W fun e w' => ∃ pv, e = .returned (.tuple #[pv, .int .i64 0]) ∧ TgGave w W a X T ⟨[(0, aK)], 0, 3, vC pb l b⟩ pv w' := by
 have A := tget_any h ht xt hwt ⟨by decide, by decide⟩ sN sN_len 100 new_small (by decide)
 rw [v_get] at A
 exact A
theorem wk_lget (hb : W.heap[L]? = some (ldObj ⟨3, 0, 0, 0⟩)) : Calls Tryz.prog 9 #[.pointer (some ⟨L, 0, none⟩), .int .i64 1, .string (bs aK)] W fun e w' => e = .returned (.int .i64 0) ∧ w'.heap[L]? = some (ldObj ⟨3, 0, 1, 0⟩) ∧ Frm (fun k => k = L) W w' := by
 have A := lget_any hb 1 aK aK_len
 rw [v_lget] at A
 exact A
theorem ack_any (ep k : Int) (he : 0 ≤ ep ∧ ep < 18446744073709551616) (hk : 0 ≤ k ∧ k < 18446744073709551616) : Calls Tryz.prog 14 #[.int .u64 ep, .int .u64 k] W fun e w' => e = .returned (.string (bs (putL (ackSh ep k)))) ∧ Below W.heap.size W w' := by
 have RP := fun W => Rf.refPut_yes (ackSh ep k) (.slice none 0 0) W (.inl ⟨⟨_, _, rfl⟩, rfl⟩) (ack_may ep k) ⟨⟨by show (0 : Int) ≤ 2; decide, by show (2 : Int) < 256; decide⟩, he, hk⟩
 obtain ⟨s, hs⟩ : ∃ s, s = putL (ackSh ep k) := ⟨_, rfl⟩
 rw [← hs] at RP ⊢
 unfold shipV ackSh at RP
 dsimp only at RP
 have RP := hid RP
 clear hs
 go_enter Tryz.func14, Tryz.ntmps14
 go_wp2_with (first
  | (go_at_call 17; refine (RP.out _).mono ?_; rintro e w1 ⟨rfl, hb1⟩; have HB1 := hid hb1; clear hb1)
  | go_in)
 go_ret
 exact ⟨rfl, HB1.out⟩
end
end Go.Proofs.YtcpejlmnplkbaaaGreat
/- Replica's laws: works, the walk. -/
namespace Go.Proofs.YtcpejlmnplkbaaaGreat
open Go.RowKit Go.Maps
set_option maxRecDepth 20000
section
variable {w W : World} {a c : PgD} {X : Nat → Prop}
theorem two_new (h : Two w W a c X) (o : Obj) : Two w (W.alloc o) a c (fun k => X k ∨ k = W.heap.size) ∧ (W.alloc o).heap[W.heap.size]? = some o ∧ (∀ k, X k → (W.alloc o).heap[k]? = W.heap[k]?) ∧ w.heap.size ≤ W.heap.size ∧ ¬ X W.heap.size := by
 have hb := (Below.refl W.heap.size W).alloc (Nat.le_refl _) o
 refine ⟨h.add hb (fun k hk => hk.imp id (fun e => by rw [e]; exact Nat.le_refl _)) (fun k hk => hk.elim (fun e => Nat.lt_of_lt_of_le (h.xlt k e) hb.size) (fun e => by rw [e]; simp)), heap_alloc_new _ _, fun k hk => hb.block k (h.xlt k hk), h.bel.size, fun hk => Nat.lt_irrefl _ (h.xlt _ hk)⟩
theorem lead_two (h : Two w W a c X) (ep : Int) : Calls Tryz.prog 8 #[.int .u64 ep] W fun e w' => ∃ L, e = .returned (.pointer (some ⟨L, 0, none⟩)) ∧ Two w w' a c (fun k => X k ∨ k = L) ∧ w'.heap[L]? = some (ldObj ⟨ep, 0, 0, 0⟩) ∧ (∀ k, X k → w'.heap[k]? = W.heap[k]?) ∧ w.heap.size ≤ L ∧ ¬ X L := by
 refine (lead_any ep W).mono ?_
 rintro e w' ⟨rfl, rfl⟩
 exact ⟨_, rfl, two_new h _⟩
theorem trail_two (h : Two w W a c X) (pb : Nat) : Calls Tryz.prog 13 #[.pointer (some ⟨pb, 0, none⟩)] W fun e w' => ∃ T, e = .returned (.pointer (some ⟨T, 0, none⟩)) ∧ Two w w' a c (fun k => X k ∨ k = T) ∧ w'.heap[T]? = some (tlObj pb 0) ∧ (∀ k, X k → w'.heap[k]? = W.heap[k]?) ∧ w.heap.size ≤ T ∧ ¬ X T := by
 refine (trail_any pb W).mono ?_
 rintro e w' ⟨rfl, rfl⟩
 exact ⟨_, rfl, two_new h _⟩
theorem wk_has {L : Nat} (hb : W.heap[L]? = some (ldObj ⟨3, 0, 1, 0⟩)) : Calls Tryz.prog 11 #[.pointer (some ⟨L, 0, none⟩), .int .i64 1] W fun e w' => e = .returned (.int .u64 1) ∧ w' = W := lhas_any hb 1
end
set_option maxHeartbeats 16000000 in
set_option maxRecDepth 20000 in
theorem rworks_any (w : World) : Calls Tryz.prog 7 #[] w fun e w' => e = .returned (.bool true) ∧ Below w.heap.size w w' := by
 have FR := hid (fun W => fresh_any W)
 go_enter Tryz.func7, Tryz.ntmps7
 go_upto_region 2 with (first
  | (go_at_call 12; refine (FR.out _).mono ?_; rintro e w1 ⟨pa, la, ba, rfl, hp1⟩; have HP1 := hid (hp1.to (X' := fun _ => False) (fun k hk => hk.elim)); clear hp1)
  | go_in)
 go_upto_region 3 with (first
  | (go_at_call 12; refine (FR.out _).mono ?_; rintro e w2 ⟨pb, l, b, rfl, hp2⟩; have HP2 := hid (PgX.two (a := ⟨pa, la, ba, p0, exG0, newM⟩) (c := uC0 pb l b) HP1.out hp2); clear hp2)
  | go_in)
 clear FR HP1
 go_upto_region 5 with (first
  | (go_at_call 30; refine (wk_turn HP2.out).mono ?_; rintro e w3 ⟨rfl, hp3⟩; have HP3 := hid hp3; clear hp3 HP2)
  | go_in)
 go_upto_region 6 with (first
  | (go_at_call 8; refine (lead_two HP3.out 3).mono ?_; rintro e w4 ⟨L, rfl, hp4, hl4, -, hwL, -⟩; have HP4 := hid hp4; have HL4 := hid hl4; have HwL := hid hwL; clear hp4 hl4 hwL HP3)
  | (go_at_call 13; refine (trail_two HP4.out pb).mono ?_; rintro e w5 ⟨T, rfl, hp5, ht5, hk5, hwT, hnT⟩; have HP5 := hid hp5; have HT5 := hid ht5; have HL5 := hid ((hk5 L (.inr rfl)).trans HL4.out); have HwT := hid hwT; have HLT := hid (show L ≠ T from fun e => hnT (.inr e.symm)); clear hp5 ht5 hk5 hwT hnT HP4 HL4)
  | go_in)
 go_upto_region 7 with (first
  | (go_at_call 19; refine (wk_tick1 HP5.out HL5.out (.inl (.inr rfl))).mono ?_; rintro e w6 ⟨pv, rfl, hr6, hp6, hk6⟩; have HR6 := hid hr6; have HP6 := hid hp6; have HL6 := hid ((hk6 L (.inl (.inr rfl))).trans HL5.out); have HT6 := hid ((hk6 T (.inr rfl)).trans HT5.out); clear hr6 hp6 hk6 HP5 HL5 HT5)
  | go_in)
 obtain ⟨ao6, cap6, rfl, hc6⟩ := HR6.out.shape
 obtain ⟨q6, rfl, -, -, y0, y1⟩ := hc6 0 (by decide)
 have y0 : w6.cell? ⟨q6, 0, none⟩ = some (.int .i64 1) := y0
 have y1 : w6.cell? ⟨q6, 1, none⟩ = some (.string (bs sN)) := y1
 clear hc6
 have hl2 : ([(1, sN), (2, sN)] : List (Int × List UInt8)).length = 2 := rfl
 rw [hl2]
 clear hl2
 go_upto_region 10 with (first
  | (go_at_call 18; refine (wk_get HP6.out HT6.out (.inl (.inr rfl)) HwT.out).mono ?_; rintro e w7 ⟨pv7, rfl, hg7⟩; have HG7 := hid hg7; clear hg7)
  | go_in)
 obtain ⟨ao7, cap7, rfl, hc7⟩ := HG7.out.row.shape
 obtain ⟨q7, rfl, -, -, y0, y1⟩ := hc7 0 (Nat.zero_lt_one)
 have y0 : w7.cell? ⟨q7, 0, none⟩ = some (.int .i64 0) := y0
 have y1 : w7.cell? ⟨q7, 1, none⟩ = some (.string (bs aK)) := y1
 clear hc7
 have hl1 : ([(0, aK)] : List (Int × List UInt8)).length = 1 := rfl
 have HG := HG7.out
 dsimp only at HG
 rw [hl1] at HG ⊢
 have hL7 := (HG.keep L (.inl (.inl (.inr rfl))) HLT.out).trans HL6.out
 have hp7 := HG.two
 have ht7 := HG.blk
 have hq7 := HG.apart q7 rfl
 dsimp only at hp7 ht7
 have HP7 := hid hp7
 have HL7 := hid hL7
 have HT7 := hid ht7
 have HY0 := hid y0
 have HY1 := hid y1
 have HqL := hid (show q7 ≠ L from fun e => hq7 (by rw [e]; exact .inl (.inl (.inr rfl))))
 have hqlt : q7 < w7.heap.size := hp7.xlt q7 (.inr rfl)
 have Hqlt := hid hqlt
 clear hl1 HG hL7 hp7 ht7 hq7 hqlt HG7
 have AK := fun W => ack_any (W := W) 3 1 ⟨by decide, by decide⟩ ⟨by decide, by decide⟩
 have AK := hid (show ∀ W, Calls Tryz.prog 14 #[.int .u64 3, .int .u64 1] W fun e w' => e = .returned (.string (bs aK)) ∧ Below W.heap.size W w' from AK)
 refine wp_region_held_drew (S := fun W2 => W2.cell? ⟨q7, 0, none⟩ = some (.int .i64 0) ∧ W2.cell? ⟨q7, 1, none⟩ = some (.string (bs aK))) (by kernel_rfl) ⟨y0, y1⟩ (fun hHeld => ?_)
 clear y0 y1
 refine ht 0 hHeld ?_
 refine ht 1 hHeld ?_
 refine ht 2 hHeld ?_
 refine ht 3 hHeld ?_
 refine ht 4 hHeld ?_
 refine ht 5 hHeld ?_
 refine ht 6 hHeld ?_
 refine ht 7 hHeld ?_
 refine ht 8 hHeld ?_
 refine ht 9 hHeld ?_
 refine ht 10 hHeld ?_
 refine held_one 11 (by kernel_rfl) rfl (fun K hK => ?_)
 go_simp
 refine (AK.out _).mono ?_
 rintro e w8 ⟨rfl, hb8⟩
 have hb8 : Below w7.heap.size w7 w8 := (Below.refl w7.heap.size w7).drew.trans hb8
 have hk8 := hb8.block q7 Hqlt.out
 have HK8 := hid hk8
 have HP8 := hid (HP7.out.below hb8)
 have HL8 := hid ((hb8.block L (lt_of_block HL7.out)).trans HL7.out)
 have HT8 := hid ((hb8.block T (lt_of_block HT7.out)).trans HT7.out)
 have hc8 : ∀ o, w8.cell? ⟨q7, o, none⟩ = w7.cell? ⟨q7, o, none⟩ := fun o => World.cell?_of_block (a := ⟨q7, o, none⟩) hk8
 have HC8 := hid hc8
 clear hb8 hk8 hc8
 try dsimp only
 refine hK.out _ _ (⟨(HC8.out 0).trans HY0.out, (HC8.out 1).trans HY1.out⟩) (fun hHeld => ?_)
 clear hK K
 try simp only [Act.put, zl0, zl1, zl2]
 refine ht 12 hHeld ?_
 refine ht 13 hHeld ?_
 refine ht 14 hHeld ?_
 refine ht 15 hHeld ?_
 refine ht 16 hHeld ?_
 refine ht 17 hHeld ?_
 refine ht 18 hHeld ?_
 refine ht 19 hHeld ?_
 refine ht 20 hHeld ?_
 refine held_one 21 (by kernel_rfl) rfl (fun K hK => ?_)
 go_simp
 refine (wk_lget HL8.out).mono ?_
 rintro e w9 ⟨rfl, hl9, hf9⟩
 have hk9 := hf9.block q7 (HP8.out.xlt q7 (.inr rfl)) HqL.out
 have hc9 : ∀ o, w9.cell? ⟨q7, o, none⟩ = w8.cell? ⟨q7, o, none⟩ := fun o => World.cell?_of_block (a := ⟨q7, o, none⟩) hk9
 have HC9 := hid hc9
 have HP9 := hid (HP8.out.turned (.inl (.inl (.inl (.inr rfl)))) HwL.out hf9)
 have HL9 := hid hl9
 have HT9 := hid ((hf9.block T (lt_of_block HT8.out) (fun e => HLT.out e.symm)).trans HT8.out)
 clear hl9 hf9 hk9 hc9
 try dsimp only
 have z0 := (HC9.out 0).trans ((HC8.out 0).trans HY0.out)
 have z1 := (HC9.out 1).trans ((HC8.out 1).trans HY1.out)
 refine hK.out _ _ (⟨z0, z1⟩) (fun hHeld => ?_)
 clear hK K
 try simp only [Act.put, zl0, zl1, zl2]
 have HZ := hid (And.intro z0 z1)
 clear z0 z1
 refine ht 22 hHeld ?_
 refine ht 23 hHeld ?_
 refine ht 24 hHeld ?_
 refine ht 25 hHeld ?_
 refine held_one 26 (by kernel_rfl) rfl (fun K hK => ?_)
 go_simp
 refine (wk_has HL9.out).mono ?_
 rintro e w10 ⟨rfl, hw⟩
 subst hw
 try dsimp only
 refine hK.out _ _ (HZ.out) (fun hHeld => ?_)
 clear hK K
 try simp only [Act.put, zl0, zl1, zl2]
 refine ht 27 hHeld ?_
 refine ht 28 hHeld ?_
 refine ht 29 hHeld ?_
 refine ht 30 hHeld ?_
 refine ht 31 hHeld ?_
 refine held_one 32 (by kernel_rfl) rfl (fun K hK => ?_)
 go_simp
 refine (wk_tick2 HP9.out HL9.out (.inl (.inl (.inl (.inr rfl))))).mono ?_
 rintro e w11 ⟨pv2, rfl, hr11, hp11, hk11⟩
 obtain ⟨ao11, cap11, rfl, -⟩ := hr11.shape
 have hl1 : ([(2, sN)] : List (Int × List UInt8)).length = 1 := rfl
 rw [hl1] at hp11 ⊢
 have hk12 := hk11 q7 (.inr rfl)
 have hc11 : ∀ o, w11.cell? ⟨q7, o, none⟩ = w10.cell? ⟨q7, o, none⟩ := fun o => World.cell?_of_block (a := ⟨q7, o, none⟩) hk12
 have HT11 := hid ((hk11 T (.inl (.inl (.inr rfl)))).trans HT9.out)
 have HP11 := hid hp11
 have HZ2 := hid (And.intro ((hc11 0).trans HZ.out.1) ((hc11 1).trans HZ.out.2))
 clear hr11 hl1 hp11 hk11 hk12 hc11
 try dsimp only
 refine hK.out _ _ (HZ2.out) (fun hHeld => ?_)
 clear hK K
 try simp only [Act.put, zl0, zl1, zl2]
 refine ht 33 hHeld ?_
 refine ht 34 hHeld ?_
 refine ht 35 hHeld ?_
 refine ht 36 hHeld ?_
 refine ht 37 hHeld ?_
 refine held_one 38 (by kernel_rfl) rfl (fun K hK => ?_)
 go_simp
 refine (epoch_any HT11.out).mono ?_
 rintro e w12 ⟨rfl, hw⟩
 subst hw
 try dsimp only
 refine hK.out _ _ (HZ2.out) (fun hHeld => ?_)
 clear hK K
 try simp only [Act.put, zl0, zl1, zl2]
 refine ht 39 hHeld ?_
 refine ht 40 hHeld ?_
 refine ht 41 hHeld ?_
 clear hHeld
 refine wpAnyH_done (by kernel_rfl) ?_ _
 go_wp2_with fail
 go_ret
 exact ⟨rfl, HP11.out.bel⟩
end Go.Proofs.YtcpejlmnplkbaaaGreat
