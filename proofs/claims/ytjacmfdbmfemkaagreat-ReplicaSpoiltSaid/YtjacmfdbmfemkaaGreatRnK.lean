/- Replica in memory: one that trails, of a pager that is alone: Tick, Get. -/
import Derived.Test.YtjacmfdbmfemkaaGreatRnF
set_option linter.unusedVariables false
set_option linter.unusedSimpArgs false
namespace Go.Proofs.YtjacmfdbmfemkaaGreat
open Go.RowKit Go.Maps
set_option maxRecDepth 20000
section
variable {w W W' : World} {a c : PgD} {X X' : Nat → Prop}
theorem PgAtX.below (h : PgAtX w W c X) (hb : Below W.heap.size W W') : PgAtX w W' c X := PgX.below h hb
theorem PgAtX.add (h : PgAtX w W c X) (hb : Below W.heap.size W W') (hx : ∀ k, X' k → X k ∨ W.heap.size ≤ k) (hlt : ∀ k, X' k → k < W'.heap.size) : PgAtX w W' c X' := px_add h hb hx hlt
theorem PgAtX.xlt (h : PgAtX w W c X) : ∀ k, X k → k < W.heap.size := PgX.xlt h
theorem PgAtX.bel (h : PgAtX w W c X) : Below w.heap.size w W := PgX.bel h
theorem PgAtX.turned (h : PgAtX w W c X) {M : Nat} (hM : X M) (hw : w.heap.size ≤ M) (hf : Frm (fun k => k = M) W W') : PgAtX w W' c X :=
 PgX.grow (row := some M) h ⟨hf.os, hf.tape, hf.output, hf.size, fun k hk hne => hf.block k hk (fun e => hne (by rw [e]))⟩ (fun k e => by cases e; exact hM) (fun k e => by cases e; exact hw) (fun k hk => .inl hk) (fun k hk => Nat.lt_of_lt_of_le (PgX.xlt h k hk) hf.size)
theorem pa_have (h : PgAtX w W c X) : Calls Tryz.prog 24 #[.pointer (some ⟨c.pb, 0, none⟩)] W fun e w' => e = .returned (.tuple #[.int .u64 (haveM c.p c.g c.d).1, .int .i64 (haveM c.p c.g c.d).2]) ∧ PgAtX w w' c X ∧ ∀ k, X k → w'.heap[k]? = W.heap[k]? := have_any h
theorem pa_follow (h : PgAtX w W c X) {m : Sh} {v : Value} (hm : ShOk w W X m v) (N : Nat) (hsm : c.d.Small N) (hN : N + 33554432 ≤ 1099511527776) :
  Calls Tryz.prog 50 #[.pointer (some ⟨c.pb, 0, none⟩), shipV m v] W fun e w' => e = .returned (.int .i64 (followM c.p c.g c.d m).1) ∧ PgAtX w w' (gFollowed c m) X ∧ ∀ k, X k → w'.heap[k]? = W.heap[k]? := follow_any h hm N hsm hN
end
section
variable {w W : World} {c : PgD} {X : Nat → Prop} {t : Nat} {ep : Int}
set_option maxHeartbeats 4000000 in
set_option maxRecDepth 20000 in
theorem ttick1_any (h : PgAtX w W c X) (ht : W.heap[t]? = some (tlObj c.pb ep)) (xt : X t) (he : 0 ≤ ep ∧ ep < 18446744073709551616) : Calls Tryz.prog 28 #[.pointer (some ⟨t, 0, none⟩)] W fun e w' => ∃ pv, e = .returned pv ∧ PostRow w' w.heap.size pv (ackL ep c) ∧ PgAtX w w' c (fun k => X k ∨ pv.ownBlock = some k) ∧ (∀ k, X k → w'.heap[k]? = W.heap[k]?) ∧ ∀ k, pv.ownBlock = some k → ¬ X k := by
 obtain ⟨x0, x1, -⟩ := tl_cells ht
 have HV := pa_have h
 have hk : 0 ≤ (haveM c.p c.g c.d).1 ∧ (haveM c.p c.g c.d).1 < 18446744073709551616 := by
  unfold haveM
  split
  ·exact ⟨Int.le_refl 0, by show (0 : Int) < _; decide⟩
  ·exact (ureadyM_wf c.p c.g c.d).commits
 obtain ⟨R, hR⟩ : ∃ R, R = ackL ep c := ⟨_, rfl⟩
 rw [← hR]
 unfold ackL at hR
 obtain ⟨⟨kk, e0⟩, hH⟩ : ∃ H, H = haveM c.p c.g c.d := ⟨_, rfl⟩
 rw [← hH] at HV hR hk
 dsimp only at HV hR hk
 have HV := hid HV
 have HT := hid ht
 have XT := hid xt
 have HR := hid hR
 clear h ht xt hH hR
 go_enter Tryz.func28, Tryz.ntmps28
 go_upto_region 4 with (first
  | (go_at_call 24; refine (HV.out).mono ?_; rintro e w2 ⟨rfl, h2, hk2⟩; have H2 := hid h2; have HK2 := hid hk2; clear h2 hk2)
  | go_in)
 have ht2 := (HK2.out t XT.out).trans HT.out
 obtain ⟨y0, y1, -⟩ := tl_cells ht2
 clear x0 x1 ht2
 by_cases he0 : e0 = 0
 ·subst he0
  have PO := fun (W2 : World) (q : Nat) (hi : ShIn W2 (ackSh ep kk) (.slice none 0 0)) (hq : W2.heap[q]? = some (.cells #[.int .u8 2, .int .u64 ep, .int .u64 kk, .bool false, .int .i64 0, .slice none 0 0] 25 (0, 0))) => posts_any 0 (ackSh ep kk) _ hi hq
  have PO := hid PO
  have SI := hid (show ∀ W2, ShIn W2 (ackSh ep kk) (.slice none 0 0) from fun W2 => ⟨.inl ⟨⟨_, _, rfl⟩, rfl⟩, by simp [ackSh], (fun x hx => by cases hx), ⟨⟨by show (0 : Int) ≤ 2; decide, by show (2 : Int) < 256; decide⟩, he, hk⟩⟩)
  go_wp2_with (first
   | (go_at_call 56; refine (PO.out _ _ (SI.out _) (heap_alloc_new _ _)).mono ?_; rintro e w5 ⟨pv, rfl, hp5, hb5⟩; have HP5 := hid hp5; have HB5 := hid hb5; clear hp5 hb5)
   | go_in)
  go_ret
  have hb := below_step HB5.out
  have hr : R = [(0, putL (ackSh ep kk))] := by have := HR.out; simpa using this
  have hp : postsM 0 (ackSh ep kk) = [(0, putL (ackSh ep kk))] := rfl
  have hP := HP5.out
  rw [hp] at hP
  have hx := H2.out.xlt
  have hq : ∀ y, pv.ownBlock = some y → w2.heap.size ≤ y ∧ y < w5.heap.size := fun y hy => by
   have := row_base hP hy
   simp at this
   omega
  refine ⟨pv, rfl, ?_, H2.out.add hb (fun y hy => hy.imp id (fun e => (hq y e).1)) (fun y hy => hy.elim (fun e => Nat.lt_of_lt_of_le (hx y e) hb.size) (fun e => (hq y e).2)), fun y hy => (hb.block y (hx y hy)).trans (HK2.out y hy), fun y hy hX => ?_⟩
  ·rw [hr]
   refine row_lower hP ?_
   have := H2.out.bel.size
   simp
   omega
  ·have := hx y hX
   have := (hq y hy).1
   omega
 ·have c1 : (e0 != 0) = true := by simp [he0]
  have He0 := hid he0
  clear he0
  go_wp2_with fail
  go_ret
  have hr := HR.out
  rw [if_neg He0.out] at hr
  refine ⟨_, rfl, by rw [hr]; exact World.ownsRow_nil _ _ _ _, H2.out.add (Below.refl _ _) (fun y hy => hy.elim .inl (fun e => by cases e)) (fun y hy => hy.elim (fun e => H2.out.xlt y e) (fun e => by cases e)), HK2.out, fun y hy => by cases hy⟩
structure TgGave1 (w W : World) (X : Nat → Prop) (t : Nat) (R : TgR) (pv : Value) (w' : World) : Prop where
 row : PostRow w' w.heap.size pv R.out
 two : PgAtX w w' R.c (fun k => X k ∨ pv.ownBlock = some k)
 blk : w'.heap[t]? = some (tlObj R.c.pb R.ep)
 keep : ∀ k, X k → k ≠ t → w'.heap[k]? = W.heap[k]?
 apart : ∀ k, pv.ownBlock = some k → ¬ X k
theorem tgGave1_nil {W2 : World} {R : TgR} (h : PgAtX w W2 c X) (ht : W2.heap[t]? = some (tlObj c.pb ep)) (hk : ∀ k, X k → W2.heap[k]? = W.heap[k]?) {e : Int} (hR : R = ⟨[], e, ep, c⟩) : TgGave1 w W X t R (.slice none 0 0) W2 := by
 subst hR
 exact ⟨World.ownsRow_nil _ _ _ _, h.add (Below.refl _ _) (fun y hy => hy.elim .inl (fun e => by cases e)) (fun y hy => hy.elim (fun e => h.xlt y e) (fun e => by cases e)), ht, fun k hX _ => hk k hX, fun k e => by cases e⟩
set_option maxHeartbeats 16000000 in
set_option maxRecDepth 20000 in
theorem tget1_any (h : PgAtX w W c X) (ht : W.heap[t]? = some (tlObj c.pb ep)) (xt : X t) (hwt : w.heap.size ≤ t) (he : 0 ≤ ep ∧ ep < 18446744073709551616) (s : List UInt8) (hs : s.length ≤ 1099511627776) (N : Nat) (hsm : c.d.Small N) (hN : N + 33554432 ≤ 1099511527776) :
  Calls Tryz.prog 16 #[.pointer (some ⟨t, 0, none⟩), .string (bs s)] W fun e w' => ∃ pv, e = .returned (.tuple #[pv, .int .i64 (tgetM ep c s).err]) ∧ TgGave1 w W X t (tgetM ep c s) pv w' := by
 have RT := Rf.take_any s W hs
 have hwf := take_wf s
 have hsl := take_small s
 obtain ⟨R, hR⟩ : ∃ R, R = tgetM ep c s := ⟨_, rfl⟩
 rw [← hR]
 unfold tgetM at hR
 obtain ⟨⟨⟨kd, ep2, kk, fl, pg, im⟩, e0⟩, hM⟩ : ∃ T, T = Rf.takeM s := ⟨_, rfl⟩
 rw [← hM] at RT hR hwf hsl
 unfold shipV at RT
 dsimp only at RT hR hwf hsl
 have RT := hid RT
 have HR := hid hR
 have HT := hid ht
 have H := hid h
 have XT := hid xt
 have HWf := hid hwf
 have HSl := hid hsl
 clear h ht xt hR hM hwf hsl
 go_enter Tryz.func16, Tryz.ntmps16
 go_upto_region 4 with (first
  | (go_at_call 49; refine (RT.out).mono ?_; rintro e w2 ⟨v, rfl, hv, hvb, hb2⟩; obtain ⟨ao, cap, rfl⟩ := imgs_shape hv; have HV := hid hv; have HVB := hid hvb; have HB2 := hid hb2; clear hv hvb hb2)
  | go_in)
 have hbe := (Below.refl w2.heap.size w2).alloc (Nat.le_refl _) (.cells #[.int .u8 kd, .int .u64 ep2, .int .u64 kk, .bool fl, .int .i64 pg, .slice ao im.length cap] 25)
 have hm3 := heap_alloc_new w2 (.cells #[.int .u8 kd, .int .u64 ep2, .int .u64 kk, .bool fl, .int .i64 pg, .slice ao im.length cap] 25)
 obtain ⟨M, hM⟩ : ∃ M, M = w2.heap.size := ⟨_, rfl⟩
 obtain ⟨w3, hw3⟩ : ∃ w3, w3 = w2.alloc (.cells #[.int .u8 kd, .int .u64 ep2, .int .u64 kk, .bool fl, .int .i64 pg, .slice ao im.length cap] 25) := ⟨_, rfl⟩
 rw [← hw3, ← hM]
 rw [← hw3] at hbe hm3
 rw [← hM] at hm3
 have hb3 : Below W.heap.size W w3 := HB2.out.trans (hbe.mono HB2.out.size)
 have htW := lt_of_block HT.out
 have hMW : W.heap.size ≤ M := by rw [hM]; exact HB2.out.size
 have hib : ∀ k, IBk ao im cap k → W.heap.size ≤ k ∧ k < w3.heap.size := fun k hk => by
  obtain ⟨h0, off, n, cp, e⟩ := hk
  refine ⟨HVB.out k off n cp e, Nat.lt_of_lt_of_le ?_ hbe.size⟩
  rcases HV.out with ⟨-, h1⟩ | ⟨b, o2, cp2, e2, hc⟩
  ·exact absurd h1 h0
  ·rw [e2] at e
   injection e with e
   injection e with e
   injection e with e _
   subst e
   have hpos : 0 < im.length := List.length_pos_iff.2 h0
   exact lt_of_cell (hc 0 hpos).1
 have ht3 : PgAtX w w3 c (fun k => (X k ∨ k = M) ∨ IBk ao im cap k) := H.out.add hb3 (fun y hy => hy.elim (fun e => e.imp id (fun e => by rw [e]; exact hMW)) (fun e => .inr (hib y e).1)) (fun y hy => hy.elim (fun e => e.elim (fun e => Nat.lt_of_lt_of_le (H.out.xlt y e) hb3.size) (fun e => by rw [e]; exact lt_of_block hm3)) (fun e => (hib y e).2))
 have htb : w3.heap[t]? = some (tlObj c.pb ep) := (hb3.block t htW).trans HT.out
 have hMt : M ≠ t := by omega
 obtain ⟨m0, m1, m2, m3, m4, m5, -⟩ := cells6 hm3
 obtain ⟨x0, x1, xf⟩ := tl_cells htb
 have HB3 := hid hb3
 have HM3 := hid hm3
 have HT3 := hid ht3
 have HTB := hid htb
 have HMt := hid hMt
 have HIB := hid hib
 have HBE := hid hbe
 have HMW := hid hMW
 clear hb3 hm3 ht3 htb hMt hib hbe hMW htW hM hw3
 have hR := HR.out
 by_cases h0 : e0 = 0
 rotate_left
 ·rw [if_pos h0] at hR
  have HR2 := hid hR
  have c1 : (e0 != 0) = true := by simp [h0]
  clear h0 hR
  go_wp2_with fail
  go_ret2
  have e := HR2.out
  refine ⟨.slice none 0 0, (by rw [e] <;> rfl), tgGave1_nil (c := c) (ep := ep) (e := e0) (HT3.out.add (Below.refl _ _) (fun y hy => .inl (.inl (.inl hy))) (fun y hy => HT3.out.xlt y (.inl (.inl hy)))) HTB.out (fun k hk => HB3.out.block k (H.out.xlt k hk)) e⟩
 rw [if_neg (by simp [h0])] at hR
 have Hsl := hid (HSl.out h0)
 have c1 : (e0 != 0) = false := by simp [h0]
 clear h0
 by_cases hk : kd = 1
 rotate_left
 ·rw [if_pos hk] at hR
  have HR2 := hid hR
  have c2 : (kd != 1) = true := by simp [hk]
  clear hk hR
  go_wp2_with fail
  go_ret2
  have e := HR2.out
  refine ⟨.slice none 0 0, (by rw [e] <;> rfl), tgGave1_nil (c := c) (ep := ep) (e := 2) (HT3.out.add (Below.refl _ _) (fun y hy => .inl (.inl (.inl hy))) (fun y hy => HT3.out.xlt y (.inl (.inl hy)))) HTB.out (fun k hk => HB3.out.block k (H.out.xlt k hk)) e⟩
 rw [if_neg (by simp [hk])] at hR
 have c2 : (kd != 1) = false := by simp [hk]
 clear hk
 by_cases hep : ep2 < ep
 ·rw [if_pos hep] at hR
  have HR2 := hid hR
  clear hR
  go_upto_region 8 with fail
  go_quiet (fail)
  go_wp2_with fail
  go_ret2
  have e := HR2.out
  refine ⟨.slice none 0 0, (by rw [e] <;> rfl), tgGave1_nil (c := c) (ep := ep) (e := 9) ((HT3.out.below (below_drewN2 (Below.refl _ w3) _)).add (Below.refl _ _) (fun y hy => .inl (.inl (.inl hy))) (fun y hy => HT3.out.xlt y (.inl (.inl hy)))) HTB.out (fun k hk => HB3.out.block k (H.out.xlt k hk)) e⟩
 rw [if_neg hep] at hR
 have HR2 := hid hR
 clear hR
 go_upto_region 8 with fail
 go_quiet (fail)
 go_upto_region 11 with fail
 have hf4 : Frm (fun k => k = t) w3 ((w3.drewN nq).setCell ⟨t, 1, none⟩ (.int .u64 ep2)) := Frm.setCell (S := fun k => k = t) (p := ⟨t, 1, none⟩) ((Frm.refl _ w3).drewN nq) (.inl rfl) _
 have htb4 : ((w3.drewN nq).setCell ⟨t, 1, none⟩ (.int .u64 ep2)).heap[t]? = some (tlObj c.pb ep2) := (heap_setCell_same (show (w3.drewN nq).heap[t]? = some (tlObj c.pb ep) from HTB.out) 1 _).trans rfl
 obtain ⟨w4, hw4⟩ : ∃ w4, w4 = (w3.drewN nq).setCell ⟨t, 1, none⟩ (.int .u64 ep2) := ⟨_, rfl⟩
 rw [← hw4] at hf4 htb4 ⊢
 have ht4 := HT3.out.turned (.inl (.inl XT.out)) hwt hf4
 have hm4 := (hf4.block M (lt_of_block HM3.out) HMt.out).trans HM3.out
 have htW := lt_of_block HT.out
 have sok3 : ShOk w w3 (IBk ao im cap) ⟨kd, ep2, kk, fl, pg, im⟩ (.slice ao im.length cap) := ⟨imgs_kept HV.out HBE.out, (fun b off n cp e hne => .inr ⟨hne, off, n, cp, e⟩), by have := Hsl.out.1; show im.length ≤ _; omega, (fun x hx => by have := Hsl.out.2 x hx; omega), HWf.out⟩
 have sok4 := (sok3.keep HT3.out.bel ht4.bel (fun k hk => hf4.block k (HIB.out k hk).2 (fun e => by have := (HIB.out k hk).1; omega))).mono (X' := fun k => (X k ∨ k = M) ∨ IBk ao im cap k) (fun k hk => .inr hk)
 have FW := fun (W2 : World) (h2 : PgAtX w W2 c (fun k => (X k ∨ k = M) ∨ IBk ao im cap k)) (s2 : ShOk w W2 (fun k => (X k ∨ k = M) ∨ IBk ao im cap k) ⟨kd, ep2, kk, fl, pg, im⟩ (.slice ao im.length cap)) => pa_follow h2 s2 N hsm hN
 unfold shipV at FW
 dsimp only at FW
 obtain ⟨F, hF⟩ : ∃ F, F = followM c.p c.g c.d ⟨kd, ep2, kk, fl, pg, im⟩ := ⟨_, rfl⟩
 obtain ⟨c2', hc2⟩ : ∃ c2', c2' = gFollowed c ⟨kd, ep2, kk, fl, pg, im⟩ := ⟨_, rfl⟩
 have hpb : c2'.pb = c.pb := by rw [hc2]; rfl
 have hR2 := HR2.out
 rw [← hF, ← hc2] at hR2
 simp only [← hF, ← hc2] at FW
 have FW := hid FW
 have HR3 := hid hR2
 have Hpb := hid hpb
 have HF4 := hid hf4
 have HT4 := hid ht4
 have HTB4 := hid htb4
 have HM4 := hid hm4
 have SO4 := hid sok4
 clear sok3 sok4 hf4 htb4 ht4 hm4 hw4 hF hc2 hpb hR2 x0 x1 xf m0 m1 m2 m3 m4 m5
 obtain ⟨x0, -, -⟩ := tl_cells HTB4.out
 obtain ⟨m0, m1, m2, m3, m4, m5, -⟩ := cells6 HM4.out
 refine wp_region_held_drew (S := fun W2 => W2.cell? ⟨t, 0, none⟩ = some (.pointer (some ⟨c.pb, 0, none⟩)) ∧ W2.cell? ⟨M, 0, none⟩ = some (.int .u8 kd) ∧ W2.cell? ⟨M, 1, none⟩ = some (.int .u64 ep2) ∧ W2.cell? ⟨M, 2, none⟩ = some (.int .u64 kk) ∧ W2.cell? ⟨M, 3, none⟩ = some (.bool fl) ∧ W2.cell? ⟨M, 4, none⟩ = some (.int .i64 pg) ∧ W2.cell? ⟨M, 5, none⟩ = some (.slice ao im.length cap)) (by kernel_rfl) ⟨x0, m0, m1, m2, m3, m4, m5⟩ (fun hHeld => ?_)
 clear x0 m0 m1 m2 m3 m4 m5
 refine held_take (v := ?av0) 0 rfl (by kernel_rfl) (by kernel_rfl) (by kernel_rfl) (fun _ _ _ h => h) (by rfl) hHeld ?ay0 ?ar0
 case ay0 => (intro W hSw; obtain ⟨y0, y1, y2, y3, y4, y5, y6⟩ := hSw; go_simp; with_reducible rfl)
 simp only [Act.put, List.setIfInBounds_toArray, List.set_cons_zero, List.set_cons_succ]
 refine held_take (v := ?av1) 1 rfl (by kernel_rfl) (by kernel_rfl) (by kernel_rfl) (fun _ _ _ h => h) (by rfl) hHeld ?ay1 ?ar1
 case ay1 => (intro W hSw; obtain ⟨y0, y1, y2, y3, y4, y5, y6⟩ := hSw; go_simp; with_reducible rfl)
 simp only [Act.put, List.setIfInBounds_toArray, List.set_cons_zero, List.set_cons_succ]
 refine held_take (v := ?av2) 2 rfl (by kernel_rfl) (by kernel_rfl) (by kernel_rfl) (fun _ _ _ h => h) (by rfl) hHeld ?ay2 ?ar2
 case ay2 => (intro W hSw; obtain ⟨y0, y1, y2, y3, y4, y5, y6⟩ := hSw; go_simp; with_reducible rfl)
 simp only [Act.put, List.setIfInBounds_toArray, List.set_cons_zero, List.set_cons_succ]
 refine held_take (v := ?av3) 3 rfl (by kernel_rfl) (by kernel_rfl) (by kernel_rfl) (fun _ _ _ h => h) (by rfl) hHeld ?ay3 ?ar3
 case ay3 => (intro W hSw; obtain ⟨y0, y1, y2, y3, y4, y5, y6⟩ := hSw; go_simp; with_reducible rfl)
 simp only [Act.put, List.setIfInBounds_toArray, List.set_cons_zero, List.set_cons_succ]
 refine held_take (v := ?av4) 4 rfl (by kernel_rfl) (by kernel_rfl) (by kernel_rfl) (fun _ _ _ h => h) (by rfl) hHeld ?ay4 ?ar4
 case ay4 => (intro W hSw; obtain ⟨y0, y1, y2, y3, y4, y5, y6⟩ := hSw; go_simp; with_reducible rfl)
 simp only [Act.put, List.setIfInBounds_toArray, List.set_cons_zero, List.set_cons_succ]
 refine held_one 5 (by kernel_rfl) rfl (fun K hK => ?_)
 go_simp
 refine (FW.out _ (HT4.out.below (Below.refl _ w4).drew) (SO4.out.keep HT4.out.bel HT4.out.bel.drew (fun _ _ => rfl))).mono ?_
 rintro e w5 ⟨rfl, h5, hk5⟩
 have htb5 : w5.heap[t]? = some (tlObj c.pb ep2) := (hk5 t (.inl (.inl XT.out))).trans HTB4.out
 have hm5 := (hk5 M (.inl (.inr rfl))).trans HM4.out
 obtain ⟨x0, -, -⟩ := tl_cells htb5
 obtain ⟨m0, m1, m2, m3, m4, m5, -⟩ := cells6 hm5
 have HT5 := hid h5
 have HK5 := hid hk5
 have HTB5 := hid htb5
 clear h5 hk5 htb5 hm5
 try dsimp only
 refine hK.out _ _ (⟨x0, m0, m1, m2, m3, m4, m5⟩) (fun hHeld => ?_)
 clear hK K
 try simp only [Act.put, List.setIfInBounds_toArray, List.set_cons_zero, List.set_cons_succ]
 clear x0 m0 m1 m2 m3 m4 m5
 refine held_take (v := ?bv6) 6 rfl (by kernel_rfl) (by kernel_rfl) (by kernel_rfl) (fun _ _ _ h => h) (by rfl) hHeld ?by6 ?br6
 case by6 => (intro W hSw; obtain ⟨y0, y1, y2, y3, y4, y5, y6⟩ := hSw; go_simp; with_reducible rfl)
 simp only [Act.put, List.setIfInBounds_toArray, List.set_cons_zero, List.set_cons_succ]
 clear hHeld
 refine wpAnyH_done (by kernel_rfl) ?_ _
 have TK := ttick1_any HT5.out (by rw [Hpb.out]; exact HTB5.out) (.inl (.inl XT.out)) HWf.out.2.1
 have TK := hid TK
 go_wp2_with (first
  | (go_at_call 28; refine (TK.out).mono ?_; rintro e w6 ⟨pv, rfl, h6, h7, h8, h9⟩; have H6 := hid h6; have H7 := hid h7; have H8 := hid h8; have H9 := hid h9; clear h6 h7 h8 h9)
  | go_in)
 go_ret2
 have e := HR3.out
 subst e
 refine ⟨pv, rfl, H6.out, H7.out.add (Below.refl _ _) (fun y hy => hy.elim (fun e => .inl (.inl (.inl (.inl e)))) (fun e => .inl (.inr e))) (fun y hy => H7.out.xlt y (hy.elim (fun e => .inl (.inl (.inl e))) .inr)), ?_, fun y hy hne => ?_, fun y hy hX => H9.out y hy (.inl (.inl hX))⟩
 ·have := (H8.out t (.inl (.inl XT.out))).trans HTB5.out
  show w6.heap[t]? = some (tlObj c2'.pb ep2)
  rw [Hpb.out]
  exact this
 ·have h1 := H8.out y (.inl (.inl hy))
  have h2 : w5.heap[y]? = w4.heap[y]? := HK5.out y (.inl (.inl hy))
  have h3 := H.out.xlt y hy
  exact h1.trans (h2.trans ((HF4.out.block y (Nat.lt_of_lt_of_le h3 HB3.out.size) hne).trans (HB3.out.block y h3)))
end
end Go.Proofs.YtjacmfdbmfemkaaGreat
