/- Replica: the document's answer for one that trails: Get, Ack. -/
import Derived.Test.YtcpejlmnplkbaaaGreatRnK
import Derived.Test.YtcpejlmnplkbaaaGreatUtB
import Derived.Test.YtcpejlmnplkbaaaGreatRnM
import Derived.Deep.CutBlock
import Derived.Test.YtcpejlmnplkbaaaGreatHeld
set_option linter.unusedVariables false
set_option linter.unusedSimpArgs false
namespace Go.Proofs.YtcpejlmnplkbaaaGreat
open Go.RowKit Go.Maps
set_option maxRecDepth 20000
def rtObj (vs : Value) (ep : Int) : Obj := .cells #[vs, .int .u64 ep] 61 (0, 0)
structure RtR where
 is : Bool
 err : Int
 ep : Int
 L : List (List UInt8)
def rtgetM (ep : Int) (L : List (List UInt8)) (s : List UInt8) : RtR :=
 if (Rf.takeM s).2 ≠ 0 then ⟨false, (Rf.takeM s).2, ep, L⟩ else if (Rf.takeM s).1.kind ≠ 1 then ⟨false, 2, ep, L⟩ else if (Rf.takeM s).1.epoch < ep then ⟨false, 9, ep, L⟩
 else ⟨true, (followL L (Rf.takeM s).1).2, (Rf.takeM s).1.epoch, (followL L (Rf.takeM s).1).1⟩
def RtGave (W : World) (base t : Nat) (vs : Value) (R : RtR) (w' : World) : Prop :=
 ∃ vs', w'.heap[t]? = some (rtObj vs' R.ep) ∧ StrRow w' base vs' R.L ∧ (vs' = vs ∨ ∀ x, vs'.ownBlock = some x → W.heap.size ≤ x) ∧ Frm (fun k => k = t) W w'
section
variable {w W : World} {t base : Nat} {ep : Int} {vs : Value} {L : List (List UInt8)}
theorem rt_cells (h : W.heap[t]? = some (rtObj vs ep)) : W.cell? ⟨t, 0, none⟩ = some vs ∧ W.cell? ⟨t, 1, none⟩ = some (.int .u64 ep) ∧ ∀ o, W.frozen? ⟨t, o, none⟩ = false := by
 unfold rtObj at h
 refine ⟨?_, ?_, fun o => by simp [World.frozen?, h]⟩ <;> simp [World.cell?, h]
set_option maxHeartbeats 16000000 in
set_option maxRecDepth 20000 in
theorem rtget_any (hb : W.heap[t]? = some (rtObj vs ep)) (hrow : StrRow W base vs L) (hg : Good L) (hl : L.length ≤ 256) (hl5 : ∀ s ∈ L, s.length = 512) (hbW : base ≤ W.heap.size) (s : List UInt8) (hs : s.length ≤ 1099511627776) :
  Calls Tryz.prog 21 #[.pointer (some ⟨t, 0, none⟩), .string (bs s)] W fun e w' => e = .returned (.tuple #[.bool (rtgetM ep L s).is, .int .i64 (rtgetM ep L s).err]) ∧ RtGave W base t vs (rtgetM ep L s) w' := by
 have RT := Rf.refTake_any s W hs
 have hwf := take_wf s
 have hsl := take_small s
 obtain ⟨R, hR⟩ : ∃ R, R = rtgetM ep L s := ⟨_, rfl⟩
 rw [← hR]
 unfold rtgetM at hR
 obtain ⟨⟨⟨kd, ep2, kk, fl, pg, im⟩, e0⟩, hM⟩ : ∃ T, T = Rf.takeM s := ⟨_, rfl⟩
 rw [← hM] at RT hR hwf hsl
 unfold shipV at RT
 dsimp only at RT hR hwf hsl
 obtain ⟨aos, caps, rfl, -⟩ := hrow.shape
 have hne : ∀ k, (Value.slice aos L.length caps).ownBlock = some k → k ≠ t := fun k hk e => row_type hrow hb (by decide) (e ▸ hk)
 obtain ⟨nl, hnl⟩ : ∃ nl, nl = L.length := ⟨_, rfl⟩
 rw [← hnl] at hb hrow hne ⊢
 have RT := hid RT
 have HR := hid hR
 have HT := hid hb
 have HRow := hid hrow
 have HNe := hid hne
 have HWf := hid hwf
 have HSl := hid hsl
 clear hb hrow hR hM hwf hsl hne hnl
 go_enter Tryz.func21, Tryz.ntmps21
 go_upto_region 2 with (first
  | (go_at_call 34; refine (RT.out).mono ?_; rintro e w2 ⟨v, rfl, hv, hb2⟩; obtain ⟨ao, cap, rfl⟩ := imgs_shape hv; have HV := hid hv; have HB2 := hid hb2; clear hv hb2)
  | go_in)
 have hbe := (Below.refl w2.heap.size w2).alloc (Nat.le_refl _) (.cells #[.int .u8 kd, .int .u64 ep2, .int .u64 kk, .bool fl, .int .i64 pg, .slice ao im.length cap] 52)
 have hm3 := heap_alloc_new w2 (.cells #[.int .u8 kd, .int .u64 ep2, .int .u64 kk, .bool fl, .int .i64 pg, .slice ao im.length cap] 52)
 obtain ⟨M, hM⟩ : ∃ M, M = w2.heap.size := ⟨_, rfl⟩
 obtain ⟨w3, hw3⟩ : ∃ w3, w3 = w2.alloc (.cells #[.int .u8 kd, .int .u64 ep2, .int .u64 kk, .bool fl, .int .i64 pg, .slice ao im.length cap] 52) := ⟨_, rfl⟩
 rw [← hw3, ← hM]
 rw [← hw3] at hbe hm3
 rw [← hM] at hm3
 have hb3 : Below W.heap.size W w3 := HB2.out.trans (hbe.mono HB2.out.size)
 have htW := lt_of_block HT.out
 have hMW : W.heap.size ≤ M := by rw [hM]; exact HB2.out.size
 have htb : w3.heap[t]? = some (rtObj (.slice aos nl caps) ep) := (hb3.block t htW).trans HT.out
 have hMt : M ≠ t := by omega
 obtain ⟨m0, m1, m2, m3, m4, m5, -⟩ := cells6 hm3
 obtain ⟨x0, x1, xf⟩ := rt_cells htb
 have HB3 := hid hb3
 have HM3 := hid hm3
 have HTB := hid htb
 have HMt := hid hMt
 have HBE := hid hbe
 have HRow3 := hid (row_keep HRow.out (fun y hy => hb3.block y (row_base HRow.out hy).2))
 clear hb3 hm3 htb hMt hbe hMW htW hM hw3
 have hR := HR.out
 by_cases h0 : e0 = 0
 rotate_left
 ·rw [if_pos h0] at hR
  have HR2 := hid hR
  have c1 : (e0 != 0) = true := by simp [h0]
  clear h0 hR
  go_wp2_with fail
  go_ret2
  have e := HR2.out
  subst e
  exact ⟨rfl, ⟨.slice aos nl caps, HTB.out, HRow3.out, .inl rfl, Frm.of_below HB3.out⟩⟩
 rw [if_neg (by simp [h0])] at hR
 have Hsl := hid (HSl.out h0)
 have c1 : (e0 != 0) = false := by simp [h0]
 clear h0
 by_cases hk : kd = 1
 rotate_left
 ·rw [if_pos hk] at hR
  have HR2 := hid hR
  have c2 : (kd != 1) = true := by simp [hk]
  clear hk hR
  go_wp2_with fail
  go_ret2
  have e := HR2.out
  subst e
  exact ⟨rfl, ⟨.slice aos nl caps, HTB.out, HRow3.out, .inl rfl, Frm.of_below HB3.out⟩⟩
 rw [if_neg (by simp [hk])] at hR
 have c2 : (kd != 1) = false := by simp [hk]
 clear hk
 by_cases hep : ep2 < ep
 ·rw [if_pos hep] at hR
  have HR2 := hid hR
  clear hR
  go_upto_region 6 with fail
  go_quiet (fail)
  go_wp2_with fail
  go_ret2
  have e := HR2.out
  subst e
  exact ⟨rfl, ⟨.slice aos nl caps, HTB.out, HRow3.out, .inl rfl, Frm.drewN (Frm.of_below (S := fun k => k = t) HB3.out) _⟩⟩
 rw [if_neg hep] at hR
 have HR2 := hid hR
 clear hR
 go_upto_region 6 with fail
 go_quiet (fail)
 go_upto_region 9 with fail
 have hf4 : Frm (fun k => k = t) w3 ((w3.drewN nq).setCell ⟨t, 1, none⟩ (.int .u64 ep2)) := Frm.setCell (S := fun k => k = t) (p := ⟨t, 1, none⟩) ((Frm.refl _ w3).drewN nq) (.inl rfl) _
 have htb4 : ((w3.drewN nq).setCell ⟨t, 1, none⟩ (.int .u64 ep2)).heap[t]? = some (rtObj (.slice aos nl caps) ep2) := (heap_setCell_same (show (w3.drewN nq).heap[t]? = some (rtObj (.slice aos nl caps) ep) from HTB.out) 1 _).trans rfl
 obtain ⟨w4, hw4⟩ : ∃ w4, w4 = (w3.drewN nq).setCell ⟨t, 1, none⟩ (.int .u64 ep2) := ⟨_, rfl⟩
 rw [← hw4] at hf4 htb4 ⊢
 have hm4 := (hf4.block M (lt_of_block HM3.out) HMt.out).trans HM3.out
 have hrow4 := row_keep HRow3.out (fun y hy => hf4.block y (row_base HRow3.out hy).2 (HNe.out y hy))
 have hin4 : ShIn w4 ⟨kd, ep2, kk, fl, pg, im⟩ (.slice ao im.length cap) := by
  refine ⟨?_, by have := Hsl.out.1; show im.length ≤ _; omega, (fun x hx => by have := Hsl.out.2 x hx; omega), HWf.out⟩
  rcases imgs_kept HV.out HBE.out with h1 | ⟨q, off, cp, e, hc⟩
  ·exact .inl h1
  ·refine .inr ⟨q, off, cp, e, fun j hj => ?_⟩
   have hq : q ≠ t := fun e2 => by
    have h9 := (hc j hj).1
    rw [e2] at h9
    simp only [World.cell?, HTB.out, rtObj] at h9
    match off + j * 2, h9 with
    | 0, h9 => simp at h9
    | 1, h9 => simp at h9
    | n + 2, h9 => simp at h9
   have hq4 := hf4.block q (lt_of_cell (hc j hj).1) hq
   exact ⟨(World.cell?_of_block (a := ⟨q, off + j * 2, none⟩) hq4).trans (hc j hj).1, (World.cell?_of_block (a := ⟨q, off + j * 2 + 1, none⟩) hq4).trans (hc j hj).2⟩
 have FO := fun (W2 : World) (h2 : StrRow W2 base (.slice aos nl caps) L) (h3 : base ≤ W2.heap.size) (s2 : ShIn W2 ⟨kd, ep2, kk, fl, pg, im⟩ (.slice ao im.length cap)) => rfollow_any h2 hg hl hl5 h3 s2 HWf.out.2.2.1
 unfold shipV RFollowGave at FO
 dsimp only at FO
 obtain ⟨⟨L2, e2⟩, hF⟩ : ∃ F, F = followL L ⟨kd, ep2, kk, fl, pg, im⟩ := ⟨_, rfl⟩
 have hR2 := HR2.out
 rw [← hF] at hR2
 simp only [← hF] at FO
 dsimp only at hR2 FO
 have FO := hid FO
 have HR3 := hid hR2
 have HF4 := hid ((Frm.of_below (S := fun k => k = t) HB3.out).trans hf4)
 have HTB4 := hid htb4
 have HM4 := hid hm4
 have HRow4 := hid hrow4
 have HIn4 := hid hin4
 have hbW4 : base ≤ w4.heap.size := Nat.le_trans hbW (Nat.le_trans HB3.out.size hf4.size)
 clear hf4 htb4 hm4 hrow4 hin4 hw4 hF hR2 x0 x1 xf m0 m1 m2 m3 m4 m5
 obtain ⟨x0, -, -⟩ := rt_cells HTB4.out
 obtain ⟨m0, m1, m2, m3, m4, m5, -⟩ := cells6 HM4.out
 refine wp_region_held_drew (S := fun W2 => W2.cell? ⟨t, 0, none⟩ = some (.slice aos nl caps) ∧ W2.cell? ⟨M, 0, none⟩ = some (.int .u8 kd) ∧ W2.cell? ⟨M, 1, none⟩ = some (.int .u64 ep2) ∧ W2.cell? ⟨M, 2, none⟩ = some (.int .u64 kk) ∧ W2.cell? ⟨M, 3, none⟩ = some (.bool fl) ∧ W2.cell? ⟨M, 4, none⟩ = some (.int .i64 pg) ∧ W2.cell? ⟨M, 5, none⟩ = some (.slice ao im.length cap)) (by kernel_rfl) ⟨x0, m0, m1, m2, m3, m4, m5⟩ (fun hHeld => ?_)
 clear x0 m0 m1 m2 m3 m4 m5
 refine ht 0 hHeld ?_
 refine ht 1 hHeld ?_
 refine ht 2 hHeld ?_
 refine ht 3 hHeld ?_
 refine ht 4 hHeld ?_
 refine held_one 5 (by kernel_rfl) rfl (fun K hK => ?_)
 go_simp
 refine (FO.out w4.drew HRow4.out hbW4 ⟨HIn4.out.at', HIn4.out.n, HIn4.out.big, HIn4.out.wf⟩).mono ?_
 rintro e w5 ⟨v5, rfl, hr5, ho5, hb5⟩
 obtain ⟨ao5, cap5, rfl, -⟩ := hr5.shape
 have hb5 : Below w4.heap.size w4 w5 := (Below.refl w4.heap.size w4).drew.trans hb5
 have htb5 := (hb5.block t (lt_of_block HTB4.out)).trans HTB4.out
 have hm5 := (hb5.block M (lt_of_block HM4.out)).trans HM4.out
 obtain ⟨x0, x1, xf⟩ := rt_cells htb5
 obtain ⟨m0, m1, m2, m3, m4, m5, -⟩ := cells6 hm5
 have HR5 := hid hr5
 have HO5 := hid ho5
 have HB5 := hid hb5
 have HTB5 := hid htb5
 clear hr5 ho5 hb5 htb5 hm5
 try dsimp only
 refine hK.out _ _ (⟨x0, m0, m1, m2, m3, m4, m5⟩) (fun hHeld => ?_)
 clear hK K
 try simp only [Act.put, zl0, zl1, zl2]
 refine ht 6 hHeld ?_
 refine ht 7 hHeld ?_
 refine ht 8 hHeld ?_
 refine ht 9 hHeld ?_
 refine ht 10 hHeld ?_
 clear hHeld m0 m1 m2 m3 m4 m5
 refine wpAnyH_done (by kernel_rfl) ?_ _
 go_wp2_with fail
 go_ret2
 have e := HR3.out
 subst e
 have hne5 : ∀ y, (Value.slice ao5 L2.length cap5).ownBlock = some y → y ≠ t := fun y hy e => row_type HR5.out HTB5.out (by decide) (e ▸ hy)
 refine ⟨rfl, ⟨_, (heap_setCell_same HTB5.out 0 _).trans rfl, row_keep HR5.out (fun y hy => Below.heap_setCell w5 ⟨t, 0, none⟩ _ y (hne5 y hy)), ?_, Frm.setCell (S := fun k => k = t) (p := ⟨t, 0, none⟩) (HF4.out.trans (Frm.of_below HB5.out)) (.inl rfl) _⟩⟩
 rcases HO5.out with h | h
 ·exact .inl h
 ·exact .inr fun x hx => Nat.le_trans HF4.out.size (h x hx)
theorem commL_bd (hg : Good L) : 0 ≤ commL L ∧ commL L < 18446744073709551616 := by
 rcases good_commits hg with rfl | ⟨s, M, hd, -, -, e, -, hw⟩
 ·exact ⟨Int.le_refl 0, by show (0 : Int) < _; decide⟩
 ·rw [e]
  exact hw.commits
set_option maxHeartbeats 4000000 in
set_option maxRecDepth 20000 in
theorem rack_any (hb : W.heap[t]? = some (rtObj vs ep)) (hrow : StrRow W base vs L) (hg : Good L) (hl : L.length ≤ 256) (he : 0 ≤ ep ∧ ep < 18446744073709551616) : Calls Tryz.prog 22 #[.pointer (some ⟨t, 0, none⟩)] W fun e w' => e = .returned (.string (bs (putL (ackSh ep (commL L))))) ∧ Below W.heap.size W w' := by
 have RC := rcommits_any hrow hg (by omega)
 have hcb := commL_bd hg
 obtain ⟨kk, hkk⟩ : ∃ kk, kk = commL L := ⟨_, rfl⟩
 rw [← hkk] at RC hcb ⊢
 obtain ⟨aos, caps, rfl, -⟩ := hrow.shape
 obtain ⟨x0, x1, -⟩ := rt_cells hb
 have RP := fun W => Rf.refPut_yes (ackSh ep kk) (.slice none 0 0) W (.inl ⟨⟨_, _, rfl⟩, rfl⟩) (ack_may ep kk) ⟨⟨by show (0 : Int) ≤ 2; decide, by show (2 : Int) < 256; decide⟩, he, hcb⟩
 obtain ⟨s, hs⟩ : ∃ s, s = putL (ackSh ep kk) := ⟨_, rfl⟩
 rw [← hs] at RP ⊢
 unfold shipV ackSh at RP
 dsimp only at RP
 have RP := hid RP
 have RC := hid RC
 have HB := hid hb
 clear hs hkk hrow hb
 go_enter Tryz.func22, Tryz.ntmps22
 go_wp2_with (first
  | (go_at_call 46; refine (RC.out).mono ?_; rintro e w1 ⟨rfl, hb1⟩; obtain ⟨y0, y1, -⟩ := rt_cells ((hb1.block t (lt_of_block HB.out)).trans HB.out); have HB1 := hid hb1; clear hb1 x0 x1)
  | (go_at_call 17; refine (RP.out _).mono ?_; rintro e w2 ⟨rfl, hb2⟩; have HB2 := hid (HB1.out.trans (hb2.mono HB1.out.size)); clear hb2)
  | go_in)
 go_ret
 exact ⟨rfl, HB2.out⟩
end
end Go.Proofs.YtcpejlmnplkbaaaGreat
/- The law ReplicaLeads: its walk. -/
namespace Go.Proofs.YtcpejlmnplkbaaaGreat
open Go.RowKit Go.Maps
set_option maxRecDepth 20000
structure Cm where
 frm : Int
 s : List UInt8
def ComesAt (w : World) (B : Nat) (v : Value) (l : List Cm) : Prop :=
 ∃ ao cap, v = .slice ao l.length cap ∧ ∀ k (hk : k < l.length), ∃ q o, ao = some ⟨q, o, none⟩ ∧ q < B ∧ q < w.heap.size ∧ w.cell? ⟨q, o + k * 2, none⟩ = some (.int .i64 l[k].frm) ∧ w.cell? ⟨q, o + k * 2 + 1, none⟩ = some (.string (bs l[k].s))
structure ComesIn (w : World) (v : Value) (l : List Cm) : Prop where
 at' : ComesAt w w.heap.size v l
 len : l.length ≤ 9223372036854775807
 big : ∀ x ∈ l, x.s.length ≤ 9223372036854775807
section
variable {W : World} {b : Nat} {l : Ld}
end
end Go.Proofs.YtcpejlmnplkbaaaGreat
/- Letters (Come) and numbers that come in, opened out of their readings. -/
namespace Go.Proofs.YtcpejlmnplkbaaaGreat
open Go.ChangeShapes Go.WideShapes Go.ChangeAt Go.RowKit Go.Deep
set_option maxRecDepth 20000
set_option maxRecDepth 20000
instance : Inhabited Cm := ⟨⟨0, []⟩⟩
section
variable {H : Type} {enc : TypeId × Value → H} {w : World} {base : Nat} {sp : Nat → Bool} {held : Bool}
theorem open_come {fuel : Nat} {cs : List Value} {x : DataW H × List MemPlace} (h : DataW.trod enc Tryz.prog w base sp held fuel 32 cs = some x) :
  ∃ (n : Int) (l : List UInt8), cs = [.int .i64 n, .string (bs l)] ∧ l.length ≤ 9223372036854775807 := by
 obtain ⟨hl, n, hf⟩ := open_cells_struct Tryz.underlying32 (by kernel_rfl) (by kernel_rfl) h
 obtain ⟨a, b, rfl⟩ : ∃ a b, cs = [a, b] := by
  match cs, hl with
  | [a, b], _ => exact ⟨a, b, rfl⟩
 obtain ⟨y0, h0⟩ := hf 0 _ rfl
 obtain ⟨y1, h1⟩ := hf 1 _ rfl
 obtain ⟨p, e0, _, _⟩ := DataW.trod_int Tryz.underlying3 h0
 obtain ⟨q, e1, _, hs⟩ := DataW.trod_string Tryz.underlying9 h1
 simp at e0 e1
 refine ⟨p, q.data.toList, by rw [e0, e1]; rfl, ?_⟩
 have : q.size = q.data.toList.length := by show q.data.size = _; exact Array.length_toList.symm
 have hm : maxLen = 9223372036854775807 := rfl
 omega
theorem open_comes_cell {fuel : Nat} {cs : List Value} {x : DataW H × List MemPlace} (h : DataW.trod enc Tryz.prog w base sp held fuel 23 cs = some x) :
  ∃ (v : Value) (l : List Cm), cs = [v] ∧ ComesIn w v l := by
 rcases open_slice Tryz.underlying23 h with ⟨rfl, _⟩ | ⟨a, len, cap, m, n, D, Pl, rfl, hb, hle, hcap, hm, _, hx⟩
 ·exact ⟨_, [], rfl, ⟨⟨none, 0, rfl, (fun k hk => by simp at hk)⟩, by simp, (fun x hx => by cases hx)⟩⟩
 have hlm : len ≤ m := by rw [hm]; split <;> omega
 have hcells : Tryz.prog.cellsOf 32 = 2 := by kernel_rfl
 rw [hcells] at hx
 obtain ⟨V, hV⟩ := choose_lt (α := Cm) (p := fun i z => w.cell? (a.add (i * 2)) = some (.int .i64 z.frm) ∧ w.cell? (a.add (i * 2 + 1)) = some (.string (bs z.s)) ∧ z.s.length ≤ 9223372036854775807) (n := len) (fun i hi => by
  obtain ⟨cs', h1, h2⟩ := hx i (by omega)
  obtain ⟨p, q, rfl, hq⟩ := open_come h2
  obtain ⟨_, _, hc⟩ := World.cells?_some h1
  have c0 := hc 0 (by omega)
  have c1 := hc 1 (by omega)
  rw [add_add] at c0 c1
  exact ⟨⟨p, q⟩, by simpa using c0, by simpa using c1, hq⟩)
 have hm' : maxLen = 9223372036854775807 := rfl
 have hlen : ((List.range len).map V).length = len := by simp
 refine ⟨_, (List.range len).map V, rfl, ⟨⟨some a, cap, by rw [hlen], fun k hk => ?_⟩, by rw [hlen]; omega, fun y hy => ?_⟩⟩
 ·rw [hlen] at hk
  obtain ⟨b, off, spot⟩ := a
  have hspot : spot = none := by simpa [Addr.add] using World.cell?_spot (hV 0 (by omega)).1
  subst hspot
  have hlt : b < w.heap.size := by simpa [Addr.add] using lt_of_cell (hV 0 (by omega)).1
  refine ⟨b, off, rfl, hlt, hlt, ?_⟩
  have h := hV k hk
  simp only [Addr.add_lit] at h
  simp only [List.getElem_map, List.getElem_range]
  exact ⟨h.1, by have := h.2.1; rwa [← Nat.add_assoc] at this⟩
 ·obtain ⟨i, hi, rfl⟩ := List.mem_map.1 hy
  exact (hV i (by simpa using hi)).2.2
theorem open_comes {b0 : Nat} {v : Value} (hval : Value.okWide Tryz.prog w .any b0 23 v) (h : ∃ d p, DataW.Trod enc Tryz.prog w base sp held 23 v d p) : ∃ (z : Value × List Cm), v = z.1 ∧ ComesIn w z.1 z.2 := by
 obtain ⟨d, p, fuel, hf⟩ := h
 obtain ⟨ao, n, cap, rfl⟩ := okWide_slice Tryz.underlying23 hval
 obtain ⟨v, l, e, hl⟩ := open_comes_cell hf
 simp [Value.cells] at e
 subst e
 exact ⟨(_, l), rfl, hl⟩
end
end Go.Proofs.YtcpejlmnplkbaaaGreat
