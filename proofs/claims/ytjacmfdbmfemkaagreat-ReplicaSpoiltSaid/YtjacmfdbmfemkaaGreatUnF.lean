import Derived.Test.YtjacmfdbmfemkaaGreatUnD
set_option linter.unusedVariables false
set_option linter.unusedSimpArgs false
namespace Go.Proofs.YtjacmfdbmfemkaaGreat
open Go.RowKit Go.Maps
set_option maxRecDepth 20000
section
variable {w W W' : World} {pb l b : Nat} {p p' : Pg} {g g' : Lg} {d d' : Dsk} {X X' : Nat → Prop}
theorem plog_any (h : PgX w W pb l b p g d X) : Calls Tryz.prog 126 #[.pointer (some ⟨pb, 0, none⟩)] W fun e w' => e = .returned (.pointer (some ⟨l, 0, none⟩)) ∧ w' = W := by
 obtain ⟨⟨nv, sv, hb⟩, -⟩ := h.cell
 have c0 : W.cell? ⟨pb, 0, none⟩ = some (.pointer (some ⟨l, 0, none⟩)) := (cell_of_block hb 0).trans rfl
 clear h hb
 go_enter Tryz.func126, Tryz.ntmps126
 go_wp2_with fail
 go_ret
 exact ⟨rfl, rfl⟩
def LoggedGave (W : World) (r : Option Sh) (e : Ending) (w' : World) : Prop := ∃ v, e = .returned (.tuple #[shipV (r.getD sh0) v, .bool r.isSome]) ∧ ImgRow w' W.heap.size v (r.getD sh0).imgs ∧ Below W.heap.size W w'
theorem loggedGave_of {W wr w5 : World} {r : Option Sh} {v : Value} (hr : ImgRow wr W.heap.size v (r.getD sh0).imgs) (hb : Below W.heap.size W wr) {zb : Nat} (hz : W.heap.size ≤ zb) (hz2 : v.ownBlock ≠ some zb) (hf : Frm (fun k => k = zb) wr w5) : LoggedGave W r (.returned (.tuple #[shipV (r.getD sh0) v, .bool r.isSome])) w5 :=
 ⟨v, rfl, row_keep hr (fun x hx => hf.block x (row_base hr hx).2 (fun e => hz2 (by rw [hx, e]))), ⟨hf.os.trans hb.os, hf.tape.trans hb.tape, hf.output.trans hb.output, Nat.le_trans hb.size hf.size, fun k hk => (hf.block k (Nat.lt_of_lt_of_le hk hb.size) (by omega)).trans (hb.block k hk)⟩⟩
theorem frs_slice {W : World} {base : Nat} {v : Value} {l : List Fr} (h : W.ownsRow base 177 3 v l.length (frsCells l)) : ∃ ao cap, v = .slice ao l.length cap ∧ ∀ i (hi : i < l.length), ∃ q, ao = some ⟨q, 0, none⟩ ∧ q < W.heap.size ∧ W.cell? ⟨q, i * 3, none⟩ = some (.int .i64 l[i].page) ∧ W.cell? ⟨q, i * 3 + 1, none⟩ = some (.int .i64 l[i].commit) ∧ W.cell? ⟨q, i * 3 + 2, none⟩ = some (.string (bs l[i].data)) := by
 rcases row_form h with ⟨rfl, h0⟩ | ⟨q, c, rfl⟩
 ·exact ⟨none, 0, by rw [h0], fun i hi => by omega⟩
 ·refine ⟨_, c, rfl, fun i hi => ⟨q, rfl, (row_base h rfl).2, ?_⟩⟩
  have hc := h.cells (g := q) rfl
  have g3 : ∀ (l : List Fr) (k : Nat) (hk : k < l.length), (frsCells l)[k * 3]? = some (.int .i64 l[k].page) ∧ (frsCells l)[k * 3 + 1]? = some (.int .i64 l[k].commit) ∧ (frsCells l)[k * 3 + 2]? = some (.string (bs l[k].data)) := by
   intro l
   induction l with
   | nil => intro k hk; cases hk
   | cons x r ih =>
    intro k hk
    cases k with
    | zero => exact ⟨rfl, rfl, rfl⟩
    | succ k =>
     have := ih k (by simpa using hk)
     have e : frsCells (x :: r) = frCells x ++ frsCells r := rfl
     have hl : (frCells x).length = 3 := rfl
     rw [e, List.getElem?_append_right (by rw [hl]; omega), List.getElem?_append_right (by rw [hl]; omega), List.getElem?_append_right (by rw [hl]; omega), hl]
     rw [show (k + 1) * 3 - 3 = k * 3 by omega, show (k + 1) * 3 + 1 - 3 = k * 3 + 1 by omega, show (k + 1) * 3 + 2 - 3 = k * 3 + 2 by omega]
     exact this
  obtain ⟨g0, g1, g2⟩ := g3 l i hi
  have e0 := hc _ _ g0
  have e1 := hc _ _ g1
  have e2 := hc _ _ g2
  simp only [Addr.add_lit, Nat.zero_add] at e0 e1 e2
  exact ⟨e0, e1, e2⟩
theorem wr_clear {W : World} {mb : Nat} {es : Array MapEntry} {clock : Nat} (h : W.heap[mb]? = some (.map es clock)) : WrAt (ChangeMaps.setBlock W mb (.map #[] clock)) mb (fun _ => none) :=
 ⟨.map [], ⟨#[], clock, (MapKept.heap_set (o' := .map #[] clock) h).1, ⟨by simp, (MapKept.stamped_iff _ _).2 ⟨by simp, by simp, by simp⟩, by simp⟩, Nat.le_refl _, rfl⟩, ⟨fun k hk => (by cases hk), fun p => rfl⟩⟩
structure LogRel (w2 wr : World) (M mb : Nat) (k : Int) (st : (Int → Option (List UInt8)) × Option Sh) (v9 : Value) : Prop where
 is : v9 = .bool st.2.isSome
 box : ∃ vi, wr.heap[M]? = some (.cells (shCells (st.2.getD sh0) vi) 25 (0, 0)) ∧ ImgRow wr w2.heap.size vi (st.2.getD sh0).imgs
 map : WrAt wr mb st.1
 dom : ∀ q s, st.1 q = some s → 1 ≤ q ∧ q ≤ 256
 len : ∀ q s, st.1 q = some s → s.length = 512
 bel : Below w2.heap.size w2 wr
theorem heap_set6_ne {w : World} {M k : Nat} (hk : k ≠ M) (b0 b1 b2 b3 b4 b5 : Value) :
  ((((((w.setCell ⟨M, 0, none⟩ b0).setCell ⟨M, 1, none⟩ b1).setCell ⟨M, 2, none⟩ b2).setCell ⟨M, 3, none⟩ b3).setCell ⟨M, 4, none⟩ b4).setCell ⟨M, 5, none⟩ b5).heap[k]? = w.heap[k]? := by
 repeat rw [Below.heap_setCell _ ⟨M, _, none⟩ _ k hk]
theorem row_ne_map {w : World} {base n size mb : Nat} {e : TypeId} {v : Value} {xs : List Value} {es : Array MapEntry} {c : Nat} (h : w.ownsRow base e size v n xs) (hm : w.heap[mb]? = some (.map es c)) {k : Nat} (hk : v.ownBlock = some k) : k ≠ mb := by
 intro e1
 rcases h.2 with ⟨rfl, -⟩ | ⟨g, cap, cur, rfl, -, hg, -⟩
 ·cases hk
 ·have e2 : g = k := by injection hk
  rw [e2, e1, hm] at hg
  injection hg with hg
  cases hg
theorem LogRel.put {w2 wr w5 : World} {M mb : Nat} {k : Int} {st : (Int → Option (List UInt8)) × Option Sh} {v9 : Value} {o : Obj} {f : Int → Option (List UInt8)} (h : LogRel w2 wr M mb k st v9) (hg : (wr.alloc o).grownBy w5 (some mb)) (hw : WrAt w5 mb f) (hd : ∀ q s, f q = some s → 1 ≤ q ∧ q ≤ 256) (hl : ∀ q s, f q = some s → s.length = 512) (hge : w2.heap.size ≤ mb) (hne : M ≠ mb) : LogRel w2 w5 M mb k (f, st.2) v9 := by
 obtain ⟨vi, hM, hrow⟩ := h.box
 obtain ⟨es, c, hmb⟩ := h.map.block
 refine ⟨h.is, ⟨vi, (hg.block M (Nat.lt_of_lt_of_le (lt_of_block hM) (by simp)) (fun e => hne (by injection e))).trans ((Below.heap_alloc wr o M (lt_of_block hM)).trans hM), row_keep hrow (fun x hx => (hg.block x (Nat.lt_of_lt_of_le (row_base hrow hx).2 (by simp)) (fun e => row_ne_map hrow hmb hx (by injection e))).trans (Below.heap_alloc wr o x (row_base hrow hx).2))⟩, hw, hd, hl, ?_⟩
 have hb := h.bel.alloc h.bel.size o
 exact hb.grown hg hb.size (fun j hj => by injection hj with hj; omega)
theorem LogRel.below {w2 wr w5 : World} {M mb : Nat} {k : Int} {st : (Int → Option (List UInt8)) × Option Sh} {v9 : Value} (h : LogRel w2 wr M mb k st v9) (hb : Below wr.heap.size wr w5) : LogRel w2 w5 M mb k st v9 := by
 obtain ⟨vi, hM, hrow⟩ := h.box
 exact ⟨h.is, ⟨vi, (hb.block M (lt_of_block hM)).trans hM, hrow.below hb⟩, h.map.keep (hb.block mb h.map.lt), h.dom, h.len, h.bel.trans (hb.mono h.bel.size)⟩
theorem LogRel.clear {w2 wr : World} {M mb : Nat} {k : Int} {f : Int → Option (List UInt8)} {o : Option Sh} {v9 : Value} {es : Array MapEntry} {clock : Nat} (h : LogRel w2 wr M mb k (f, o) v9) (hes : wr.heap[mb]? = some (.map es clock)) (hge : w2.heap.size ≤ mb) (hne : M ≠ mb) : LogRel w2 (ChangeMaps.setBlock wr mb (.map #[] clock)) M mb k (fun _ => none, o) v9 := by
 obtain ⟨vi, hM, hrow⟩ := h.box
 have hk := (MapKept.heap_set (o' := .map #[] clock) hes).2
 refine ⟨h.is, ⟨vi, (hk M hne).trans hM, row_keep hrow (fun x hx => hk x (row_ne_map hrow hes hx))⟩, wr_clear hes, (fun q s e => by cases e), (fun q s e => by cases e), ?_⟩
 exact ⟨h.bel.os, h.bel.tape, h.bel.output, Nat.le_trans h.bel.size (by simp [ChangeMaps.setBlock]), fun j hj => (hk j (by omega)).trans (h.bel.block j hj)⟩
theorem LogRel.found {w2 wr w5 : World} {M mb : Nat} {k : Int} {f : Int → Option (List UInt8)} {o : Option Sh} {v9 : Value} (h : LogRel w2 wr M mb k (f, o) v9) {m : Sh} {v : Value} (hw : WrAt w5 mb f) (hM : w5.heap[M]? = some (.cells (shCells m v) 25 (0, 0))) (hr : ImgRow w5 w2.heap.size v m.imgs) (hb : Below w2.heap.size w2 w5) : LogRel w2 w5 M mb k (f, some m) (.bool true) :=
 ⟨rfl, ⟨v, hM, hr⟩, hw, h.dom, h.len, hb⟩
set_option maxHeartbeats 8000000 in
set_option maxRecDepth 20000 in
theorem logged_any (h : PgX w W pb l b p g d X) (k : Int) : Calls Tryz.prog 85 #[.pointer (some ⟨pb, 0, none⟩), .int .u64 k] W (LoggedGave W (loggedM g k)) := by
 have hz := heap_alloc_new W (.cells #[.int .u8 0, .int .u64 0, .int .u64 0, .bool false, .int .i64 0, .slice none 0 0] 25)
 have hb := (Below.refl W.heap.size W).alloc (Nat.le_refl _) (.cells #[.int .u8 0, .int .u64 0, .int .u64 0, .bool false, .int .i64 0, .slice none 0 0] 25)
 have hx := h.below hb
 have LG := plog_any hx
 have MK := mk_mark hx.log.mk'
 have FR := mk_frames hx.log.mk'
 have hok := h.oks.1
 obtain ⟨z, hz0⟩ : ∃ z, z = g.list.length := ⟨_, rfl⟩
 have hmany := hok.many
 rw [← hz0] at MK FR hmany
 have LG := hid LG
 have MK := hid MK
 have FR := hid FR
 have HX := hid hx
 have HB := hid hb
 have Hz := hid hz
 have Hzn := hid hz0
 have Hok := hid hok
 have hmm := @run_makeMap Tryz.prog
 clear h hz hb hx hz0 hok
 go_enter Tryz.func85, Tryz.ntmps85
 go_wp2_with (first
  | (go_at_call 126; refine (LG.out).mono ?_; rintro e w1 ⟨rfl, hw⟩; obtain rfl := hw.symm)
  | (go_at_call 73; refine (MK.out).mono ?_; rintro e w1 ⟨rfl, hw⟩; obtain rfl := hw.symm)
  | (go_at_call 127; refine (FR.out).mono ?_; rintro e w2 ⟨fv, rfl, hrow, hb2⟩; obtain ⟨ao, cap, hv, hc⟩ := frs_slice (by rw [← Hzn.out]; exact hrow); rw [← Hzn.out] at hv; subst hv; have HC := hid hc; have HB2 := hid hb2; clear hrow hb2 hc)
  | go_in)
 have hmz := heap_alloc_new w2 (.cells #[.int .u8 0, .int .u64 0, .int .u64 0, .bool false, .int .i64 0, .slice none 0 0] 25)
 have hb3 := (Below.refl w2.heap.size w2).alloc (Nat.le_refl _) (.cells #[.int .u8 0, .int .u64 0, .int .u64 0, .bool false, .int .i64 0, .slice none 0 0] 25)
 obtain ⟨M, hM⟩ : ∃ M, M = w2.heap.size := ⟨_, rfl⟩
 obtain ⟨w3, hw3⟩ : ∃ w3, w3 = w2.alloc (.cells #[.int .u8 0, .int .u64 0, .int .u64 0, .bool false, .int .i64 0, .slice none 0 0] 25) := ⟨_, rfl⟩
 rw [← hw3] at hmz hb3 ⊢
 rw [← hM] at hmz ⊢
 have hmade := World.ownsMap_made (H := Unit) (P := Tryz.prog) w3 3 (plainElem Tryz.prog 9)
 have hb4 := hb3.alloc hb3.size (.map #[] 0)
 have hm4 := heap_alloc_old (o := .map #[] 0) hmz
 have hMb : M < w3.heap.size := lt_of_block hmz
 have hs3 : w3.heap.size = M + 1 := by rw [hw3, hM]; simp
 obtain ⟨mb, hmb⟩ : ∃ mb, mb = M + 1 := ⟨_, rfl⟩
 obtain ⟨w4, hw4⟩ : ∃ w4, w4 = w3.alloc (.map #[] 0) := ⟨_, rfl⟩
 rw [← hw4] at hmade hb4 hm4 ⊢
 rw [hs3, ← hmb] at hmade
 rw [← hmb]
 have hge : w2.heap.size ≤ M ∧ w2.heap.size ≤ mb := by have := hb3.size; omega
 have h0 : LogRel w2 w4 M mb k (loggedF [] k) (.bool false) := ⟨rfl, ⟨_, hm4, imgRow_nil _ _⟩, ⟨.map [], hmade, ⟨fun k hk => (by cases hk), fun p => rfl⟩⟩, (fun q s e => by cases e), (fun q s e => by cases e), hb4⟩
 have hneM : M ≠ mb := by omega
 have H0 := hid h0
 have HGE := hid hge
 have HneM := hid hneM
 have HW4 := hid hw4
 have Hmb := hid hmb
 clear hs3 hmz hb3 hmade hb4 hm4 hMb h0 hge hneM hw3 hM LG MK FR hmb hw4
 go_loopw [9, 28] (fun v9 v28 wr => ∃ i : Nat, i ≤ z ∧ v28 = .int .i64 (i : Int) ∧ LogRel w2 wr M mb k (loggedF (g.list.take i) k) v9) (fun _ v28 _ => z - (intOf v28).toNat)
 case atStart => exact ⟨0, Nat.zero_le _, rfl, H0.out⟩
 case round =>
  obtain ⟨i, hi, rfl, hr⟩ := hrel
  have HR := hid hr
  obtain ⟨st, hst⟩ : ∃ st, st = loggedF (g.list.take i) k := ⟨_, rfl⟩
  rw [← hst] at hr
  have Hst := hid hst
  have HRs := hid hr
  by_cases hlt : i < z
  ·have hil : i < g.list.length := by have := Hzn.out; omega
   obtain ⟨q, rfl, hq, f0, f1, f2⟩ := HC.out i hil
   obtain ⟨fr, hfr⟩ : ∃ fr, fr = g.list[i] := ⟨_, rfl⟩
   rw [← hfr] at f0 f1 f2
   have hbw := hr.bel
   have f0 := (hbw.cell (p := ⟨q, i * 3, none⟩) hq).trans f0
   have f1 := (hbw.cell (p := ⟨q, i * 3 + 1, none⟩) hq).trans f1
   have f2 := (hbw.cell (p := ⟨q, i * 3 + 2, none⟩) hq).trans f2
   have hfr2 := Hok.out.data fr (by rw [hfr]; exact List.getElem_mem hil)
   obtain ⟨-, hd512, hpg, hcm⟩ := frOk_facts hfr2
   have hnext : loggedF (g.list.take (i + 1)) k = logStep k st fr := by
    rw [List.take_succ_eq_append_getElem hil, loggedF_snoc, ← hst, hfr]
   obtain ⟨D, hown, hD⟩ := hr.map
   have him := hown.isMap
   have hszD := says_size (P := 256) (Int.le_refl _) hD (fun p s e => hr.dom p s e) (hown.canon keyI)
   have hkey := keyOf_int_mk Tryz.underlying3 (WalkArith.wf_i64 (n := fr.page) (by omega))
   have hval := plainElem_string (H := Unit) (P := Tryz.prog) (e := 9) Tryz.underlying9 (s := bs fr.data) (by rw [bs_size, hd512]; decide)
   have hi3 : (i : Int) < 9223372036854775807 := by omega
   have hown1 := owns_exact hown
   have HOWN := hid hown1
   have HD := hid hD
   have HIM := hid him
   have HKEY := hid hkey
   have HVAL := hid hval
   have HSZ := hid (show Maps.size D < maxLen by unfold maxLen; omega)
   have HNX := hid hnext
   have HF := hid (And.intro hpg hd512)
   have hmbl := (hr.map).lt
   have HFA := hid ((Below.refl wr.heap.size wr).alloc (Nat.le_refl _) (.cells #[.int .i64 fr.page, .int .i64 fr.commit, .string (bs fr.data)] 177))
   clear hr hst hbw hfr hfr2 hd512 hpg hcm hnext hown hown1 hD him hkey hval hszD
   go_upto_region 8 with (first
    | (at_mapUpdate; refine wpList_mapUpdate_own _ rfl _ _ _ 155 rfl 3 9 keyI Tryz.underlying155 _ mb (Maps.size D) D rfl (HOWN.out.alloc _) HSZ.out _ _ (ik fr.page) rfl rfl HKEY.out _ [] HVAL.out ?_; intro w5 hown5 hgrow5)
    | go_in)
   have hw5 : WrAt w5 mb (fun q => if q = fr.page then some fr.data else st.1 q) := ⟨_, owns_exact hown5, says_put HD.out HIM.out fr.page fr.data⟩
   have hr5 : LogRel w2 w5 M mb k (fun q => if q = fr.page then some fr.data else st.1 q, st.2) _ := HRs.out.put hgrow5 hw5 (fun q s e => by
    split at e
    ·rename_i e1; rw [e1]; exact HF.out.1
    ·exact HRs.out.dom q s e) (fun q s e => by
    split at e
    ·injection e with e; rw [← e]; exact HF.out.2
    ·exact HRs.out.len q s e) HGE.out.2 HneM.out
   have hfb : w5.heap[wr.heap.size]? = some (.cells #[.int .i64 fr.page, .int .i64 fr.commit, .string (bs fr.data)] 177 (0, 0)) := (hgrow5.block _ (by simp) (fun e => by injection e with e; omega)).trans (heap_alloc_new wr _)
   have g1 : w5.cell? ⟨wr.heap.size, 1, none⟩ = some (.int .i64 fr.commit) := (cell_of_block hfb 1).trans rfl
   obtain ⟨fb, hfbe⟩ : ∃ fb, fb = wr.heap.size := ⟨_, rfl⟩
   rw [← hfbe] at hfb g1 ⊢
   have HR5 := hid hr5
   have HFB := hid hfb
   obtain ⟨C, hC⟩ : ∃ C, C = fr.commit := ⟨_, rfl⟩
   rw [← hC] at g1
   have HC5 := hid hC
   have Hfbe := hid hfbe
   clear hw5 hr5 hfb hown5 hgrow5 f0 f1 f2 hfbe hC HOWN HD HIM HKEY HVAL HSZ
   by_cases hc0 : C = 0
   ·have bc : (C == 0) = true := by simp [hc0]
    have hnx := HNX.out
    unfold logStep at hnx
    rw [if_pos (HC5.out.symm.trans hc0)] at hnx
    have HNX' := hid hnx
    clear hc0 hnx HNX
    go_wp2_with fail
    go_roundw
    case rel => exact ⟨i + 1, hlt, by simp, by rw [HNX'.out]; exact HR5.out⟩
    case measure => (simp [intOf]) <;> omega
   ·have bc : (C == 0) = false := by simp [hc0]
    have hnx := HNX.out
    unfold logStep at hnx
    rw [if_neg (fun e => hc0 (HC5.out.trans e))] at hnx
    have LK := says_look1 HR5.out.map (p := 1) (by omega)
    obtain ⟨s1, hs1⟩ : ∃ s1, s1 = ((if (1 : Int) = fr.page then some fr.data else st.1 1).getD []) := ⟨_, rfl⟩
    have hs1l : s1.length ≤ 512 := by
     rw [hs1]
     split
     ·rw [Option.getD_some, HF.out.2]; exact Nat.le_refl _
     ·cases e : st.1 1 with
      | none => simp
      | some u => rw [Option.getD_some, HRs.out.len 1 u e]; exact Nat.le_refl _
    dsimp only at LK
    rw [← hs1] at LK hnx
    have TK := stake_any s1 (by omega) w5
    have hwf2 := (takeH_wf s1).len
    obtain ⟨Q2, hQ2⟩ : ∃ Q2, Q2 = takeH s1 := ⟨_, rfl⟩
    rw [← hQ2] at TK hwf2 hnx
    obtain ⟨H2, E2⟩ := Q2
    obtain ⟨f, c, kk, r0, r1, r2, r3, r4, r5, r6, r7, rfl⟩ := hdr_form hwf2
    unfold hdrV hdrCells at TK
    simp only [List.map_cons, List.map_nil] at TK
    dsimp only at hnx
    have HNX' := hid hnx
    have LK := hid LK
    have TK := hid TK
    have hfbl := lt_of_block HFB.out
    clear hc0 hnx HNX hwf2 hQ2 hs1 hs1l
    have LK := LK.out
    go_upto_region 10 with (first
     | (go_at_call 79; refine (TK.out).mono ?_; rintro e w6 ⟨rfl, hb6⟩; have HB6 := hid hb6; clear hb6)
     | go_in)
    have hb67 := (Below.refl w6.heap.size w6).alloc (Nat.le_refl _) (.cells #[.int .i64 f, .int .i64 c, .int .u64 kk, .int .i64 r0, .int .i64 r1, .int .i64 r2, .int .i64 r3, .int .i64 r4, .int .i64 r5, .int .i64 r6, .int .i64 r7] 114)
    have hbx := heap_alloc_new w6 (.cells #[.int .i64 f, .int .i64 c, .int .u64 kk, .int .i64 r0, .int .i64 r1, .int .i64 r2, .int .i64 r3, .int .i64 r4, .int .i64 r5, .int .i64 r6, .int .i64 r7] 114)
    obtain ⟨xb, hxb⟩ : ∃ xb, xb = w6.heap.size := ⟨_, rfl⟩
    obtain ⟨w7, hw7⟩ : ∃ w7, w7 = w6.alloc (.cells #[.int .i64 f, .int .i64 c, .int .u64 kk, .int .i64 r0, .int .i64 r1, .int .i64 r2, .int .i64 r3, .int .i64 r4, .int .i64 r5, .int .i64 r6, .int .i64 r7] 114) := ⟨_, rfl⟩
    rw [← hw7] at hb67 hbx ⊢
    rw [← hxb] at hbx ⊢
    have hb57 : Below w5.heap.size w5 w7 := HB6.out.trans (hb67.mono HB6.out.size)
    have HR7 := hid (HR5.out.below hb57)
    have x2 : w7.cell? ⟨xb, 2, none⟩ = some (.int .u64 kk) := (cell_of_block hbx 2).trans rfl
    have hf7 := (hb57.block fb hfbl).trans HFB.out
    have g17 : w7.cell? ⟨fb, 1, none⟩ = some (.int .i64 C) := by rw [HC5.out]; exact (cell_of_block hf7 1).trans rfl
    have HG17 := hid g17
    have HF7 := hid hf7
    clear hb67 hbx hw7 hxb hb57 hf7 LK TK g1 g17
    by_cases hcond : E2 = 0 ∧ kk = k
    ·have hnx := HNX'.out
     rw [if_pos hcond] at hnx
     replace HNX' := hid hnx
     have be : (E2 == 0) = true := by simp [hcond.1]
     have bk : (kk == k) = true := by simp [hcond.2]
     clear hnx hcond
     go_upto_region 11 with fail
     clear x2 be bk
     obtain ⟨vi, hM7, hrow7⟩ := HR7.out.box
     have HM7 := hid hM7
     have hMl7 := lt_of_block hM7
     have hfl7 := World.block_lt_of_cell? w7 _ HG17.out
     have GA := hid (gathered_any w7.drew mb _ (HR7.out.map.keep rfl) HR7.out.dom)
     have hg := HG17.out
     clear hM7 hrow7
     refine wp_region_held_drew (S := fun Wx => Wx.cell? ⟨fb, 1, none⟩ = some (.int .i64 C)) (by kernel_rfl) hg (fun hHeld => ?_)
     clear hg
     refine held_take (v := ?av0) 0 rfl (by kernel_rfl) (by kernel_rfl) (by kernel_rfl) (fun _ _ _ h => h) (by rfl) hHeld ?ay0 ?ar0
     case ay0 => (intro W hSw; go_simp; with_reducible rfl)
     simp only [Act.put, List.setIfInBounds_toArray, List.set_cons_zero, List.set_cons_succ]
     refine held_take (v := ?av1) 1 rfl (by kernel_rfl) (by kernel_rfl) (by kernel_rfl) (fun _ _ _ h => h) (by rfl) hHeld ?ay1 ?ar1
     case ay1 => (intro W hSw; go_simp; with_reducible rfl)
     simp only [Act.put, List.setIfInBounds_toArray, List.set_cons_zero, List.set_cons_succ]
     refine held_take (v := ?av2) 2 rfl (by kernel_rfl) (by kernel_rfl) (by kernel_rfl) (fun _ _ _ h => h) (by rfl) hHeld ?ay2 ?ar2
     case ay2 => (intro W hSw; go_simp; with_reducible rfl)
     simp only [Act.put, List.setIfInBounds_toArray, List.set_cons_zero, List.set_cons_succ]
     refine held_take (v := ?av3) 3 rfl (by kernel_rfl) (by kernel_rfl) (by kernel_rfl) (fun _ _ _ h => h) (by rfl) hHeld ?ay3 ?ar3
     case ay3 => (intro W hSw; go_simp; with_reducible rfl)
     simp only [Act.put, List.setIfInBounds_toArray, List.set_cons_zero, List.set_cons_succ]
     refine held_one 4 (by kernel_rfl) rfl (fun K hK => ?_)
     go_simp
     refine (GA.out).mono ?_
     rintro e w8 ⟨v8, rfl, hrow8, hb8⟩
     obtain ⟨a8, c8, rfl, -⟩ := hrow8.get
     have hb8' : Below w7.heap.size w7 w8 := below_undrew hb8
     have HB8 := hid hb8'
     have HROW8 := hid hrow8
     have hs8 : w8.cell? ⟨fb, 1, none⟩ = some (.int .i64 C) := (hb8'.cell (p := ⟨fb, 1, none⟩) hfl7).trans HG17.out
     have hM8 := (hb8'.block M hMl7).trans HM7.out
     have HM8 := hid hM8
     clear hrow8 hb8 hb8' hM8
     refine hK.out _ _ (hs8) (fun hHeld => ?_)
     clear hK K
     try simp only [Act.put, List.setIfInBounds_toArray, List.set_cons_zero, List.set_cons_succ]
     refine held_take (v := ?bv5) 5 rfl (by kernel_rfl) (by kernel_rfl) (by kernel_rfl) (fun _ _ _ h => h) (by rfl) hHeld ?by5 ?br5
     case by5 => (intro W hSw; go_simp; with_reducible rfl)
     simp only [Act.put, List.setIfInBounds_toArray, List.set_cons_zero, List.set_cons_succ]
     unfold shCells at HM8
     obtain ⟨m0, m1, m2, m3, m4, m5, mf⟩ := cells6 HM8.out
     refine held_one 6 (by kernel_rfl) rfl (fun K hK => ?_)
     go_simp
     have hlen8 : sliceLen (.slice a8 (mapImgs fun q => if q = fr.page then some fr.data else st.1 q).length c8) = (mapImgs fun q => if q = fr.page then some fr.data else st.1 q).length := rfl
     obtain ⟨v8, hv8⟩ : ∃ v8, v8 = Value.slice a8 (mapImgs fun q => if q = fr.page then some fr.data else st.1 q).length c8 := ⟨_, rfl⟩
     have HROW8' := HROW8.out
     rw [← hv8] at HROW8' ⊢
     replace HROW8 := hid HROW8'
     have hM9 := heap_set6 HM8.out (.int .u8 1) (.int .u64 0) (.int .u64 k) (.bool false) (.int .i64 C) v8
     have hf8 := (HB8.out.block fb (lt_of_block HF7.out)).trans HF7.out
     have hnf : fb ≠ M := ne_type hf8 HM8.out (by decide)
     have ho9 := fun (j : Nat) (hj : j ≠ M) => heap_set6_ne (w := w8) hj (.int .u8 1) (.int .u64 0) (.int .u64 k) (.bool false) (.int .i64 C) v8
     have hb9 : Below w2.heap.size w2 ((((((w8.setCell ⟨M, 0, none⟩ (.int .u8 1)).setCell ⟨M, 1, none⟩ (.int .u64 0)).setCell ⟨M, 2, none⟩ (.int .u64 k)).setCell ⟨M, 3, none⟩ (.bool false)).setCell ⟨M, 4, none⟩ (.int .i64 C)).setCell ⟨M, 5, none⟩ v8) := by
      iterate 6 refine Below.setCell ?_ HGE.out.1 _
      exact HR7.out.bel.trans (HB8.out.mono HR7.out.bel.size)
     obtain ⟨w9, hw9⟩ : ∃ w9, w9 = (((((w8.setCell ⟨M, 0, none⟩ (.int .u8 1)).setCell ⟨M, 1, none⟩ (.int .u64 0)).setCell ⟨M, 2, none⟩ (.int .u64 k)).setCell ⟨M, 3, none⟩ (.bool false)).setCell ⟨M, 4, none⟩ (.int .i64 C)).setCell ⟨M, 5, none⟩ v8 := ⟨_, rfl⟩
     rw [← hw9] at hM9 ho9 hb9 ⊢
     have hs9 : w9.cell? ⟨fb, 1, none⟩ = some (.int .i64 C) := (World.cell?_of_block (a := ⟨fb, 1, none⟩) (ho9 fb hnf)).trans ((cell_of_block hf8 1).trans (by rw [HC5.out]; rfl))
     have hrow9 : ImgRow w9 w2.heap.size v8 (mapImgs fun q => if q = fr.page then some fr.data else st.1 q) := row_lower (row_keep HROW8.out (fun x hx => ho9 x (fun e => row_type HROW8.out HM8.out (by decide) (by rw [hx, e])))) (HR7.out.bel.size)
     have hmap9 := HR7.out.map.keep ((ho9 mb (fun e => HneM.out e.symm)).trans (HB8.out.block mb HR7.out.map.lt))
     have HR9 := hid (HR7.out.found (m := ⟨1, 0, k, false, C, mapImgs fun q => if q = fr.page then some fr.data else st.1 q⟩) hmap9 hM9 hrow9 hb9)
     clear m0 m1 m2 m3 m4 m5 mf hw9 hM9 hf8 hnf ho9 hb9 hrow9 hmap9 HROW8' hlen8 hs8 hv8
     refine hK.out _ _ (hs9) (fun hHeld => ?_)
     clear hK K
     try simp only [Act.put, List.setIfInBounds_toArray, List.set_cons_zero, List.set_cons_succ]
     clear hs9
     refine held_take (v := ?cv7) 7 rfl (by kernel_rfl) (by kernel_rfl) (by kernel_rfl) (fun _ _ _ h => h) (by rfl) hHeld ?cy7 ?cr7
     case cy7 => (intro W hSw; go_simp; with_reducible rfl)
     simp only [Act.put, List.setIfInBounds_toArray, List.set_cons_zero, List.set_cons_succ]
     clear hHeld
     refine wpAnyH_done (by kernel_rfl) ?_ _
     go_upto_region 12 with fail
     obtain ⟨es, clock, hes⟩ := HR9.out.map.block
     have HR10 := hid (HR9.out.clear hes HGE.out.2 HneM.out)
     refine wp_region_lit ?_
     refine wpList_value (w' := w9) rfl (.map (some mb)) (by go_simp) ?_
     simp only [Act.put, List.setIfInBounds_toArray, List.set_cons_zero, List.set_cons_succ]
     refine wpList_value rfl (.tuple #[]) (exec_clear rfl (by rfl) (run_clear w9 155 3 9 _ mb es clock Tryz.underlying155 hes)) ?_
     refine wpList_nil ?_
     simp only [Act.put, List.setIfInBounds_toArray, List.set_cons_zero, List.set_cons_succ]
     obtain ⟨w10, hw10⟩ : ∃ w10, w10 = ChangeMaps.setBlock w9 mb (.map #[] clock) := ⟨_, rfl⟩
     have HR10' := HR10.out
     rw [← hw10] at HR10' ⊢
     replace HR10 := hid HR10'
     clear hes hw10 HR10'
     go_wp2_with fail
     go_roundw
     case rel => exact ⟨i + 1, hlt, by simp, by rw [HNX'.out, ← HC5.out]; exact HR10.out⟩
     case measure => (simp [intOf]) <;> omega
    ·have hnx := HNX'.out
     rw [if_neg hcond] at hnx
     replace HNX' := hid hnx
     have hor : (E2 == 0) = false ∨ ((E2 == 0) = true ∧ (kk == k) = false) := by
      by_cases e : E2 = 0
      ·refine .inr ⟨by simp [e], ?_⟩
       have : ¬ kk = k := fun e2 => hcond ⟨e, e2⟩
       simpa using this
      ·exact .inl (by simpa using e)
     clear hnx hcond
     rcases hor with be | ⟨be, bk⟩
     all_goals
      go_upto_region 12 with fail
      clear x2 be
      try clear bk
      obtain ⟨es, clock, hes⟩ := HR7.out.map.block
      have HR8 := hid (HR7.out.clear hes HGE.out.2 HneM.out)
      refine wp_region_lit ?_
      refine wpList_value (w' := w7) rfl (.map (some mb)) (by go_simp) ?_
      simp only [Act.put, List.setIfInBounds_toArray, List.set_cons_zero, List.set_cons_succ]
      refine wpList_value rfl (.tuple #[]) (exec_clear rfl (by rfl) (run_clear w7 155 3 9 _ mb es clock Tryz.underlying155 hes)) ?_
      refine wpList_nil ?_
      simp only [Act.put, List.setIfInBounds_toArray, List.set_cons_zero, List.set_cons_succ]
      obtain ⟨w8, hw8⟩ : ∃ w8, w8 = ChangeMaps.setBlock w7 mb (.map #[] clock) := ⟨_, rfl⟩
      have HR8' := HR8.out
      rw [← hw8] at HR8' ⊢
      replace HR8 := hid HR8'
      clear hes hw8 HR8'
      go_wp2_with fail
      go_roundw
      case rel => exact ⟨i + 1, hlt, by simp, by rw [HNX'.out]; exact HR8.out⟩
      case measure => (simp [intOf]) <;> omega
  ·obtain rfl : z = i := by omega
   have hlist : g.list.take z = g.list := by rw [Hzn.out]; exact List.take_length
   rw [hlist] at hst
   obtain ⟨vi, hMr, hrow⟩ := hr.box
   obtain ⟨ao2, cap2, rfl, -⟩ := hrow.get
   have hb2r : Below W.heap.size W wr := (HB.out.trans (HB2.out.mono HB.out.size)).trans (hr.bel.mono (HB.out.trans (HB2.out.mono HB.out.size)).size)
   have hzr := (hr.bel.block W.heap.size (Nat.lt_of_lt_of_le (lt_of_block Hz.out) HB2.out.size)).trans ((HB2.out.block W.heap.size (lt_of_block Hz.out)).trans Hz.out)
   have hvz : (Value.slice ao2 (st.2.getD sh0).imgs.length cap2).ownBlock ≠ some W.heap.size := fun e => by
    have h1 := (row_base hrow e).1
    have h2 := Nat.lt_of_lt_of_le (lt_of_block Hz.out) HB2.out.size
    omega
   have hrowW : ImgRow wr W.heap.size (.slice ao2 (st.2.getD sh0).imgs.length cap2) (st.2.getD sh0).imgs := hrow.lower (HB.out.trans (HB2.out.mono HB.out.size)).size
   unfold shCells at hMr
   obtain ⟨m0, m1, m2, m3, m4, m5, mf⟩ := cells6 hMr
   obtain ⟨z0, z1, z2, z3, z4, z5, zf⟩ := cells6 hzr
   have h9 := hr.is
   have hres : loggedM g k = st.2 := by unfold loggedM; rw [← hst]
   obtain ⟨r, hr2⟩ : ∃ r, r = st.2 := ⟨_, rfl⟩
   rw [← hr2] at hres hvz hrowW m0 m1 m2 m3 m4 m5 h9
   have Hres := hid hres
   have Hvz := hid hvz
   have HrowW := hid hrowW
   have Hb2r := hid hb2r
   obtain ⟨ms, hms⟩ : ∃ ms, ms = r.getD sh0 := ⟨_, rfl⟩
   rw [← hms] at m0 m1 m2 m3 m4 m5
   have Hms := hid hms
   obtain ⟨bb, hbb⟩ : ∃ bb, bb = r.isSome := ⟨_, rfl⟩
   rw [← hbb] at h9
   have Hbb := hid hbb
   subst h9
   clear hr hMr hrow hzr hst hlist hb2r hvz hrowW hres hr2 hms hbb
   go_wp2_with fail
   refine bodyPost_ret (v := .tuple #[shipV ms (.slice ao2 ms.imgs.length cap2), .bool bb]) (by simp [results, Tryz.results85, go_sem, shipV, z0, z1, z2, z3, z4, z5, zf]) rfl ?_
   rw [Hres.out, Hbb.out, Hms.out]
   refine loggedGave_of HrowW.out Hb2r.out (Nat.le_refl _) Hvz.out ?_
   exact six_set _ _ _ _ _ _ _ _ (fun k => k = W.heap.size) _ (Frm.refl _ _) (.inl rfl)
theorem shGave_wrap {R : Sh × Int} {zb : Nat} {w3 w4 w5 : World} {v : Value} (hr : ImgRow w4 w3.heap.size v R.1.imgs) (h4 : PgX w w4 pb l b p g d (fun k => (X k ∨ k = zb) ∨ v.ownBlock = some k)) (hk : ∀ k, X k → w4.heap[k]? = W.heap[k]?) (h3 : W.heap.size ≤ w3.heap.size) (hz3 : zb < w3.heap.size) (hzw : w.heap.size ≤ zb) (hzX : ∀ k, X k → k ≠ zb) (hf : Frm (fun k => k = zb) w4 w5) :
  ShGave w W pb l b p g d X R (.returned (.tuple #[shipV R.1 v, .int .i64 R.2])) w5 := by
 have hown : ∀ k, v.ownBlock = some k → w3.heap.size ≤ k ∧ k < w4.heap.size := fun k e => row_base hr e
 have hq := px_put (X := fun k => X k ∨ v.ownBlock = some k) h4 (.inl (.inr rfl)) hzw hf (fun k hk => ⟨hk.elim (fun e => .inl (.inl e)) .inr, fun e => by
  rcases hk with hk | hk
  ·exact hzX k hk e
  ·have := hown k hk; omega⟩)
 refine ⟨v, rfl, ?_, hq.1, fun k hk1 => (hq.2 k (.inl hk1)).trans (hk k hk1)⟩
 have h5 : ImgRow w5 w3.heap.size v R.1.imgs := row_keep hr (fun k e => hf.block k (hown k e).2 (fun e2 => by have := hown k e; omega))
 exact h5.lower h3
set_option maxHeartbeats 8000000 in
set_option maxRecDepth 20000 in
theorem next_any (h : PgX w W pb l b p g d X) (hok : stOk p g d) (ep k : Int) :
  Calls Tryz.prog 55 #[.pointer (some ⟨pb, 0, none⟩), .int .u64 ep, .int .u64 k] W (ShGave w W pb l b p g d X (nextM p g d ep k)) := by
 have hz := heap_alloc_new W (.cells #[.int .u8 0, .int .u64 0, .int .u64 0, .bool false, .int .i64 0, .slice none 0 0] 25)
 have hb := (Below.refl W.heap.size W).alloc (Nat.le_refl _) (.cells #[.int .u8 0, .int .u64 0, .int .u64 0, .bool false, .int .i64 0, .slice none 0 0] 25)
 have hxa := px_add (X' := fun k => X k ∨ k = W.heap.size) h hb (fun k hk => hk.elim .inl (fun e => .inr (Nat.le_of_eq e.symm))) (fun k hk => hk.elim (fun e => Nat.lt_of_lt_of_le (h.xlt k e) hb.size) (fun e => by rw [e]; exact lt_of_block hz))
 have SR := uready_any hxa
 have hwf := (ureadyM_wf p g d).len
 have hzX := hid (fun k (hk : X k) => (Nat.ne_of_lt (h.xlt k hk) : k ≠ W.heap.size))
 obtain ⟨R, hR⟩ : ∃ R, R = nextM p g d ep k := ⟨_, rfl⟩
 rw [← hR]
 unfold nextM at hR
 obtain ⟨Q, hQ⟩ : ∃ Q, Q = ureadyM p g d := ⟨_, rfl⟩
 rw [← hQ] at hwf SR hR
 obtain ⟨H, E⟩ := Q
 obtain ⟨f, c, kk, r0, r1, r2, r3, r4, r5, r6, r7, rfl⟩ := hdr_form hwf
 unfold hdrV hdrCells at SR
 simp only [List.map_cons, List.map_nil] at SR
 replace SR := hid SR
 dsimp only at hR
 have HX := hid h
 have HB := hid hb
 have Hz := hid hz
 have HOK := hid hok
 clear hQ hwf h hz hb hxa hok
 by_cases he : E = 0
 rotate_left
 ·have b1 : (E != 0) = true := by simp [he]
  rw [if_pos he] at hR
  have HR := hid hR
  clear he HOK hR
  go_enter Tryz.func55, Tryz.ntmps55
  go_wp2_with (first
   | (go_at_call 52; refine (SR.out).mono ?_; rintro e w1 ⟨rfl, hx, hk⟩; have HX1 := hid hx; have HK1 := hid (fun k hk1 => (hk k (.inl hk1)).trans (HB.out.block k (HX.out.xlt k hk1)) : ∀ k, X k → w1.heap[k]? = W.heap[k]?); have hzl := lt_of_block ((hk W.heap.size (.inr rfl)).trans Hz.out); obtain ⟨z0, z1, z2, z3, z4, z5, zf⟩ := cells6 ((hk W.heap.size (.inr rfl)).trans Hz.out); clear hx hk)
   | go_in)
  refine bodyPost_ret (v := .tuple #[shipV sh0 (.slice none 0 0), .int .i64 E]) (by simp [results, Tryz.results55, go_sem, shipV, sh0, z0, z1, z2, z3, z4, z5, zf, hzl]) rfl ?_
  rw [HR.out]
  refine shGave_nil (w1 := w1) (X1 := X) (R := (sh0, E)) rfl HX1.out HK1.out HX.out.bel.size hzX.out ?_
  exact (six_set _ _ _ _ _ _ _ _ (fun k => k = W.heap.size) _ (Frm.refl _ _) (.inl rfl)).alloc _
 have b1 : (E != 0) = false := by simp [he]
 rw [if_neg (by simpa using he)] at hR
 clear he
 by_cases hle : kk ≤ k
 ·have b2 : decide (kk ≤ k) = true := by simpa using hle
  rw [if_pos hle] at hR
  have HR := hid hR
  clear hle HOK hR
  go_enter Tryz.func55, Tryz.ntmps55
  go_wp2_with (first
   | (go_at_call 52; refine (SR.out).mono ?_; rintro e w1 ⟨rfl, hx, hk⟩; have HX1 := hid hx; have HK1 := hid (fun k hk1 => (hk k (.inl hk1)).trans (HB.out.block k (HX.out.xlt k hk1)) : ∀ k, X k → w1.heap[k]? = W.heap[k]?); have hzl := lt_of_block ((hk W.heap.size (.inr rfl)).trans Hz.out); obtain ⟨z0, z1, z2, z3, z4, z5, zf⟩ := cells6 ((hk W.heap.size (.inr rfl)).trans Hz.out); clear hx hk)
   | go_in)
  refine bodyPost_ret (v := .tuple #[shipV sh0 (.slice none 0 0), .int .i64 4]) (by simp [results, Tryz.results55, go_sem, shipV, sh0, z0, z1, z2, z3, z4, z5, zf, hzl]) rfl ?_
  rw [HR.out]
  refine shGave_nil (w1 := w1) (X1 := X) (R := (sh0, 4)) rfl HX1.out HK1.out HX.out.bel.size hzX.out ?_
  exact (six_set _ _ _ _ _ _ _ _ (fun k => k = W.heap.size) _ (Frm.refl _ _) (.inl rfl)).alloc _
 have b2 : decide (kk ≤ k) = false := by simpa using hle
 rw [if_neg hle] at hR
 obtain ⟨r, hr⟩ : ∃ r, r = loggedM g (IntKind.u64.wrap (k + 1)) := ⟨_, rfl⟩
 rw [← hr] at hR
 have LG := fun (W1 : World) (hx : PgX w W1 pb l b p g d (fun k => X k ∨ k = W.heap.size)) => logged_any hx (IntKind.u64.wrap (k + 1))
 simp only [← hr] at LG
 have LG := hid LG
 have HR := hid hR
 clear hle hR hr
 go_enter Tryz.func55, Tryz.ntmps55
 go_upto_region 6 with (first
  | (go_at_call 52; refine (SR.out).mono ?_; rintro e w1 ⟨rfl, hx, hk⟩; have HX1 := hid hx; have HK1 := hid (fun k hk1 => (hk k (.inl hk1)).trans (HB.out.block k (HX.out.xlt k hk1)) : ∀ k, X k → w1.heap[k]? = W.heap[k]?); have HZ1 := hid ((hk W.heap.size (.inr rfl)).trans Hz.out); have hzl := lt_of_block HZ1.out; clear hx hk)
  | go_in)
 have hb2 := (Below.refl w1.heap.size w1).alloc (Nat.le_refl _) (.cells #[.int .i64 f, .int .i64 c, .int .u64 kk, .int .i64 r0, .int .i64 r1, .int .i64 r2, .int .i64 r3, .int .i64 r4, .int .i64 r5, .int .i64 r6, .int .i64 r7] 114)
 have HX2 := hid (HX1.out.below hb2)
 obtain ⟨w2, hw2⟩ : ∃ w2, w2 = w1.alloc (.cells #[.int .i64 f, .int .i64 c, .int .u64 kk, .int .i64 r0, .int .i64 r1, .int .i64 r2, .int .i64 r3, .int .i64 r4, .int .i64 r5, .int .i64 r6, .int .i64 r7] 114) := ⟨_, rfl⟩
 have HX2' := HX2.out
 rw [← hw2] at hb2 HX2' ⊢
 replace HX2 := hid HX2'
 have HB2 := hid hb2
 clear hb2 hw2 HX2'
 go_upto_region 7 with (first
  | (go_at_call 85; refine (LG.out _ HX2.out).mono ?_; rintro e w3 ⟨v, rfl, hrow, hb3⟩; obtain ⟨ao, cap, rfl, -⟩ := hrow.get; have HROW := hid hrow; have HB3 := hid hb3; clear hrow hb3; unfold shipV)
  | go_in)
 cases r with
 | none =>
  have hR := HR.out
  dsimp only at hR
  replace HR := hid hR
  obtain ⟨ms, hms⟩ : ∃ ms, ms = (none : Option Sh).getD sh0 := ⟨_, rfl⟩
  have HROW' := HROW.out
  rw [← hms] at HROW' ⊢
  clear hR hms HROW LG
  have hb4 := HB3.out.alloc HB3.out.size (.cells #[.int .u8 ms.kind, .int .u64 ms.epoch, .int .u64 ms.k, .bool ms.full, .int .i64 ms.pages, .slice ao ms.imgs.length cap] 25)
  have hx4 := HX2.out.below hb4
  have hz4 := (hb4.block W.heap.size (Nat.lt_of_lt_of_le hzl HB2.out.size)).trans ((HB2.out.block W.heap.size hzl).trans HZ1.out)
  obtain ⟨w4, hw4⟩ : ∃ w4, w4 = w3.alloc (.cells #[.int .u8 ms.kind, .int .u64 ms.epoch, .int .u64 ms.k, .bool ms.full, .int .i64 ms.pages, .slice ao ms.imgs.length cap] 25) := ⟨_, rfl⟩
  rw [← hw4] at hb4 hx4 hz4 ⊢
  have SN := snap_any hx4 HOK.out ep
  obtain ⟨S, hS⟩ : ∃ S, S = snapM p g d ep := ⟨_, rfl⟩
  have hR := HR.out
  rw [← hS] at SN hR
  replace HR := hid hR
  replace SN := hid SN
  have HB4 := hid hb4
  have HZ4 := hid hz4
  have HX4 := hid hx4
  clear hb4 hx4 hz4 hw4 hS hR HROW'
  go_wp2_with (first
   | (go_at_call 86; refine (SN.out).mono ?_; rintro e w5 ⟨v5, rfl, hrow5, hx5, hk5⟩; obtain ⟨ao5, cap5, rfl, -⟩ := hrow5.get; have HROW5 := hid hrow5; have HX5 := hid hx5; have HK5 := hid hk5; unfold shipV; have hz5 := (hk5 W.heap.size (.inr rfl)).trans HZ4.out; obtain ⟨z0, z1, z2, z3, z4, z5, zf⟩ := cells6 hz5; have hzl5 := lt_of_block hz5; clear hrow5 hx5 hk5 hz5)
   | go_in)
  refine bodyPost_ret (v := .tuple #[shipV S.1 (.slice ao5 S.1.imgs.length cap5), .int .i64 S.2]) (by simp [results, Tryz.results55, go_sem, shipV, z0, z1, z2, z3, z4, z5, zf, hzl5]) rfl ?_
  rw [HR.out]
  refine shGave_wrap (w3 := w4) (w4 := w5) HROW5.out HX5.out (fun j hj => (HK5.out j (.inl hj)).trans ((HB4.out.block j (HX2.out.xlt j (.inl hj))).trans ((HB2.out.block j (HX1.out.xlt j (.inl hj))).trans (HK1.out j hj)))) ?_ (lt_of_block HZ4.out) HX.out.bel.size hzX.out ?_
  ·exact Nat.le_of_lt (lt_of_block HZ4.out)
  ·exact six_set _ _ _ _ _ _ _ _ (fun k => k = W.heap.size) _ (Frm.refl _ _) (.inl rfl)
 | some m =>
  have hR := HR.out
  dsimp only at hR
  replace HR := hid hR
  obtain ⟨ms, hms⟩ : ∃ ms, ms = (some m : Option Sh).getD sh0 := ⟨_, rfl⟩
  have HROW' := HROW.out
  rw [← hms] at HROW' ⊢
  have hmm : ms = m := hms
  have hz3 := (HB3.out.block W.heap.size (Nat.lt_of_lt_of_le hzl HB2.out.size)).trans ((HB2.out.block W.heap.size hzl).trans HZ1.out)
  obtain ⟨z0, z1, z2, z3, z4, z5, zf⟩ := cells6 hz3
  have hzl3 := lt_of_block hz3
  have Hmm := hid hmm
  have HZ3 := hid hz3
  have HROW3 := hid HROW'
  clear hR hms HROW LG hmm hz3 HROW'
  go_wp2_with fail
  refine bodyPost_ret (v := .tuple #[shipV { ms with epoch := ep } (.slice ao ms.imgs.length cap), .int .i64 0]) (by simp [results, Tryz.results55, go_sem, shipV, z0, z1, z2, z3, z4, z5, zf, hzl3]) rfl ?_
  have hRe : R = ({ ms with epoch := ep }, 0) := by rw [HR.out, Hmm.out]
  rw [hRe]
  have hW1 : W.heap.size ≤ w1.heap.size := Nat.le_of_lt hzl
  refine shGave_all (w1 := w1) (wr := w3) (R := ({ ms with epoch := ep }, 0)) HX1.out HK1.out hW1 HX.out.bel.size hzl hzX.out (HB2.out.trans (HB3.out.mono HB2.out.size)) (HROW3.out.lower HB2.out.size) ?_
  exact (six_set _ _ _ _ _ _ _ _ (fun k => k = W.heap.size) _ (Frm.refl _ _) (.inl rfl)).alloc _
end
end Go.Proofs.YtjacmfdbmfemkaaGreat
namespace Go.Proofs.YtjacmfdbmfemkaaGreat
open Go.RowKit Go.Maps
set_option maxRecDepth 20000
structure ShOk (w W : World) (X : Nat → Prop) (m : Sh) (v : Value) : Prop where
 at' : SImgsAt W v m.imgs
 blk : ∀ b off n cap, v = .slice (some ⟨b, off, none⟩) n cap → m.imgs ≠ [] → b < w.heap.size ∨ X b
 n : m.imgs.length ≤ 9223372036854775807
 big : ∀ x ∈ m.imgs, x.2.length ≤ 9223372036854775807
 wf : ShWf m
section
variable {w W W' : World} {pb l b : Nat} {p p' : Pg} {g g' : Lg} {d d' : Dsk} {X X' : Nat → Prop} {m : Sh} {v : Value}
theorem ShOk.keep (h : ShOk w W X m v) (hb : Below w.heap.size w W) (hb2 : Below w.heap.size w W') (hk : ∀ k, X k → W'.heap[k]? = W.heap[k]?) : ShOk w W' X m v := by
 refine ⟨?_, h.blk, h.n, h.big, h.wf⟩
 rcases h.at' with h1 | ⟨q, off, cap, rfl, hc⟩
 ·exact .inl h1
 ·refine .inr ⟨q, off, cap, rfl, fun j hj => ?_⟩
  have hne : m.imgs ≠ [] := fun e => by rw [e] at hj; cases hj
  have hq : W'.heap[q]? = W.heap[q]? := by
   rcases h.blk q off _ cap rfl hne with e | e
   ·rw [hb.block q e, hb2.block q e]
   ·exact hk q e
  obtain ⟨c1, c2⟩ := hc j hj
  exact ⟨(World.cell?_of_block (a := ⟨q, off + j * 2, none⟩) hq).trans c1, (World.cell?_of_block (a := ⟨q, off + j * 2 + 1, none⟩) hq).trans c2⟩
theorem ShOk.in' (h : ShOk w W X m v) : ShIn W m v := ⟨h.at', h.n, h.big, h.wf⟩
theorem ShOk.mono (h : ShOk w W X m v) (hx : ∀ k, X k → X' k) : ShOk w W X' m v := ⟨h.at', fun b off n cap e hne => (h.blk b off n cap e hne).imp id (hx b), h.n, h.big, h.wf⟩
set_option maxHeartbeats 4000000 in
set_option maxRecDepth 20000 in
theorem follow1_any {b2 b3 : Nat} (h : PgX w W pb l b p g d X) (hm : ShOk w W X m v) (h2 : W.heap[b2]? = some (.cells #[.pointer (some ⟨pb, 0, none⟩)] 40 (0, 0))) (h3 : W.heap[b3]? = some (.cells (shCells m v) 25 (0, 0))) (x2 : X b2) (x3 : X b3)
  (hP : 1 ≤ m.pages ∧ m.pages ≤ 256) (hpg : ∀ x ∈ m.imgs, (1 ≤ x.page ∧ x.page ≤ 256) ∧ x.data.length = 512) (hr : (presizeM p m.pages).1 = 0) (hw : ∀ i (hi : i < m.imgs.length), (pwriteM (putAllM (presizeM p m.pages).2 (m.imgs.take i)) m.imgs[i].page m.imgs[i].data).1 = 0) :
  Calls Tryz.prog 81 #[.pointer (some ⟨b2, 0, none⟩), .pointer (some ⟨b3, 0, none⟩)] W fun e w' => e = .returned (.int .i64 0) ∧ PgX w w' pb l b (putAllM (presizeM p m.pages).2 m.imgs) g d X ∧ ∀ k, X k → w'.heap[k]? = W.heap[k]? := by
 obtain ⟨ao, cap, rfl⟩ := imgs_shape hm.at'
 have c2 : W.cell? ⟨b2, 0, none⟩ = some (.pointer (some ⟨pb, 0, none⟩)) := (cell_of_block h2 0).trans rfl
 unfold shCells at h3
 have c34 : W.cell? ⟨b3, 4, none⟩ = some (.int .i64 m.pages) := (cell_of_block h3 4).trans rfl
 have RS := px_resize h m.pages (by omega)
 rw [hr] at RS
 have RS := hid RS
 obtain ⟨n, hn⟩ : ∃ n, n = m.imgs.length := ⟨_, rfl⟩
 rw [← hn] at h3
 have hn0 := hm.n
 rw [← hn] at hn0
 have H := hid h
 have HM := hid hm
 have H2 := hid h2
 have H3 := hid h3
 have HW := hid hw
 have HP := hid hpg
 have X2 := hid x2
 have X3 := hid x3
 have Hn := hid hn
 obtain ⟨P, hPe⟩ : ∃ P, P = m.pages := ⟨_, rfl⟩
 rw [← hPe] at c34
 have RS := RS.out
 rw [← hPe] at RS
 replace RS := hid RS
 have HPe := hid hPe
 clear h hm h2 h3 x2 x3 hpg hr hw hP hn hPe
 go_enter Tryz.func81, Tryz.ntmps81
 go_wp2_with (first
  | (go_at_call 44; refine (RS.out).mono ?_; rintro e w1 ⟨rfl, hx, hk⟩; have HX1 := hid hx; have HK1 := hid hk; have c15 : w1.cell? ⟨b3, 5, none⟩ = some (.slice ao n cap) := (cell_of_block ((hk b3 X3.out).trans H3.out) 5).trans rfl; clear hx hk c2 c34)
  | go_in)
 go_loopw [17] (fun v17 wr => ∃ i : Nat, i ≤ n ∧ v17 = .int .i64 (i : Int) ∧ PgX w wr pb l b (putAllM (presizeM p P).2 (m.imgs.take i)) g d X ∧ ∀ k, X k → wr.heap[k]? = W.heap[k]?) (fun v17 _ => n - (intOf v17).toNat)
 case atStart => exact ⟨0, Nat.zero_le _, rfl, HX1.out, HK1.out⟩
 case round =>
  obtain ⟨i, hi, rfl, hx, hk⟩ := hrel
  have HXr := hid hx
  have HKr := hid hk
  have hM := HM.out.keep H.out.bel hx.bel hk
  by_cases hlt : i < n
  ·have hil : i < m.imgs.length := by have := Hn.out; omega
   obtain ⟨q, off, rfl, ci, cs⟩ := imgs_cell (w := wr) (wr := wr) hM.at' (Below.refl _ _) i hil
   have hxi := HP.out m.imgs[i] (List.getElem_mem hil)
   have hwi := HW.out i hil
   have c20 : wr.cell? ⟨b2, 0, none⟩ = some (.pointer (some ⟨pb, 0, none⟩)) := (cell_of_block ((hk b2 X2.out).trans H2.out) 0).trans rfl
   have hb2l := lt_of_block ((hk b2 X2.out).trans H2.out)
   have hsn : putAllM (presizeM p P).2 (m.imgs.take (i + 1)) = (pwriteM (putAllM (presizeM p P).2 (m.imgs.take i)) m.imgs[i].page m.imgs[i].data).2 := by
    rw [List.take_succ_eq_append_getElem hil, putAllM_snoc]
   obtain ⟨x, hxe⟩ : ∃ x, x = m.imgs[i] := ⟨_, rfl⟩
   rw [← hxe] at ci cs hxi hwi hsn
   obtain ⟨pg, dat⟩ := x
   dsimp only at ci cs hxi hwi hsn
   rw [← HPe.out] at hwi
   have WR := fun (w3 : World) (hb3 : Below wr.heap.size wr w3) => px_write (HXr.out.below hb3) pg dat (by omega) (by omega)
   rw [hwi] at WR
   rw [← hsn] at WR
   replace WR := hid WR
   have hb3 := (Below.refl wr.heap.size wr).alloc (Nat.le_refl _) (.cells #[.int .i64 pg, .string (bs dat)] 145)
   have HB3 := hid hb3
   clear hx hk hM hxi hwi hsn hxe hb3 HW HP
   go_wp2_with (first
    | (go_at_call 46; refine (WR.out _ HB3.out).mono ?_; rintro e w4 ⟨rfl, hx, hk⟩; have HX4 := hid hx; have HK4 := hid hk; clear hx hk)
    | go_in)
   go_roundw
   case rel => exact ⟨i + 1, hlt, by simp, HX4.out, fun k hk => (HK4.out k hk).trans ((HB3.out.block k (HXr.out.xlt k hk)).trans (HKr.out k hk))⟩
   case measure => (simp [intOf]) <;> omega
  ·obtain rfl : n = i := by omega
   clear hx hk hM HW HP
   go_wp2_with fail
   go_ret
   refine ⟨rfl, ?_, HKr.out⟩
   have := HXr.out
   rw [Hn.out, List.take_length, HPe.out] at this
   exact this
set_option maxHeartbeats 4000000 in
set_option maxRecDepth 20000 in
theorem wholly_any {b2 b3 : Nat} (h : PgX w W pb l b p g d X) (hm : ShOk w W X m v) (h2 : W.heap[b2]? = some (.cells #[.pointer (some ⟨pb, 0, none⟩)] 40 (0, 0))) (h3 : W.heap[b3]? = some (.cells (shCells m v) 25 (0, 0))) (x2 : X b2) (x3 : X b3)
  (hP : 1 ≤ m.pages ∧ m.pages ≤ 256) (hpg : ∀ x ∈ m.imgs, (1 ≤ x.page ∧ x.page ≤ 256) ∧ x.data.length = 512) (hb : (beginM p g).1 = 0) (hr : (presizeM (beginM p g).2 m.pages).1 = 0) (hw : ∀ i (hi : i < m.imgs.length), (pwriteM (putAllM (presizeM (beginM p g).2 m.pages).2 (m.imgs.take i)) m.imgs[i].page m.imgs[i].data).1 = 0) (N : Nat) (hsm : d.Small N) (hN : N + 33554432 ≤ 1099511527776) :
  Calls Tryz.prog 80 #[.pointer (some ⟨pb, 0, none⟩), .func (.func 81) #[] #[.pointer (some ⟨b2, 0, none⟩), .pointer (some ⟨b3, 0, none⟩)]] W fun e w' => e = .returned (.int .i64 (pcommitM (putAllM (presizeM (beginM p g).2 m.pages).2 m.imgs) g d).1) ∧ PgX w w' pb l b (pcommitM (putAllM (presizeM (beginM p g).2 m.pages).2 m.imgs) g d).2.1 (pcommitM (putAllM (presizeM (beginM p g).2 m.pages).2 m.imgs) g d).2.2.1 (pcommitM (putAllM (presizeM (beginM p g).2 m.pages).2 m.imgs) g d).2.2.2 X ∧ ∀ k, X k → w'.heap[k]? = W.heap[k]? := by
 have BG := px_begin h
 rw [hb] at BG
 have BG := hid BG
 have FL := fun (W1 : World) (hx : PgX w W1 pb l b (beginM p g).2 g d X) (hk : ∀ k, X k → W1.heap[k]? = W.heap[k]?) => follow1_any hx (hm.keep h.bel hx.bel hk) ((hk b2 x2).trans h2) ((hk b3 x3).trans h3) x2 x3 hP hpg hr hw
 have FL := hid FL
 obtain ⟨p2, hp2⟩ : ∃ p2, p2 = putAllM (presizeM (beginM p g).2 m.pages).2 m.imgs := ⟨_, rfl⟩
 have FL := FL.out
 rw [← hp2] at FL ⊢
 replace FL := hid FL
 have CM := hid (fun (W1 : World) (hx : PgX w W1 pb l b p2 g d X) => px_commit hx N hsm hN)
 clear h hm h2 h3 x2 x3 hP hpg hr hw hsm hN hb hp2
 go_enter Tryz.func80, Tryz.ntmps80
 go_wp2_with (first
  | (go_at_call 64; refine (BG.out).mono ?_; rintro e w1 ⟨rfl, hx, hk⟩; have HX1 := hid hx; have HK1 := hid hk; clear hx hk)
  | (go_at_call 81; refine (FL.out _ HX1.out HK1.out).mono ?_; rintro e w2 ⟨rfl, hx, hk⟩; have HX2 := hid hx; have HK2 := hid hk; clear hx hk)
  | (go_at_call 71; refine (CM.out _ HX2.out).mono ?_; rintro e w3 ⟨rfl, hx, hk⟩; have HX3 := hid hx; have HK3 := hid hk; clear hx hk)
  | go_in)
 go_ret
 exact ⟨rfl, HX3.out, fun k hk => (HK3.out k hk).trans ((HK2.out k hk).trans (HK1.out k hk))⟩
def FollowGave (w W : World) (pb l b : Nat) (X : Nat → Prop) (R : Int × Pg × Lg × Dsk) (e : Ending) (w' : World) : Prop :=
 e = .returned (.int .i64 R.1) ∧ PgX w w' pb l b R.2.1 R.2.2.1 R.2.2.2 X ∧ ∀ k, X k → w'.heap[k]? = W.heap[k]?
theorem pwrite_now {p : Pg} {n : Int} {s : List UInt8} {t : Tr} (hp : p.now = some t) (hn : 1 ≤ n ∧ n ≤ t.pages) (hs : s.length = 512) : (pwriteM p n s).1 = 0 ∧ ∃ t', (pwriteM p n s).2.now = some t' ∧ t'.pages = t.pages := by
 unfold pwriteM
 rw [hp]
 dsimp only
 rw [if_neg (by omega), if_neg (by omega)]
 exact ⟨rfl, _, rfl, rfl⟩
theorem putAll_now : ∀ (l : List Img) (p : Pg) (t : Tr), p.now = some t → (∀ x ∈ l, (1 ≤ x.page ∧ x.page ≤ t.pages) ∧ x.data.length = 512) → ∃ t', (putAllM p l).now = some t' ∧ t'.pages = t.pages
 | [], p, t, hp, _ => ⟨t, hp, rfl⟩
 | x :: r, p, t, hp, h => by
  have hx := h x List.mem_cons_self
  obtain ⟨-, t2, h3, h4⟩ := pwrite_now (s := x.data) hp hx.1 hx.2
  obtain ⟨t3, h5, h6⟩ := putAll_now r _ t2 h3 (fun y hy => by rw [h4]; exact h y (List.mem_cons_of_mem _ hy))
  exact ⟨t3, h5, h6.trans h4⟩
theorem follow_ret {R : Int × Pg × Lg × Dsk} {e : Int} {b2 b3 : Nat} {w4 w5 : World} (hr : R = (e, p, g, d)) (h4 : PgX w w4 pb l b p g d (fun k => X k ∨ k = b2 ∨ k = b3)) (hk : ∀ j, X j → w4.heap[j]? = W.heap[j]?) (hb : Below w4.heap.size w4 w5) : FollowGave w W pb l b X R (.returned (.int .i64 e)) w5 := by
 rw [hr]
 exact ⟨rfl, (h4.to (fun j hj => .inl hj)).below hb, fun j hj => (hb.block j (h4.xlt j (.inl hj))).trans (hk j hj)⟩
theorem follow_conds (hQ : (ureadyM p g d).2 = 0) (hmay : mayB m = true) (hk : m.kind = 1) : (1 ≤ m.pages ∧ m.pages ≤ 256) ∧ (∀ x ∈ m.imgs, (1 ≤ x.page ∧ x.page ≤ 256) ∧ x.data.length = 512) ∧ (beginM p g).1 = 0 ∧ (presizeM (beginM p g).2 m.pages).1 = 0 ∧ ∀ i (hi : i < m.imgs.length), (pwriteM (putAllM (presizeM (beginM p g).2 m.pages).2 (m.imgs.take i)) m.imgs[i].page m.imgs[i].data).1 = 0 := by
 have hn : p.now = none := by
  cases hp : p.now with
  | none => rfl
  | some t =>
   unfold ureadyM at hQ
   rw [if_pos (by rw [hp]; exact Option.some_ne_none t)] at hQ
   exact absurd hQ (by decide)
 have hB : beginM p g = (0, { p with now := some ⟨g.head.pages, fun _ => none⟩ }) := by
  unfold beginM
  rw [hn]
 have hPI : (1 ≤ m.pages ∧ m.pages ≤ 256) ∧ mayImgs m.pages 0 m.imgs = true := by
  unfold mayB at hmay
  rw [if_neg (by omega), if_pos hk] at hmay
  simp at hmay
  obtain ⟨⟨⟨⟨h3, h4⟩, _⟩, _⟩, h5⟩ := hmay
  exact ⟨⟨by omega, by omega⟩, h5⟩
 obtain ⟨hP, hI⟩ := hPI
 have hall : ∀ x ∈ m.imgs, (1 ≤ x.page ∧ x.page ≤ m.pages) ∧ x.data.length = 512 := fun x hx => by
  have := (mayImgs_len m.imgs m.pages 0 hI).2 x hx
  have e1 : x.1 = x.page := rfl
  have e2 : x.2 = x.data := rfl
  exact ⟨by omega, this.1⟩
 have hR : presizeM (beginM p g).2 m.pages = (0, { (beginM p g).2 with now := some ⟨m.pages, fun k => if m.pages < k then none else if g.head.pages < k then some (zeros 512) else none⟩ }) := by
  rw [hB]
  unfold presizeM
  exact if_neg (by omega)
 refine ⟨hP, fun x hx => ⟨by have := (hall x hx).1; omega, (hall x hx).2⟩, by rw [hB], by rw [hR], fun i hi => ?_⟩
 rw [hR]
 obtain ⟨t', h1, h2⟩ := putAll_now (m.imgs.take i) { (beginM p g).2 with now := some ⟨m.pages, fun k => if m.pages < k then none else if g.head.pages < k then some (zeros 512) else none⟩ } _ rfl (fun x hx => hall x (List.mem_of_mem_take hx))
 have hx := hall m.imgs[i] (List.getElem_mem hi)
 exact (pwrite_now (s := m.imgs[i].data) h1 (by rw [h2]; exact hx.1) hx.2).1
set_option maxHeartbeats 8000000 in
set_option maxRecDepth 20000 in
theorem follow_any (h : PgX w W pb l b p g d X) (hm : ShOk w W X m v) (N : Nat) (hsm : d.Small N) (hN : N + 33554432 ≤ 1099511527776) :
  Calls Tryz.prog 50 #[.pointer (some ⟨pb, 0, none⟩), shipV m v] W (FollowGave w W pb l b X (followM p g d m)) := by
 obtain ⟨ao, cap, rfl⟩ := imgs_shape hm.at'
 have hz2 := heap_two_old W (.cells #[.pointer (some ⟨pb, 0, none⟩)] 40) (.cells (shCells m (.slice ao m.imgs.length cap)) 25)
 have hz3 := heap_two_new W (.cells #[.pointer (some ⟨pb, 0, none⟩)] 40) (.cells (shCells m (.slice ao m.imgs.length cap)) 25)
 have hb := ((Below.refl W.heap.size W).alloc (Nat.le_refl _) (.cells #[.pointer (some ⟨pb, 0, none⟩)] 40)).alloc (by simp) (.cells (shCells m (.slice ao m.imgs.length cap)) 25)
 obtain ⟨b2, hb2⟩ : ∃ b2, b2 = W.heap.size := ⟨_, rfl⟩
 obtain ⟨b3, hb3⟩ : ∃ b3, b3 = W.heap.size + 1 := ⟨_, rfl⟩
 obtain ⟨W2, hW2⟩ : ∃ W2, W2 = (W.alloc (.cells #[.pointer (some ⟨pb, 0, none⟩)] 40)).alloc (.cells (shCells m (.slice ao m.imgs.length cap)) 25) := ⟨_, rfl⟩
 rw [← hW2] at hz2 hz3 hb
 rw [← hb2] at hz2
 rw [← hb3] at hz3
 have hx2 := px_add (X' := fun k => X k ∨ k = b2 ∨ k = b3) h hb (fun k hk => hk.imp id (fun e => by omega)) (fun k hk => by
  rcases hk with hk | rfl | rfl
  ·exact Nat.lt_of_lt_of_le (h.xlt k hk) hb.size
  ·exact lt_of_block hz2
  ·exact lt_of_block hz3)
 have hm2 : ShOk w W2 (fun k => X k ∨ k = b2 ∨ k = b3) m (.slice ao m.imgs.length cap) := (hm.keep h.bel hx2.bel (fun k hk => hb.block k (h.xlt k hk))).mono fun k hk => .inl hk
 have SP := sputS_any m (.slice ao m.imgs.length cap) W2 hm2.in'
 unfold shipV at SP ⊢
 obtain ⟨R, hR⟩ : ∃ R, R = followM p g d m := ⟨_, rfl⟩
 rw [← hR]
 unfold followM at hR
 have hwf := (ureadyM_wf p g d).len
 obtain ⟨Q, hQ⟩ : ∃ Q, Q = ureadyM p g d := ⟨_, rfl⟩
 have UR := fun (W3 : World) (hx : PgX w W3 pb l b p g d (fun k => X k ∨ k = b2 ∨ k = b3)) => uready_any hx
 simp only [← hQ] at UR
 rw [← hQ] at hR hwf
 obtain ⟨H, E⟩ := Q
 obtain ⟨hf, hc, k, r0, r1, r2, r3, r4, r5, r6, r7, rfl⟩ := hdr_form hwf
 unfold hdrV hdrCells at UR
 simp only [List.map_cons, List.map_nil] at UR
 dsimp only at hR
 replace UR := hid UR
 have hkeep : ∀ (W9 : World), (∀ j, (X j ∨ j = b2 ∨ j = b3) → W9.heap[j]? = W2.heap[j]?) → ∀ j, X j → W9.heap[j]? = W.heap[j]? := fun W9 hh j hj => (hh j (.inl hj)).trans (hb.block j (h.xlt j hj))
 obtain ⟨n, hn⟩ : ∃ n, n = m.imgs.length := ⟨_, rfl⟩
 have hn0 := hm.n
 unfold shCells at hz3 hW2
 rw [← hn] at hn0 hz3 hW2 SP ⊢
 replace SP := hid SP
 have HX2 := hid hx2
 have HM2 := hid hm2
 have HZ2 := hid hz2
 have HZ3 := hid hz3
 have HKeep := hid hkeep
 have Hb2 := hid hb2
 have Hb3 := hid hb3
 have HW2 := hid hW2
 have HQ := hid hQ
 have HSM := hid hsm
 have Hn := hid hn
 have HR := hid hR
 have hl2 := lt_of_block hz2
 have hl3 := lt_of_block hz3
 clear hz2 hz3 hb hx2 hm2 hkeep hb2 hb3 hW2 hwf hQ h hm hsm hn hR
 go_enter Tryz.func50, Tryz.ntmps50
 go_upto_region 1 with fail
 rw [← HW2.out, ← Hb3.out, ← Hb2.out]
 have c2 : W2.cell? ⟨b2, 0, none⟩ = some (.pointer (some ⟨pb, 0, none⟩)) := (cell_of_block HZ2.out 0).trans rfl
 obtain ⟨a0, a1, a2, a3, a4, a5, af⟩ := cells6 HZ3.out
 go_upto_region 4 with (first
  | (go_at_call 78; refine (SP.out).mono ?_; rintro e w3 ⟨⟨s, rfl⟩, hb3'⟩; have HB3' := hid hb3'; clear hb3')
  | go_in)
 clear c2 a0 a1 a2 a3 a4 a5 af
 have hx3 := HX2.out.below HB3'.out
 have HX3 := hid hx3
 have hz3 := (HB3'.out.block b3 hl3).trans HZ3.out
 have HZ33 := hid hz3
 have c2 : w3.cell? ⟨b2, 0, none⟩ = some (.pointer (some ⟨pb, 0, none⟩)) := (cell_of_block ((HB3'.out.block b2 hl2).trans HZ2.out) 0).trans rfl
 obtain ⟨a0, a1, a2, a3, a4, a5, af⟩ := cells6 hz3
 have hk3 : ∀ j, (X j ∨ j = b2 ∨ j = b3) → w3.heap[j]? = W2.heap[j]? := fun j hj => HB3'.out.block j (HX2.out.xlt j hj)
 have HK3 := hid hk3
 clear hx3 hz3 hk3
 cases hmay : mayB m with
 | false =>
  have hR := HR.out
  rw [if_pos (.inl hmay)] at hR
  replace HR := hid hR
  have b0 : ((if false = true then (0 : Int) else 2) != 0) = true := by decide
  clear hR hmay
  go_wp2_with fail
  go_ret
  rw [HR.out]
  exact ⟨rfl, HX3.out.to (fun j hj => .inl hj), HKeep.out _ HK3.out⟩
 | true =>
  by_cases hkind : m.kind = 1
  rotate_left
  ·have b1 : (m.kind != 1) = true := by simp [hkind]
   have hR := HR.out
   rw [if_pos (.inr hkind)] at hR
   replace HR := hid hR
   have b0 : ((if true = true then (0 : Int) else 2) != 0) = false := by decide
   clear hR hmay hkind
   go_wp2_with fail
   go_ret
   exact follow_ret HR.out HX3.out (HKeep.out _ HK3.out) (Below.refl _ _)
  have b1 : (m.kind != 1) = false := by simp [hkind]
  have b0 : ((if true = true then (0 : Int) else 2) != 0) = false := by decide
  have hR := HR.out
  rw [if_neg (by rw [hmay, hkind]; decide)] at hR
  have Hmay := hid hmay
  have Hkind := hid hkind
  clear hmay hkind
  by_cases he : E = 0
  rotate_left
  ·have bE : (E != 0) = true := by simp [he]
   rw [if_pos he] at hR
   replace HR := hid hR
   clear hR he
   go_wp2_with (first
    | (go_at_call 52; refine (UR.out _ HX3.out).mono ?_; rintro e w4 ⟨rfl, hx, hk⟩; have HX4 := hid hx; have HK4 := hid (fun j hj => (hk j hj).trans (HK3.out j hj)); clear hx hk)
    | go_in)
   go_ret
   exact follow_ret HR.out HX4.out (HKeep.out _ HK4.out) ((Below.refl _ _).alloc (Nat.le_refl _) _)
  have bE : (E != 0) = false := by simp [he]
  rw [if_neg (by simpa using he)] at hR
  replace HR := hid hR
  clear hR
  go_upto_region 9 with (first
   | (go_at_call 52; refine (UR.out _ HX3.out).mono ?_; rintro e w4 ⟨rfl, hx, hk⟩; have HX4 := hid hx; have HK4 := hid (fun j hj => (hk j hj).trans (HK3.out j hj)); clear hx hk)
   | go_in)
  clear c2 a0 a1 a2 a3 a4 a5 af
  have hb5 := (Below.refl w4.heap.size w4).alloc (Nat.le_refl _) (.cells #[.int .i64 hf, .int .i64 hc, .int .u64 k, .int .i64 r0, .int .i64 r1, .int .i64 r2, .int .i64 r3, .int .i64 r4, .int .i64 r5, .int .i64 r6, .int .i64 r7] 114)
  have hbx := heap_alloc_new w4 (.cells #[.int .i64 hf, .int .i64 hc, .int .u64 k, .int .i64 r0, .int .i64 r1, .int .i64 r2, .int .i64 r3, .int .i64 r4, .int .i64 r5, .int .i64 r6, .int .i64 r7] 114)
  obtain ⟨xb, hxb⟩ : ∃ xb, xb = w4.heap.size := ⟨_, rfl⟩
  obtain ⟨w5, hw5⟩ : ∃ w5, w5 = w4.alloc (.cells #[.int .i64 hf, .int .i64 hc, .int .u64 k, .int .i64 r0, .int .i64 r1, .int .i64 r2, .int .i64 r3, .int .i64 r4, .int .i64 r5, .int .i64 r6, .int .i64 r7] 114) := ⟨_, rfl⟩
  rw [← hw5] at hb5 hbx ⊢
  rw [← hxb] at hbx ⊢
  have HX5 := hid (HX4.out.below hb5)
  have HK5 := hid (fun j (hj : X j ∨ j = b2 ∨ j = b3) => (hb5.block j (HX4.out.xlt j hj)).trans (HK4.out j hj))
  have k2 : w5.cell? ⟨xb, 2, none⟩ = some (.int .u64 k) := (cell_of_block hbx 2).trans rfl
  have HM5 := hid (HM2.out.keep HX2.out.bel HX5.out.bel (fun j hj => HK5.out j hj))
  obtain ⟨a0, a1, a2, a3, a4, a5, af⟩ := cells6 ((HK5.out b3 (.inr (.inr rfl))).trans HZ3.out)
  have HR5 := hid (fun (e : Int) (w6 : World) (hr : R = (e, p, g, d)) (hb6 : Below w5.heap.size w5 w6) => follow_ret (W := W) hr HX5.out (HKeep.out _ HK5.out) hb6)
  clear hb5 hbx hw5 hxb
  have hR := HR.out
  by_cases hle : m.k ≤ k
  ·have bk : decide (m.k ≤ k) = true := by simpa using hle
   rw [if_pos hle] at hR
   replace HR := hid hR
   clear hR hle
   go_wp2_with fail
   go_ret
   exact HR5.out _ _ HR.out (Below.refl _ _)
  have bk : decide (m.k ≤ k) = false := by simpa using hle
  rw [if_neg hle] at hR
  clear hle
  by_cases hrg : m.full = false ∧ m.k ≠ IntKind.u64.wrap (k + 1)
  ·rw [if_pos hrg] at hR
   replace HR := hid hR
   obtain ⟨f1, f2⟩ := hrg
   rw [f1] at a3
   have bq : (m.k != IntKind.u64.wrap (k + 1)) = true := by simpa using f2
   clear hR f1 f2
   go_wp2_with fail
   go_ret
   exact HR5.out _ _ HR.out (Below.refl _ _)
  rw [if_neg hrg] at hR
  replace HR := hid hR
  clear hR
  have hor : m.full = true ∨ (m.full = false ∧ (m.k != IntKind.u64.wrap (k + 1)) = false) := by
   cases hf : m.full with
   | true => exact .inl rfl
   | false => exact .inr ⟨rfl, by simpa [hf] using hrg⟩
  clear hrg
  rcases hor with f1 | ⟨f1, f2⟩
  all_goals
   rw [f1] at a3
   go_upto_region 13 with fail
   clear f1
   try clear f2
   have hR := HR.out
   cases himg : m.imgs with
   | nil =>
    rw [himg] at hR
    replace HR := hid hR
    have bn : ((n : Int) == 0) = true := by rw [Hn.out, himg]; rfl
    clear hR himg
    go_wp2_with fail
    go_ret
    exact HR5.out _ _ HR.out (Below.refl _ _)
   | cons x r =>
    rw [himg] at hR
    dsimp only at hR
    have hn1 : 0 < n := by rw [Hn.out, himg]; simp
    have bn : ((n : Int) == 0) = false := by simp; omega
    have hn1i : (0 : Int) < (n : Int) := by omega
    obtain ⟨q, off, hao, ci, cs⟩ := imgs_cell (w := w5) (wr := w5) HM5.out.at' (Below.refl _ _) 0 (by rw [← Hn.out]; exact hn1)
    have hbigx := HM5.out.big x (by rw [himg]; exact List.mem_cons_self)
    subst hao
    simp only [himg, List.getElem_cons_zero, Nat.zero_mul, Nat.add_zero] at ci cs
    have Himg := hid himg
    obtain ⟨pg, dat⟩ := x
    dsimp only at ci cs hR hbigx
    clear himg
    by_cases hp1 : pg = 1
    rotate_left
    ·have bp : (pg != 1) = true := by simp [hp1]
     rw [if_pos hp1] at hR
     replace HR := hid hR
     clear hR hp1
     go_wp2_with fail
     go_ret
     exact HR5.out _ _ HR.out (Below.refl _ _)
    have bp : (pg != 1) = false := by simp [hp1]
    rw [if_neg (by simpa using hp1)] at hR
    have TK := stake_any dat hbigx w5
    have hwf2 := (takeH_wf dat).len
    obtain ⟨Q2, hQ2⟩ : ∃ Q2, Q2 = takeH dat := ⟨_, rfl⟩
    rw [← hQ2] at TK hwf2 hR
    obtain ⟨H2, E2⟩ := Q2
    obtain ⟨hf2, hc2, k2c, s0, s1, s2, s3, s4, s5, s6, s7, rfl⟩ := hdr_form hwf2
    unfold hdrV hdrCells at TK
    simp only [List.map_cons, List.map_nil] at TK
    dsimp only at hR
    replace HR := hid hR
    replace TK := hid TK
    have hl5 := lt_of_block ((HK5.out b3 (.inr (.inr rfl))).trans HZ3.out)
    clear hR hp1 hwf2 hQ2 hbigx
    go_upto_region 16 with (first
     | (go_at_call 79; refine (TK.out).mono ?_; rintro e w6 ⟨rfl, hb6⟩; have HB6 := hid hb6; clear hb6)
     | go_in)
    clear ci cs k2 a0 a1 a2 a3 a4 a5 af
    have hb7 := (Below.refl w6.heap.size w6).alloc (Nat.le_refl _) (.cells #[.int .i64 hf2, .int .i64 hc2, .int .u64 k2c, .int .i64 s0, .int .i64 s1, .int .i64 s2, .int .i64 s3, .int .i64 s4, .int .i64 s5, .int .i64 s6, .int .i64 s7] 114)
    have hbx := heap_alloc_new w6 (.cells #[.int .i64 hf2, .int .i64 hc2, .int .u64 k2c, .int .i64 s0, .int .i64 s1, .int .i64 s2, .int .i64 s3, .int .i64 s4, .int .i64 s5, .int .i64 s6, .int .i64 s7] 114)
    obtain ⟨xb2, hxb⟩ : ∃ xb2, xb2 = w6.heap.size := ⟨_, rfl⟩
    obtain ⟨w7, hw7⟩ : ∃ w7, w7 = w6.alloc (.cells #[.int .i64 hf2, .int .i64 hc2, .int .u64 k2c, .int .i64 s0, .int .i64 s1, .int .i64 s2, .int .i64 s3, .int .i64 s4, .int .i64 s5, .int .i64 s6, .int .i64 s7] 114) := ⟨_, rfl⟩
    rw [← hw7] at hb7 hbx ⊢
    rw [← hxb] at hbx ⊢
    have hb57 : Below w5.heap.size w5 w7 := HB6.out.trans (hb7.mono HB6.out.size)
    have HX7 := hid (HX5.out.below hb57)
    have HK7 := hid (fun j (hj : X j ∨ j = b2 ∨ j = b3) => (hb57.block j (HX5.out.xlt j hj)).trans (HK5.out j hj))
    have k22 : w7.cell? ⟨xb2, 2, none⟩ = some (.int .u64 k2c) := (cell_of_block hbx 2).trans rfl
    obtain ⟨a0, a1, a2, a3, a4, a5, af⟩ := cells6 ((HK7.out b3 (.inr (.inr rfl))).trans HZ3.out)
    have c2 : w7.cell? ⟨b2, 0, none⟩ = some (.pointer (some ⟨pb, 0, none⟩)) := (cell_of_block ((HK7.out b2 (.inr (.inl rfl))).trans HZ2.out) 0).trans rfl
    have HB57 := hid hb57
    have hR := HR.out
    clear hb7 hbx hw7 hxb hb57
    by_cases hc5 : E2 ≠ 0 ∨ k2c ≠ m.k
    ·rw [if_pos hc5] at hR
     replace HR := hid hR
     clear hR
     by_cases e2 : E2 = 0
     ·have bE2 : (E2 != 0) = false := by simp [e2]
      have bk2 : (k2c != m.k) = true := by
       have := hc5.resolve_left (fun h => h e2)
       simpa using this
      clear hc5 e2
      go_wp2_with fail
      go_ret
      exact HR5.out _ _ HR.out HB57.out
     ·have bE2 : (E2 != 0) = true := by simp [e2]
      clear hc5 e2
      go_wp2_with fail
      go_ret
      exact HR5.out _ _ HR.out HB57.out
    rw [if_neg hc5] at hR
    replace HR := hid hR
    have bE2 : (E2 != 0) = false := by simp; exact Decidable.not_not.1 (fun h => hc5 (.inl h))
    have bk2 : (k2c != m.k) = false := by simp; exact Decidable.not_not.1 (fun h => hc5 (.inr h))
    obtain ⟨q1, q2, q3, q4, q5⟩ := follow_conds (by rw [← HQ.out]; exact (bne_eq_false_iff_eq.1 bE)) Hmay.out Hkind.out
    have WH := wholly_any HX7.out (HM5.out.keep HX5.out.bel HX7.out.bel (fun j hj => HB57.out.block j (HX5.out.xlt j hj))) ((HK7.out b2 (.inr (.inl rfl))).trans HZ2.out) ((HK7.out b3 (.inr (.inr rfl))).trans (by rw [HZ3.out, Hn.out]; rfl)) (.inr (.inl rfl)) (.inr (.inr rfl)) q1 q2 q3 q4 q5 N HSM.out hN
    have hRR : R = pcommitM (putAllM (presizeM (beginM p g).2 m.pages).2 m.imgs) g d := by rw [Himg.out]; exact hR
    rw [← hRR] at WH
    replace WH := hid WH
    clear hR hRR hc5 q1 q2 q3 q4 q5
    go_wp2_with (first
     | (go_at_call 80; refine (WH.out).mono ?_; rintro e w8 ⟨rfl, hx, hk⟩; have HX8 := hid hx; have HK8 := hid hk; clear hx hk)
     | go_in)
    go_ret
    exact ⟨rfl, HX8.out.to (fun j hj => .inl hj), HKeep.out _ (fun j hj => (HK8.out j hj).trans (HK7.out j hj))⟩
end
end Go.Proofs.YtjacmfdbmfemkaaGreat
namespace Go.Proofs.YtjacmfdbmfemkaaGreat
open Go.RowKit Go.Maps
set_option maxRecDepth 20000
section
variable {w W W' : World} {pb l b db : Nat} {p p' : Pg} {g g' : Lg} {d d' : Dsk} {X X' : Nat → Prop}
theorem fresh_any (w : World) : Calls Tryz.prog 12 #[] w fun e w' => ∃ pb l b, e = .returned (.tuple #[.pointer (some ⟨pb, 0, none⟩), .bool true]) ∧ PgX w w' pb l b p0 exG0 newM (fun k => k < w.heap.size) := by
 go_enter Tryz.func12, Tryz.ntmps12
 go_wp2_with (first
  | (go_at_call 41; refine (mk_new _).mono ?_; rintro e w1 ⟨b, rfl, hd1⟩; have Hd1 := hid hd1; clear hd1)
  | (go_at_call 40; refine (px_fresh Hd1.out).mono ?_; rintro e w2 ⟨pb, l, rfl, hm2⟩; have Hm2 := hid hm2; clear hm2)
  | go_in)
 go_ret2
 exact ⟨pb, l, b, rfl, Hm2.out.to (fun k hk => hk)⟩
set_option maxHeartbeats 2000000 in
set_option maxRecDepth 20000 in
theorem state_any (h : PgX w W pb l b p g d X) (hok : stOk p g d) :
  Calls Tryz.prog 15 #[.pointer (some ⟨pb, 0, none⟩)] W fun e w' => ∃ v, e = .returned (.tuple #[v, .bool true]) ∧ StrRow w' W.heap.size v (stL p g d) ∧ Below W.heap.size W w' := by
 obtain ⟨i0, hi, hz0, hz1, hz2⟩ := info_parts (P := Tryz.prog) (e := 9) (z := .string ⟨#[]⟩) (size := 1) (bytes := 16) (by kernel_rfl)
 have hpr := ppages_range h
 unfold stL
 obtain ⟨P, hP⟩ : ∃ P : Nat, ppagesM p g = (P : Int) := ⟨(ppagesM p g).toNat, by omega⟩
 have hP2 : P ≤ 256 := by omega
 have hPn : (ppagesM p g).toNat = P := by omega
 rw [hPn]
 have PG : ∀ w1, PgX w w1 pb l b p g d X → Calls Tryz.prog 43 #[.pointer (some ⟨pb, 0, none⟩)] w1 fun e w' => e = .returned (.int .i64 (P : Int)) ∧ w' = w1 := fun w1 hm => by
  have := px_pages hm
  rwa [hP] at this
 have PG := hid PG
 have Hok := hid (fun (k : Nat) (hk : k < P) => hok k (by rw [hP]; omega))
 have H := hid h
 clear h hok hP hpr hPn
 go_enter Tryz.func15, Tryz.ntmps15
 go_wp2_with fail
 go_loopw [4, 5] (fun v4 v5 wr => ∃ (i : Nat), i ≤ P ∧ wr.ownsRow W.heap.size 9 1 v4 i (strV (pgsR p g d i)) ∧ v5 = .int .i64 ((i : Int) + 1) ∧ Below W.heap.size W wr) (fun _ v5 _ => P + 1 - (intOf v5).toNat)
 case atStart => exact ⟨0, Nat.zero_le _, World.ownsRow_nil _ _ _ _, rfl, Below.refl _ _⟩
 case round =>
  obtain ⟨i, hi1, hrow, rfl, hbw⟩ := hrel
  have HBw := hid hbw
  have hm := H.out.below hbw
  have Hm := hid hm
  have Hrow := hid hrow
  have PA := px_read hm ((i : Int) + 1) (by omega)
  obtain ⟨pg, hpg⟩ : ∃ pg, pg = preadM p g d ((i : Int) + 1) := ⟨_, rfl⟩
  rw [← hpg] at PA
  have PA := hid PA
  have Hpg := hid hpg
  clear hm hbw hrow hpg
  by_cases hlt : i < P
  ·have hlt1 : i + 1 ≤ P := hlt
   have hle1 : decide ((i : Int) + 1 ≤ (P : Int)) = true := by simp; omega
   have hwi : IntKind.i64.wrap ((i : Int) + 1 + 1) = (i : Int) + 1 + 1 := IntWalk.i64_in _ (by omega)
   have hpe1 : (pg.2 != 0) = false := by
    rw [Hpg.out, Hok.out i hlt]
    rfl
   obtain ⟨s, hs⟩ : ∃ s, s = pg.1 := ⟨_, rfl⟩
   rw [← hs] at PA
   have PA := hid PA.out
   have Hs := hid hs
   clear hs
   go_wp2_with (first
    | (go_at_call 43; refine (PG.out _ Hm.out).mono ?_; rintro e w1 ⟨rfl, hw⟩; obtain rfl := hw.symm)
    | (go_at_call 48; refine (PA.out).mono ?_; rintro e w2 ⟨rfl, hb2⟩; have HBw2 := hid (HBw.out.trans (hb2.mono HBw.out.size)); have Hrow2 := hid (row_keep Hrow.out (w' := w2) (fun x hx => hb2.block x (row_base Hrow.out hx).2)); clear hb2)
    | (at_builtin; refine wpList_append_own_at _ rfl _ _ 47 rfl W.heap.size 9 i0 _ 1 16 Tryz.underlying47 hi hz0 hz1 hz2 rfl (by omega) _ i (strV (pgsR p g d i)) rfl (row_keep Hrow2.out (fun x hx => Below.heap_alloc w2 _ x (row_base Hrow2.out hx).2)) ⟨w2.heap.size, 0, none⟩ 1 1 [.string (bs s)] rfl (by simp) (World.news_of_block (cs := #[.string (bs s)]) (t := 9) (fr := (0, 0)) (heap_alloc_new w2 _)) (by intro u hu; rw [List.mem_singleton.1 hu]; rfl) (by unfold maxLen; omega) (by omega) (by simp; have := HBw2.out.size; omega) ?_; intro v' w7 hown7 hgrow7 _ hat7; have Hown7 := hid hown7; have Hgrow7 := hid hgrow7; clear hown7 hgrow7 hat7)
    | go_in)
   go_roundw
   case rel =>
    refine ⟨i + 1, hlt, ?_, by simp, (HBw2.out.alloc HBw2.out.size _).grown Hgrow7.out (by simp; have := HBw2.out.size; omega) (fun j hj => (row_base Hrow2.out hj).1)⟩
    rw [pgsR_succ, strV_append, ← Hpg.out, ← Hs.out]
    exact Hown7.out
   case measure => (simp [intOf]) <;> omega
  ·obtain rfl : P = i := by omega
   have hlt1 : ¬ (P + 1 ≤ P) := by omega
   go_wp2_with (first
    | (go_at_call 43; refine (PG.out _ Hm.out).mono ?_; rintro e w1 ⟨rfl, hw⟩; obtain rfl := hw.symm)
    | go_in)
   go_ret2
   refine ⟨_, rfl, ?_, HBw.out⟩
   have hr := Hrow.out
   unfold StrRow
   rw [pgsR_length]
   exact hr
theorem StrRow.shape {base : Nat} {v : Value} {l : List (List UInt8)} (h : StrRow W base v l) : ∃ ao cap, v = .slice ao l.length cap ∧ ∀ i (hi : i < l.length), ∃ q, ao = some ⟨q, 0, none⟩ ∧ W.cell? ⟨q, i, none⟩ = some (.string (bs l[i])) := by
 rcases row_form h with ⟨rfl, h0⟩ | ⟨g, c, rfl⟩
 ·exact ⟨none, 0, by rw [h0], fun i hi => by omega⟩
 ·exact ⟨_, c, rfl, fun i hi => ⟨g, rfl, StrRow.cell h hi⟩⟩
set_option maxHeartbeats 2000000 in
set_option maxRecDepth 20000 in
theorem same_eq {b1 b2 : Nat} {v1 v2 : Value} {l : List (List UInt8)} (h1 : StrRow W b1 v1 l) (h2 : StrRow W b2 v2 l) (hl : l.length ≤ 1000) :
  Calls Tryz.prog 20 #[v1, v2] W fun e w' => e = .returned (.bool true) ∧ Below W.heap.size W w' := by
 obtain ⟨a1, c1, rfl, g1⟩ := h1.shape
 obtain ⟨a2, c2, rfl, g2⟩ := h2.shape
 obtain ⟨n, hn⟩ : ∃ n, n = l.length := ⟨_, rfl⟩
 rw [← hn]
 have Hn := hid hn
 have hn2 : n ≤ 1000 := by omega
 have G1 := hid g1
 have G2 := hid g2
 clear g1 g2 h1 h2 hn hl
 go_enter Tryz.func20, Tryz.ntmps20
 go_wp2_with fail
 go_loopw [5] (fun v5 wr => ∃ i : Nat, i ≤ n ∧ v5 = .int .i64 (i : Int) ∧ wr.heap = W.heap ∧ Below W.heap.size W wr) (fun v5 _ => n - (intOf v5).toNat)
 case atStart => exact ⟨0, Nat.zero_le _, rfl, rfl, Below.refl _ _⟩
 case round =>
  obtain ⟨i, hi, rfl, hwh, hb⟩ := hrel
  have HB := hid hb
  clear hb
  by_cases hlt : i < n
  ·have hil : i < l.length := by have := Hn.out; omega
   obtain ⟨q1, rfl, e1⟩ := G1.out i hil
   obtain ⟨q2, rfl, e2⟩ := G2.out i hil
   obtain ⟨s, hs⟩ : ∃ s, s = l[i] := ⟨_, rfl⟩
   rw [← hs] at e1 e2
   have c1 : wr.cell? ⟨q1, i, none⟩ = some (.string (bs s)) := by
    rw [← e1]; unfold World.cell?; rw [hwh]
   have c2 : wr.cell? ⟨q2, i, none⟩ = some (.string (bs s)) := by
    rw [← e2]; unfold World.cell?; rw [hwh]
   have Hwh := hid hwh
   clear e1 e2 hs hwh
   go_wp2_with fail
   go_quiet (fail)
   go_wp2_with fail
   go_roundw
   case rel => exact ⟨i + 1, by omega, by go_num, Hwh.out, below_drewN HB.out _⟩
   case measure => simp [intOf]; omega
  ·obtain rfl : n = i := by omega
   go_wp2_with fail
   go_ret
   exact ⟨rfl, HB.out⟩
def fillC (c : UInt8) (i : Nat) : List UInt8 := List.replicate i c ++ List.replicate (512 - i) 0
theorem fillC_length (c : UInt8) {i : Nat} (h : i ≤ 512) : (fillC c i).length = 512 := by simp [fillC]; omega
theorem fillC_set (c : UInt8) {i : Nat} (h : i < 512) : (fillC c i).set i c = fillC c (i + 1) := by
 unfold fillC
 obtain ⟨k, hk⟩ : ∃ k, 512 - i = k + 1 := ⟨511 - i, by omega⟩
 have hk2 : 512 - (i + 1) = k := by omega
 rw [hk, hk2, show List.replicate (k + 1) (0 : UInt8) = 0 :: List.replicate k 0 from rfl, List.set_append_right _ _ (by simp), List.length_replicate, Nat.sub_self, List.replicate_succ' (n := i), List.append_assoc]
 rfl
theorem fillC_full (c : UInt8) : fillC c 512 = pageOf c := by simp [fillC, pageOf]
theorem fill_cells (c : UInt8) {i : Nat} (h : i < 512) : (cellsOf (fillC c i)).toArray.setIfInBounds i (.int .u8 (c.toNat : Int)) = (cellsOf (fillC c (i + 1))).toArray := by
 rw [List.setIfInBounds_toArray, ← fillC_set c h]
 unfold cellsOf
 rw [List.map_set]
theorem z512 : Tryz.zeroCells105 = (cellsOf (fillC 0 0)).toArray := by kernel_rfl
theorem fill_conv (W : World) (bb : Nat) (l : List UInt8) (hl : l.length = 512) (hb : W.heap[bb]? = some (.cells (cellsOf l).toArray 105 (0, 0))) :
  (convert 99 9 (.slice (some ⟨bb, 0, none⟩) 512 512)).run Tryz.prog W = .ok (.string (bs l)) W := by
 have := run_convert_cells (P := Tryz.prog) W 99 9 5 Tryz.underlying99 Tryz.underlying5 Tryz.underlying9 bb 0 512 512 (l.map fun c => (c.toNat : Int)) (by simp [hl]) (fun i hi => by
  rw [Nat.zero_add, cell_of_block hb]
  simp [cellsOf, hl, hi])
 rw [this]
 congr 3
 simp [Function.comp_def]
set_option maxHeartbeats 4000000 in
set_option maxRecDepth 20000 in
theorem turn_any (h : PgX w W pb l b p g d X) (n : Int) (c : UInt8) (hn : 2 ≤ n ∧ n ≤ 256) (hrz : ppagesM (spBeginM p g d).2 g < n → (presizeM (spBeginM p g d).2 n).1 = 0) (N : Nat) (hsm : d.Small N) (hN : N + 33554432 ≤ 1099511527776) :
  Calls Tryz.prog 13 #[.pointer (some ⟨pb, 0, none⟩), .int .i64 n, .int .u8 (c.toNat : Int)] W fun e w' => e = .returned (.int .i64 (turnGM p g d n c).1) ∧ PgX w w' pb l b (turnGM p g d n c).2.1 (turnGM p g d n c).2.2.1 (turnGM p g d n c).2.2.2 X ∧ ∀ k, X k → w'.heap[k]? = W.heap[k]? := by
 have BG := hid (sbegin_any h)
 obtain ⟨R, hR⟩ : ∃ R, R = turnGM p g d n c := ⟨_, rfl⟩
 rw [← hR]
 unfold turnGM at hR
 obtain ⟨B, hB⟩ : ∃ B, B = spBeginM p g d := ⟨_, rfl⟩
 have BG := BG.out
 rw [← hB] at BG hR hrz
 replace BG := hid BG
 have HX := hid h
 clear h hB
 by_cases he : B.1 = 0
 rotate_left
 ·have b1 : (B.1 != 0) = true := by simp [he]
  rw [if_pos he] at hR
  have HR := hid hR
  clear hR he hrz
  go_enter Tryz.func13, Tryz.ntmps13
  go_wp2_with (first
   | (go_at_call 42; refine (BG.out).mono ?_; rintro e w1 ⟨rfl, hx, hk⟩; have HX1 := hid hx; have HK1 := hid hk; clear hx hk)
   | go_in)
  go_ret
  rw [HR.out]
  exact ⟨rfl, HX1.out, HK1.out⟩
 have b1 : (B.1 != 0) = false := by simp [he]
 rw [if_neg (by simpa using he)] at hR
 clear he
 have d1 : decide (1 < n) = true := by simp; omega
 obtain ⟨P, hP⟩ : ∃ P, P = ppagesM B.2 g := ⟨_, rfl⟩
 have PG := fun (W1 : World) (hx : PgX w W1 pb l b B.2 g d X) => px_pages hx
 simp only [← hP] at PG
 rw [← hP] at hR hrz
 have PG := hid PG
 have RS := hid (fun (W1 : World) (hx : PgX w W1 pb l b B.2 g d X) => px_resize hx n (by omega))
 obtain ⟨p2, hp2⟩ : ∃ p2, p2 = if P < n then (presizeM B.2 n).2 else B.2 := ⟨_, rfl⟩
 rw [← hp2] at hR
 have HR := hid hR
 have Hp2 := hid hp2
 have Hrz := hid hrz
 clear hR hP hp2 hrz
 go_enter Tryz.func13, Tryz.ntmps13
 go_upto_region 4 with (first
  | (go_at_call 42; refine (BG.out).mono ?_; rintro e w1 ⟨rfl, hx, hk⟩; have HX1 := hid hx; have HK1 := hid hk; clear hx hk)
  | go_in)
 have two : P < n ∨ ¬ P < n := Decidable.em _
 rcases two with hlt | hlt
 case' inl =>
  have b2 : decide (P < n) = true := by simpa using hlt
  have hz := Hrz.out hlt
  have RS := RS.out
  rw [hz] at RS
  replace RS := hid RS
  have hp := Hp2.out
  rw [if_pos hlt] at hp
  have HP2 := hid hp
  clear hlt hz hp
  go_upto_region 10 with (first
   | (go_at_call 43; refine (PG.out _ HX1.out).mono ?_; rintro e w1 ⟨rfl, hw⟩; obtain rfl := hw.symm)
   | (go_at_call 44; refine (RS.out _ HX1.out).mono ?_; rintro e w2 ⟨rfl, hx, hk⟩; have HX2 := hid (show PgX w w2 pb l b p2 g d X by rw [HP2.out]; exact hx); have HK2 := hid (show ∀ k, X k → w2.heap[k]? = W.heap[k]? from fun k hk2 => (hk k hk2).trans (HK1.out k hk2)); clear hx hk)
   | go_in)
 case' inr =>
  have b2 : decide (P < n) = false := by simpa using hlt
  have hp := Hp2.out
  rw [if_neg hlt] at hp
  have HX2 := hid (show PgX w w1 pb l b p2 g d X by rw [hp]; exact HX1.out)
  have HK2 := HK1
  obtain ⟨w2, hw2e⟩ : ∃ w2, w2 = w1 := ⟨_, rfl⟩
  subst hw2e
  clear hlt hp
  go_upto_region 10 with (first
   | (go_at_call 43; refine (PG.out _ HX1.out).mono ?_; rintro e w1 ⟨rfl, hw⟩; obtain rfl := hw.symm)
   | go_in)
 all_goals
  clear b2 RS HX1 HK1 PG BG Hrz
  have hz := z512
  have hbb := heap_alloc_new w2 (.cells Tryz.zeroCells105 105)
  have hb3 := (Below.refl w2.heap.size w2).alloc (Nat.le_refl _) (.cells Tryz.zeroCells105 105)
  obtain ⟨bb, hbbe⟩ : ∃ bb, bb = w2.heap.size := ⟨_, rfl⟩
  obtain ⟨w3, hw3⟩ : ∃ w3, w3 = w2.alloc (.cells Tryz.zeroCells105 105) := ⟨_, rfl⟩
  rw [← hw3] at hbb hb3 ⊢
  rw [← hbbe] at hbb ⊢
  rw [hz] at hbb
  have e0 : fillC 0 0 = fillC c 0 := by simp [fillC]
  rw [e0] at hbb
  have Hbb := hid hbb
  have HB3 := hid hb3
  have Hbbe := hid hbbe
  clear hbb hb3 hbbe hw3 hz e0
  go_wp2_with fail
  go_loopw [28] (fun v28 wr => ∃ i : Nat, i ≤ 512 ∧ v28 = .int .i64 (i : Int) ∧ wr.heap[bb]? = some (.cells (cellsOf (fillC c i)).toArray 105 (0, 0)) ∧ Below w2.heap.size w2 wr) (fun v28 _ => 512 - (intOf v28).toNat)
  case atStart => exact ⟨0, by omega, rfl, Hbb.out, HB3.out⟩
  case round =>
   obtain ⟨i, hi, rfl, hrow, hbw⟩ := hrel
   have Hrow := hid hrow
   have HBw := hid hbw
   by_cases hlt : i < 512
   ·have c0 : wr.cell? ⟨bb, i, none⟩ = some (.int .u8 (((fillC c i)[i]'(by rw [fillC_length c hi]; exact hlt)).toNat : Int)) := by
     rw [cell_of_block hrow]
     simp [cellsOf, fillC_length c hi, hlt]
    have f0 := free_of_block hrow i
    clear hrow hbw
    go_wp2_with fail
    go_roundw
    case rel =>
     refine ⟨i + 1, by omega, by simp, ?_, HBw.out.setCell (by have := Hbbe.out; show w2.heap.size ≤ bb; omega) _⟩
     rw [← fill_cells c hlt]
     exact heap_setCell_same Hrow.out i _
    case measure => (simp [intOf]) <;> omega
   ·obtain rfl : i = 512 := by omega
    rw [fillC_full] at hrow
    have hx4 := HX2.out.below hbw
    have hcv := fill_conv wr bb (pageOf c) (pageOf_length c) hrow
    have HX4 := hid hx4
    have hk4 : ∀ k, X k → wr.heap[k]? = W.heap[k]? := fun k hk => (hbw.block k (HX2.out.xlt k hk)).trans (HK2.out k hk)
    have HK4 := hid hk4
    have PW := hid (px_write hx4 n (pageOf c) (by omega) (by rw [pageOf_length]; decide))
    obtain ⟨s, hs⟩ : ∃ s, s = pageOf c := ⟨_, rfl⟩
    have HRo := HR.out
    rw [← hs] at hcv HRo
    have PW := PW.out
    rw [← hs] at PW
    replace PW := hid PW
    clear hrow hbw hx4 hk4 Hrow HBw hlt hs HR hi
    replace HR := hid HRo
    clear HRo
    have CM := hid (fun (W1 : World) (hm : PgX w W1 pb l b (pwriteM p2 n s).2 g d X) => scommit_any hm N hsm hN)
    go_wp2_with (first
     | (go_at_call 46; refine (PW.out).mono ?_; rintro e w5 ⟨rfl, hx, hk⟩; have HX5 := hid hx; have HK5 := hid hk; clear hx hk)
     | (go_at_call 47; refine (CM.out _ HX5.out).mono ?_; rintro e w6 ⟨rfl, hx, hk⟩; have HX6 := hid hx; have HK6 := hid hk; clear hx hk)
     | go_in)
    go_ret
    rw [HR.out]
    exact ⟨rfl, HX6.out, fun k hk => (HK6.out k hk).trans ((HK5.out k hk).trans (HK4.out k hk))⟩
end
end Go.Proofs.YtjacmfdbmfemkaaGreat
