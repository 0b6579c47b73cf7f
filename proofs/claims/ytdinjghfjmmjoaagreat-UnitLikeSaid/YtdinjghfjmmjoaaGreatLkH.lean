/- The law UnitLike: its walk. -/
import Derived.Test.YtdinjghfjmmjoaaGreatLkG
import Derived.Deep.CutBlock
set_option linter.unusedVariables false
set_option linter.unusedSimpArgs false
namespace Go.Proofs.YtdinjghfjmmjoaaGreat
open Go.RowKit Go.Maps
set_option maxRecDepth 20000
theorem six_one (a b c : Int) (f : Bool) (d : Int) (ao : Option Addr) (n cap : Nat) : ∀ u ∈ [Value.int .u8 a, .int .u64 b, .int .u64 c, .bool f, .int .i64 d, .slice ao n cap], u.oneCell' = true := by
 intro u hu
 simp only [List.mem_cons, List.not_mem_nil, or_false] at hu
 rcases hu with rfl | rfl | rfl | rfl | rfl | rfl <;> rfl
theorem keepAt_below {w W : World} {v : Value} {ks : List Bool} (h : KeepAt w v ks) (hk : ∀ g, keepBlk v ks = some g → g < w.heap.size) (hb : Below w.heap.size w W) : KeepAt W v ks := h.keep fun g hg => hb.block g (hk g hg)
theorem cells4 {W : World} {b : Nat} {T : TypeId} {a0 a1 a2 a3 : Value} (h : W.heap[b]? = some (.cells #[a0, a1, a2, a3] T (0, 0))) :
  W.cell? ⟨b, 0, none⟩ = some a0 ∧ W.cell? ⟨b, 1, none⟩ = some a1 ∧ W.cell? ⟨b, 2, none⟩ = some a2 ∧ W.cell? ⟨b, 3, none⟩ = some a3 := by
 refine ⟨?_, ?_, ?_, ?_⟩ <;> simp [World.cell?, h]
set_option maxHeartbeats 16000000 in
set_option maxRecDepth 20000 in
theorem ulike_any (w : World) (v : Value) (lst : List LOp) (h : StepsIn w v lst) : Calls Tryz.prog 6 #[v] w fun e w' => e = .returned (.bool true) ∧ Below w.heap.size w w' := by
 obtain ⟨ao, cap, rfl, hc⟩ := h.at'
 have hlen := h.len
 have heach := h.each
 obtain ⟨n, hn⟩ : ∃ n, n = lst.length := ⟨_, rfl⟩
 rw [← hn] at hlen ⊢
 have WK := hid (works_any w)
 have FR := hid (fun W => fresh_any W)
 have HC := hid hc
 have Hn := hid hn
 have HEach := hid heach
 clear h hc hn heach
 by_cases h80 : 120 < n
 ·have b1 : decide (120 < n) = true := by simpa using h80
  go_enter Tryz.func6, Tryz.ntmps6
  go_wp2_with (first
   | (go_at_call 8; refine (WK.out).mono ?_; rintro e w1 ⟨rfl, hb1⟩; have HB1 := hid hb1; clear hb1)
   | go_in)
  go_ret
  exact ⟨rfl, HB1.out⟩
 have b1 : decide (120 < n) = false := by simpa using h80
 have hn120 : n ≤ 120 := by omega
 clear h80
 go_enter Tryz.func6, Tryz.ntmps6
 go_wp2_with (first
  | (go_at_call 8; refine (WK.out).mono ?_; rintro e w1 ⟨rfl, hb1⟩; have HB1 := hid hb1; clear hb1)
  | go_in)
 go_loopw [38] (fun v38 wr => ∃ i : Nat, i ≤ n ∧ v38 = .int .i64 (i : Int) ∧ Below w.heap.size w wr ∧ ∀ x ∈ lst.take i, x.keep.length ≤ 8192) (fun v38 _ => n - (intOf v38).toNat)
 case atStart => exact ⟨0, Nat.zero_le _, rfl, HB1.out, fun x hx => by simp at hx⟩
 case round =>
  obtain ⟨i, hi, rfl, hbw, hsm⟩ := hrel
  have HSm := hid hsm
  have HBw := hid hbw
  by_cases hlt : i < n
  ·have hil : i < lst.length := by have := Hn.out; omega
   obtain ⟨q, o, hao, hq, hcell⟩ := HC.out i hil
   subst hao
   have HXM := hid (List.getElem_mem hil)
   have HTK := hid (List.take_succ_eq_append_getElem hil)
   obtain ⟨x, hx⟩ : ∃ x, x = lst[i] := ⟨_, rfl⟩
   rw [← hx] at hcell HXM HTK
   obtain ⟨kind, nn, xx, keep, ka, kcap⟩ := x
   have hk3 := fun j u hj => (hbw.cell (p := ⟨q, o + i * 4 + j, none⟩) hq).trans (hcell j u hj)
   have c0 := hk3 0 _ rfl
   have c1 := hk3 1 _ rfl
   have c2 := hk3 2 _ rfl
   have c3 := hk3 3 _ rfl
   dsimp only at c0 c1 c2 c3
   rw [Nat.add_zero] at c0
   have hi9 : (i : Int) < 9223372036854775807 := by omega
   have hiN : (i : Int) < (n : Int) := by omega
   have hw : IntKind.i64.wrap ((i : Int) + 1) = (i : Int) + 1 := IntWalk.i64_in _ (by omega)
   obtain ⟨kl, hkl⟩ : ∃ kl : Int, ((keep.length : Nat) : Int) = kl := ⟨_, rfl⟩
   have Hkl := hid hkl
   clear hcell hk3 hx hbw hsm
   by_cases h5 : 8192 < kl
   ·have b5 : decide (8192 < kl) = true := by simpa using h5
    clear h5
    go_wp2_with fail
    go_ret
    exact ⟨rfl, HBw.out.alloc HBw.out.size _⟩
   ·have b5 : decide (8192 < kl) = false := by simpa using h5
    have H5 := hid h5
    clear h5
    go_wp2_with fail
    go_roundw
    case rel =>
     refine ⟨i + 1, hlt, by simp, HBw.out.alloc HBw.out.size _, fun y hy => ?_⟩
     rw [HTK.out] at hy
     rcases List.mem_append.1 hy with e | e
     ·exact HSm.out y e
     ·rw [List.mem_singleton.1 e]
      have := H5.out
      have := Hkl.out
      show keep.length ≤ 8192
      omega
    case measure => (simp [intOf]) <;> omega
  ·obtain rfl : n = i := by omega
   have hgo : ¬ n < n := Nat.lt_irrefl n
   have HKeep := hid (fun (k : Nat) (hk : k < lst.length) => (show lst[k].keep.length ≤ 8192 from HSm.out lst[k] (by rw [Hn.out, List.take_length]; exact List.getElem_mem hk)))
   clear hbw hsm HSm
   go_upto_region 16 with (first
    | (go_at_call 7; refine (FR.out _).mono ?_; rintro e w2 ⟨pa, la, ba, rfl, hp2⟩; have HP2 := hid hp2; clear hp2)
    | (go_at_call 28; refine (mk_new _).mono ?_; rintro e w3 ⟨db, rfl, hd3⟩; have HD3 := hid hd3; clear hd3)
    | (go_at_call 29; refine (px_fresh HD3.out).mono ?_; rintro e w4 ⟨pc, lc, rfl, hp4⟩; have HP4 := hid hp4; clear hp4)
    | go_in)
   have hp2 : PgX w w2 pa la ba p0 exG0 newM (fun _ => False) := (px_base HP2.out HBw.out).to (fun k hk => hk.elim)
   have h0 := lkst_start (PgX.two (a := ⟨pa, la, ba, p0, exG0, newM⟩) (c := ⟨pc, lc, db, p0, exG0, newM⟩) hp2 HP4.out)
   have H0 := hid h0
   clear hp2 h0 HP2 HP4 HD3 HB1 FR WK HBw
   go_wp2_with fail
   obtain ⟨s4, hs4⟩ : ∃ s4, s4 = w4.heap.size := ⟨_, rfl⟩
   obtain ⟨w5, hw5⟩ : ∃ w5, w5 = w4.alloc (.cells #[.slice none 0 0] 52) := ⟨_, rfl⟩
   have h0 := H0.out
   rw [← hw5, ← hs4] at h0
   rw [← hw5, ← hs4]
   have H5 := hid h0
   clear H0 h0 hw5 hs4
   go_loopw [8, 10, 11, 12, 66] (fun v8 v10 v11 v12 v66 wr => ∃ (i pc lc : Nat) (ga : Lg) (da : Dsk) (gc : Lg) (dc : Dsk) (T : List (List (List UInt8))) (K : List (Sh × Value)) (j : Nat) (X : Nat → Prop), i ≤ n ∧ v66 = .int .i64 (i : Int) ∧ v8 = .pointer (some ⟨pc, 0, none⟩) ∧ v12 = .int .u64 (j : Int) ∧ T.length ≤ i + 1 ∧ K.length ≤ i ∧ LkSt w wr pa la ba ga da pc lc db gc dc v10 v11 T T K j (100 + 8519680 * i) X) (fun _ _ _ _ v66 _ => n - (intOf v66).toNat)
   case atStart => exact ⟨0, pc, lc, _, _, _, _, _, _, 0, _, Nat.zero_le _, rfl, rfl, rfl, by decide, by decide, H5.out⟩
   case round =>
    obtain ⟨i, pc, lc, ga, da, gc, dc, T, K, j, X, hi, rfl, rfl, rfl, hT, hK, hst⟩ := hrel
    obtain ⟨q10, -, cap10, rfl, -, -, -, -⟩ := hst.st.get (i := 0) hst.told.some
    obtain ⟨ao11, cap11, rfl, -⟩ := row_slice hst.kp.row
    have HSt := hid hst
    have HT := hid hT
    have HK := hid hK
    have hbw := hst.bel
    by_cases hlt : i < n
    ·have hil : i < lst.length := by have := Hn.out; omega
     obtain ⟨q, o, hao, hq, hcell⟩ := HC.out i hil
     subst hao
     have hop := HEach.out lst[i] (List.getElem_mem hil)
     have hkl := HKeep.out i hil
     obtain ⟨x, hx⟩ : ∃ x, x = lst[i] := ⟨_, rfl⟩
     rw [← hx] at hcell hop hkl
     obtain ⟨kind, nn, xx, keep, ka, kcap⟩ := x
     have hk3 := fun j u hj => (hbw.cell (p := ⟨q, o + i * 4 + j, none⟩) hq).trans (hcell j u hj)
     have c0 := hk3 0 _ rfl
     have c1 := hk3 1 _ rfl
     have c2 := hk3 2 _ rfl
     have c3 := hk3 3 _ rfl
     dsimp only at c0 c1 c2 c3
     rw [Nat.add_zero] at c0
     have hi9 : (i : Int) < 9223372036854775807 := by omega
     have hiN : (i : Int) < (n : Int) := by omega
     have hw : IntKind.i64.wrap ((i : Int) + 1) = (i : Int) + 1 := IntWalk.i64_in _ (by omega)
     have HOp := hid hop
     have HKl := hid hkl
     clear hcell hk3 hx hbw hop hkl hst hT hK H5
     go_upto_region 22 with fail
     have hz6 := heap_alloc_new wr (.cells #[.int .i64 kind, .int .i64 nn, .int .u8 (xx.toNat : Int), .slice ka keep.length kcap] 71)
     have h6 := HSt.out.below ((Below.refl wr.heap.size wr).alloc (Nat.le_refl _) (.cells #[.int .i64 kind, .int .i64 nn, .int .u8 (xx.toNat : Int), .slice ka keep.length kcap] 71))
     obtain ⟨xb, hxb⟩ : ∃ xb, xb = wr.heap.size := ⟨_, rfl⟩
     obtain ⟨w6, hw6⟩ : ∃ w6, w6 = wr.alloc (.cells #[.int .i64 kind, .int .i64 nn, .int .u8 (xx.toNat : Int), .slice ka keep.length kcap] 71) := ⟨_, rfl⟩
     rw [← hw6] at h6 hz6 ⊢
     rw [← hxb] at hz6 ⊢
     have HS6 := hid h6
     have HZ6 := hid hz6
     obtain ⟨a0, a1, a2, a3⟩ := cells4 hz6
     clear h6 hz6 hw6 hxb c0 c1 c2 c3 HSt
     go_upto_block 4 with fail
     go_cut [8, 10, 11] (fun v8 v10 v11 wx => ∃ (pc lc : Nat) (ga : Lg) (da : Dsk) (gc : Lg) (dc : Dsk) (T' : List (List (List UInt8))) (K' : List (Sh × Value)) (j' : Nat) (X' : Nat → Prop), v8 = .pointer (some ⟨pc, 0, none⟩) ∧ j ≤ j' ∧ T'.length ≤ i + 2 ∧ K'.length ≤ i + 1 ∧ LkSt w wx pa la ba ga da pc lc db gc dc v10 v11 T' T' K' j' (100 + 8519680 * (i + 1)) X')
     case first =>
      have hT999 : T.length ≤ 999 := by have := HT.out; omega
      have hNN : 100 + 8519680 * i + 33554432 ≤ 1099511527776 := by omega
      have hKi : K.length ≤ i := HK.out
      have hK120 : K.length ≤ 120 := by omega
      have hTi : T.length ≤ i + 1 := HT.out
      have hNx : 100 + 8519680 * (i + 1) = 100 + 8519680 * i + 8519680 := by omega
      by_cases k0 : kind = 0
      ·as_aux_lemma =>
        subst k0
        obtain ⟨tn, htn, htn2⟩ := turn_page nn
        have hpm : -20 < Int.tmod nn 20 ∧ Int.tmod nn 20 < 20 := ⟨by have := Int.lt_tmod_of_pos nn (b := 20) (by decide); omega, Int.tmod_lt_of_pos nn (by decide)⟩
        have E1 : wrap64 (Int.tmod nn 20 + 20) = Int.tmod nn 20 + 20 := IntWalk.wrap64_in _ (by omega)
        have E2 : wrap64 (2 + Int.tmod (wrap64 (Int.tmod nn 20 + 20)) 20) = (tn : Int) := by rw [E1, htn]; exact IntWalk.wrap64_in _ (by omega)
        have TA := HS6.out.turn hT999 htn2 xx hNN
        rw [← E2] at TA
        have TA := hid TA
        clear E1 E2 htn htn2 hpm
        go_upto_region 29 with (first
         | (go_at_call 9; refine (TA.out).mono ?_; rintro e w7 ⟨ga', da', L', rfl, h7⟩; have H7 := hid h7; have SA := hid h7.stateA; clear h7)
         | (go_at_call 20; refine (SA.out).mono ?_; rintro e w8 ⟨vm, rfl, hr8, hb8⟩; have HR8 := hid hr8; have HB8 := hid hb8; clear hr8 hb8)
         | go_in)
        obtain ⟨⟨sv, s1, s3, s5⟩, s6⟩ := H7.out.st.keep (W' := w8) (fun k hk => HB8.out.block k (H7.out.tw.xlt k hk))
        obtain ⟨aom, capm, rfl, -⟩ := HR8.out.shape
        obtain ⟨i1, hi1, hy0, hy1, hy2⟩ := info_parts (P := Tryz.prog) (e := 52) (z := .slice none 0 0) (size := 1) (bytes := 24) (by kernel_rfl)
        have HS3 := hid s3
        have HS5 := hid (And.intro s1 s5)
        obtain ⟨ml, hml⟩ : ∃ ml, ml = ((T ++ [L']).getD ((T ++ [L']).length - 1) []).length := ⟨_, rfl⟩
        rw [← hml]
        have Hml := hid hml
        have hz8 : w.heap.size ≤ w8.heap.size := Nat.le_trans H7.out.bel.size HB8.out.size
        clear s1 s3 s5 s6 hml
        go_wp2_with (first
         | (at_builtin; have hq := HS3.out; refine wpList_append_own_at _ rfl _ _ 44 rfl w.heap.size 52 i1 _ 1 24 Tryz.underlying44 hi1 hy0 hy1 hy2 rfl (by omega) _ T.length sv rfl (row_keep HS3.out (fun y hy => Below.heap_alloc w8 _ y (row_base HS3.out hy).2)) ⟨w8.heap.size, 0, none⟩ 1 1 [.slice aom ml capm] rfl (by simp) (World.news_of_block (cs := #[.slice aom ml capm]) (t := 52) (fr := (0, 0)) (heap_alloc_new w8 _)) (by intro u hu; rw [List.mem_singleton.1 hu]; rfl) (by unfold maxLen; omega) (by omega) (by simp; omega) ?_; intro v7' w10 hown hgrow _ hat; have HOwn10 := hid hown; have HGrow10 := hid hgrow; have HAt10 := hid hat; clear hown hgrow hat hq)
         | go_in)
        go_meet
        have hM : (T ++ [L']).getD ((T ++ [L']).length - 1) [] = L' := by rw [List.length_append]; exact getD_new T L' []
        have h9 := H7.out.pushS HB8.out (by rw [Hml.out]; exact HR8.out) HS5.out.1 HS3.out HS5.out.2 HGrow10.out HOwn10.out HAt10.out
        rw [hM] at h9
        exact ⟨pc, lc, ga', da', gc, dc, T ++ [L'], K, j, _, rfl, Nat.le_refl _, by simp; omega, by omega, h9.mono (by omega)⟩
      have c0 : (kind == 0) = false := by simpa using k0
      by_cases k1 : kind = 1
      ·subst k1
       obtain ⟨P1, hP1⟩ : ∃ P1 : Nat, T.length = P1 + 1 := ⟨T.length - 1, by have := HS6.out.jT; omega⟩
       have hwT : IntKind.i64.wrap ((T.length : Int) - 1) = (P1 : Int) := by rw [hP1, IntWalk.i64_in _ (by omega)]; omega
       have hwU : IntKind.u64.wrap (P1 : Int) = (P1 : Int) := IntWalk.u64_in _ (by omega)
       have HP1 := hid hP1
       have HV := hid HS6.out.have'
       clear hP1
       by_cases hjl : T.length ≤ j + 1
       ·have hjP : ¬ j < P1 := by have := HP1.out; omega
        clear c0 k0
        go_wp2_with (first
         | (go_at_call 14; refine (HV.out).mono ?_; rintro e w7 ⟨rfl, h7⟩; have NX := hid (h7.next_no hjl); clear h7)
         | (go_at_call 10; refine (NX.out).mono ?_; rintro e w8 ⟨ao8, cap8, rfl, h8⟩; have H8 := hid h8; clear h8)
         | go_in)
        go_meet
        have h9 := H8.out.below ((Below.refl _ _).alloc (Nat.le_refl _) (.cells #[.int .u8 0, .int .u64 0, .int .u64 0, .bool false, .int .i64 0, .slice ao8 0 cap8] 31))
        exact ⟨pc, lc, ga, da, gc, dc, T, K, j, X, rfl, Nat.le_refl _, by omega, by omega, h9.mono (by omega)⟩
       ·have hjP : j < P1 := by have := HP1.out; omega
        clear c0 k0
        go_upto_region 38 with (first
         | (go_at_call 14; refine (HV.out).mono ?_; rintro e w7 ⟨rfl, h7⟩; have H7b := hid h7.bel.size; have NX := hid (h7.next_yes (k := j) (by omega)); clear h7)
         | (go_at_call 10; refine (NX.out).mono ?_; rintro e w8 ⟨mk, mep, mkk, mf, mp, mi, ao8, cap8, q8, rfl, sh8, -, -, h8⟩; have H8 := hid h8; have SH := hid sh8; clear h8 sh8)
         | go_in)
        have hz9 := heap_alloc_new w8 (.cells #[.int .u8 mk, .int .u64 mep, .int .u64 mkk, .bool mf, .int .i64 mp, .slice ao8 mi.length cap8] 31)
        have hb9 := (Below.refl w8.heap.size w8).alloc (Nat.le_refl _) (.cells #[.int .u8 mk, .int .u64 mep, .int .u64 mkk, .bool mf, .int .i64 mp, .slice ao8 mi.length cap8] 31)
        obtain ⟨zb, hzb⟩ : ∃ zb, zb = w8.heap.size := ⟨_, rfl⟩
        obtain ⟨w9, hw9⟩ : ∃ w9, w9 = w8.alloc (.cells #[.int .u8 mk, .int .u64 mep, .int .u64 mkk, .bool mf, .int .i64 mp, .slice ao8 mi.length cap8] 31) := ⟨_, rfl⟩
        rw [← hw9] at hz9 hb9 ⊢
        rw [← hzb] at hz9 ⊢
        have k9 := (H8.out.kp.keep (W' := w9) (fun k hk => hb9.block k (H8.out.tw.xlt k hk))).row
        have HB9 := hid hb9
        have HK9 := hid k9
        have hz10 : w.heap.size ≤ w9.heap.size := Nat.le_trans H8.out.bel.size hb9.size
        obtain ⟨d0, d1, d2, d3, d4, d5, -⟩ := cells6 hz9
        obtain ⟨i1, hi1, hy0, hy1, hy2⟩ := info_parts (P := Tryz.prog) (e := 31) (z := .agg #[.int .u8 0, .int .u64 0, .int .u64 0, .bool false, .int .i64 0, .slice none 0 0]) (size := 6) (bytes := 64) (by kernel_rfl)
        clear hz9 hb9 k9 hzb hw9
        go_wp2_with (first
         | (at_builtin; have hq := HK9.out; refine wpList_append_own_at _ rfl _ _ 60 rfl w.heap.size 31 i1 _ 6 64 Tryz.underlying60 hi1 hy0 hy1 hy2 rfl (by omega) _ K.length (K.flatMap fun x => (shCells x.1 x.2).toList) rfl (row_keep HK9.out (fun y hy => Below.heap_alloc w9 _ y (row_base HK9.out hy).2)) ⟨w9.heap.size, 0, none⟩ 1 1 [.int .u8 mk, .int .u64 mep, .int .u64 mkk, .bool mf, .int .i64 mp, .slice ao8 mi.length cap8] rfl (by simp) (World.news_of_block (cs := #[.int .u8 mk, .int .u64 mep, .int .u64 mkk, .bool mf, .int .i64 mp, .slice ao8 mi.length cap8]) (t := 31) (fr := (0, 0)) (heap_alloc_new w9 _)) (six_one _ _ _ _ _ _ _ _) (by unfold maxLen; omega) (by omega) (by simp; omega) ?_; intro v11' w10 hown hgrow _ hat; have HOwn10 := hid hown; have HGrow10 := hid hgrow; have HAt10 := hid hat; clear hown hgrow hat hq)
         | go_in)
        go_meet
        exact ⟨pc, lc, ga, da, gc, dc, T, K ++ [(⟨mk, mep, mkk, mf, mp, mi⟩, .slice ao8 mi.length cap8)], j, _, rfl, Nat.le_refl _, by omega, by simp; omega, (H8.out.pushK (m := ⟨mk, mep, mkk, mf, mp, mi⟩) (vm := .slice ao8 mi.length cap8) HB9.out ⟨_, SH.out.says⟩ SH.out.ep SH.out.row H7b.out (fun k hk => .inr hk) HGrow10.out HOwn10.out HAt10.out).mono (by omega)⟩
      by_cases k2 : kind = 2
      ·subst k2
       by_cases hT1 : T.length = 1
       ·have NX := hid (HS6.out.snap_no hT1)
        clear c0 k0 k1 hT1
        go_wp2_with (first
         | (go_at_call 15; refine (NX.out).mono ?_; rintro e w8 ⟨ao8, cap8, rfl, h8⟩; have H8 := hid h8; clear h8)
         | go_in)
        go_meet
        have h9 := H8.out.below ((Below.refl _ _).alloc (Nat.le_refl _) (.cells #[.int .u8 0, .int .u64 0, .int .u64 0, .bool false, .int .i64 0, .slice ao8 0 cap8] 31))
        exact ⟨pc, lc, ga, da, gc, dc, T, K, j, X, rfl, Nat.le_refl _, by omega, by omega, h9.mono (by omega)⟩
       ·have NX := hid (HS6.out.snap_yes hT1)
        have H6b := hid HS6.out.bel.size
        clear c0 k0 k1
        go_upto_region 42 with (first
         | (go_at_call 15; refine (NX.out).mono ?_; rintro e w8 ⟨mk, mep, mkk, mf, mp, mi, ao8, cap8, q8, rfl, sh8, h8⟩; have H8 := hid h8; have SH := hid sh8; clear h8 sh8)
         | go_in)
        have hz9 := heap_alloc_new w8 (.cells #[.int .u8 mk, .int .u64 mep, .int .u64 mkk, .bool mf, .int .i64 mp, .slice ao8 mi.length cap8] 31)
        have hb9 := (Below.refl w8.heap.size w8).alloc (Nat.le_refl _) (.cells #[.int .u8 mk, .int .u64 mep, .int .u64 mkk, .bool mf, .int .i64 mp, .slice ao8 mi.length cap8] 31)
        obtain ⟨zb, hzb⟩ : ∃ zb, zb = w8.heap.size := ⟨_, rfl⟩
        obtain ⟨w9, hw9⟩ : ∃ w9, w9 = w8.alloc (.cells #[.int .u8 mk, .int .u64 mep, .int .u64 mkk, .bool mf, .int .i64 mp, .slice ao8 mi.length cap8] 31) := ⟨_, rfl⟩
        rw [← hw9] at hz9 hb9 ⊢
        rw [← hzb] at hz9 ⊢
        have k9 := (H8.out.kp.keep (W' := w9) (fun k hk => hb9.block k (H8.out.tw.xlt k hk))).row
        have HB9 := hid hb9
        have HK9 := hid k9
        have hz10 : w.heap.size ≤ w9.heap.size := Nat.le_trans H8.out.bel.size hb9.size
        obtain ⟨d0, d1, d2, d3, d4, d5, -⟩ := cells6 hz9
        obtain ⟨i1, hi1, hy0, hy1, hy2⟩ := info_parts (P := Tryz.prog) (e := 31) (z := .agg #[.int .u8 0, .int .u64 0, .int .u64 0, .bool false, .int .i64 0, .slice none 0 0]) (size := 6) (bytes := 64) (by kernel_rfl)
        clear hz9 hb9 k9 hzb hw9
        go_wp2_with (first
         | (at_builtin; have hq := HK9.out; refine wpList_append_own_at _ rfl _ _ 60 rfl w.heap.size 31 i1 _ 6 64 Tryz.underlying60 hi1 hy0 hy1 hy2 rfl (by omega) _ K.length (K.flatMap fun x => (shCells x.1 x.2).toList) rfl (row_keep HK9.out (fun y hy => Below.heap_alloc w9 _ y (row_base HK9.out hy).2)) ⟨w9.heap.size, 0, none⟩ 1 1 [.int .u8 mk, .int .u64 mep, .int .u64 mkk, .bool mf, .int .i64 mp, .slice ao8 mi.length cap8] rfl (by simp) (World.news_of_block (cs := #[.int .u8 mk, .int .u64 mep, .int .u64 mkk, .bool mf, .int .i64 mp, .slice ao8 mi.length cap8]) (t := 31) (fr := (0, 0)) (heap_alloc_new w9 _)) (six_one _ _ _ _ _ _ _ _) (by unfold maxLen; omega) (by omega) (by simp; omega) ?_; intro v11' w10 hown hgrow _ hat; have HOwn10 := hid hown; have HGrow10 := hid hgrow; have HAt10 := hid hat; clear hown hgrow hat hq)
         | go_in)
        go_meet
        exact ⟨pc, lc, ga, da, gc, dc, T, K ++ [(⟨mk, mep, mkk, mf, mp, mi⟩, .slice ao8 mi.length cap8)], j, _, rfl, Nat.le_refl _, by omega, by simp; omega, (H8.out.pushK (m := ⟨mk, mep, mkk, mf, mp, mi⟩) (vm := .slice ao8 mi.length cap8) HB9.out ⟨_, SH.out.says⟩ SH.out.ep SH.out.row H6b.out (fun k hk => .inr hk) HGrow10.out HOwn10.out HAt10.out).mono (by omega)⟩
      have c1 : (kind == 1) = false := by simpa using k1
      have c2 : (kind == 2) = false := by simpa using k2
      by_cases k3 : kind = 3
      ·as_aux_lemma =>
        subst k3
        clear c0 c1 c2 k0 k1 k2
        by_cases hK0 : 0 < K.length
        ·obtain ⟨ix, hix, hixK⟩ : ∃ ix : Nat, Int.tmod (Int.tmod nn (K.length : Int) + (K.length : Int)) (K.length : Int) = (ix : Int) ∧ ix < K.length := by
          have h1 := Int.tmod_lt_of_pos nn (b := (K.length : Int)) (by omega)
          have h2 := Int.lt_tmod_of_pos nn (b := (K.length : Int)) (by omega)
          have h3 : 0 ≤ Int.tmod (Int.tmod nn (K.length : Int) + (K.length : Int)) (K.length : Int) := Int.tmod_nonneg _ (by omega)
          have h4 := Int.tmod_lt_of_pos (Int.tmod nn (K.length : Int) + (K.length : Int)) (b := (K.length : Int)) (by omega)
          exact ⟨(Int.tmod (Int.tmod nn (K.length : Int) + (K.length : Int)) (K.length : Int)).toNat, by omega, by omega⟩
         have E1 : wrap64 (Int.tmod nn (K.length : Int) + (K.length : Int)) = Int.tmod nn (K.length : Int) + (K.length : Int) := by
          have h1 := Int.tmod_lt_of_pos nn (b := (K.length : Int)) (by omega)
          have h2 := Int.lt_tmod_of_pos nn (b := (K.length : Int)) (by omega)
          exact IntWalk.wrap64_in _ (by omega)
         have E2 : Int.tmod (wrap64 (Int.tmod nn (K.length : Int) + (K.length : Int))) (K.length : Int) = (ix : Int) := by rw [E1, hix]
         obtain ⟨q11, c11, e11, hq11, hcl⟩ := HS6.out.kp.get (i := ix) hixK
         injection e11 with e11 e12 e13
         subst e11 e13
         clear e12
         have hx := List.getElem_mem hixK
         obtain ⟨y, hy⟩ : ∃ y, y = K[ix] := ⟨_, rfl⟩
         rw [← hy] at hcl hx
         obtain ⟨⟨mk, mep, mkk, mf, mp, mi⟩, vm⟩ := y
         have hrow := (HS6.out.kp.each _ hx).1
         dsimp only at hrow hcl
         obtain ⟨ao8, cap8, rfl, -⟩ := hrow.get
         obtain ⟨⟨q8, hs8⟩, hep8⟩ := HS6.out.says _ hx
         have FW := HS6.out.follow hs8 hep8 hrow (HS6.out.kp.each _ hx).2 hNN
         unfold shipV at FW
         have FW := hid FW
         have g0 := hcl 0 _ rfl
         have g1 := hcl 1 _ rfl
         have g2 := hcl 2 _ rfl
         have g3 := hcl 3 _ rfl
         have g4 := hcl 4 _ rfl
         have g5 := hcl 5 _ rfl
         rw [Nat.add_zero] at g0
         clear hcl hx hy hrow hs8 hep8 E1 hix
         obtain ⟨Kn, hKn⟩ : ∃ Kn, Kn = K.length := ⟨_, rfl⟩
         have hKnz : ((Kn : Int) == 0) = false := by simp; omega
         rw [← hKn] at E2 hixK hK0 ⊢
         have HKn := hid hKn
         clear hKn
         go_wp2_with (first
          | (go_at_call 12; refine (FW.out).mono ?_; rintro e w7 ⟨e0, gc', dc', j', rfl, hj7, h7⟩; have H7 := hid h7; have HJ7 := hid hj7; clear h7 hj7)
          | go_in)
         go_meet
         rw [HKn.out]
         exact ⟨pc, lc, ga, da, gc', dc', T, K, j', X, rfl, HJ7.out, by omega, by omega, H7.out.mono (by omega)⟩
        ·go_wp2_with fail
         go_meet
         exact ⟨pc, lc, ga, da, gc, dc, T, K, j, X, rfl, Nat.le_refl _, by omega, by omega, HS6.out.mono (by omega)⟩
      have c3 : (kind == 3) = false := by simpa using k3
      by_cases k4 : kind = 4
      ·as_aux_lemma =>
        subst k4
        clear c0 c1 c2 c3 k0 k1 k2 k3
        have CA := hid (HS6.out.checkA (by omega))
        go_wp2_with (first
         | (go_at_call 11; refine (CA.out).mono ?_; rintro e w7 ⟨ga', da', rfl, h7⟩; have H7 := hid h7; clear h7)
         | go_in)
        go_meet
        exact ⟨pc, lc, ga', da', gc, dc, T, K, j, X, rfl, Nat.le_refl _, by omega, by omega, H7.out.mono (by omega)⟩
      have c4 : (kind == 4) = false := by simpa using k4
      by_cases k5 : kind = 5
      ·as_aux_lemma =>
        subst k5
        clear c0 c1 c2 c3 c4 k0 k1 k2 k3 k4
        have CA := hid (HS6.out.checkC (by omega))
        go_wp2_with (first
         | (go_at_call 11; refine (CA.out).mono ?_; rintro e w7 ⟨e0, gc', dc', rfl, h7⟩; have H7 := hid h7; clear h7)
         | go_in)
        go_meet
        exact ⟨pc, lc, ga, da, gc', dc', T, K, j, X, rfl, Nat.le_refl _, by omega, by omega, H7.out.mono (by omega)⟩
      have c5 : (kind == 5) = false := by simpa using k5
      by_cases k6 : kind = 6
      ·as_aux_lemma =>
        subst k6
        clear c0 c1 c2 c3 c4 c5 k0 k1 k2 k3 k4 k5
        have CA := hid (HS6.out.arm nn (by omega))
        go_wp2_with (first
         | (go_at_call 30; refine (CA.out).mono ?_; rintro e w7 ⟨e0, dc', rfl, h7⟩; have H7 := hid h7; clear h7)
         | go_in)
        go_meet
        exact ⟨pc, lc, ga, da, gc, dc', T, K, j, X, rfl, Nat.le_refl _, by omega, by omega, H7.out.mono (by omega)⟩
      have c6 : (kind == 6) = false := by simpa using k6
      by_cases k7 : kind = 7
      ·as_aux_lemma =>
        subst k7
        clear c0 c1 c2 c3 c4 c5 c6 k0 k1 k2 k3 k4 k5 k6
        have hkl : keep.length ≤ 8192 := HKl.out
        have CA := hid (HS6.out.crash (kv := .slice ka keep.length kcap) (keep := keep) (keepAt_below HOp.out.keep HOp.out.blk HS6.out.bel) HOp.out.blk (by omega) (by omega))
        clear hkl
        go_wp2_with (first
         | (go_at_call 31; refine (CA.out).mono ?_; rintro e w7 ⟨rfl, j', hj7, h7⟩; have H7 := hid h7; have HJ7 := hid hj7; clear h7 hj7)
         | (go_at_call 29; refine (H7.out).mono ?_; rintro e w8 ⟨pc2, lc2, gc', dc', rfl, -, -, h8⟩; have H8 := hid h8; clear h8)
         | go_in)
        go_meet
        exact ⟨pc2, lc2, ga, da, gc', dc', T, K, j', X, rfl, HJ7.out, by omega, by omega, H8.out.mono (by omega)⟩
      have c7 : (kind == 7) = false := by simpa using k7
      clear k0 k1 k2 k3 k4 k5 k6 k7
      go_wp2_with fail
      go_meet
      exact ⟨pc, lc, ga, da, gc, dc, T, K, j, X, rfl, Nat.le_refl _, by omega, by omega, HS6.out.mono (by omega)⟩
     case rest =>
      as_aux_lemma =>
       obtain ⟨pc2, lc2, ga', da', gc', dc', T', K', j', X', rfl, hj', hT', hK', hst'⟩ := hcut
       have hjT := hst'.jT
       obtain ⟨q10', u', cap10', rfl, -, -, -, -⟩ := hst'.st.get (i := j') hjT
       have HSt' := hid hst'
       have HV := hid hst'.have'
       have hmany : T'.length ≤ 1000 := hst'.told.many
       have hnl : ¬ j' < j := by omega
       have hjT2 : ¬ T'.length ≤ j' := by omega
       have hwT : IntKind.u64.wrap (T'.length : Int) = (T'.length : Int) := IntWalk.u64_in _ (by omega)
       have HT' := hid hT'
       have HK' := hid hK'
       clear hst' hT' hK' a0 a1 a2 a3 HS6 HZ6
       go_upto_region 61 with (first
        | (go_at_call 14; refine (HV.out).mono ?_; rintro e w7 ⟨rfl, h7⟩; have H7 := hid h7; have SC := hid h7.stateC; clear h7)
        | (go_at_call 20; refine (SC.out).mono ?_; rintro e w8 ⟨vm, rfl, hr8, hb8⟩; have HR8 := hid hr8; have HB8 := hid hb8; clear hr8 hb8)
        | go_in)
       have h8 := H7.out.below HB8.out
       obtain ⟨q2, u2', cap2, e2, -, hc8, hs8, -⟩ := h8.st.get (i := j') hjT
       injection e2 with e2 e3 e4
       injection e2 with e2
       injection e2 with e2 e5 e6
       subst e2 e4
       clear e3 e5 e6
       have SM := hid (same_eq HR8.out hs8 (by have := h8.told.few j' hjT; omega))
       have H8 := hid h8
       clear h8 hs8
       go_wp2_with (first
        | (go_at_call 27; refine (SM.out).mono ?_; rintro e w9 ⟨rfl, hb9⟩; have HB9 := hid hb9; clear hb9)
        | go_in)
       go_roundw
       case rel => exact ⟨i + 1, pc2, lc2, ga', da', gc', dc', T', K', j', X', hlt, by simp, rfl, rfl, HT'.out, HK'.out, H8.out.below HB9.out⟩
       case measure => (simp [intOf]) <;> omega
    ·as_aux_lemma =>
      obtain rfl : n = i := by omega
      have hgo : ¬ n < n := Nat.lt_irrefl n
      have CA := hid (hst.crash (kv := .slice none 0 0) (keep := []) ⟨none, 0, rfl, .inl rfl⟩ (fun q hq => by cases hq) (by decide) (by omega))
      have hmany : T.length ≤ 121 := by omega
      clear hst HSt hbw
      go_wp2_with (first
       | (go_at_call 31; refine (CA.out).mono ?_; rintro e w7 ⟨rfl, j', hj7, h7⟩; have H7 := hid h7; have HJ7 := hid hj7; clear h7 hj7)
       | (go_at_call 29; refine (H7.out).mono ?_; rintro e w8 ⟨pc2, lc2, gc', dc', rfl, hca, hof, h8⟩; have H8 := hid h8; have HCa := hid (And.intro hca hof); clear h8 hca hof)
       | go_in)
      go_loopw [252] (fun v252 wr => ∃ (i3 : Nat) (gc : Lg) (dc : Dsk) (j3 : Nat) (X : Nat → Prop), i3 ≤ T.length ∧ v252 = .int .i64 (i3 : Int) ∧ i3 ≤ j3 ∧ j ≤ j3 ∧ Calm dc ∧ gc.off = false ∧ LkSt w wr pa la ba ga da pc2 lc2 db gc dc (.slice (some ⟨q10, 0, none⟩) T.length cap10) (.slice ao11 K.length cap11) T T K j3 (100 + 8519680 * n + 8519680 * i3) X) (fun v252 _ => T.length - (intOf v252).toNat)
      case atStart => exact ⟨0, gc', dc', j', X, Nat.zero_le _, rfl, Nat.zero_le _, HJ7.out, HCa.out.1, HCa.out.2, H8.out⟩
      case round =>
       obtain ⟨i3, gc, dc, j3, X, hi3, rfl, hij, hjj, hca, hof, hst⟩ := hrel
       have hjT := hst.jT
       by_cases hlt : i3 < T.length
       ·have HV := hid hst.have'
        have hnl : ¬ j3 < j := by omega
        have HCa := hid (And.intro hca hof)
        have Hij := hid hij
        have Hjj := hid hjj
        have hw : IntKind.i64.wrap ((i3 : Int) + 1) = (i3 : Int) + 1 := IntWalk.i64_in _ (by omega)
        clear hst hca hof
        by_cases hjl : T.length ≤ j3 + 1
        ·go_wp2_with (first
          | (go_at_call 14; refine (HV.out).mono ?_; rintro e w7 ⟨rfl, h7⟩; have NX := hid (h7.next_no hjl); clear h7)
          | (go_at_call 10; refine (NX.out).mono ?_; rintro e w8 ⟨ao8, cap8, rfl, h8⟩; have H8 := hid h8; have LK := hid ((h8.below ((Below.refl _ _).alloc (Nat.le_refl _) (.cells #[.int .u8 0, .int .u64 0, .int .u64 0, .bool false, .int .i64 0, .slice ao8 0 cap8] 31))).like hjl); clear h8)
          | (go_at_call 13; refine (LK.out).mono ?_; rintro e w9 ⟨rfl, hb9⟩; have HB9 := hid hb9; clear hb9)
          | go_in)
         go_ret
         have hb := H8.out.bel.trans (((Below.refl w8.heap.size w8).alloc (Nat.le_refl _) (.cells #[.int .u8 0, .int .u64 0, .int .u64 0, .bool false, .int .i64 0, .slice ao8 0 cap8] 31)).mono H8.out.bel.size)
         exact ⟨rfl, hb.trans (HB9.out.mono hb.size)⟩
        ·go_upto_region 78 with (first
          | (go_at_call 14; refine (HV.out).mono ?_; rintro e w7 ⟨rfl, h7⟩; have H7b := hid h7.bel.size; have NX := hid (h7.next_yes (k := j3) (by omega)); clear h7)
          | (go_at_call 10; refine (NX.out).mono ?_; rintro e w8 ⟨mk, mep, mkk, mf, mp, mi, ao8, cap8, q8, rfl, sh8, hq8, hf8, h8⟩; have H8 := hid h8; have SH := hid sh8; have HQ8 := hid hq8; have HF8 := hid hf8; clear h8 sh8 hq8 hf8)
          | go_in)
         have hz9 := heap_alloc_new w8 (.cells #[.int .u8 mk, .int .u64 mep, .int .u64 mkk, .bool mf, .int .i64 mp, .slice ao8 mi.length cap8] 31)
         have hb9 := (Below.refl w8.heap.size w8).alloc (Nat.le_refl _) (.cells #[.int .u8 mk, .int .u64 mep, .int .u64 mkk, .bool mf, .int .i64 mp, .slice ao8 mi.length cap8] 31)
         obtain ⟨zb, hzb⟩ : ∃ zb, zb = w8.heap.size := ⟨_, rfl⟩
         obtain ⟨w9, hw9⟩ : ∃ w9, w9 = w8.alloc (.cells #[.int .u8 mk, .int .u64 mep, .int .u64 mkk, .bool mf, .int .i64 mp, .slice ao8 mi.length cap8] 31) := ⟨_, rfl⟩
         rw [← hw9] at hz9 hb9 ⊢
         rw [← hzb] at hz9 ⊢
         have h9 := H8.out.below hb9
         have hr9 := row_keep SH.out.row (fun k e => hb9.block k (row_base SH.out.row e).2)
         have FW := h9.follow_go SH.out.says SH.out.ep hr9 (fun k hk => .inr hk) (by omega) HQ8.out HF8.out HCa.out.1 HCa.out.2
         unfold shipV at FW
         have FW := hid FW
         obtain ⟨d0, d1, d2, d3, d4, d5, -⟩ := cells6 hz9
         have hnq : ¬ q8 ≤ j3 := by have := HQ8.out; omega
         clear hz9 hb9 hzb hw9 h9 hr9
         go_wp2_with (first
          | (go_at_call 12; refine (FW.out).mono ?_; rintro e w10 ⟨gc', dc', rfl, hca, hof, h10⟩; have HV2 := hid h10.have'; have HCb := hid (And.intro hca hof); clear h10 hca hof)
          | (go_at_call 14; refine (HV2.out).mono ?_; rintro e w11 ⟨rfl, h11⟩; have H11 := hid h11; clear h11)
          | go_in)
         go_roundw
         case rel => exact ⟨i3 + 1, gc', dc', q8, _, hlt, by simp, by have := HQ8.out; have := Hij.out; omega, by have := HQ8.out; have := Hjj.out; omega, HCb.out.1, HCb.out.2, H11.out.mono (by omega)⟩
         case measure => (simp [intOf]) <;> omega
       ·exact absurd hjT (by omega)
end Go.Proofs.YtdinjghfjmmjoaaGreat
