/- The law BackupWhole, walked. -/
import Derived.Test.YtenboibbbmeddaaGreatBxD
import Derived.Deep.CutBlock
import Derived.Laws.AppendOwnNone
set_option linter.unusedVariables false
set_option linter.unusedSimpArgs false
namespace Go.Proofs.YtenboibbbmeddaaGreat
open Go.RowKit Go.Maps
set_option maxRecDepth 20000
theorem WSt.beside {w W W' : World} {pb l b db bb m : Nat} {v : Value} {g : Lg} {ds : Dsk} {h : Hdr} {M : List (List UInt8)} {T TS : List (List (List UInt8))} {B : Bk} {d : Dsk} {X : Nat → Prop} (hs : WSt w W pb l b db bb v m g ds h M T TS B d X) (hb : Below W.heap.size W W') : WSt w W' pb l b db bb v m g ds h M T TS B d (XW X W.heap.size W'.heap.size) :=
 ⟨pd_start hs.pd hb, .inl hs.bbX, (hb.block bb (lt_of_block hs.bk)).trans hs.bk, hs.ge, hs.src, hs.now, hs.two, (hs.st.keep (fun k hk => hb.block k (hs.pd.xlt k hk))).mono (fun k hk => .inl hk), hs.bw, hs.rs, hs.ss, hs.sd⟩
theorem keepAt_up {w W : World} {v : Value} {ks : List Bool} (h : KeepAt w v ks) (hk : ∀ g, keepBlk v ks = some g → g < w.heap.size) (hb : Below w.heap.size w W) : KeepAt W v ks := h.keep fun g hg => hb.block g (hk g hg)
set_option maxHeartbeats 16000000 in
set_option maxRecDepth 20000 in
theorem backupWhole_any (w : World) (v1 : Value) (ka : Option Addr) (kcap : Nat) (acts : List AOp) (keep : List Bool) (h1 : ActsIn w v1 acts) (hk : KeepAt w (.slice ka keep.length kcap) keep) (hkb : ∀ q, keepBlk (.slice ka keep.length kcap) keep = some q → q < w.heap.size) (hkl : keep.length ≤ 9223372036854775807) : Calls Tryz.prog 6 #[v1, .slice ka keep.length kcap] w fun e w' => e = .returned (.bool true) ∧ Below w.heap.size w w' := by
 obtain ⟨ao1, cap1, rfl, -⟩ := id h1.at'
 have WK := hid (fun W => bkworks_any W)
 have FR := hid (fun W => fresh_px W)
 have NW := hid (fun W => mk_new W)
 obtain ⟨n, hn⟩ : ∃ n, n = acts.length := ⟨_, rfl⟩
 have HKA := hid (And.intro hk hkb)
 obtain ⟨kl, hkn⟩ : ∃ kl, kl = keep.length := ⟨_, rfl⟩
 rw [← hkn] at HKA hkl ⊢
 have HKN := hid hkn
 have hl1 := h1.len
 have HA := hid h1
 have HN := hid hn
 have HV := hid (fun (W : World) (hb : Below w.heap.size w W) => aheavy_any W _ acts (h1.at'.keep hb) hl1)
 rw [← hn] at HV hl1 ⊢
 clear h1 hn hk hkb hkn
 go_enter Tryz.func6, Tryz.ntmps6
 go_upto_region 3 with (first
  | (go_at_call 9; refine (WK.out _).mono ?_; rintro e w1 ⟨rfl, hb1⟩; have HB1 := hid hb1; clear hb1)
  | go_in)
 have HV1 := hid (HV.out w1 HB1.out)
 by_cases hbig : 4096 < kl
 ·have d0 : decide (4096 < kl) = true := by simpa using hbig
  go_upto_region 4 with (first
   | (go_at_call 19; refine (HV1.out).mono ?_; rintro e w2 ⟨r, rfl, hr, hb2⟩; have HB2 := hid (then_below HB1.out hb2); clear hb2)
   | go_in)
  all_goals
   go_wp2_with fail
   go_ret
   exact ⟨rfl, HB2.out⟩
 have d0 : decide (4096 < kl) = false := by simpa using hbig
 go_upto_region 5 with (first
  | (go_at_call 19; refine (HV1.out).mono ?_; rintro e w2 ⟨r, rfl, hr, hb2⟩; have HB2 := hid (then_below HB1.out hb2); have HR := hid hr; clear hb2 hr)
  | go_in)
 ·go_ret
  exact ⟨rfl, HB2.out⟩
 have HL := hid (HR.out (by first | assumption | exact Bool.eq_false_iff.2 (by assumption)))
 have HKL := hid (show kl ≤ 4096 by omega)
 have HKP := hid (And.intro (keepAt_up HKA.out.1 HKA.out.2 HB2.out) (fun q e => Nat.lt_of_lt_of_le (HKA.out.2 q e) HB2.out.size))
 clear HR HV HV1 hbig d0 WK HKA hkl
 go_upto_region 13 with (first
  | (go_at_call 7; refine (FR.out _).mono ?_; rintro e w3 ⟨pb, l, b, rfl, hp⟩; have HP3 := hid hp; clear hp FR)
  | (go_at_call 11; refine (first_turn HP3.out).mono ?_; rintro e w4 ⟨rfl, g0, ds0, h0, M0, hp, hD, hh, hc, hss⟩; have HP4 := hid hp; have HD4 := hid hD; have HH4 := hid hh; have HC4 := hid hc; have HS4 := hid hss; clear hp hD hh hc hss HP3)
  | (go_at_call 8; refine (NW.out _).mono ?_; rintro e w5 ⟨db, rfl, hd⟩; have HP5 := hid (PgX.pd HP4.out hd); clear hd HP4)
  | (go_at_call 10; refine (ws_start HP5.out HD4.out HH4.out HC4.out HS4.out).mono ?_; rintro e w6 ⟨bb, B0, d0, rfl, hws⟩; have HWS := hid hws; have SA := hid hws.state; clear hws HP5 HD4 HH4 HC4 HS4)
  | (go_at_call 21; refine (SA.out).mono ?_; rintro e w7 ⟨vm, rfl, hr7, hb7⟩; have HR7 := hid hr7; have HB7 := hid hb7; clear hr7 hb7)
  | go_in)
 have h7 := HWS.out.begin HB7.out HR7.out
 rw [show (([[], hdrPg h0 :: M0] : List (List (List UInt8))).getD (([[], hdrPg h0 :: M0] : List (List (List UInt8))).length - 1) []) = hdrPg h0 :: M0 from rfl] at h7
 obtain ⟨aom, capm, rfl, -⟩ := HR7.out.shape
 obtain ⟨ml, hml⟩ : ∃ ml, ml = (([[], hdrPg h0 :: M0] : List (List (List UInt8))).getD (([[], hdrPg h0 :: M0] : List (List (List UInt8))).length - 1) []).length := ⟨_, rfl⟩
 rw [← hml] at h7 ⊢
 have H7 := hid h7
 clear h7 hml HR7 HB7 HWS SA NW
 go_wp2_with fail
 obtain ⟨w8, hw8⟩ : ∃ w8, w8 = w7.alloc (.cells #[.slice none 0 0, .slice aom ml capm] 52) := ⟨_, rfl⟩
 obtain ⟨s7, hs7⟩ : ∃ s7, s7 = w7.heap.size := ⟨_, rfl⟩
 have h8 := H7.out
 rw [← hw8, ← hs7] at h8
 rw [← hw8, ← hs7]
 have H8 := hid h8
 clear h8 H7 hw8 hs7
 have hz : 0 ≤ n := Nat.zero_le _
 go_loopw [11, 64] (fun v11 v64 wr => ∃ (i : Nat) (g : Lg) (ds : Dsk) (h : Hdr) (M : List (List UInt8)) (T : List (List (List UInt8))) (B : Bk) (d : Dsk) (X : Nat → Prop), i ≤ n ∧ v64 = .int .i64 (i : Int) ∧ WSt w2 wr pb l b db bb v11 i g ds h M T T B d X) (fun _ v64 _ => n - (intOf v64).toNat)
 case atStart => exact ⟨0, _, _, _, _, _, _, _, _, Nat.zero_le _, rfl, H8.out⟩
 case round =>
  obtain ⟨i, g, ds, h, M, T, B, d, X, hi, rfl, hws⟩ := hrel
  obtain ⟨q11, -, cap11, rfl, -, -, -, -⟩ := hws.st.get (i := 0) (by have := hws.two; omega)
  have HW := hid hws
  by_cases hlt : i < n
  ·have hil : i < acts.length := by have := HN.out; omega
   obtain ⟨ao, cap, e1, hc⟩ := (HA.out.at'.keep HB2.out).keep (hws.bel.mono HB2.out.size)
   obtain ⟨q, o, e2, hq, hs, hcell⟩ := hc i hil
   injection e1 with e1a e1b e1c
   subst e1a
   subst e1c
   clear e1b
   subst e2
   obtain ⟨y, hy⟩ : ∃ y, y = acts[i] := ⟨_, rfl⟩
   have hyn : in64 y.n := HA.out.n64 y (by rw [hy]; exact List.getElem_mem hil)
   have hyp : in64 y.pages := HA.out.p64 y (by rw [hy]; exact List.getElem_mem hil)
   rw [← hy] at hcell
   have c0 := hcell 0 _ rfl
   have c1 := hcell 1 _ rfl
   have c2 := hcell 2 _ rfl
   have c3 := hcell 3 _ rfl
   have c4 := hcell 4 _ rfl
   rw [Nat.add_zero] at c0
   have hw : IntKind.i64.wrap ((i : Int) + 1) = (i : Int) + 1 := IntWalk.i64_in _ (by omega)
   have hn100 : n ≤ 100 := by have := HN.out; have := HL.out; omega
   have HYN := hid hyn
   have HYP := hid hyp
   clear hy hcell hc hws hyn hyp H8
   go_upto_region 17 with fail
   have hxb := heap_alloc_new wr (.cells #[.int .i64 y.kind, .int .i64 y.n, .int .i64 y.pages, .int .u8 (y.x.toNat : Int), .slice y.ka y.keep.length y.kcap] 49)
   have hba := (Below.refl wr.heap.size wr).alloc (Nat.le_refl _) (.cells #[.int .i64 y.kind, .int .i64 y.n, .int .i64 y.pages, .int .u8 (y.x.toNat : Int), .slice y.ka y.keep.length y.kcap] 49)
   obtain ⟨xb, hX⟩ : ∃ xb, xb = wr.heap.size := ⟨_, rfl⟩
   obtain ⟨wa, hwa⟩ : ∃ wa, wa = wr.alloc (.cells #[.int .i64 y.kind, .int .i64 y.n, .int .i64 y.pages, .int .u8 (y.x.toNat : Int), .slice y.ka y.keep.length y.kcap] 49) := ⟨_, rfl⟩
   rw [← hwa, ← hX] at hxb
   rw [← hwa] at hba
   rw [← hwa, ← hX]
   have hbe := HW.out.beside hba
   rw [← hX] at hbe
   have HXX := hid (show XW X xb wa.heap.size xb from .inr ⟨Nat.le_refl _, lt_of_block hxb⟩)
   obtain ⟨X2, hX2⟩ : ∃ X2, X2 = XW X xb wa.heap.size := ⟨_, rfl⟩
   rw [← hX2] at hbe HXX
   have HBA := hid hbe
   have hcl : ∀ W2 : World, W2.heap[xb]? = wa.heap[xb]? → W2.cell? ⟨xb, 0, none⟩ = some (.int .i64 y.kind) ∧ W2.cell? ⟨xb, 1, none⟩ = some (.int .i64 y.n) ∧ W2.cell? ⟨xb, 2, none⟩ = some (.int .i64 y.pages) ∧ W2.cell? ⟨xb, 3, none⟩ = some (.int .u8 (y.x.toNat : Int)) := fun W2 e =>
    ⟨(cell_of_block (e.trans hxb) 0).trans rfl, (cell_of_block (e.trans hxb) 1).trans rfl, (cell_of_block (e.trans hxb) 2).trans rfl, (cell_of_block (e.trans hxb) 3).trans rfl⟩
   have HCL := hid hcl
   have HXL := hid (lt_of_block hxb)
   obtain ⟨x0, x1, x2, x3⟩ := hcl wa rfl
   clear hxb hba hwa hX hcl c0 c1 c2 c3 c4 hbe hX2 HW
   go_upto_block 2 with fail
   go_cut [11] (fun v11 wx => ∃ (g : Lg) (ds : Dsk) (h : Hdr) (M : List (List UInt8)) (T : List (List (List UInt8))) (B : Bk) (d : Dsk) (X : Nat → Prop), WSt w2 wx pb l b db bb v11 (i + 1) g ds h M T T B d X)
   case first =>
    have hT := HBA.out.two
    have hi100 : i ≤ 100 := by omega
    by_cases k0 : y.kind = 0
    ·as_aux_lemma =>
      have e0 : (y.kind == 0) = true := by simp [k0]
      clear k0
      go_upto_region 19 with fail
      refine wp_region_held_drew (S := fun W2 => W2.cell? ⟨xb, 1, none⟩ = some (.int .i64 y.n) ∧ W2.cell? ⟨xb, 2, none⟩ = some (.int .i64 y.pages) ∧ W2.cell? ⟨xb, 3, none⟩ = some (.int .u8 (y.x.toNat : Int))) (by kernel_rfl) ⟨x1, x2, x3⟩ (fun hHeld => ?_)
      refine held_take (v := ?gv0) 0 rfl (by kernel_rfl) (by kernel_rfl) (by kernel_rfl) (fun _ _ _ h => h) (by rfl) hHeld ?gy0 ?gr0
      case gy0 => (intro W hSw; obtain ⟨y0, y1, y2⟩ := hSw; go_simp; with_reducible rfl)
      simp only [Act.put, zl0, zl1, zl2]
      refine held_take (v := ?gv1) 1 rfl (by kernel_rfl) (by kernel_rfl) (by kernel_rfl) (fun _ _ _ h => h) (by rfl) hHeld ?gy1 ?gr1
      case gy1 => (intro W hSw; obtain ⟨y0, y1, y2⟩ := hSw; go_simp; with_reducible rfl)
      simp only [Act.put, zl0, zl1, zl2]
      refine held_take (v := ?gv2) 2 rfl (by kernel_rfl) (by kernel_rfl) (by kernel_rfl) (fun _ _ _ h => h) (by rfl) hHeld ?gy2 ?gr2
      case gy2 => (intro W hSw; obtain ⟨y0, y1, y2⟩ := hSw; go_simp; with_reducible rfl)
      simp only [Act.put, zl0, zl1, zl2]
      refine held_take (v := ?gv5) 5 rfl (by kernel_rfl) (by kernel_rfl) (by kernel_rfl) (fun _ _ _ h => h) (by rfl) hHeld ?gy5 ?gr5
      case gy5 => (intro W hSw; obtain ⟨y0, y1, y2⟩ := hSw; go_simp; with_reducible rfl)
      simp only [Act.put, zl0, zl1, zl2]
      refine held_take (v := ?gv6) 6 rfl (by kernel_rfl) (by kernel_rfl) (by kernel_rfl) (fun _ _ _ h => h) (by rfl) hHeld ?gy6 ?gr6
      case gy6 => (intro W hSw; obtain ⟨y0, y1, y2⟩ := hSw; go_simp; with_reducible rfl)
      simp only [Act.put, zl0, zl1, zl2]
      refine held_take (v := ?gv7) 7 rfl (by kernel_rfl) (by kernel_rfl) (by kernel_rfl) (fun _ _ _ h => h) (by rfl) hHeld ?gy7 ?gr7
      case gy7 => (intro W hSw; obtain ⟨y0, y1, y2⟩ := hSw; go_simp; with_reducible rfl)
      simp only [Act.put, zl0, zl1, zl2]
      refine held_take (v := ?gv8) 8 rfl (by kernel_rfl) (by kernel_rfl) (by kernel_rfl) (fun _ _ _ h => h) (by rfl) hHeld ?gy8 ?gr8
      case gy8 => (intro W hSw; obtain ⟨y0, y1, y2⟩ := hSw; go_simp; with_reducible rfl)
      simp only [Act.put, zl0, zl1, zl2]
      refine held_one 3 (by kernel_rfl) rfl (fun K hK => ?_)
      go_simp
      refine (around_any y.pages HYP.out _).mono ?_
      rintro e w9 ⟨r9, rfl, hr9, hw9⟩
      obtain rfl := hw9.symm
      have hwr : IntKind.i64.wrap (1 + (r9 : Int)) = 1 + (r9 : Int) := IntWalk.i64_in _ (by omega)
      try dsimp only
      refine hK.out _ _ (⟨x1, x2, x3⟩) (fun hHeld => ?_)
      clear hK K
      try simp only [Act.put, zl0, zl1, zl2]
      refine held_take (v := ?hv4) 4 rfl (by kernel_rfl) (by kernel_rfl) (by kernel_rfl) (fun _ _ _ h => h) (by rfl) hHeld ?hy4 ?hr4
      case hy4 => (intro W hSw; obtain ⟨y0, y1, y2⟩ := hSw; go_simp; with_reducible rfl)
      simp only [Act.put, zl0, zl1, zl2]
      have TN := hid ((HBA.out.below ((Below.refl _ wa).drew)).turn (by omega) r9 hr9 y.n HYN.out y.x)
      refine held_one 9 (by kernel_rfl) rfl (fun K hK => ?_)
      go_simp
      refine (TN.out).mono ?_
      rintro e w10 ⟨rfl, ⟨g', ds', h', M', hb10⟩, hk10⟩
      have hs10 := HCL.out w10 (hk10 xb HXX.out)
      have HB10 := hid hb10
      have SA := hid hb10.state
      clear hb10 hk10
      try dsimp only
      refine hK.out _ _ (hs10.2) (fun hHeld => ?_)
      clear hK K
      try simp only [Act.put, zl0, zl1, zl2]
      clear hs10
      refine held_take (v := ?vv10) 10 rfl (by kernel_rfl) (by kernel_rfl) (by kernel_rfl) (fun _ _ _ h => h) (by rfl) hHeld ?vy10 ?vr10
      case vy10 => (intro W hSw; obtain ⟨y0, y1, y2⟩ := hSw; go_simp; with_reducible rfl)
      simp only [Act.put, zl0, zl1, zl2]
      clear hHeld
      refine wpAnyH_done (by kernel_rfl) ?_ _
      clear x0 x1 x2 x3 hwr
      go_upto_region 24 with (first
       | (go_at_call 21; refine (SA.out).mono ?_; rintro e w11 ⟨vm, rfl, hr11, hb11⟩; have HR11 := hid hr11; have HB11 := hid hb11; clear hr11 hb11)
       | go_in)
      obtain ⟨⟨sv, s1, s3, s5⟩, s6⟩ := HB10.out.st.keep (W' := w11) (fun k hk => HB11.out.block k (HB10.out.pd.xlt k hk))
      obtain ⟨aom, capm, rfl, -⟩ := HR11.out.shape
      obtain ⟨i1, hi1, hy0, hy1, hy2⟩ := info_parts (P := Tryz.prog) (e := 52) (z := .slice none 0 0) (size := 1) (bytes := 24) (by kernel_rfl)
      have HS3 := hid s3
      have HS5 := hid (And.intro s1 s5)
      obtain ⟨ml, hml⟩ : ∃ ml, ml = ((T ++ [hdrPg h' :: M']).getD ((T ++ [hdrPg h' :: M']).length - 1) []).length := ⟨_, rfl⟩
      rw [← hml]
      have Hml := hid hml
      have hz11 : w2.heap.size ≤ w11.heap.size := Nat.le_trans HB10.out.bel.size HB11.out.size
      clear s1 s3 s5 s6 hml
      go_wp2_with (first
       | (at_builtin; have hq := HS3.out; refine wpList_append_own_at _ rfl _ _ 58 rfl w2.heap.size 52 i1 _ 1 24 Tryz.underlying58 hi1 hy0 hy1 hy2 rfl (by omega) _ T.length sv rfl (row_keep HS3.out (fun y hy => Below.heap_alloc w11 _ y (row_base HS3.out hy).2)) ⟨w11.heap.size, 0, none⟩ 1 1 [.slice aom ml capm] rfl (by simp) (World.news_of_block (cs := #[.slice aom ml capm]) (t := 52) (fr := (0, 0)) (heap_alloc_new w11 _)) (by intro u hu; rw [List.mem_singleton.1 hu]; rfl) (by unfold maxLen; omega) (by omega) (by simp; omega) ?_; intro v7' w12 hown hgrow _ hat; have HOwn := hid hown; have HGrow := hid hgrow; have HAt := hid hat; clear hown hgrow hat hq)
       | go_in)
      go_meet
      have hM : (T ++ [hdrPg h' :: M']).getD ((T ++ [hdrPg h' :: M']).length - 1) [] = hdrPg h' :: M' := by rw [List.length_append]; exact getD_lst
      have h9 := HB10.out.pushS HB11.out (by rw [Hml.out]; exact HR11.out) HS5.out.1 HS3.out HS5.out.2 HGrow.out HOwn.out HAt.out
      rw [hM] at h9
      exact ⟨_, _, _, _, _, _, _, _, h9⟩
    have e0 : (y.kind == 0) = false := by simp [k0]
    by_cases k1 : y.kind = 1
    ·have e1 : (y.kind == 1) = true := by simp [k1]
     clear k0 k1
     have DN := hid HBA.out.done
     have ST := hid (HBA.out.step (by omega) y.n HYN.out)
     obtain ⟨P1, hP1⟩ : ∃ P1 : Nat, T.length = P1 + 1 := ⟨T.length - 1, by omega⟩
     have hwT : IntKind.i64.wrap ((T.length : Int) - 1) = (P1 : Int) := by rw [hP1, IntWalk.i64_in _ (by omega)]; omega
     have hwU : IntKind.u64.wrap (P1 : Int) = (P1 : Int) := IntWalk.u64_in _ (by omega)
     have HP1 := hid hP1
     clear hP1
     obtain ⟨was, hwas⟩ : ∃ was, was = (B.next == 0) := ⟨_, rfl⟩
     rw [← hwas] at DN
     have HWas := hid hwas
     clear hwas
     go_upto_region 28 with (first
      | (go_at_call 14; refine (DN.out).mono ?_; rintro e w9 ⟨rfl, hw9⟩; obtain rfl := hw9.symm; clear DN)
      | (go_at_call 15; refine (ST.out).mono ?_; rintro e w10 ⟨e9, B', d', rfl, hb10, hq10, -⟩; have HB10 := hid hb10; have HQ10 := hid hq10; clear hb10 hq10 ST)
      | go_in)
     have DN := HB10.out.done
     have CM := hid HB10.out.commits
     obtain ⟨is, his⟩ : ∃ is, is = (B'.next == 0) := ⟨_, rfl⟩
     rw [← his] at DN
     have DN := hid DN
     have HIs := hid his
     clear his
     cases his : is with
     | false =>
      subst his
      go_wp2_with (first
       | (go_at_call 14; refine (DN.out).mono ?_; rintro e w11 ⟨rfl, hw11⟩; obtain rfl := hw11.symm; clear DN)
       | go_in)
      go_meet
      exact ⟨_, _, _, _, _, _, _, _, HB10.out⟩
     | true =>
      subst his
      cases hws : was with
      | true =>
       subst hws
       go_wp2_with (first
        | (go_at_call 14; refine (DN.out).mono ?_; rintro e w11 ⟨rfl, hw11⟩; obtain rfl := hw11.symm; clear DN)
        | go_in)
       go_meet
       exact ⟨_, _, _, _, _, _, _, _, HB10.out⟩
      | false =>
       subst hws
       have hkk : B'.k = (P1 : Int) := by
        have h1 := HQ10.out (by have := HIs.out; simpa using this.symm) (by have := HWas.out; simpa using this.symm)
        have h2 := HP1.out
        omega
       rw [hkk] at CM
       clear hkk
       go_wp2_with (first
        | (go_at_call 14; refine (DN.out).mono ?_; rintro e w11 ⟨rfl, hw11⟩; obtain rfl := hw11.symm; clear DN)
        | (go_at_call 13; refine (CM.out).mono ?_; rintro e w12 ⟨rfl, hw12⟩; obtain rfl := hw12.symm; clear CM)
        | go_in)
       go_meet
       exact ⟨_, _, _, _, _, _, _, _, HB10.out⟩
    have e1 : (y.kind == 1) = false := by simp [k1]
    by_cases k2 : y.kind = 2
    ·have e2 : (y.kind == 2) = true := by simp [k2]
     have AR := hid (HBA.out.arm (by omega) y.n)
     clear k0 k1 k2
     go_wp2_with (first
      | (go_at_call 24; refine (AR.out).mono ?_; rintro e w9 ⟨e9, d9, rfl, h9⟩; have H9 := hid h9; clear h9)
      | go_in)
     go_meet
     exact ⟨_, _, _, _, _, _, _, _, H9.out⟩
    have e2 : (y.kind == 2) = false := by simp [k2]
    by_cases k3 : y.kind = 3
    ·have e3 : (y.kind == 3) = true := by simp [k3]
     have PW := hid (HBA.out.power (by omega) y.n)
     clear k0 k1 k2 k3
     go_wp2_with (first
      | (go_at_call 25; refine (PW.out).mono ?_; rintro e w9 ⟨e9, d9, rfl, h9⟩; have H9 := hid h9; clear h9)
      | go_in)
     go_meet
     exact ⟨_, _, _, _, _, _, _, _, H9.out⟩
    have e3 : (y.kind == 3) = false := by simp [k3]
    by_cases k5 : y.kind = 5
    ·have e5 : (y.kind == 5) = true := by simp [k5]
     have CK := hid (HBA.out.check (by omega))
     clear k0 k1 k2 k3 k5
     go_wp2_with (first
      | (go_at_call 26; refine (CK.out).mono ?_; rintro e w9 ⟨rfl, g9, ds9, h9⟩; have H9 := hid h9; clear h9)
      | go_in)
     go_meet
     exact ⟨_, _, _, _, _, _, _, _, H9.out⟩
    have e5 : (y.kind == 5) = false := by simp [k5]
    clear k0 k1 k2 k3 k5
    go_wp2_with fail
    go_meet
    exact ⟨_, _, _, _, _, _, _, _, HBA.out.more (Nat.le_succ _)⟩
   case rest =>
    obtain ⟨g', ds', h', M', T', B', d', X', hst⟩ := hcut
    obtain ⟨q12, -, cap12, rfl, -, -, -, -⟩ := hst.st.get (i := 0) (by have := hst.two; omega)
    have HST := hid hst
    have hT2 := hst.two
    have CP := hid (hst.copy (by omega))
    have DN := hst.done
    have CM := hst.commits
    have hsn := hst.seen keep
    have HT2 := hid hT2
    clear hst HBA HXX HCL HXL x0 x1 x2 x3 HYN HYP
    go_upto_region 38 with (first
     | (go_at_call 27; refine (CP.out).mono ?_; rintro e w9 ⟨b2, rfl, hc9, hb9⟩; have HC9 := hid hc9; have HB9 := hid hb9; clear hc9 hb9 CP)
     | go_in)
    have hsd : d'.Small 1099511627776 := HST.out.sd.mono (by omega)
    have CR := cp_crash HC9.out HB9.out HST.out.bel.size (.slice ka kl kcap) keep (keepAt_up HKP.out.1 HKP.out.2 (HST.out.bel.trans (HB9.out.mono HST.out.bel.size))) HKP.out.2 hsd (by have := HKL.out; have := HKN.out; omega)
    have CR := hid CR
    clear hsd
    go_upto_region 40 with (first
     | (go_at_call 28; refine (CR.out).mono ?_; rintro e w10 ⟨rfl, hc10, hb10⟩; have HC10 := hid hc10; have HB10 := hid hb10; clear hc10 hb10 CR)
     | go_in)
    have hmk := HC10.out.mkd (HST.out.bel.trans (HB10.out.mono HST.out.bel.size))
    rcases hsn with ⟨hnx, hno⟩ | ⟨j, hb, Mb, g0, j1, j2, j3, hk, hop, hok⟩
    ·have OP := opened_any hmk (fun g L e => by rw [hno] at e; cases e)
     rw [hno] at OP
     have OP := hid OP
     have hnz : (B'.next == 0) = false := by simpa using hnx
     have DNA := hid (fun (W2 : World) (hb : Below wc.heap.size wc W2) => (show Calls Tryz.prog 14 #[.pointer (some ⟨bb, 0, none⟩)] W2 fun e w' => e = .returned (.bool false) ∧ w' = W2 from by have := bdone_any (HST.out.below hb).bk; rw [hnz] at this; exact this))
     have RN := hid (fun (W2 : World) => rcommits_nil (W := W2) (base := 0) (v := .slice none 0 0) (World.ownsRow_nil _ _ _ _))
     clear hnz hnx hno hmk CM DN
     go_wp2_with (first
      | (go_at_call 22; refine (OP.out).mono ?_; rintro e w11 ⟨hb11, rfl⟩; have HB11 := hid (Below.trans HB10.out (hb11.mono HB10.out.size)); clear hb11 OP)
      | (go_at_call 29; refine (RN.out _).mono ?_; rintro e w12 ⟨rfl, hb12⟩; have HB12 := hid (Below.trans HB11.out (hb12.mono HB11.out.size)); clear hb12 RN)
      | (go_at_call 14; refine (DNA.out _ HB12.out).mono ?_; rintro e w13 ⟨rfl, hw13⟩; obtain rfl := hw13.symm; clear DNA)
      | go_in)
     go_roundw
     case rel => exact ⟨i + 1, g', ds', h', M', T', B', d', X', hlt, by simp, HST.out.below HB12.out⟩
     case measure => (simp [intOf]) <;> omega
    ·have OP := opened_any hmk (fun g L e => by rw [hop] at e; cases e; exact hok)
     rw [hop] at OP
     dsimp only at OP
     have OP := hid OP
     have htk : takeH (hdrPg hb) = (hb, 0) := takeH_put j3.hd.may j3.hd.wf
     have hl5 : (hdrPg hb).length = 512 := hdrPg_length hb j3.hd.wf.len
     have RC := hid (fun (W2 : World) (base : Nat) (v : Value) (hr : StrRow W2 base v (hdrPg hb :: Mb)) => (show Calls Tryz.prog 29 #[v] W2 fun e w' => e = .returned (.tuple #[.int .u64 (j : Int), .bool true]) ∧ Below W2.heap.size W2 w' from by
      have := rcommits_cons hr (by omega) (by have := j3.few; omega)
      rw [htk] at this
      dsimp only at this
      rw [j3.com] at this
      exact this))
     have DNA := hid (fun (W2 : World) (hb : Below wc.heap.size wc W2) => bdone_any (HST.out.below hb).bk)
     have CMA := hid (fun (W2 : World) (hb : Below wc.heap.size wc W2) => (show Calls Tryz.prog 13 #[.pointer (some ⟨bb, 0, none⟩)] W2 fun e w' => e = .returned (.int .u64 (j : Int)) ∧ w' = W2 from by have := bcommits_any (HST.out.below hb).bk; rw [hk] at this; exact this))
     have HJ3 := hid j3
     have hwT : IntKind.u64.wrap (T'.length : Int) = (T'.length : Int) := IntWalk.u64_in _ (by omega)
     have hjT2 : ¬ T'.length ≤ j := by omega
     obtain ⟨dn, hdn⟩ : ∃ dn, dn = (B'.next == 0) := ⟨_, rfl⟩
     rw [← hdn] at DNA
     have Hdn := hid hdn
     clear hmk hop hok hk htk hl5 j3 CM DN hdn
     go_upto_region 42 with (first
      | (go_at_call 22; refine (OP.out).mono ?_; rintro e w11 ⟨hb11, v18, rfl, hr11⟩; have HB11 := hid (Below.trans HB10.out (hb11.mono HB10.out.size)); have HR11 := hid hr11; clear hb11 OP hr11)
      | (go_at_call 29; refine (RC.out _ _ _ HR11.out).mono ?_; rintro e w12 ⟨rfl, hb12⟩; have HB12 := hid (Below.trans HB11.out (hb12.mono HB11.out.size)); have HR12 := hid (row_keep HR11.out (fun k e => hb12.block k (row_base HR11.out e).2)); clear hb12 RC)
      | go_in)
     have h12 := HST.out.below HB12.out
     obtain ⟨q2, u2, cap2, e2, -, hc12, hs12, -⟩ := h12.st.get (i := j) j2
     injection e2 with e2 e3 e4
     injection e2 with e2
     injection e2 with e2 e5 e6
     subst e2 e4
     clear e3 e5 e6
     rw [HJ3.out.eq] at hs12
     have SM := hid (same_eq HR12.out hs12 (by have := HJ3.out.few; simp; omega))
     clear h12 hs12
     go_upto_region 44 with (first
      | (go_at_call 23; refine (SM.out).mono ?_; rintro e w13 ⟨rfl, hb13⟩; have HB13 := hid (Below.trans HB12.out (hb13.mono HB12.out.size)); clear hb13 SM)
      | go_in)
     cases dn
     all_goals
      go_wp2_with (first
       | (go_at_call 14; refine (DNA.out _ HB13.out).mono ?_; rintro e w14 ⟨rfl, hw14⟩; obtain rfl := hw14.symm; clear DNA)
       | (go_at_call 13; refine (CMA.out _ HB13.out).mono ?_; rintro e w15 ⟨rfl, hw15⟩; obtain rfl := hw15.symm; clear CMA)
       | go_in)
      go_roundw
      case rel => exact ⟨i + 1, g', ds', h', M', T', B', d', X', hlt, by simp, HST.out.below HB13.out⟩
      case measure => (simp [intOf]) <;> omega
  ·obtain rfl : n = i := by omega
   have hgo : ¬ n < n := Nat.lt_irrefl n
   have hbl := hws.bel
   have HBL := hid hbl
   clear hws hbl HW H8
   go_wp2_with fail
   go_ret
   exact ⟨rfl, HB2.out.trans (HBL.out.mono HB2.out.size)⟩
end Go.Proofs.YtenboibbbmeddaaGreat
