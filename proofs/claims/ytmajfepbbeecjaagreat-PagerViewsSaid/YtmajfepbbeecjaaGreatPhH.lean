/- The law PagerViews. -/
import Derived.Test.YtmajfepbbeecjaaGreatPhG
namespace Go.Proofs.YtmajfepbbeecjaaGreat
open Go.RowKit Go.Maps
set_option linter.unusedVariables false
set_option linter.unusedSimpArgs false
set_option maxRecDepth 20000

section
variable {w W W' : World} {pb l b vb : Nat} {p p' : Pg} {g g' : Lg} {d d' : Dsk} {X X' : Nat → Prop}
/-- Rows of pages, laid beside what there is. -/
theorem v_pages (h : PgX w W pb l b p g d X) (hc : LgCalm g d) : Calls Tryz.prog 15 #[.pointer (some ⟨pb, 0, none⟩)] W fun e w' => ∃ v, e = .returned (.tuple #[v, .bool true]) ∧ StrRow w' W.heap.size v (pgsL p g d) ∧ PgX w w' pb l b p g d (fun k => X k ∨ v.ownBlock = some k) ∧ ∀ k, X k → w'.heap[k]? = W.heap[k]? := by
  refine (lpages_any h (pgsOk_calm hc (ppages_range h).2)).mono ?_
  rintro e w' ⟨v, rfl, hr, hb⟩
  exact ⟨v, rfl, hr, px_add h hb (fun k hk => hk.imp id fun e => (row_base hr e).1) (fun k hk => hk.elim (fun e => Nat.lt_of_lt_of_le (h.xlt k e) hb.size) (fun e => (row_base hr e).2)), fun k hk => hb.block k (h.xlt k hk)⟩
theorem vwat_keep {pages mark : Int} {closed : Bool} (h : VwAt W vb pb pages mark closed) (hk : W'.heap[vb]? = W.heap[vb]?) : VwAt W' vb pb pages mark closed := hk.trans h
/-- A row, written out. -/
theorem strRow_form {base : Nat} {v : Value} {l : List (List UInt8)} (h : StrRow W base v l) (hl : 0 < l.length) : ∃ q cap, v = .slice (some ⟨q, 0, none⟩) l.length cap ∧ l.length ≤ cap ∧ cap ≤ 9223372036854775807 ∧ q < W.heap.size ∧ ∀ i (hi : i < l.length), W.cell? ⟨q, i, none⟩ = some (.string (bs l[i])) := by
  rcases h.2 with ⟨rfl, h0⟩ | ⟨q, cap, cur, rfl, h1, h2, h3, h4, h5⟩
  · omega
  · exact ⟨q, cap, rfl, h3, h4, lt_of_block h2, fun i hi => h.cell hi⟩
theorem pgsL_get (p : Pg) (g : Lg) (d : Dsk) (hn : p.now = none) : (pgsL p g d).length = pgCount p g + 1 ∧ (∀ i (hi : i < (pgsL p g d).length), i < pgCount p g → (pgsL p g d)[i] = (preadM p g d ((i : Int) + 1)).1) ∧ ∀ (hi : pgCount p g < (pgsL p g d).length), (pgsL p g d)[pgCount p g] = pgsHead (ppagesM p g) := by
  have h1 : (pgsL p g d).length = pgCount p g + 1 := by unfold pgsL; rw [List.length_append, pgsR_length]; rfl
  refine ⟨h1, fun i hi hlt => ?_, fun hi => ?_⟩
  · have e : (pgsL p g d)[i]? = some (preadM p g d ((i : Int) + 1)).1 := by
      unfold pgsL
      rw [List.getElem?_append_left (by rw [pgsR_length]; exact hlt)]
      unfold pgsR
      simp [hlt]
    rw [List.getElem?_eq_getElem hi] at e
    exact Option.some.inj e
  · have e : (pgsL p g d)[pgCount p g]? = some (pgsHead (ppagesM p g)) := by
      unfold pgsL
      rw [List.getElem?_append_right (by rw [pgsR_length]; exact Nat.le_refl _), pgsR_length]
      simp
    rw [List.getElem?_eq_getElem hi] at e
    exact Option.some.inj e
theorem pread_none (p : Pg) (g : Lg) (d : Dsk) (hn : p.now = none) (n : Int) (h : 1 ≤ n ∧ n ≤ g.head.pages) : preadM p g d n = pageM g d n g.list.length := by
  unfold preadM ppagesM
  rw [hn]
  dsimp only
  rw [if_neg (by omega)]
end
set_option maxHeartbeats 4000000 in
set_option maxRecDepth 20000 in
theorem views_any (w : World) (v1 v2 : Value) (l1 l2 : List POp) (h1 : PScript w.heap.size w v1 l1) (h2 : PScript w.heap.size w v2 l2) : Calls Tryz.prog 4 #[v1, v2] w fun e w' => e = .returned (.bool true) ∧ Below w.heap.size w w' := by
  obtain ⟨N0, hN0⟩ : ∃ N0, N0 = w.heap.size := ⟨_, rfl⟩
  rw [← hN0] at h1 h2
  have HN0 := hid hN0
  have H1 := hid h1
  have H2 := hid h2
  clear hN0 h1 h2
  go_enter Tryz.func4, Tryz.ntmps4
  go_upto_region 5 with (first
    | (go_at_call 7; refine (works_any _).mono ?_; rintro e w1 ⟨rfl, hb1⟩; have Hb1 := hid hb1; have K1 := hid (H1.out.below hb1); have K2 := hid (H2.out.below hb1); clear hb1 H1 H2)
    | (go_at_call 8; refine (heavy_any _ _ l1 K1.out.ops K1.out.len).mono ?_; rintro e w2 ⟨r1, rfl, hr1, hb2⟩; have Hr1 := hid hr1; have Hb2 := hid (Hb1.out.trans (hb2.mono Hb1.out.size)); have L1 := hid (K1.out.below hb2); have L2 := hid (K2.out.below hb2); clear hb2 K1 K2 hr1)
    | (go_at_call 8; refine (heavy_any _ _ l2 L2.out.ops L2.out.len).mono ?_; rintro e w3 ⟨r2, rfl, hr2, hb3⟩; have Hr2 := hid hr2; have Hb3 := hid (Hb2.out.trans (hb3.mono Hb2.out.size)); have T1 := hid (L1.out.below hb3); have T2 := hid (L2.out.below hb3); clear hb3 L1 L2 hr2)
    | go_in)
  · go_ret
    exact ⟨rfl, Hb2.out⟩
  · go_ret
    exact ⟨rfl, Hb3.out⟩
  have HNw := hid (show N0 ≤ w3.heap.size from by rw [HN0.out]; exact Hb3.out.size)
  have HL1 := hid (Hr1.out (by first | assumption | exact Bool.eq_false_iff.2 (by assumption))).1
  have HL2 := hid (Hr2.out (by first | assumption | exact Bool.eq_false_iff.2 (by assumption))).1
  clear Hb1 Hb2 Hr1 Hr2
  go_upto_region 6 with (first
    | (go_at_call 10; refine (mk_new _).mono ?_; rintro e w5 ⟨b, rfl, hd1⟩; have Hd1 := hid hd1; clear hd1)
    | (go_at_call 9; refine (px_fresh Hd1.out).mono ?_; rintro e w6 ⟨pb, l, rfl, hm2⟩; have Hm2 := hid hm2; clear hm2 Hd1)
    | go_in)
  go_wp2_with fail
  have hbx := heap_alloc_new w6 (.cells #[.pointer (some ⟨pb, 0, none⟩)] 25)
  have hb6 := (Below.refl w6.heap.size w6).alloc (Nat.le_refl _) (.cells #[.pointer (some ⟨pb, 0, none⟩)] 25)
  have hx6 := px_add (X' := fun k => k = w6.heap.size) Hm2.out hb6 (fun k hk => .inr (Nat.le_of_eq hk.symm)) (fun k hk => by rw [hk]; exact lt_of_block hbx)
  have hc6 : (w6.alloc (.cells #[.pointer (some ⟨pb, 0, none⟩)] 25)).cell? ⟨w6.heap.size, 0, none⟩ = some (.pointer (some ⟨pb, 0, none⟩)) := (cell_of_block hbx 0).trans rfl
  obtain ⟨W6, hW6⟩ : ∃ W6, W6 = w6.alloc (.cells #[.pointer (some ⟨pb, 0, none⟩)] 25) := ⟨_, rfl⟩
  obtain ⟨bx, hbxe⟩ : ∃ bx, bx = w6.heap.size := ⟨_, rfl⟩
  rw [← hW6, ← hbxe] at hx6 hc6
  rw [← hW6, ← hbxe]
  have CL1 := vdoes_any JFirst jfirst_st hx6 ⟨exG0_calm, rfl⟩ bx hc6 rfl T1.out HNw.out HL1.out 100 new_small (by decide)
  have Hc6 := hid hc6
  clear hbx hb6 hx6 hW6 hbxe hc6 Hm2
  refine CL1.mono ?_
  rintro e w7 ⟨rfl, s, hj, hsm, hm, hk⟩
  have hop : (prollM s.1).2.opn = 0 := by rw [roll_opn]; exact hj.2
  have hno := roll_none s.1
  obtain ⟨P1, hP1⟩ : ∃ P1, P1 = (prollM s.1).2 := ⟨_, rfl⟩
  obtain ⟨G1, hG1⟩ : ∃ G1, G1 = s.2.1 := ⟨_, rfl⟩
  obtain ⟨D1, hD1⟩ : ∃ D1, D1 = s.2.2 := ⟨_, rfl⟩
  have hcal := hj.1
  rw [← hP1] at hop hno
  rw [← hP1, ← hG1, ← hD1] at hm
  rw [← hG1, ← hD1] at hcal
  rw [← hD1] at hsm
  have c7 : w7.cell? ⟨bx, 0, none⟩ = some (.pointer (some ⟨pb, 0, none⟩)) := (World.cell?_of_block (a := ⟨bx, 0, none⟩) (hk bx rfl)).trans Hc6.out
  have VI := hid (px_view hm (by rw [hop]; decide))
  have hok1 := hm.oks.1
  have Hok1 := hid hok1
  have Hcal := hid hcal
  have Hsm := hid hsm
  have Hno := hid hno
  have Hop := hid hop
  have Hs7 := hid hm.bel.size
  have Hb7 := hid (hm.xlt bx rfl)
  clear CL1 hP1 hG1 hD1 hj hsm hm hk hcal hno hop hok1 Hc6 s
  have Hc7 := hid c7
  go_upto_region 11 with (first
    | (go_at_call 21; refine (VI.out).mono ?_; rintro e w8 ⟨vb, rfl, hm, hk, hv, hvb⟩; have Hm8 := hid hm; have HV8 := hid hv; have c8 : w8.cell? ⟨bx, 0, none⟩ = some (.pointer (some ⟨pb, 0, none⟩)) := (World.cell?_of_block (a := ⟨bx, 0, none⟩) (hk bx rfl)).trans Hc7.out; have HVB := hid (Nat.le_trans Hs7.out hvb); have HNE := hid (show bx ≠ vb from fun e => by have := Hb7.out; omega); clear hm hk hv hvb VI)
    | go_in)
  obtain ⟨Q1, hQ1⟩ : ∃ Q1 : Pg, Q1 = { P1 with opn := P1.opn + 1 } := ⟨_, rfl⟩
  have hm8 := Hm8.out
  rw [← hQ1] at hm8
  have hqn : Q1.now = none := by rw [hQ1]; exact Hno.out
  have hqo : Q1.opn = 1 := by rw [hQ1]; show P1.opn + 1 = 1; rw [Hop.out]; rfl
  have PG1 := hid (v_pages hm8 Hcal.out)
  have Hqn := hid hqn
  have Hqo := hid hqo
  have Hc8 := hid c8
  clear hQ1 hm8 hqn hqo Hm8 Hno Hop c7 Hc7
  go_upto_region 14 with (first
    | (go_at_call 15; refine (PG1.out).mono ?_; rintro e w9 ⟨u, rfl, hr, hm, hk⟩; have HR9 := hid hr; have Hm9 := hid hm; have HV9 := hid (vwat_keep HV8.out (hk vb (.inr rfl))); have Hc9 := hid ((World.cell?_of_block (a := ⟨bx, 0, none⟩) (hk bx (.inl rfl))).trans Hc8.out); clear hr hm hk PG1 HV8 Hc8)
    | go_in)
  clear c8
  have CL2 := vdoes_any (JThen G1 D1) (jthen_st G1 D1) Hm9.out ⟨Hcal.out, Hqo.out, Held.refl _ _⟩ bx Hc9.out (.inl (.inl rfl)) T2.out HNw.out HL2.out (100 + 1200000000) Hsm.out (by decide)
  replace CL2 := hid CL2
  go_wp2_with fail
  refine CL2.out.mono ?_
  rintro e w10 ⟨rfl, s, hj, hsm, hm, hk⟩
  have hop : (prollM s.1).2.opn = 1 := by rw [roll_opn]; exact hj.2.1
  have hno := roll_none s.1
  have hcal := hj.1
  have hheld := hj.2.2
  obtain ⟨P2, hP2⟩ : ∃ P2, P2 = (prollM s.1).2 := ⟨_, rfl⟩
  obtain ⟨G2, hG2⟩ : ∃ G2, G2 = s.2.1 := ⟨_, rfl⟩
  obtain ⟨D2, hD2⟩ : ∃ D2, D2 = s.2.2 := ⟨_, rfl⟩
  rw [← hP2] at hop hno
  rw [← hP2, ← hG2, ← hD2] at hm
  rw [← hG2, ← hD2] at hcal hheld
  rw [← hD2] at hsm
  have c10 : w10.cell? ⟨bx, 0, none⟩ = some (.pointer (some ⟨pb, 0, none⟩)) := (World.cell?_of_block (a := ⟨bx, 0, none⟩) (hk bx (.inl (.inl rfl)))).trans Hc9.out
  have HV10 := hid (vwat_keep HV9.out (hk vb (.inl (.inr rfl))))
  have hrow := HR9.out.keep (W' := w10) (fun k hk1 => hk k (.inr hk1))
  have hck : pcheckM P2 G2 D2 = (9, G2, D2) := by unfold pcheckM; rw [if_pos (.inr (by rw [hop]; decide))]
  have Hc10 := hid c10
  -- the row, written out
  obtain ⟨gl1, gl2, gl3⟩ := pgsL_get Q1 G1 D1 Hqn.out
  obtain ⟨q, cap, rfl, hcap, hcap2, hq, hcells⟩ := strRow_form hrow (by rw [gl1]; omega)
  have hP1 : 0 ≤ G1.head.pages ∧ G1.head.pages ≤ 256 := Hok1.out.pages
  have hpp : ppagesM Q1 G1 = G1.head.pages := by unfold ppagesM; rw [Hqn.out]
  obtain ⟨c, hc⟩ : ∃ c, c = pgCount Q1 G1 := ⟨_, rfl⟩
  have hc30 : c ≤ 30 ∧ (c : Int) ≤ G1.head.pages := by rw [hc]; unfold pgCount; rw [hpp]; omega
  rw [← hc] at gl1 gl2 gl3
  have hm := hm.to (X' := fun k => (k = bx ∨ k = vb) ∨ k = q) (fun k hk => hk.imp id (fun e => by rw [e]; rfl))
  have CK1 := px_check hm _ hsm (by decide)
  rw [hck] at CK1
  replace CK1 := hid CK1
  obtain ⟨m, hm1⟩ : ∃ m, m = (pgsL Q1 G1 D1).length := ⟨_, rfl⟩
  rw [← hm1] at hcap gl1 ⊢
  have HC1 := hid (show ∀ i (hi : i < c), w10.cell? ⟨q, i, none⟩ = some (.string (bs (pageM G2 D2 ((i : Int) + 1) G1.list.length).1)) ∧ (pageM G2 D2 ((i : Int) + 1) G1.list.length).2 = 0 from fun i hi => by
    have e1 := hcells i (by omega)
    rw [gl2 i (by omega) hi, pread_none Q1 G1 D1 Hqn.out _ (by omega)] at e1
    have e2 : ((i : Int) + 1) = ((i + 1 : Nat) : Int) := by omega
    have e3 := held_page Hcal.out hcal hheld (i + 1) (by omega) (by omega)
    have e4 := calm_page Hcal.out ((i : Int) + 1) (by omega)
    rw [e2] at e1 e4 ⊢
    rw [e3]
    exact ⟨e1, e4⟩)
  have HC2 := hid (show w10.cell? ⟨q, c, none⟩ = some (.string (bs (pgsHead G1.head.pages))) from by
    have e1 := hcells c (by omega)
    rw [gl3 (by omega), hpp] at e1
    exact e1)
  obtain ⟨Pn, hPn⟩ : ∃ Pn : Nat, G1.head.pages = (Pn : Int) := ⟨G1.head.pages.toNat, by omega⟩
  rw [hPn] at HC2 HV10 hc30
  obtain ⟨mk, hmk⟩ : ∃ mk : Int, mk = (G1.list.length : Int) := ⟨_, rfl⟩
  rw [← hmk] at HC1 HV10
  have Hop2 := hid hop
  have Hno2 := hid hno
  have Hcal2 := hid hcal
  have Hok2 := hid hm.oks.1
  have Hsm2 := hid hsm
  have Hq := hid hq
  have hPn256 : Pn ≤ 256 := by omega
  have hmi : IntKind.i64.wrap ((m : Int) - 1) = (c : Int) := by rw [gl1, IntWalk.i64_in _ (by omega)]; omega
  have hm0 : (m : Int) ≤ (cap : Int) := by omega
  have hcm : (c : Int) ≤ (cap : Int) := by omega
  have hcm2 : c ≤ cap := by omega
  have hcm3 : (c : Int) < (m : Int) := by omega
  have hcm4 : c < m := by omega
  clear hj hsm hm hk hop hno hcal hheld hck hrow hcells gl1 gl2 gl3 hc hm1 hpp hP1 hPn hmk hP2 hG2 hD2 s CL2 Hm9 HV9 HR9 Hc9 Hcal Hok1 Hsm Hqn Hqo hcap hcap2 hq
  go_upto_region 17 with (first
    | (go_at_call 22; refine (CK1.out).mono ?_; rintro e w11 ⟨rfl, hm, hk⟩; have Hm11 := hid hm; have HV11 := hid (vwat_keep HV10.out (hk vb (.inl (.inr rfl)))); have Hc11 := hid ((World.cell?_of_block (a := ⟨bx, 0, none⟩) (hk bx (.inl (.inl rfl)))).trans Hc10.out); have Hk11 := hid (hk q (.inr rfl)); have Hq11 := hid (hm.xlt q (.inr rfl)); clear hm hk CK1 HV10 Hc10)
    | go_in)
  clear c10
  go_wp2_with fail
  go_loopw [63] (fun v63 wr => ∃ i : Nat, i ≤ c ∧ v63 = .int .i64 (i : Int) ∧ Below w11.heap.size w11 wr) (fun v63 _ => c - (intOf v63).toNat)
  case atStart => exact ⟨0, Nat.zero_le _, rfl, Below.refl _ _⟩
  case round =>
    obtain ⟨i, hi, rfl, hbw⟩ := hrel
    have HBw := hid hbw
    have hvr := vwat_keep HV11.out (hbw.block vb (Hm11.out.xlt vb (.inl (.inr rfl))))
    have hmr := Hm11.out.below hbw
    have hqr : q < wr.heap.size := Nat.lt_of_lt_of_le Hq11.out hbw.size
    have hkq : ∀ i, wr.cell? ⟨q, i, none⟩ = w10.cell? ⟨q, i, none⟩ := fun i => World.cell?_of_block (a := ⟨q, i, none⟩) ((hbw.block q Hq11.out).trans Hk11.out)
    have Hkq := hid hkq
    have Hvr := hid hvr
    have Hmr := hid hmr
    clear hkq hbw hvr hmr
    by_cases hlt : i < c
    · have hlt1 : (i : Int) < (c : Int) := by omega
      have hcell := (Hkq.out i).trans (HC1.out i hlt).1
      have he0 := (HC1.out i hlt).2
      have VR := vread_any Hmr.out Hvr.out ((i : Int) + 1)
      rw [if_neg (by omega), he0] at VR
      obtain ⟨s, hs⟩ : ∃ s, s = (pageM G2 D2 ((i : Int) + 1) mk).1 := ⟨_, rfl⟩
      rw [← hs] at VR hcell
      replace VR := hid VR
      have hss : (s != s) = false := by simp
      clear hs he0
      go_wp2_with (first
        | (go_at_call 23; refine (VR.out).mono ?_; rintro e w12 ⟨rfl, hb⟩; have HB12 := hid (HBw.out.trans (hb.mono HBw.out.size)); clear hb)
        | go_in)
      go_roundw
      case rel => exact ⟨i + 1, hlt, by simp, HB12.out⟩
      case measure => (simp [intOf]) <;> omega
    · obtain rfl : c = i := by omega
      have hconv : (convert 52 9 (.slice (some ⟨wr.heap.size, 0, none⟩) 2 2)).run Tryz.prog (wr.alloc (.cells #[.int .u8 ((Pn : Int) / 256), .int .u8 ((Pn : Int) % 256)] 5)) = .ok (.string (bs (pgsHead (Pn : Int)))) (wr.alloc (.cells #[.int .u8 ((Pn : Int) / 256), .int .u8 ((Pn : Int) % 256)] 5)) := by
        have h := run_convert_cells (P := Tryz.prog) (wr.alloc (.cells #[.int .u8 ((Pn : Int) / 256), .int .u8 ((Pn : Int) % 256)] 5)) 52 9 5 Tryz.underlying52 Tryz.underlying5 Tryz.underlying9 wr.heap.size 0 2 2 [(Pn : Int) / 256, (Pn : Int) % 256] rfl (fun i hi => by
          rw [cell_of_block (heap_alloc_new wr _)]
          match i, hi with
          | 0, _ => rfl
          | 1, _ => rfl)
        exact h
      have hcell := (Hkq.out c).trans HC2.out
      obtain ⟨S0, hS0⟩ : ∃ S0, S0 = pgsHead (Pn : Int) := ⟨_, rfl⟩
      rw [← hS0] at hconv hcell
      have hss : (S0 == S0) = true := by simp
      have VP := hid (vpages_any Hvr.out)
      have hb1 := (Below.refl wr.heap.size wr).alloc (Nat.le_refl _) (.cells #[.int .u8 ((Pn : Int) / 256), .int .u8 ((Pn : Int) % 256)] 5)
      have hm1 := Hmr.out.below hb1
      have hv1 := vwat_keep Hvr.out (hb1.block vb (Hmr.out.xlt vb (.inl (.inr rfl))))
      have VC := hid (vclose_any hm1 (.inl (.inr rfl)) HVB.out hv1 (by rw [Hop2.out]; decide))
      have hbxr : (wr.alloc (.cells #[.int .u8 ((Pn : Int) / 256), .int .u8 ((Pn : Int) % 256)] 5)).cell? ⟨bx, 0, none⟩ = some (.pointer (some ⟨pb, 0, none⟩)) := (World.cell?_of_block (a := ⟨bx, 0, none⟩) (hb1.block bx (Hmr.out.xlt bx (.inl (.inl rfl))))).trans ((World.cell?_of_block (a := ⟨bx, 0, none⟩) (HBw.out.block bx (Hm11.out.xlt bx (.inl (.inl rfl))))).trans Hc11.out)
      have Hbxr := hid hbxr
      have hck : pcheckM { P2 with opn := P2.opn - 1 } G2 D2 = lcheckM G2 D2 := by
        unfold pcheckM
        rw [if_neg (by rw [Hop2.out, Hno2.out]; simp)]
      have hck0 := (check_calm Hcal2.out Hok2.out).1
      have Hck := hid hck
      have Hck0 := hid hck0
      clear hS0 hb1 hm1 hv1 hbxr hck hck0
      go_wp2_with (first
        | (go_at_call 24; refine (VP.out).mono ?_; rintro e w12 ⟨rfl, hw⟩; obtain rfl := hw.symm; simp only [Bool.false_eq_true, if_false]; clear hw)
        | (go_at_call 25; refine (VC.out).mono ?_; rintro e w13 ⟨rfl, hm, hk, hv⟩; have c13 : w13.cell? ⟨bx, 0, none⟩ = some (.pointer (some ⟨pb, 0, none⟩)) := (World.cell?_of_block (a := ⟨bx, 0, none⟩) (hk bx (.inl (.inl rfl)) HNE.out)).trans Hbxr.out; have CK2 := px_check hm _ Hsm2.out (by decide); rw [Hck.out, Hck0.out] at CK2; replace CK2 := hid CK2; clear hm hk hv VC)
        | (go_at_call 22; refine (CK2.out).mono ?_; rintro e w14 ⟨rfl, hm, hk⟩; have Hm14 := hid hm; clear hm hk CK2)
        | go_in)
      go_ret
      exact ⟨rfl, Hb3.out.trans (Hm14.out.bel.mono Hb3.out.size)⟩
end Go.Proofs.YtmajfepbbeecjaaGreat
