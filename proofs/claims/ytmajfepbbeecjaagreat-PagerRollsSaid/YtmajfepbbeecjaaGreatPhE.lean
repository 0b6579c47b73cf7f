/- The law PagerRolls. -/
import Derived.Test.YtmajfepbbeecjaaGreatPhD
namespace Go.Proofs.YtmajfepbbeecjaaGreat
open Go.RowKit Go.Maps
set_option linter.unusedVariables false
set_option linter.unusedSimpArgs false
set_option maxRecDepth 20000

def rP1 : Pg := (beginM p0 exG0).2
def rP2 : Pg := (presizeM rP1 3).2
theorem rl_resize : (presizeM rP1 3).1 = 0 := rfl
theorem rP2_has : HasPage rP2 := by
  refine ⟨by simp [rP2, rP1, beginM, presizeM, p0], fun t ht => ?_, fun t ht => ?_⟩
  · have : t = ⟨3, fun k => if 3 < k then none else if exG0.head.pages < k then some (zeros 512) else none⟩ := by
      have e : rP2.now = some ⟨3, fun k => if 3 < k then none else if exG0.head.pages < k then some (zeros 512) else none⟩ := rfl
      rw [e] at ht
      exact (Option.some.inj ht).symm
    subst this
    exact ⟨by decide, rfl⟩
  · have e : rP2.saves = [] := rfl
    rw [e] at ht
    cases ht
theorem rP2_opn : rP2.opn = 0 := rfl
attribute [local irreducible] rP1 rP2 exG0 pgsL
/-- What is known of the first commit. -/
structure RollC (C : Int × Pg × Lg × Dsk) : Prop where
  e : C.1 = 0 ∨ C.1 = 8
  pg : C.2.1 = p0
  calm : LgCalm C.2.2.1 C.2.2.2
theorem trOk_has {p : Pg} (hp : HasPage p) (hok : p.Ok) : ∃ t, p.now = some t ∧ t.Ok ∧ 1 ≤ t.pages ∧ trImgs t ≠ [] ∧ keysOf t.wr ≠ [] := by
  obtain ⟨h1, h2, -⟩ := hp
  obtain ⟨t, ht⟩ := Option.ne_none_iff_exists'.1 h1
  have hh := h2 t ht
  refine ⟨t, ht, hok.now t ht, hh.1, trImgs_some (by omega) hh.2, fun e => ?_⟩
  have := keysOf_mem.2 ⟨(by omega : (1 : Int) ≤ 1 ∧ (1 : Int) ≤ 256), hh.2⟩
  rw [e] at this
  cases this
theorem ex_okg : exG0.Ok := by
  unfold exG0
  exact ⟨by unfold HdWf; decide, by decide, by decide, by unfold PairWf startP; decide +kernel, by decide, fun f hf => by cases hf⟩
theorem rollC_of {p : Pg} (hp : HasPage p) (hok : p.Ok) (ho : p.opn = 0) : RollC (pcommitM p exG0 newM) := by
  obtain ⟨t, ht, htok, h1, h2, h3⟩ := trOk_has hp hok
  have hl : exG0.list = [] := by unfold exG0; rfl
  refine ⟨.inl ?_, ?_, commit_calm exG0_calm ex_okg p⟩
  · unfold pcommitM
    rw [ht]
    dsimp only
    rw [if_neg h3]
    exact putM_done exG0_calm ex_okg htok h1 h2 hl p
  · rw [commit_pg p _ _ (by rw [ht]; simp)]
    unfold emptied p0
    rw [ho]
section
variable {w W W' : World} {pb l b : Nat} {p p' : Pg} {g g' : Lg} {d d' : Dsk} {X X' : Nat → Prop}
theorem r_begin0 (h : PgX w W pb l b p0 exG0 newM X) : Calls Tryz.prog 11 #[.pointer (some ⟨pb, 0, none⟩)] W fun e w' => e = .returned (.int .i64 0) ∧ PgX w w' pb l b rP1 exG0 newM X := by
  have A := px_begin h
  rw [wk_begin] at A
  unfold rP1
  exact A.mono fun e w' hh => ⟨hh.1, hh.2.1⟩
theorem r_resize0 (h : PgX w W pb l b rP1 exG0 newM X) : Calls Tryz.prog 12 #[.pointer (some ⟨pb, 0, none⟩), .int .i64 3] W fun e w' => e = .returned (.int .i64 0) ∧ PgX w w' pb l b rP2 exG0 newM X := by
  have A := px_resize h 3 (by decide)
  rw [rl_resize] at A
  unfold rP2
  exact A.mono fun e w' hh => ⟨hh.1, hh.2.1⟩
theorem r_begin (h : PgX w W pb l b p0 g d X) : Calls Tryz.prog 11 #[.pointer (some ⟨pb, 0, none⟩)] W fun e w' => e = .returned (.int .i64 0) ∧ PgX w w' pb l b (beginM p0 g).2 g d X ∧ ∀ k, X k → w'.heap[k]? = W.heap[k]? := px_begin h
/-- Rows of pages, laid beside what there is. -/
theorem r_pages (h : PgX w W pb l b p g d X) (hc : LgCalm g d) : Calls Tryz.prog 15 #[.pointer (some ⟨pb, 0, none⟩)] W fun e w' => ∃ v, e = .returned (.tuple #[v, .bool true]) ∧ StrRow w' W.heap.size v (pgsL p g d) ∧ PgX w w' pb l b p g d (fun k => X k ∨ v.ownBlock = some k) ∧ ∀ k, X k → w'.heap[k]? = W.heap[k]? := by
  refine (lpages_any h (pgsOk_calm hc (ppages_range h).2)).mono ?_
  rintro e w' ⟨v, rfl, hr, hb⟩
  exact ⟨v, rfl, hr, px_add h hb (fun k hk => hk.imp id fun e => (row_base hr e).1) (fun k hk => hk.elim (fun e => Nat.lt_of_lt_of_le (h.xlt k e) hb.size) (fun e => (row_base hr e).2)), fun k hk => hb.block k (h.xlt k hk)⟩
theorem r_inside {w0 : Nat} {v : Value} {ops : List POp} (h : PgX w W pb l b p g d X) (hs : PScript w0 w v ops) (hw0 : w0 ≤ w.heap.size) (least : Int) : Calls Tryz.prog 13 #[.pointer (some ⟨pb, 0, none⟩), v, .int .i64 least] W fun e w' => e = .returned (.tuple #[]) ∧ PgX w w' pb l b (insideM ops least p) g d X ∧ ∀ k, X k → w'.heap[k]? = W.heap[k]? :=
  inside_any h v ops least ((hs.below h.bel).ops.mono fun k hk hb => .inl (Nat.lt_of_lt_of_le hb hw0)) hs.len hs.n64
theorem r_equal {b1 b2 : Nat} {v1 v2 : Value} {l1 l2 : List (List UInt8)} (h1 : StrRow W b1 v1 l1) (h2 : StrRow W b2 v2 l2) (he : l1 = l2) (hl : l1.length ≤ 1000) :
    Calls Tryz.prog 18 #[v1, v2] W fun e w' => e = .returned (.bool true) ∧ Below W.heap.size W w' := str_equal h1 (he ▸ h2) hl
end
set_option maxHeartbeats 4000000 in
set_option maxRecDepth 20000 in
theorem rolls_any (w : World) (v1 v2 v3 : Value) (l1 l2 l3 : List POp) (h1 : PScript w.heap.size w v1 l1) (h2 : PScript w.heap.size w v2 l2) (h3 : PScript w.heap.size w v3 l3) : Calls Tryz.prog 3 #[v1, v2, v3] w fun e w' => e = .returned (.bool true) ∧ Below w.heap.size w w' := by
  obtain ⟨N0, hN0⟩ : ∃ N0, N0 = w.heap.size := ⟨_, rfl⟩
  rw [← hN0] at h1 h2 h3
  have HN0 := hid hN0
  have H1 := hid h1
  have H2 := hid h2
  have H3 := hid h3
  clear hN0 h1 h2 h3
  go_enter Tryz.func3, Tryz.ntmps3
  go_upto_region 5 with (first
    | (go_at_call 7; refine (works_any _).mono ?_; rintro e w1 ⟨rfl, hb1⟩; have Hb1 := hid hb1; have K1 := hid (H1.out.below hb1); have K2 := hid (H2.out.below hb1); have K3 := hid (H3.out.below hb1); clear hb1 H1 H2 H3)
    | (go_at_call 8; refine (heavy_any _ _ l1 K1.out.ops K1.out.len).mono ?_; rintro e w2 ⟨r1, rfl, -, hb2⟩; have Hb2 := hid (Hb1.out.trans (hb2.mono Hb1.out.size)); have L1 := hid (K1.out.below hb2); have L2 := hid (K2.out.below hb2); have L3 := hid (K3.out.below hb2); clear hb2 K1 K2 K3)
    | (go_at_call 8; refine (heavy_any _ _ l2 L2.out.ops L2.out.len).mono ?_; rintro e w3 ⟨r2, rfl, -, hb3⟩; have Hb3 := hid (Hb2.out.trans (hb3.mono Hb2.out.size)); have M1 := hid (L1.out.below hb3); have M2 := hid (L2.out.below hb3); have M3 := hid (L3.out.below hb3); clear hb3 L1 L2 L3)
    | (go_at_call 8; refine (heavy_any _ _ l3 M3.out.ops M3.out.len).mono ?_; rintro e w4 ⟨r3, rfl, -, hb4⟩; have Hb4 := hid (Hb3.out.trans (hb4.mono Hb3.out.size)); have T1 := hid (M1.out.below hb4); have T2 := hid (M2.out.below hb4); have T3 := hid (M3.out.below hb4); clear hb4 M1 M2 M3)
    | go_in)
  · go_ret
    exact ⟨rfl, Hb2.out⟩
  · go_ret
    exact ⟨rfl, Hb3.out⟩
  · go_ret
    exact ⟨rfl, Hb4.out⟩
  have HNw := hid (show N0 ≤ w4.heap.size from by rw [HN0.out]; exact Hb4.out.size)
  clear Hb1 Hb2 Hb3
  go_upto_region 8 with (first
    | (go_at_call 10; refine (mk_new _).mono ?_; rintro e w5 ⟨b, rfl, hd1⟩; have Hd1 := hid hd1; clear hd1)
    | (go_at_call 9; refine (px_fresh Hd1.out).mono ?_; rintro e w6 ⟨pb, l, rfl, hm2⟩; have Hm2 := hid hm2; clear hm2 Hd1)
    | (go_at_call 11; refine (r_begin0 Hm2.out).mono ?_; rintro e w7 ⟨rfl, hm3⟩; have Hm3 := hid hm3; clear hm3 Hm2)
    | (go_at_call 12; refine (r_resize0 Hm3.out).mono ?_; rintro e w8 ⟨rfl, hm4⟩; have Hm4 := hid hm4; clear hm4 Hm3)
    | go_in)
  obtain ⟨P3, hP3⟩ : ∃ P3, P3 = insideM l1 0 rP2 := ⟨_, rfl⟩
  have hhas : HasPage P3 := by rw [hP3]; exact insideM_has 0 l1 rP2 rP2_has
  have hopn : P3.opn = 0 := by rw [hP3, insideM_opn]; exact rP2_opn
  have IN1 := r_inside Hm4.out T1.out HNw.out 0
  rw [← hP3] at IN1
  have IN1 := IN1.mono (R' := fun e w' => e = .returned (.tuple #[]) ∧ PgX w4 w' pb l b P3 exG0 newM (fun _ => False)) (fun e w' hh => ⟨hh.1, hh.2.1.to (fun k hk => hk.elim)⟩)
  replace IN1 := hid IN1
  have Hhas := hid hhas
  have Hopn := hid hopn
  clear hP3 hhas hopn Hm4
  go_upto_region 10 with (first
    | (go_at_call 13; refine (IN1.out).mono ?_; rintro e w9 ⟨rfl, hm5⟩; have Hm5 := hid hm5; have HC := hid (rollC_of Hhas.out hm5.ok Hopn.out); have CM := hid (px_commit hm5 100 new_small (by decide)); clear hm5 IN1)
    | (go_at_call 14; refine (CM.out).mono ?_; rintro e w10 ⟨rfl, hm6, -⟩; have Hm6 := hid hm6; clear hm6 CM Hm5)
    | go_in)
  obtain ⟨C, hC⟩ : ∃ C, C = pcommitM P3 exG0 newM := ⟨_, rfl⟩
  have hm6 := Hm6.out
  have hc := HC.out
  rw [← hC] at hm6 hc ⊢
  rw [hc.pg] at hm6
  replace Hm6 := hid hm6
  replace HC := hid hc
  clear hm6 hc hC Hhas Hopn
  by_cases hc0 : C.1 = 0
  rotate_left
  · have hc1 : (C.1 != 0) = true := by simp [hc0]
    have hc8 : (C.1 == 8) = true := by have := HC.out.e.resolve_left hc0; simp [this]
    clear hc0
    go_wp2_with fail
    go_ret
    exact ⟨rfl, Hb4.out.trans (Hm6.out.bel.mono Hb4.out.size)⟩
  have hc1 : (C.1 != 0) = false := by simp [hc0]
  clear hc0
  obtain ⟨g, hg⟩ : ∃ g, g = C.2.2.1 := ⟨_, rfl⟩
  obtain ⟨d, hd⟩ : ∃ d, d = C.2.2.2 := ⟨_, rfl⟩
  have hm6 := Hm6.out
  have hc := HC.out.calm
  rw [← hg, ← hd] at hm6 hc
  have PG1 := hid (r_pages hm6 hc)
  have Hcalm := hid hc
  clear hg hd hc hm6 Hm6 HC
  -- committed
  go_upto_region 15 with (first
    | (go_at_call 15; refine (PG1.out).mono ?_; rintro e w11 ⟨u1, rfl, hr, hm, -⟩; have HR1 := hid hr; have Hm7 := hid hm; clear hr hm PG1)
    | (go_at_call 11; refine (r_begin Hm7.out).mono ?_; rintro e w12 ⟨rfl, hm, hk⟩; have HR1b := hid (HR1.out.keep (W' := w12) (fun k hk1 => hk k (.inr hk1))); have Hm8 := hid hm; clear hm hk Hm7 HR1)
    | go_in)
  obtain ⟨P5, hP5⟩ : ∃ P5, P5 = (beginM p0 g).2 := ⟨_, rfl⟩
  have hn5 : P5.now ≠ none := by rw [hP5]; simp [beginM, p0]
  have ho5 : P5.opn = 0 := by rw [hP5]; rfl
  have hm8 := Hm8.out
  rw [← hP5] at hm8
  obtain ⟨P6, hP6⟩ : ∃ P6, P6 = insideM l2 0 P5 := ⟨_, rfl⟩
  have hn6 : P6.now ≠ none := by rw [hP6]; exact insideM_now 0 l2 P5 hn5
  have ho6 : P6.opn = 0 := by rw [hP6, insideM_opn]; exact ho5
  have IN2 := r_inside hm8 T2.out HNw.out 0
  rw [← hP6] at IN2
  replace IN2 := hid IN2
  have HR1c := hid HR1b.out
  have Hn6 := hid hn6
  have Ho6 := hid ho6
  clear hm8 Hm8 hP5 hn5 ho5 hP6 hn6 ho6
  go_upto_region 17 with (first
    | (go_at_call 13; refine (IN2.out).mono ?_; rintro e w13 ⟨rfl, hm, hk⟩; have HR1d := hid (HR1c.out.keep (W' := w13) (fun k hk1 => hk k (.inr hk1))); have PG2 := hid (r_pages hm Hcalm.out); clear hm hk HR1c IN2)
    | (go_at_call 15; refine (PG2.out).mono ?_; rintro e w14 ⟨u2, rfl, hr, hm, hk⟩; have HR2 := hid hr; have HR1e := hid (HR1d.out.keep (W' := w14) (fun k hk1 => hk k (.inr hk1))); have Hm9 := hid hm; clear hr hm hk HR1d PG2)
    | go_in)
  obtain ⟨t6, ht6⟩ := Option.ne_none_iff_exists'.1 Hn6.out
  have hm9 := Hm9.out.to (X' := fun k => u1.ownBlock = some k ∨ u2.ownBlock = some k) (fun k hk => hk.elim (fun e => .inl (.inr e)) .inr)
  have SV := px_save hm9
  by_cases h64 : P6.saves.length = 64
  · have e1 : psaveM P6 = (0, 8, P6) := by unfold psaveM; rw [ht6]; dsimp only; rw [if_pos h64]
    rw [e1] at SV
    replace SV := hid SV
    have Hb9 := hid (Hb4.out.trans (Hm9.out.bel.mono Hb4.out.size))
    clear hm9 h64 e1 ht6
    go_wp2_with (first
      | (go_at_call 16; refine (SV.out).mono ?_; rintro e w15 ⟨rfl, hm, -⟩; have Hm10 := hid hm; clear hm SV)
      | go_in)
    go_ret
    exact ⟨rfl, Hb4.out.trans (Hm10.out.bel.mono Hb4.out.size)⟩
  obtain ⟨P7, hP7⟩ : ∃ P7 : Pg, P7 = { P6 with saves := P6.saves ++ [t6] } := ⟨_, rfl⟩
  have e1 : psaveM P6 = ((P6.saves.length : Int) + 1, 0, P7) := by unfold psaveM; rw [ht6, hP7]; dsimp only; rw [if_neg h64, ht6]
  rw [e1] at SV
  have hlen : P6.saves.length ≤ 64 := hm9.ok.many
  obtain ⟨P8, hP8⟩ : ∃ P8 : Pg, P8 = insideM l3 ((P6.saves.length : Int) + 1) P7 := ⟨_, rfl⟩
  have hu8 : Under (P6.saves.length + 1) P7 P8 := by
    rw [hP8]
    have := insideM_under (P6.saves.length + 1) l3 P7 (by rw [hP7]; simp)
    exact this
  have hback : pbackM P8 ((P6.saves.length : Int) + 1) = (0, P7) := by
    have hu := hu8
    rw [hP7] at hu
    have := back_there ht6 hu
    rw [this, hP7]
  have hnow8 : P8.now ≠ none := hu8.now (by rw [hP7]; simp [ht6])
  have hroll : prollM P8 = (0, ⟨none, [], P8.opn⟩) := by
    obtain ⟨t8, ht8⟩ := Option.ne_none_iff_exists'.1 hnow8
    unfold prollM
    rw [ht8]
  have heq1 : pgsL P7 g d = pgsL P6 g d := pgsL_now (by rw [hP7])
  have heq2 : pgsL ⟨none, [], P8.opn⟩ g d = pgsL p0 g d := pgsL_now rfl
  obtain ⟨kk, hkk⟩ : ∃ kk : Int, kk = (P6.saves.length : Int) + 1 := ⟨_, rfl⟩
  have hkr : in64 kk := by unfold in64; omega
  rw [← hkk] at SV hback hP8
  replace SV := hid SV
  have HP8 := hid hP8
  have Hback := hid hback
  have Hroll := hid hroll
  have Heq1 := hid heq1
  have Heq2 := hid heq2
  have Hkr := hid hkr
  have HR1f := hid HR1e.out
  have HR2f := hid HR2.out
  clear hm9 h64 e1 ht6 hP7 hP8 hu8 hback hnow8 hroll heq1 heq2 hkk hkr hlen Hm9 HR1e HR2
  go_upto_region 24 with (first
    | (go_at_call 16; refine (SV.out).mono ?_; rintro e w15 ⟨rfl, hm, hk⟩; have Q1 := hid (HR1f.out.keep (W' := w15) (fun k hk1 => hk k (.inl hk1))); have Q2 := hid (HR2f.out.keep (W' := w15) (fun k hk1 => hk k (.inr hk1))); have IN3 := r_inside hm T3.out HNw.out kk; rw [← HP8.out] at IN3; replace IN3 := hid IN3; clear hm hk SV HR1f HR2f)
    | (go_at_call 13; refine (IN3.out).mono ?_; rintro e w16 ⟨rfl, hm, hk⟩; have R1 := hid (Q1.out.keep (W' := w16) (fun k hk1 => hk k (.inl hk1))); have R2 := hid (Q2.out.keep (W' := w16) (fun k hk1 => hk k (.inr hk1))); have BK := px_back hm kk Hkr.out; rw [Hback.out] at BK; replace BK := hid BK; clear hm hk IN3 Q1 Q2)
    | (go_at_call 17; refine (BK.out).mono ?_; rintro e w17 ⟨rfl, hm, hk⟩; have S1 := hid (R1.out.keep (W' := w17) (fun k hk1 => hk k (.inl hk1))); have S2 := hid (R2.out.keep (W' := w17) (fun k hk1 => hk k (.inr hk1))); have PG3 := hid (r_pages hm Hcalm.out); clear hm hk BK R1 R2)
    | (go_at_call 15; refine (PG3.out).mono ?_; rintro e w18 ⟨u3, rfl, hr, hm, hk⟩; have U3 := hid hr; have U1 := hid (S1.out.keep (W' := w18) (fun k hk1 => hk k (.inl hk1))); have U2 := hid (S2.out.keep (W' := w18) (fun k hk1 => hk k (.inr hk1))); have Hm11 := hid hm; clear hr hm hk PG3 S1 S2)
    | go_in)
  have EQ1 := hid (r_equal U3.out U2.out Heq1.out (Nat.le_trans (pgsL_length _ _ _) (by decide)))
  go_upto_region 30 with (first
    | (go_at_call 18; refine (EQ1.out).mono ?_; rintro e w19 ⟨rfl, hb⟩; have V1 := hid (U1.out.keep (W' := w19) (fun k hk1 => hb.block k (row_base U1.out hk1).2)); have IN4 := r_inside ((Hm11.out.below hb).to (X' := fun k => u1.ownBlock = some k) (fun k hk => .inl (.inl hk))) T3.out HNw.out kk; rw [← HP8.out] at IN4; replace IN4 := hid IN4; clear hb EQ1 U1 U2 U3)
    | (go_at_call 13; refine (IN4.out).mono ?_; rintro e w20 ⟨rfl, hm, hk⟩; have Y1 := hid (V1.out.keep (W' := w20) (fun k hk1 => hk k hk1)); have RO := px_roll hm; rw [Hroll.out] at RO; replace RO := hid RO; clear hm hk IN4 V1)
    | (go_at_call 19; refine (RO.out).mono ?_; rintro e w21 ⟨rfl, hm, hk⟩; have Z1 := hid (Y1.out.keep (W' := w21) (fun k hk1 => hk k hk1)); have PG4 := hid (r_pages hm Hcalm.out); clear hm hk RO Y1)
    | (go_at_call 15; refine (PG4.out).mono ?_; rintro e w22 ⟨u4, rfl, hr, hm, hk⟩; have A4 := hid hr; have A1 := hid (Z1.out.keep (W' := w22) (fun k hk1 => hk k hk1)); have Hm12 := hid hm; clear hr hm hk PG4 Z1)
    | go_in)
  have EQ2 := hid (r_equal A4.out A1.out Heq2.out (Nat.le_trans (pgsL_length _ _ _) (by decide)))
  go_wp2_with (first
    | (go_at_call 18; refine (EQ2.out).mono ?_; rintro e w23 ⟨rfl, hb⟩; have Hm13 := hid (Hm12.out.below hb); clear hb EQ2)
    | go_in)
  go_ret
  exact ⟨rfl, Hb4.out.trans (Hm13.out.bel.mono Hb4.out.size)⟩
end Go.Proofs.YtmajfepbbeecjaaGreat
