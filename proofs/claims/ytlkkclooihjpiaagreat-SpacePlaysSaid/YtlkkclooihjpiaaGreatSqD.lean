/- Plain laws: a checkpoint on a disk that may fail; what is opened behind a crash; what is read. -/
import Derived.Test.YtlkkclooihjpiaaGreatSqC
set_option linter.unusedVariables false
set_option linter.unusedSimpArgs false
namespace Go.Proofs.YtlkkclooihjpiaaGreat
open Go.RowKit Go.Maps
set_option maxRecDepth 20000
section
variable {g g' : Lg} {d d' : Dsk} {c : Cand} {L L' M : List (List UInt8)} {S S' : List (List UInt8) → Prop} {k a n m : Nat} {s : List UInt8}
theorem steps_split : ∀ (A R : List LgM) (g : Lg) (d : Dsk), lstepsM (A ++ R) g d = if (lstepsM A g d).1 ≠ 0 then lstepsM A g d else lstepsM R (lstepsM A g d).2.1 (lstepsM A g d).2.2
 | [], R, g, d => by
  show lstepsM R g d = if (0 : Int) ≠ 0 then _ else lstepsM R g d
  rw [if_neg (by decide)]
 | x :: A, R, g, d => by
  by_cases h : (x g d).1 = 0
  ·rw [List.cons_append, steps_done h, steps_done h]
   exact steps_split A R _ _
  ·rw [List.cons_append, steps_fail h, steps_fail h, if_pos h]
theorem pg_write (hm : 1 ≤ m) (hn : 1 ≤ n) (hs : s.length = 512) : pg ((wrN (meetsM d).2 0 (8 * (m - 1)) s 8).now 0) n = if n = m then s else pg (d.now 0) n := by
 unfold pg
 by_cases e : n = m
 ·subst e
  rw [if_pos rfl]
  refine Eq.trans (congrArg List.flatten (List.map_congr_left (g := secOf s) fun i hi => ?_)) ?_
  ·have hi8 := List.mem_range.1 hi
   rw [wr_getD, if_pos (by omega)]
   congr 1
   omega
  ·rw [flat_secs, List.take_of_length_le (by omega)]
 ·rw [if_neg e]
  refine congrArg List.flatten (List.map_congr_left fun i hi => ?_)
  have hi8 := List.mem_range.1 hi
  rw [wr_getD, if_neg (by omega)]
  rfl
theorem len_write : ((wrN (meetsM d).2 0 (8 * (m - 1)) s 8).now 0).length = max (d.now 0).length (8 * (m - 1) + 8) := by
 rw [wr_len, if_neg (by decide)]
 rfl
theorem MainOk.page (h : MainOk d n) (hm : 1 ≤ m) (hn : 1 ≤ n) (hne : n ≠ m) : MainOk (wrN (meetsM d).2 0 (8 * (m - 1)) s 8) n := by
 refine ⟨by rw [wrN_sure]; exact h.sure, ?_, fun x hx hf hc => ?_, fun j hj s' hs => ?_⟩
 ·rw [len_write]
  have := h.now
  omega
 ·rcases wrN_mem hx with hx | ⟨i, hi, rfl⟩
  ·exact h.cut x hx hf hc
  ·cases hc
 ·rw [wr_getD, if_neg (by omega)]
  rcases may_wr hs with hs | ⟨-, h1, h2, -⟩
  ·exact h.one j hj s' ((alike_meets d).may hs)
  ·omega
theorem CandOk.page (h : CandOk d c) (hb : c.has = true) (hm : 1 ≤ m) (hl : lastAt c.list m c.list.length ≠ none) : CandOk (wrN (meetsM d).2 0 (8 * (m - 1)) s 8) c := by
 have e1 : (wrN (meetsM d).2 0 (8 * (m - 1)) s 8).now 1 = d.now 1 := wrN_now _ s (by decide) _ 8
 refine ⟨h.may, h.wf, h.frames, h.ok, h.last, fun j hj s' hs => ?_, ?_, fun e => (by rw [hb] at e; cases e), fun n n1 n2 e => (h.main n n1 n2 e).page hm n1 (fun e2 => hl (by rw [← e2]; exact e))⟩
 ·rcases may_wr hs with hs | ⟨e, -⟩
  ·exact h.text j hj s' ((alike_meets d).may hs)
  ·cases e
 ·rw [wrN_sure, e1]
  exact h.len
theorem CandSt.page' (h : CandSt d c L) (hm : 1 ≤ m) (hs : s.length = 512) (hl : lastAt c.list m c.list.length ≠ none) : CandSt (wrN (meetsM d).2 0 (8 * (m - 1)) s 8) c L := by
 refine ⟨h.pages, fun n n1 n2 => ?_, h.len⟩
 rw [← h.page n n1 n2]
 have hpg : n ≠ m → pg ((wrN (meetsM d).2 0 (8 * (m - 1)) s 8).now 0) n = pg (d.now 0) n := fun hne => by
  rw [pg_write hm n1 hs, if_neg hne]
 obtain ⟨d2, hd2⟩ : ∃ d2, d2 = wrN (meetsM d).2 0 (8 * (m - 1)) s 8 := ⟨_, rfl⟩
 rw [← hd2] at hpg ⊢
 unfold cpage
 by_cases e : n = m
 ·obtain ⟨t, ht⟩ := Option.ne_none_iff_exists'.1 hl
  rw [e, ht]
  rfl
 ·rw [hpg e]
theorem LgInv.page (h : LgInv g d L (fun _ => False)) (hb : g.has = true) (hm : 1 ≤ m) (hs : s.length = 512) (hl : lastAt g.list m g.list.length ≠ none) : LgInv g (wrN (meetsM d).2 0 (8 * (m - 1)) s 8) L (fun _ => False) := by
 refine ⟨fun x hx hf => ?_, h.ok.page hb hm hl, h.st.page' hm hs hl, h.pair, fun s' hs' => ?_⟩
 ·rcases wrN_mem hx with hx | ⟨i, hi, rfl⟩
  ·exact h.cut1 x hx hf
  ·rfl
 ·rcases may_wr hs' with hs' | ⟨e, -⟩
  ·rcases h.head s' ((alike_meets d).may hs') with e | ⟨t, c, e, h1, L', h2, h3⟩
   ·exact .inl e
   ·exact h3.elim
  ·cases e
theorem lpage_or (hm : 1 ≤ m) (hs : s.length = 512) : ((lpageM (m : Int) s g d).1 ≠ 0 ∧ (lpageM (m : Int) s g d).2.1 = g ∧ Alike d (lpageM (m : Int) s g d).2.2) ∨ ((lpageM (m : Int) s g d).1 = 0 ∧ (lpageM (m : Int) s g d).2.1 = g ∧ (lpageM (m : Int) s g d).2.2 = wrN (meetsM d).2 0 (8 * (m - 1)) s 8) := by
 have ea : 8 * ((m : Int) - 1) = ((8 * (m - 1) : Nat) : Int) := by omega
 unfold lpageM
 rw [ea]
 rcases write_or (d := d) (k := 0) (a := 8 * (m - 1)) (s := s) with ⟨h1, h2⟩ | ⟨h1, -, -, h2⟩
 ·exact .inl ⟨h1, rfl, h2⟩
 ·rw [hs] at h2
  exact .inr ⟨h1, rfl, h2⟩
structure Wrote (g : Lg) (d : Dsk) (P : Nat) : Prop where
 page : ∀ n s, 1 ≤ n → n ≤ P → lastAt g.list (n : Int) g.list.length = some s → pg (d.now 0) n = s ∧ 8 * n ≤ (d.now 0).length
theorem inv_pages (h : LgInv g d L (fun _ => False)) (hb : g.has = true) : ∀ P, Kin g (lstepsM (ckPages g.list P) g d).2.1 ∧ (lstepsM (ckPages g.list P) g d).2.1.torn = g.torn ∧ LgInv (lstepsM (ckPages g.list P) g d).2.1 (lstepsM (ckPages g.list P) g d).2.2 L (fun _ => False) ∧
  ((lstepsM (ckPages g.list P) g d).1 = 0 → Wrote g (lstepsM (ckPages g.list P) g d).2.2 P)
 | 0 => ⟨Kin.refl g, rfl, h, fun _ => ⟨fun n s a b => by omega⟩⟩
 | P + 1 => by
  obtain ⟨k1, k2, k3, k4⟩ := inv_pages h hb P
  rw [ckPages_succ, steps_split]
  by_cases h0 : (lstepsM (ckPages g.list P) g d).1 = 0
  rotate_left
  ·rw [if_pos h0]
   exact ⟨k1, k2, k3, fun e => absurd e h0⟩
  rw [if_neg (by simpa using h0)]
  have k4 := k4 h0
  obtain ⟨g1, hg1⟩ : ∃ g1, g1 = (lstepsM (ckPages g.list P) g d).2.1 := ⟨_, rfl⟩
  obtain ⟨d1, hd1⟩ : ∃ d1, d1 = (lstepsM (ckPages g.list P) g d).2.2 := ⟨_, rfl⟩
  rw [← hg1] at k1 k2 k3
  rw [← hd1] at k3 k4
  rw [← hg1, ← hd1]
  clear hg1 hd1 h0
  have hd512 : ∀ f ∈ g.list, f.data.length = 512 := fun f hf => (frOk_facts (h.ok.ok f hf)).2.1
  cases hl : lastAt g.list ((P + 1 : Nat) : Int) g.list.length with
  | none =>
   refine ⟨k1, k2, k3, fun _ => ⟨fun n s a b e => ?_⟩⟩
   by_cases en : n = P + 1
   ·rw [en, hl] at e
    cases e
   ·exact k4.page n s a (by omega) e
  | some s =>
   obtain ⟨f, hf, hfd, -⟩ := lastAt_mem hl
   have hs : s.length = 512 := by rw [← hfd]; exact hd512 f hf
   dsimp only
   rcases lpage_or (g := g1) (d := d1) (m := P + 1) (s := s) (by omega) hs with ⟨a1, a2, a3⟩ | ⟨a1, a2, a3⟩
   ·rw [steps_fail a1, a2]
    exact ⟨⟨k1.head, k1.has, k1.list, k1.pair⟩, k2, (k3.alike a3).off _, fun e => absurd e a1⟩
   ·rw [steps_done a1, a2, a3]
    refine ⟨k1, k2, k3.page (by rw [k1.has]; exact hb) (by omega) hs (by rw [k1.list, hl]; exact Option.some_ne_none _), fun _ => ⟨fun n t a b e => ?_⟩⟩
    show pg ((wrN (meetsM d1).2 0 (8 * (P + 1 - 1)) s 8).now 0) n = t ∧ 8 * n ≤ ((wrN (meetsM d1).2 0 (8 * (P + 1 - 1)) s 8).now 0).length
    rw [pg_write (by omega) a hs, len_write]
    by_cases en : n = P + 1
    ·rw [if_pos en]
     rw [en, hl] at e
     injection e with e
     exact ⟨e, by omega⟩
    ·rw [if_neg en]
     have := k4.page n t a (by omega) e
     exact ⟨this.1, by omega⟩
theorem cut_now0 (P : Nat) : (applyM (meetsM d).2 ⟨0, 8 * P, true, nought⟩).now 0 = doesM (d.now 0) ⟨0, 8 * P, true, nought⟩ := by
 show put d.now 0 (doesM (d.now 0) ⟨0, 8 * P, true, nought⟩) 0 = _
 exact put_same' _ _ _
theorem cut_now1 (P : Nat) : (applyM (meetsM d).2 ⟨0, 8 * P, true, nought⟩).now 1 = d.now 1 := by
 show put d.now 0 (doesM (d.now 0) ⟨0, 8 * P, true, nought⟩) 1 = _
 exact put_other _ _ (by decide)
theorem MainOk.cut' {P : Nat} (h : MainOk d n) (hn : 1 ≤ n) (hP : n ≤ P) : MainOk (applyM (meetsM d).2 ⟨0, 8 * P, true, nought⟩) n := by
 have e0 := cut_now0 (d := d) P
 refine ⟨h.sure, ?_, fun x hx hf hc => ?_, fun j hj s' hs => ?_⟩
 ·rw [e0, doesM_length_cut rfl]
  have := h.now
  show 8 * n ≤ min _ (8 * P)
  omega
 ·have hx : x ∈ d.loose ++ [⟨0, 8 * P, true, nought⟩] := hx
  rcases List.mem_append.1 hx with hx | hx
  ·exact h.cut x hx hf hc
  ·rw [List.mem_singleton.1 hx]
   show 8 * n ≤ 8 * P
   omega
 ·rw [e0, does_cut_getD rfl (show 8 * (n - 1) + j < 8 * P by omega)]
  exact h.one j hj s' ((alike_meets d).may (may_cut hs (fun _ => by omega)))
theorem CandOk.cut' {P : Nat} (h : CandOk d c) (hb : c.has = true) (hP : c.head.pages ≤ (P : Int)) : CandOk (applyM (meetsM d).2 ⟨0, 8 * P, true, nought⟩) c := by
 have e1 := cut_now1 (d := d) P
 refine ⟨h.may, h.wf, h.frames, h.ok, h.last, fun j hj s' hs => h.text j hj s' ((alike_meets d).may (may_cut hs (fun e => by cases e))), ?_, fun e => (by rw [hb] at e; cases e), fun n n1 n2 e => (h.main n n1 n2 e).cut' n1 (by omega)⟩
 rw [e1]
 exact h.len
theorem pg_cut {P : Nat} (hn : 1 ≤ n) (hP : n ≤ P) : pg ((applyM (meetsM d).2 ⟨0, 8 * P, true, nought⟩).now 0) n = pg (d.now 0) n := by
 have e0 := cut_now0 (d := d) P
 rw [e0, doesM_cut rfl]
 exact pg_take hn hP
theorem LgInv.cut' {P : Nat} (h : LgInv g d L (fun _ => False)) (hb : g.has = true) (hP : g.head.pages = (P : Int)) : LgInv g (applyM (meetsM d).2 ⟨0, 8 * P, true, nought⟩) L (fun _ => False) := by
 refine ⟨fun x hx hf => ?_, h.ok.cut' hb (by show g.head.pages ≤ _; omega), ⟨h.st.pages, fun n n1 n2 => ?_, h.st.len⟩, h.pair, fun s' hs' => ?_⟩
 ·have hx : x ∈ d.loose ++ [⟨0, 8 * P, true, nought⟩] := hx
  rcases List.mem_append.1 hx with hx | hx
  ·exact h.cut1 x hx hf
  ·rw [List.mem_singleton.1 hx] at hf
   cases hf
 ·rw [← h.st.page n n1 n2]
  unfold cpage
  have := h.st.pages
  have e : (candOf g).head.pages = g.head.pages := rfl
  rw [pg_cut n1 (by omega)]
 ·rcases h.head s' ((alike_meets d).may (may_cut hs' (fun e => by cases e))) with e | ⟨t, c, e, h1, L', h2, h3⟩
  ·exact .inl e
  ·exact h3.elim
theorem MainOk.sync0 (h : 8 * n ≤ (d.now 0).length) : MainOk (sureM (meetsM d).2 0) n := by
 have e : (sureM (meetsM d).2 0).sure 0 = d.now 0 := sure_same _ _
 refine ⟨by rw [e]; exact h, h, fun x hx hf hc => ?_, fun j hj s' hs => (may_sync hs).2 rfl⟩
 have hx : x ∈ keepsOf 0 d.loose := hx
 unfold keepsOf at hx
 have := (List.mem_filter.1 hx).2
 rw [hf] at this
 simp at this
theorem CandOk.sync0 (h : CandOk d c) (hb : c.has = true) : CandOk (sureM (meetsM d).2 0) c := by
 have e1 : (sureM (meetsM d).2 0).sure 1 = d.sure 1 := sure_other _ (by decide)
 refine ⟨h.may, h.wf, h.frames, h.ok, h.last, fun j hj s' hs => h.text j hj s' ((alike_meets d).may (may_sync hs).1), ?_, fun e => (by rw [hb] at e; cases e), fun n n1 n2 e => MainOk.sync0 (h.main n n1 n2 e).now⟩
 rw [e1]
 exact h.len
theorem LgInv.sync0 (h : LgInv g d L (fun _ => False)) (hb : g.has = true) : LgInv g (sureM (meetsM d).2 0) L (fun _ => False) := by
 refine ⟨fun x hx hf => ?_, h.ok.sync0 hb, ⟨h.st.pages, h.st.page, h.st.len⟩, h.pair, fun s' hs' => ?_⟩
 ·have hx : x ∈ keepsOf 0 d.loose := hx
  unfold keepsOf at hx
  exact h.cut1 x (List.mem_filter.1 hx).1 hf
 ·rcases h.head s' ((alike_meets d).may (may_sync hs').1) with e | ⟨t, c, e, h1, L', h2, h3⟩
  ·exact .inl e
  ·exact h3.elim
theorem lsync0_or : ((lsync0M g d).1 ≠ 0 ∧ (lsync0M g d).2.1 = g ∧ Alike d (lsync0M g d).2.2) ∨ ((lsync0M g d).1 = 0 ∧ (lsync0M g d).2.1 = g ∧ (lsync0M g d).2.2 = sureM (meetsM d).2 0) := by
 unfold lsync0M
 rcases sync_or (d := d) (k := 0) with ⟨h1, h2⟩ | ⟨h1, h2⟩
 ·exact .inl ⟨h1, rfl, h2⟩
 ·exact .inr ⟨h1, rfl, h2⟩
theorem lcut_or {P : Nat} : ((lcutM (P : Int) g d).1 ≠ 0 ∧ (lcutM (P : Int) g d).2.1 = g ∧ Alike d (lcutM (P : Int) g d).2.2) ∨ ((lcutM (P : Int) g d).1 = 0 ∧ (lcutM (P : Int) g d).2.1 = g ∧ ((lcutM (P : Int) g d).2.2 = d ∨ (lcutM (P : Int) g d).2.2 = applyM (meetsM d).2 ⟨0, 8 * P, true, nought⟩)) := by
 have e8 : 8 * (P : Int) = ((8 * P : Nat) : Int) := by omega
 unfold lcutM
 rw [e8]
 split
 ·rcases cut_or (d := d) (k := 0) (n := 8 * P) with ⟨h1, h2⟩ | ⟨h1, -, h2⟩
  ·exact .inl ⟨h1, rfl, h2⟩
  ·exact .inr ⟨h1, rfl, .inr h2⟩
 ·exact .inr ⟨rfl, rfl, .inl rfl⟩
def candCk (g : Lg) : Cand := ⟨true, ckHead g, []⟩
theorem wrapU_range (n : Int) : 0 ≤ IntKind.u64.wrap n ∧ IntKind.u64.wrap n < 18446744073709551616 := by
 unfold IntKind.wrap
 simp only [IntKind.bits, IntKind.signed]
 constructor
 ·exact Int.emod_nonneg _ (by decide)
 ·exact Int.emod_lt_of_pos _ (by decide)
theorem candCk_ok (h : LgInv g d L S) {P : Nat} (hP : g.head.pages = (P : Int)) (hw : Wrote g d P) : CandOk (sureM (meetsM d).2 0) (candCk g) ∧ CandSt (sureM (meetsM d).2 0) (candCk g) L := by
 have hpg : ∀ n : Nat, 1 ≤ n → n ≤ P → 8 * n ≤ (d.now 0).length ∧ pg (d.now 0) n = cpage d (candOf g) n := fun n n1 n2 => by
  cases hl : lastAt g.list n g.list.length with
  | some s =>
   have := hw.page n s n1 n2 hl
   refine ⟨this.2, ?_⟩
   unfold cpage
   have e : lastAt (candOf g).list n (candOf g).list.length = some s := hl
   rw [e, this.1]
   rfl
  | none =>
   refine ⟨(h.ok.main n n1 (by show (n : Int) ≤ g.head.pages; omega) hl).now, ?_⟩
   unfold cpage
   have e : lastAt (candOf g).list n (candOf g).list.length = none := hl
   rw [e]
   rfl
 have hm := h.ok.may
 have hmb := hdMay_bd hm
 have hmb : 0 ≤ g.head.pages ∧ g.head.pages ≤ 256 := hmb.2
 have hst := h.st.pages
 have hst : g.head.pages = (L.length : Int) := hst
 refine ⟨⟨?_, wrapU_range _, rfl, fun f hf => (by cases hf), fun e => absurd rfl e, fun j hj => ?_, fun e => absurd rfl e, fun e => (by cases e), fun n n1 n2 _ => ?_⟩, ⟨hst, fun n n1 n2 => ?_, h.st.len⟩⟩
 ·unfold hdMay candCk ckHead inB
  simp
  omega
 ·exact absurd hj (by show ¬ j < 9 * 0; omega)
 ·have n2 : (n : Int) ≤ g.head.pages := n2
  exact MainOk.sync0 (hpg n n1 (by omega)).1
 ·rw [← h.st.page n n1 n2, ← (hpg n n1 (by omega)).2]
  rfl
def CkOut (g : Lg) (L : List (List UInt8)) (S : List (List UInt8) → Prop) (R : Int × Lg × Dsk) : Prop :=
 (R.1 ≠ 0 → Kin g R.2.1 ∧ LgInv R.2.1 R.2.2 L (fun y => S y ∨ y = L)) ∧ (R.1 = 0 → LgInv { R.2.1 with head := ckHead g, list := [], pair := startP (ckHead g).number } R.2.2 L (fun y => S y ∨ y = L))
theorem ckOut_fail {R : Int × Lg × Dsk} (h : R.1 ≠ 0) (hk : Kin g R.2.1) (hi : LgInv R.2.1 R.2.2 L (fun y => S y ∨ y = L)) : CkOut g L S R := ⟨fun _ => ⟨hk, hi⟩, fun e => absurd e h⟩
theorem Kin.off {g1 : Lg} (h : Kin g g1) (b : Bool) : Kin g { g1 with off := b } := ⟨h.head, h.has, h.list, h.pair⟩
theorem ck_steps (h : LgInv g d L S) (hb : g.has = true) : CkOut g L S (lstepsM (ckSteps g) g d) := by
 obtain ⟨P, hP⟩ : ∃ P : Nat, g.head.pages = (P : Int) := ⟨g.head.pages.toNat, by
  have : 0 ≤ g.head.pages := (hdMay_bd h.ok.may).2.1
  omega⟩
 have hPn : g.head.pages.toNat = P := by omega
 obtain ⟨m1, m2, m3⟩ := inv_mend h
 unfold ckSteps
 rw [hPn]
 by_cases q1 : (lmendM g d).1 = 0
 rotate_left
 ·rw [steps_fail q1]
  exact ckOut_fail q1 (m1.off _) ((m2.off _).mono fun y hy => .inl hy)
 rw [steps_done q1]
 have ht1 := m3 q1
 have i1 := m2.calm ht1
 obtain ⟨g1, hg1⟩ : ∃ g1, g1 = (lmendM g d).2.1 := ⟨_, rfl⟩
 obtain ⟨d1, hd1⟩ : ∃ d1, d1 = (lmendM g d).2.2 := ⟨_, rfl⟩
 rw [← hg1, ← hd1] at i1
 rw [← hg1] at m1 ht1
 rw [← hg1, ← hd1]
 clear m2 m3 q1 hg1 hd1
 have hb1 : g1.has = true := by rw [m1.has]; exact hb
 have keep : ∀ {gg : Lg} {dd : Dsk} {T : List (List UInt8) → Prop}, LgInv gg dd L T → (∀ y, T y → y = L) → ∀ b, LgInv { gg with off := b } dd L (fun y => S y ∨ y = L) := fun hi ht b => (hi.off b).mono fun y hy => .inr (ht y hy)
 rw [steps_split]
 obtain ⟨k1, k2, k3, k4⟩ := inv_pages i1 hb1 P
 rw [show ckPages g1.list P = ckPages g.list P by rw [m1.list]] at k1 k2 k3 k4
 by_cases q2 : (lstepsM (ckPages g.list P) g1 d1).1 = 0
 rotate_left
 ·rw [if_pos q2]
  exact ckOut_fail q2 (m1.trans k1) (k3.mono fun y hy => hy.elim)
 rw [if_neg (by rw [q2]; decide)]
 have k4 := k4 q2
 have w2 : Wrote g (lstepsM (ckPages g.list P) g1 d1).2.2 P := ⟨fun n s a b e => k4.page n s a b (by rw [m1.list]; exact e)⟩
 obtain ⟨g2, hg2⟩ : ∃ g2, g2 = (lstepsM (ckPages g.list P) g1 d1).2.1 := ⟨_, rfl⟩
 obtain ⟨d2, hd2⟩ : ∃ d2, d2 = (lstepsM (ckPages g.list P) g1 d1).2.2 := ⟨_, rfl⟩
 rw [← hg2] at k1 k2 k3
 rw [← hd2] at k3 w2
 rw [← hg2, ← hd2]
 clear hg2 hd2 q2 k4
 have m2 := m1.trans k1
 have hb2 : g2.has = true := by rw [m2.has]; exact hb
 have hP2 : g2.head.pages = (P : Int) := by rw [m2.head]; exact hP
 rw [hP]
 have hstep3 : ∀ d3, (d3 = d2 ∨ d3 = applyM (meetsM d2).2 ⟨0, 8 * P, true, nought⟩) → LgInv g2 d3 L (fun _ => False) ∧ Wrote g2 d3 P := by
  rintro d3 (rfl | rfl)
  ·exact ⟨k3, ⟨fun n s a b e => w2.page n s a b (by rw [← m2.list]; exact e)⟩⟩
  ·refine ⟨k3.cut' hb2 hP2, ⟨fun n s a b e => ?_⟩⟩
   have := w2.page n s a b (by rw [← m2.list]; exact e)
   have e0 := cut_now0 (d := d2) P
   rw [pg_cut a b]
   refine ⟨this.1, ?_⟩
   rw [e0, doesM_length_cut rfl]
   have h8 := this.2
   show 8 * n ≤ min _ (8 * P)
   omega
 rcases lcut_or (g := g2) (d := d2) (P := P) with ⟨a1, a2, a3⟩ | ⟨a1, a2, a3⟩
 ·rw [steps_fail a1, a2]
  exact ckOut_fail a1 (m2.off _) (keep (k3.alike a3) (fun y hy => hy.elim) _)
 rw [steps_done a1, a2]
 obtain ⟨i3, w3⟩ := hstep3 _ a3
 obtain ⟨d3, hd3⟩ : ∃ d3, d3 = (lcutM (P : Int) g2 d2).2.2 := ⟨_, rfl⟩
 rw [← hd3] at i3 w3 ⊢
 clear hd3 a1 a2 a3 hstep3 k3 w2
 rcases lsync0_or (g := g2) (d := d3) with ⟨a1, a2, a3⟩ | ⟨a1, a2, a3⟩
 ·rw [steps_fail a1, a2]
  exact ckOut_fail a1 (m2.off _) (keep (i3.alike a3) (fun y hy => hy.elim) _)
 rw [steps_done a1, a2, a3]
 obtain ⟨c1, c2⟩ := candCk_ok i3 hP2 w3
 have i4 := i3.sync0 hb2
 have eh2 : ckHead g = ckHead g2 := by unfold ckHead; rw [m2.head]
 have ec : candCk g = candCk g2 := by unfold candCk; rw [eh2]
 rw [← ec] at c1 c2
 obtain ⟨d4, hd4⟩ : ∃ d4, d4 = sureM (meetsM d3).2 0 := ⟨_, rfl⟩
 rw [← hd4] at i4 c1 c2 ⊢
 clear hd4 a1 a2 a3 i3 w3
 rcases lputs_or (g := g2) (d := d4) (h := ckHead g) (has := true) c1.may with ⟨a1, a2, a3⟩ | ⟨a1, a2, a3⟩
 ·rw [steps_fail a1, a2]
  exact ckOut_fail a1 (m2.off _) (keep (i4.alike a3) (fun y hy => hy.elim) _)
 rw [steps_done a1, a2, a3]
 have i5 : LgInv { g2 with torn := true } (wrN (meetsM d4).2 1 0 (headS true (ckHead g)) 1) L (fun y => y = L) := inv_puts (i4.mono (S' := fun y => y = L) fun _ e => e.elim) (candCk g) (.inr ⟨c1, L, c2, rfl⟩)
 have c3 : CandOk (wrN (meetsM d4).2 1 0 (headS true (ckHead g)) 1) (candCk g) := c1.write1 (.inr (by decide))
 have c4 : CandSt (wrN (meetsM d4).2 1 0 (headS true (ckHead g)) 1) (candCk g) L := c2.write1
 have hn5 := head_now d4 true (ckHead g)
 obtain ⟨d5, hd5⟩ : ∃ d5, d5 = wrN (meetsM d4).2 1 0 (headS true (ckHead g)) 1 := ⟨_, rfl⟩
 rw [← hd5] at i5 c3 c4 hn5 ⊢
 clear hd5 a1 a2 a3 c1 c2
 have m5 : Kin g { g2 with torn := true } := ⟨m2.head, m2.has, m2.list, m2.pair⟩
 rcases lsync_or (g := { g2 with torn := true }) (d := d5) with ⟨a1, a2, a3⟩ | ⟨a1, a2, a3⟩
 ·rw [steps_fail a1, a2]
  exact ckOut_fail a1 (m5.off _) (keep (i5.alike a3) (fun y hy => hy) _)
 rw [steps_done a1, a2, a3]
 refine ⟨fun e => absurd rfl e, fun _ => ?_⟩
 have hcand : candOf { (lstepsM [] { ({ g2 with torn := true } : Lg) with torn := false } (sureM (meetsM d5).2 1)).2.1 with head := ckHead g, list := [], pair := startP (ckHead g).number } = candCk g := by
  show (⟨g2.has, ckHead g, []⟩ : Cand) = ⟨true, ckHead g, []⟩
  rw [hb2]
 refine ⟨fun y hy hf => ?_, by rw [hcand]; exact c3.sync1, by rw [hcand]; exact c4.sync1, ?_, fun s hs => .inl ?_⟩
 ·have hy : y ∈ keepsOf 1 d5.loose := hy
  unfold keepsOf at hy
  exact i5.cut1 y (List.mem_filter.1 hy).1 hf
 ·rw [hcand]
  rfl
 ·refine ((may_sync hs).2 rfl).trans (hn5.trans ?_)
  show headS true (ckHead g) = headS g2.has (ckHead g)
  rw [hb2]
theorem inv_check (h : LgInv g d L S) : (lcheckM g d).2.1.head.pages = g.head.pages ∧ ((lcheckM g d).1 = 0 → (lcheckM g d).2.1.list = []) ∧ ((lcheckM g d).1 ≠ 0 → Kin g (lcheckM g d).2.1) ∧ LgInv (lcheckM g d).2.1 (lcheckM g d).2.2 L (fun y => S y ∨ y = L) := by
 have hweak : LgInv g d L (fun y => S y ∨ y = L) := h.mono fun y hy => .inl hy
 unfold lcheckM
 split
 ·exact ⟨rfl, fun e => (by cases e), fun _ => Kin.refl g, hweak⟩
 split
 ·rename_i hl
  exact ⟨rfl, fun _ => List.length_eq_zero_iff.1 hl, fun _ => Kin.refl g, hweak⟩
 rename_i hl
 have hb : g.has = true := by
  cases e : g.has with
  | true => rfl
  | false =>
   have hz : g.list = [] := (h.ok.bare e).1
   rw [hz] at hl
   exact absurd rfl hl
 obtain ⟨s1, s2⟩ := ck_steps h hb
 split
 ·rename_i hr
  obtain ⟨k1, k2⟩ := s1 hr
  exact ⟨by rw [k1.head], fun e => absurd e hr, fun _ => k1, k2⟩
 ·rename_i hr
  exact ⟨rfl, fun _ => rfl, fun e => absurd rfl e, s2 (Decidable.not_not.1 hr)⟩
end
end Go.Proofs.YtlkkclooihjpiaaGreat
