/- Plain laws: an append and a checkpoint on a disk that may fail; what is found behind a crash. -/
import Derived.Test.YtlkkclooihjpiaaGreatSqB
set_option linter.unusedVariables false
set_option linter.unusedSimpArgs false
namespace Go.Proofs.YtlkkclooihjpiaaGreat
open Go.RowKit Go.Maps
set_option maxRecDepth 20000
section
variable {g g' : Lg} {d d' : Dsk} {c : Cand} {L L' M : List (List UInt8)} {S S' : List (List UInt8) → Prop} {k a n : Nat} {s : List UInt8}
theorem putsN_append (salt : Int) : ∀ (l m : List Fr) (p : Int × Int), putsN salt (l ++ m) p = ((putsN salt l p).1 ++ (putsN salt m (putsN salt l p).2).1, (putsN salt m (putsN salt l p).2).2)
 | [], m, p => by simp [putsN]
 | f :: r, m, p => by
  have := putsN_append salt r m (putFr p salt f).q
  simp [putsN, this]
theorem secOf_left {A B : List UInt8} {m j : Nat} (hA : A.length = 64 * m) (h : j < m) : secOf (A ++ B) j = secOf A j := by
 unfold secOf
 rw [List.drop_append_of_le_length (by omega), List.take_append_of_le_length (by rw [List.length_drop]; omega)]
theorem secOf_right {A B : List UInt8} {m j : Nat} (hA : A.length = 64 * m) (h : m ≤ j) : secOf (A ++ B) j = secOf B (j - m) := by
 unfold secOf
 rw [show j * 64 = A.length + (j - m) * 64 by rw [hA]; omega, List.drop_length_add_append]
theorem LgInv.now0 (h : LgInv g d L (fun _ => False)) : (d.now 1).getD 0 nought = headS g.has g.head := by
 rcases h.head _ (.inr (.inl rfl)) with e | ⟨t, c, e, h1, L', h2, h3⟩
 ·exact e
 ·exact h3.elim
theorem LgInv.frames (h : LgInv g d L (fun _ => False)) {m : Nat} (ha : 1 + 9 * g.list.length ≤ a) : LgInv g (wrN (meetsM d).2 1 a s m) L (fun _ => False) := by
 refine ⟨fun x hx hf => ?_, h.ok.write1 (.inl ha), h.st.write1, h.pair, fun s hs => ?_⟩
 ·rcases wrN_mem hx with hx | ⟨i, hi, rfl⟩
  ·exact h.cut1 x hx hf
  ·rfl
 ·rcases may_wr hs with hs | ⟨-, h1, h2, -⟩
  ·rcases h.head s ((alike_meets d).may hs) with e | ⟨t, c, e, h1, L', h2, h3⟩
   ·exact .inl e
   ·exact h3.elim
  ·omega
theorem lwrite_or {text : List UInt8} : ((lwriteM text g d).1 ≠ 0 ∧ (lwriteM text g d).2.1 = g ∧ Alike d (lwriteM text g d).2.2) ∨ ((lwriteM text g d).1 = 0 ∧ (lwriteM text g d).2.1 = g ∧ (lwriteM text g d).2.2 = wrN (meetsM d).2 1 (1 + 9 * g.list.length) text (text.length / 64)) := by
 unfold lwriteM
 have e : (1 + 9 * (g.list.length : Int)) = ((1 + 9 * g.list.length : Nat) : Int) := by omega
 rw [e]
 rcases write_or (d := d) (k := 1) (a := 1 + 9 * g.list.length) (s := text) with ⟨h1, h2⟩ | ⟨h1, -, -, h2⟩
 ·exact .inl ⟨h1, rfl, h2⟩
 ·exact .inr ⟨h1, rfl, h2⟩
structure News (g : Lg) (L M : List (List UInt8)) (pages : Int) (x : List Img) : Prop where
 npg : pages = (M.length : Int)
 len : ∀ s ∈ M, s.length = 512
 page : ∀ n : Nat, 1 ≤ n → n ≤ M.length → match lastAt (frsOf pages x) n (frsOf pages x).length with
  | some s => s = M.getD (n - 1) []
  | none => (n : Int) ≤ g.head.pages ∧ M.getD (n - 1) [] = L.getD (n - 1) []
def candNew (g : Lg) (pages : Int) (x : List Img) : Cand := ⟨true, appHead g pages x, g.list ++ frsOf pages x⟩
theorem candNew_tx (hp : g.pair = (candTx (candOf g)).2) (pages : Int) (x : List Img) : candTx (candNew g pages x) = ((candTx (candOf g)).1 ++ (appText g pages x).1, (appText g pages x).2) := by
 unfold candTx candNew appText
 show putsN g.head.number (g.list ++ frsOf pages x) (startP g.head.number) = _
 rw [putsN_append]
 unfold candTx at hp
 have hp : g.pair = (putsN g.head.number g.list (startP g.head.number)).2 := hp
 rw [hp]
 rfl
theorem candTx_len (h : ∀ f ∈ c.list, frOk f = true) : (candTx c).1.length = 64 * (9 * c.list.length) := by
 unfold candTx
 rw [putsN_length_ok _ _ _ h]
 omega
theorem candNew_ok (h : LgInv g d L S) {pages : Int} {x : List Img} (hp : 1 ≤ pages ∧ pages ≤ 256) (h0 : x ≠ []) (hx : ∀ i ∈ x, imgBad i = false) (hr : g.list.length + x.length ≤ 256) (hN : News g L M pages x)
  (hl : (d.now 1).length = max (d.now 1).length (1 + 9 * (g.list.length + x.length))) (hT : ∀ j, j < 9 * x.length → (d.now 1).getD (1 + 9 * g.list.length + j) nought = secOf (appText g pages x).1 j) :
  CandOk (sureM (meetsM d).2 1) (candNew g pages x) ∧ CandSt (sureM (meetsM d).2 1) (candNew g pages x) M := by
 have hfr := frsOf_ok hp hx
 have hlen := frsOf_length pages x
 have hok1 := h.ok.sync1
 have hx0 : x.length ≠ 0 := fun e => h0 (List.length_eq_zero_iff.1 e)
 refine ⟨⟨?_, h.ok.wf, ?_, fun f hf => ?_, fun _ => ?_, fun j hj s' hs => ?_, fun _ => ?_, fun e => (by cases e), fun n n1 n2 e => ?_⟩, ⟨hN.npg, fun n n1 n2 => ?_, hN.len⟩⟩
 ·unfold hdMay candNew appHead inB
  simp
  omega
 ·show ((g.list.length + x.length : Nat) : Int) = ((g.list ++ frsOf pages x).length : Int)
  rw [List.length_append, hlen]
 ·rcases List.mem_append.1 hf with hf | hf
  ·exact h.ok.ok f hf
  ·exact hfr f hf
 ·have hne : frsOf pages x ≠ [] := fun e => hx0 (by rw [← hlen, e]; rfl)
  show lastCommit (g.list ++ frsOf pages x) = pages
  unfold lastCommit
  have e1 : (g.list ++ frsOf pages x).getLast? = some ((frsOf pages x)[x.length - 1]'(by omega)) := by
   have hq : x.length - 1 < (frsOf pages x).length := by omega
   have e2 : (frsOf pages x).getLast? = some ((frsOf pages x)[x.length - 1]'hq) := by
    rw [List.getLast?_eq_getElem?, show (frsOf pages x).length - 1 = x.length - 1 by omega, List.getElem?_eq_getElem hq]
   rw [List.getLast?_append, e2]
   rfl
  rw [e1, frsOf_get pages x (x.length - 1) (by omega)]
  unfold frAt
  dsimp only
  rw [if_pos (by omega)]
 ·have hs' := may_sync hs
  rw [show (candTx (candNew g pages x)).1 = (candTx (candOf g)).1 ++ (appText g pages x).1 by rw [candNew_tx h.pair]]
  have hA := candTx_len (c := candOf g) h.ok.ok
  have hj : j < 9 * (g.list ++ frsOf pages x).length := hj
  rw [List.length_append, hlen] at hj
  have hAl : (candTx (candOf g)).1.length = 64 * (9 * g.list.length) := hA
  by_cases hjl : j < 9 * g.list.length
  ·rw [secOf_left hAl hjl]
   exact h.ok.text j hjl s' ((alike_meets d).may hs'.1)
  ·rw [secOf_right hAl (by omega)]
   have := hT (j - 9 * g.list.length) (by omega)
   rw [← this, hs'.2 rfl]
   show (d.now 1).getD (1 + j) nought = _
   congr 1
   omega
 ·have e : (sureM (meetsM d).2 1).sure 1 = d.now 1 := sure_same _ _
  have e2 : (sureM (meetsM d).2 1).now 1 = d.now 1 := rfl
  rw [e, e2]
  show 1 + 9 * (g.list ++ frsOf pages x).length ≤ _ ∧ 1 + 9 * (g.list ++ frsOf pages x).length ≤ _
  rw [List.length_append, hlen]
  omega
 ·have e : lastAt (g.list ++ frsOf pages x) n (g.list ++ frsOf pages x).length = none := e
  have n2 : (n : Int) ≤ pages := n2
  rw [List.length_append, lastAt_both _ _ _ _ (Nat.le_refl _)] at e
  have hpg := hN.page n n1 (by have := hN.npg; omega)
  revert e hpg
  cases lastAt (frsOf pages x) n (frsOf pages x).length with
  | some s => intro e; cases e
  | none => intro e hpg; exact hok1.main n n1 hpg.1 e
 ·have hpg := hN.page n n1 n2
  show (lastAt (g.list ++ frsOf pages x) n (g.list ++ frsOf pages x).length).getD (pg (d.now 0) n) = _
  rw [List.length_append, lastAt_both _ _ _ _ (Nat.le_refl _)]
  revert hpg
  cases lastAt (frsOf pages x) n (frsOf pages x).length with
  | some s => exact fun hpg => hpg
  | none =>
   intro hpg
   have hst := h.st.page n n1 (by have := h.st.pages; have : (candOf g).head.pages = g.head.pages := rfl; omega)
   dsimp only at hpg ⊢
   rw [hpg.2, ← hst]
   rfl
theorem inv_append (h : LgInv g d L S) {pages : Int} {x : List Img} (hN : News g L M pages x) :
  ((lappendM pages x g d).1 = 0 → LgInv (lappendM pages x g d).2.1 (lappendM pages x g d).2.2 M (fun _ => False) ∧ (lappendM pages x g d).2.1.torn = false) ∧
  ((lappendM pages x g d).1 ≠ 0 → Kin g (lappendM pages x g d).2.1 ∧ LgInv (lappendM pages x g d).2.1 (lappendM pages x g d).2.2 L (fun y => S y ∨ y = M)) := by
 have hweak : LgInv g d L (fun y => S y ∨ y = M) := h.mono fun y hy => .inl hy
 unfold lappendM
 split
 ·exact ⟨fun e => (by cases e), fun _ => ⟨Kin.refl g, hweak⟩⟩
 split
 ·exact ⟨fun e => (by cases e), fun _ => ⟨Kin.refl g, hweak⟩⟩
 rename_i hp
 split
 ·exact ⟨fun e => (by cases e), fun _ => ⟨Kin.refl g, hweak⟩⟩
 rename_i hbad
 split
 ·exact ⟨fun e => (by cases e), fun _ => ⟨Kin.refl g, hweak⟩⟩
 rename_i hr
 have hp2 : 1 ≤ pages ∧ pages ≤ 256 := by omega
 have h0 : x ≠ [] := fun e => hp (.inr (.inr (by rw [e]; rfl)))
 have hx : ∀ i ∈ x, imgBad i = false := fun i hi => by
  cases hb : imgBad i with
  | false => rfl
  | true => exact absurd (List.any_eq_true.2 ⟨i, hi, hb⟩) hbad
 have hr2 : g.list.length + x.length ≤ 256 := by omega
 have hfr := frsOf_ok hp2 hx
 have htl : (appText g pages x).1.length = 64 * (9 * x.length) := by
  unfold appText
  rw [putsN_length_ok _ _ _ hfr, frsOf_length]
  omega
 have hfail : ∀ R : Int × Lg × Dsk, R.1 ≠ 0 → Kin g R.2.1 → LgInv R.2.1 R.2.2 L (fun y => S y ∨ y = M) →
   ((if R.1 ≠ 0 then R else (0, { R.2.1 with head := appHead g pages x, has := true, list := R.2.1.list ++ frsOf pages x, pair := (appText g pages x).2 }, R.2.2)).1 = 0 → LgInv (if R.1 ≠ 0 then R else (0, { R.2.1 with head := appHead g pages x, has := true, list := R.2.1.list ++ frsOf pages x, pair := (appText g pages x).2 }, R.2.2)).2.1 (if R.1 ≠ 0 then R else (0, { R.2.1 with head := appHead g pages x, has := true, list := R.2.1.list ++ frsOf pages x, pair := (appText g pages x).2 }, R.2.2)).2.2 M (fun _ => False) ∧ (if R.1 ≠ 0 then R else (0, { R.2.1 with head := appHead g pages x, has := true, list := R.2.1.list ++ frsOf pages x, pair := (appText g pages x).2 }, R.2.2)).2.1.torn = false) ∧
   ((if R.1 ≠ 0 then R else (0, { R.2.1 with head := appHead g pages x, has := true, list := R.2.1.list ++ frsOf pages x, pair := (appText g pages x).2 }, R.2.2)).1 ≠ 0 → Kin g (if R.1 ≠ 0 then R else (0, { R.2.1 with head := appHead g pages x, has := true, list := R.2.1.list ++ frsOf pages x, pair := (appText g pages x).2 }, R.2.2)).2.1 ∧ LgInv (if R.1 ≠ 0 then R else (0, { R.2.1 with head := appHead g pages x, has := true, list := R.2.1.list ++ frsOf pages x, pair := (appText g pages x).2 }, R.2.2)).2.1 (if R.1 ≠ 0 then R else (0, { R.2.1 with head := appHead g pages x, has := true, list := R.2.1.list ++ frsOf pages x, pair := (appText g pages x).2 }, R.2.2)).2.2 L (fun y => S y ∨ y = M)) := by
  intro R hR hk hi
  rw [if_pos hR]
  exact ⟨fun e => absurd e hR, fun _ => ⟨hk, hi⟩⟩
 obtain ⟨m1, m2, m3⟩ := inv_mend h
 unfold appSteps
 by_cases q1 : (lmendM g d).1 = 0
 rotate_left
 ·refine hfail _ (by rw [steps_fail q1]; exact q1) (by rw [steps_fail q1]; exact ⟨m1.head, m1.has, m1.list, m1.pair⟩) ?_
  rw [steps_fail q1]
  exact (m2.off _).mono fun y hy => .inl hy
 rw [steps_done q1]
 have ht1 := m3 q1
 have i1 := m2.calm ht1
 have ia := m2
 obtain ⟨g1, hg1⟩ : ∃ g1, g1 = (lmendM g d).2.1 := ⟨_, rfl⟩
 obtain ⟨d1, hd1⟩ : ∃ d1, d1 = (lmendM g d).2.2 := ⟨_, rfl⟩
 rw [← hg1, ← hd1] at i1
 rw [← hg1] at m1 ht1
 rw [← hg1, ← hd1]
 clear ia m2 m3 q1 hg1 hd1
 have et : appText g pages x = appText g1 pages x := by unfold appText; rw [m1.head, m1.pair]
 have eh : appHead g pages x = appHead g1 pages x := by unfold appHead; rw [m1.head, m1.list]
 have hN1 : News g1 L M pages x := ⟨hN.npg, hN.len, fun n n1 n2 => by have := hN.page n n1 n2; rw [m1.head]; exact this⟩
 have hr1 : g1.list.length + x.length ≤ 256 := by rw [m1.list]; exact hr2
 have keep : ∀ {gg : Lg} {dd : Dsk} {T : List (List UInt8) → Prop}, LgInv gg dd L T → (∀ y, T y → y = M) → ∀ b, LgInv { gg with off := b } dd L (fun y => S y ∨ y = M) := fun hi ht b => (hi.off b).mono fun y hy => .inr (ht y hy)
 rcases lwrite_or (g := g1) (d := d1) (text := (appText g pages x).1) with ⟨a1, a2, a3⟩ | ⟨a1, a2, a3⟩
 ·refine hfail _ (by rw [steps_fail a1]; exact a1) (by rw [steps_fail a1, a2]; exact ⟨m1.head, m1.has, m1.list, m1.pair⟩) ?_
  rw [steps_fail a1, a2]
  exact keep (i1.alike a3) (fun y hy => hy.elim) _
 rw [steps_done a1, a2, a3]
 have hdiv : (appText g pages x).1.length / 64 = 9 * x.length := by rw [htl]; omega
 rw [hdiv]
 have i2 := i1.frames (a := 1 + 9 * g1.list.length) (s := (appText g pages x).1) (m := 9 * x.length) (Nat.le_refl _)
 have hnow : ∀ j, j < 9 * x.length → ((wrN (meetsM d1).2 1 (1 + 9 * g1.list.length) (appText g pages x).1 (9 * x.length)).now 1).getD (1 + 9 * g1.list.length + j) nought = secOf (appText g1 pages x).1 j := fun j hj => by
  rw [wr_getD, if_pos (by omega), ← et]
  congr 1
  omega
 have hx0 : x.length ≠ 0 := fun e => h0 (List.length_eq_zero_iff.1 e)
 have hnl : ((wrN (meetsM d1).2 1 (1 + 9 * g1.list.length) (appText g pages x).1 (9 * x.length)).now 1).length = max ((wrN (meetsM d1).2 1 (1 + 9 * g1.list.length) (appText g pages x).1 (9 * x.length)).now 1).length (1 + 9 * (g1.list.length + x.length)) := by
  rw [wr_len, if_neg (by omega)]
  omega
 obtain ⟨d2, hd2⟩ : ∃ d2, d2 = wrN (meetsM d1).2 1 (1 + 9 * g1.list.length) (appText g pages x).1 (9 * x.length) := ⟨_, rfl⟩
 rw [← hd2] at i2 hnow hnl ⊢
 clear hd2 a1 a2 a3
 rcases lsync_or (g := g1) (d := d2) with ⟨a1, a2, a3⟩ | ⟨a1, a2, a3⟩
 ·refine hfail _ (by rw [steps_fail a1]; exact a1) (by rw [steps_fail a1, a2]; exact ⟨m1.head, m1.has, m1.list, m1.pair⟩) ?_
  rw [steps_fail a1, a2]
  exact keep (i2.alike a3) (fun y hy => hy.elim) _
 rw [steps_done a1, a2, a3]
 obtain ⟨c1, c2⟩ := candNew_ok i2 hp2 h0 hx hr1 hN1 hnl hnow
 have i3 := inv_sync1 i2 i2.now0 false
 obtain ⟨d3, hd3⟩ : ∃ d3, d3 = sureM (meetsM d2).2 1 := ⟨_, rfl⟩
 rw [← hd3] at i3 c1 c2 ⊢
 clear hd3 a1 a2 a3
 rw [eh]
 rcases lputs_or (g := { g1 with torn := false }) (d := d3) (h := appHead g1 pages x) (has := true) c1.may with ⟨a1, a2, a3⟩ | ⟨a1, a2, a3⟩
 ·rw [← eh] at a1 a2 a3 ⊢
  refine hfail _ (by rw [steps_fail a1]; exact a1) (by rw [steps_fail a1, a2]; exact ⟨m1.head, m1.has, m1.list, m1.pair⟩) ?_
  rw [steps_fail a1, a2]
  exact keep (i3.alike a3) (fun y hy => hy.elim) _
 rw [steps_done a1, a2, a3]
 have i4 : LgInv { g1 with torn := true } (wrN (meetsM d3).2 1 0 (headS true (appHead g1 pages x)) 1) L (fun y => y = M) := inv_puts (i3.mono (S' := fun y => y = M) fun _ e => e.elim) (candNew g1 pages x) (.inr ⟨c1, M, c2, rfl⟩)
 have c3 : CandOk (wrN (meetsM d3).2 1 0 (headS true (appHead g1 pages x)) 1) (candNew g1 pages x) := c1.write1 (.inr (by decide))
 have c4 : CandSt (wrN (meetsM d3).2 1 0 (headS true (appHead g1 pages x)) 1) (candNew g1 pages x) M := c2.write1
 have hn4 := head_now d3 true (appHead g1 pages x)
 obtain ⟨d4, hd4⟩ : ∃ d4, d4 = wrN (meetsM d3).2 1 0 (headS true (appHead g1 pages x)) 1 := ⟨_, rfl⟩
 rw [← hd4] at i4 c3 c4 hn4 ⊢
 clear hd4 a1 a2 a3 c1 c2
 have m4 : Kin g { g1 with torn := true } := ⟨m1.head, m1.has, m1.list, m1.pair⟩
 rcases lsync_or (g := { g1 with torn := true }) (d := d4) with ⟨a1, a2, a3⟩ | ⟨a1, a2, a3⟩
 ·rw [← eh]
  refine hfail _ (by rw [steps_fail a1]; exact a1) (by rw [steps_fail a1, a2]; exact ⟨m4.head, m4.has, m4.list, m4.pair⟩) ?_
  rw [steps_fail a1, a2]
  exact keep (i4.alike a3) (fun y hy => hy) _
 have a1' : (lsyncM { g1 with torn := true } d4).1 = 0 := a1
 rw [steps_done a1', a2, a3]
 refine ⟨fun _ => ⟨⟨fun y hy hf => ?_, ?_, ?_, ?_, fun s hs => .inl ?_⟩, rfl⟩, fun e => absurd rfl e⟩
 ·have hy : y ∈ keepsOf 1 d4.loose := hy
  unfold keepsOf at hy
  exact i4.cut1 y (List.mem_filter.1 hy).1 hf
 ·exact c3.sync1
 ·exact c4.sync1
 ·show (appText g pages x).2 = (candTx (candNew g1 pages x)).2
  rw [candNew_tx i1.pair, ← et]
 ·exact ((may_sync hs).2 rfl).trans hn4
end
end Go.Proofs.YtlkkclooihjpiaaGreat
