/- Plain laws of a pager's model: an append on a calm disk; commits; what inside leaves; pages that can be read. -/
import Derived.Test.YtmajfepbbeecjaaGreatPhB
namespace Go.Proofs.YtmajfepbbeecjaaGreat
open Go.RowKit Go.Maps
set_option linter.unusedVariables false
set_option linter.unusedSimpArgs false
set_option maxRecDepth 20000

theorem putsN_length_ok (salt : Int) : ∀ (l : List Fr) (p : Int × Int), (∀ f ∈ l, frOk f = true) → (putsN salt l p).1.length = 576 * l.length
  | [], p, _ => by simp [putsN]
  | f :: r, p, h => by
    have h1 : (putFr p salt f).s.length = 576 := by
      have hf := h f (by simp)
      unfold putFr
      rw [if_pos hf]
      unfold frOk at hf
      simp only [Bool.and_eq_true, decide_eq_true_eq] at hf
      exact frL_length p salt f hf.2
    have h2 := putsN_length_ok salt r (putFr p salt f).q (fun x hx => h x (by simp [hx]))
    simp only [putsN, List.length_append, List.length_cons]
    omega
theorem frsOf_ok {pages : Int} {x : List Img} (hp : 1 ≤ pages ∧ pages ≤ 256) (hx : ∀ i ∈ x, imgBad i = false) : ∀ f ∈ frsOf pages x, frOk f = true := by
  intro f hf
  obtain ⟨i, hi, rfl⟩ := List.getElem_of_mem hf
  have hi2 : i < x.length := by simpa [frsOf_length] using hi
  rw [frsOf_get pages x i hi2]
  have hb := hx x[i] (List.getElem_mem hi2)
  unfold imgBad at hb
  simp only [Bool.or_eq_false_iff, Bool.not_eq_false', bne_eq_false_iff_eq] at hb
  unfold frOk frAt frMay
  rw [Bool.and_eq_true, Bool.and_eq_true, decide_eq_true_eq]
  refine ⟨⟨hb.1, inB_true.2 ?_⟩, hb.2⟩
  show 0 ≤ (if i + 1 = x.length then pages else 0) ∧ (if i + 1 = x.length then pages else 0) ≤ 256
  split <;> omega
section
variable {p : Pg} {g : Lg} {d : Dsk} {x : POp}
/-- An append on a disk on which nothing fails. -/
theorem app_done (h : LgCalm g d) (hg : g.Ok) {pages : Int} {x : List Img} (hp : 1 ≤ pages ∧ pages ≤ 256) (h0 : x ≠ []) (hx : ∀ i ∈ x, imgBad i = false) (hr : g.list.length + x.length ≤ 256) : (lappendM pages x g d).1 = 0 := by
  have hl : x.length ≠ 0 := fun e => h0 (List.length_eq_zero_iff.1 e)
  have hany : ¬ x.any imgBad = true := by
    intro e
    obtain ⟨i, hi, hb⟩ := List.any_eq_true.1 e
    rw [hx i hi] at hb
    cases hb
  unfold lappendM
  rw [if_neg (by rw [h.off]; decide), if_neg (by omega), if_neg hany, if_neg (by omega)]
  have htext : (appText g pages x).1.length = (9 * x.length) * 64 := by
    unfold appText
    rw [putsN_length_ok _ _ _ (frsOf_ok hp hx), frsOf_length]
    omega
  have hS : (lputsS (appHead g pages x) true).length = 1 * 64 := by
    show (hdR (appHead g pages x)).1.length = _
    unfold hdR
    rw [if_pos (by unfold hdMay appHead inB; simp; omega)]
    exact hdL_length _
  have hs : (lstepsM (appSteps g pages x) g d).1 = 0 := by
    unfold appSteps
    rw [steps_one (mend_calm h.torn)]
    have w1 := write_ok h.calm (k := 1) (a := 1 + 9 * g.list.length) (by decide) htext (by omega) (by omega)
    have c1 := calm_write h.calm ((1 : Nat) : Int) ((1 + 9 * g.list.length : Nat) : Int) (appText g pages x).1
    have e1 : ((1 + 9 * g.list.length : Nat) : Int) = 1 + 9 * (g.list.length : Int) := by omega
    rw [e1] at w1 c1
    have r1 : lwriteM (appText g pages x).1 g d = (0, g, (writeM d 1 (1 + 9 * g.list.length) (appText g pages x).1).2) := by
      unfold lwriteM
      exact Prod.ext w1 rfl
    rw [steps_one r1]
    obtain ⟨d1, hd⟩ : ∃ d1, d1 = (writeM d 1 (1 + 9 * g.list.length) (appText g pages x).1).2 := ⟨_, rfl⟩
    have c1 : Calm (writeM d 1 (1 + 9 * g.list.length) (appText g pages x).1).2 := c1
    rw [← hd] at c1 ⊢
    clear hd r1 w1
    obtain ⟨r2, c2⟩ := sync_log (g := g) c1 h.off
    rw [steps_one r2]
    obtain ⟨d2, hd⟩ : ∃ d2, d2 = (syncM d1 1).2 := ⟨_, rfl⟩
    rw [← hd] at c2 ⊢
    clear hd r2
    have w3 : (writeM d2 ((1 : Nat) : Int) ((0 : Nat) : Int) (lputsS (appHead g pages x) true)).1 = 0 := write_ok c2 (by decide) hS (by decide) (by decide)
    have w3 : (writeM d2 1 0 (lputsS (appHead g pages x) true)).1 = 0 := w3
    have c3 : Calm (writeM d2 1 0 (lputsS (appHead g pages x) true)).2 := calm_write c2 1 0 _
    have r3 : lputsM (appHead g pages x) true { g with torn := false } d2 = (0, { g with torn := true }, (writeM d2 1 0 (lputsS (appHead g pages x) true)).2) := by
      unfold lputsM
      rw [w3]
      simp
    rw [steps_one r3]
    obtain ⟨r4, -⟩ := sync_log (g := { g with torn := true }) c3 h.off
    rw [steps_one r4]
    rfl
  rw [if_neg (by rw [hs]; simp)]
/-- .. or it has no room. -/
theorem app_done_or_full (h : LgCalm g d) (hg : g.Ok) {pages : Int} {x : List Img} (hp : 1 ≤ pages ∧ pages ≤ 256) (h0 : x ≠ []) (hx : ∀ i ∈ x, imgBad i = false) : (lappendM pages x g d).1 = 0 ∨ (lappendM pages x g d).1 = 8 := by
  by_cases hr : g.list.length + x.length ≤ 256
  · exact .inl (app_done h hg hp h0 hx hr)
  · have hl : x.length ≠ 0 := fun e => h0 (List.length_eq_zero_iff.1 e)
    have hany : ¬ x.any imgBad = true := by
      intro e
      obtain ⟨i, hi, hb⟩ := List.any_eq_true.1 e
      rw [hx i hi] at hb
      cases hb
    refine .inr ?_
    unfold lappendM
    rw [if_neg (by rw [h.off]; decide), if_neg (by omega), if_neg hany, if_pos (by omega)]

/-! ### Commits -/
theorem trImgs_good {t : Tr} (h : t.Ok) : ∀ i ∈ trImgs t, imgBad i = false := by
  intro i hi
  unfold trImgs at hi
  obtain ⟨q, hq, rfl⟩ := List.mem_map.1 hi
  obtain ⟨hq1, hq2⟩ := keysOf_mem.1 hq
  obtain ⟨s, hs⟩ := Option.isSome_iff_exists.1 hq2
  have hd := h.dom q s hs
  unfold imgBad
  simp only [hs, Option.getD_some, hd.2.2]
  rw [inB_true.2 hq1]
  rfl
theorem trImgs_some {t : Tr} {q : Int} (hq : 1 ≤ q ∧ q ≤ 256) (h : (t.wr q).isSome = true) : trImgs t ≠ [] := by
  intro e
  unfold trImgs at e
  have := keysOf_mem.2 ⟨hq, h⟩
  rw [List.map_eq_nil_iff.1 e] at this
  cases this
theorem calm_page (h : LgCalm g d) (n : Int) (hn : 1 ≤ n ∧ n ≤ 256) : (pageM g d n g.list.length).2 = 0 := by
  obtain ⟨m, rfl⟩ : ∃ m : Nat, n = (m : Int) := ⟨n.toNat, by omega⟩
  rw [pageM_calm h.calm.on h.eight m g.list.length (by omega) (by omega) (Nat.le_refl _)]
theorem putM_calm (t : Tr) (h : LgCalm g d) (hg : g.Ok) (p : Pg) : LgCalm (putM p t g d).2.2.1 (putM p t g d).2.2.2 ∧ (putM p t g d).2.1 = emptied p := by
  obtain ⟨ck1, ck2⟩ := check_calm h hg
  unfold putM
  split
  · rw [if_neg (by rw [ck1]; simp)]
    exact ⟨app_calm ck2.calm _ _, rfl⟩
  · exact ⟨app_calm h _ _, rfl⟩
theorem putM_small (t : Tr) (N : Nat) (hp : g.head.pages ≤ 256) (h : d.Small N) (p : Pg) : (putM p t g d).2.2.2.Small (N + 8519680) := by
  have hc := ck_small g d N (N + 8388608) (Nat.le_refl _) hp h
  unfold putM
  split
  · split
    · exact hc.mono (by omega)
    · exact app_small _ _ _ _ (N + 8388608) _ (by omega) hc
  · exact app_small _ _ _ _ N _ (by omega) h
theorem commit_calm (h : LgCalm g d) (hg : g.Ok) (p : Pg) : LgCalm (pcommitM p g d).2.2.1 (pcommitM p g d).2.2.2 := by
  unfold pcommitM
  split
  · exact h
  · split
    · split
      · exact h
      split
      · exact h
      · exact (putM_calm _ h hg _).1
    · exact (putM_calm _ h hg _).1
theorem commit_small (N : Nat) (hp : g.head.pages ≤ 256) (h : d.Small N) (p : Pg) : (pcommitM p g d).2.2.2.Small (N + 8519680) := by
  have hm := h.mono (M := N + 8519680) (by omega)
  unfold pcommitM
  split
  · exact hm
  · split
    · split
      · exact hm
      split
      · exact hm
      · exact putM_small _ N hp h _
    · exact putM_small _ N hp h _
theorem commit_pg (p : Pg) (g : Lg) (d : Dsk) (hp : p.now ≠ none) : (pcommitM p g d).2.1 = emptied p := by
  unfold pcommitM
  split
  · rename_i h
    exact absurd h hp
  · split
    · split
      · rfl
      split
      · rfl
      · unfold putM
        split
        · split <;> rfl
        · rfl
    · unfold putM
      split
      · split <;> rfl
      · rfl
/-- A commit of a transaction that wrote something, where the log has room. -/
theorem putM_done {t : Tr} (h : LgCalm g d) (hg : g.Ok) (ht : t.Ok) (h1 : 1 ≤ t.pages) (hs : trImgs t ≠ []) (hm : g.list = []) (p : Pg) : (putM p t g d).1 = 0 := by
  have hl := trImgs_length t
  have hz : g.list.length = 0 := by rw [hm]; rfl
  unfold putM
  rw [if_neg (by omega)]
  exact app_done h hg ⟨h1, ht.pages.2⟩ hs (trImgs_good ht) (by omega)

/-! ### What inside leaves -/
def HasPage (p : Pg) : Prop := p.now ≠ none ∧ (∀ t, p.now = some t → 1 ≤ t.pages ∧ (t.wr 1).isSome = true) ∧ ∀ t ∈ p.saves, 1 ≤ t.pages ∧ (t.wr 1).isSome = true
theorem insideP_has (least : Int) (x : POp) (h : HasPage p) : HasPage (insideP least p x) := by
  obtain ⟨h1, h2, h3⟩ := h
  obtain ⟨t, ht⟩ := Option.ne_none_iff_exists'.1 h1
  have hh := h2 t ht
  unfold insideP
  split
  · unfold pwriteM
    rw [ht]
    dsimp only
    split
    · exact ⟨h1, h2, h3⟩
    split
    · exact ⟨h1, h2, h3⟩
    · refine ⟨by simp, fun t' e => ?_, h3⟩
      simp only [Option.some.injEq] at e
      subst e
      refine ⟨hh.1, ?_⟩
      show (if (1 : Int) = x.n then some (opBytes x) else t.wr 1).isSome = true
      split
      · rfl
      · exact hh.2
  split
  · unfold presizeM
    rw [ht]
    dsimp only
    split
    · exact ⟨h1, h2, h3⟩
    · rename_i hr
      refine ⟨by simp, fun t' e => ?_, h3⟩
      simp only [Option.some.injEq] at e
      subst e
      refine ⟨by show 1 ≤ x.n; omega, ?_⟩
      show (if x.n < 1 then none else if t.pages < 1 then some (zeros 512) else t.wr 1).isSome = true
      rw [if_neg (by omega)]
      split
      · rfl
      · exact hh.2
  split
  · unfold psaveM
    rw [ht]
    dsimp only
    split
    · exact ⟨h1, h2, h3⟩
    · refine ⟨by simp, (fun t' e => by simp only [Option.some.injEq] at e; subst e; exact hh), fun t' ht' => ?_⟩
      rcases List.mem_append.1 ht' with e | e
      · exact h3 t' e
      · rw [List.mem_singleton.1 e]
        exact hh
  split
  · split
    · unfold pbackM
      rw [ht]
      dsimp only
      split
      · exact ⟨h1, h2, h3⟩
      · rename_i hr
        have hlt : x.n.toNat - 1 < p.saves.length := by omega
        refine ⟨by simp [List.getElem?_eq_getElem hlt], fun t' e => ?_, fun t' ht' => h3 t' (List.mem_of_mem_take ht')⟩
        exact h3 t' (List.mem_of_getElem? e)
    · exact ⟨h1, h2, h3⟩
  split
  · split
    · unfold preleaseM
      rw [ht]
      dsimp only
      split
      · exact ⟨h1, h2, h3⟩
      · exact ⟨by simp, (fun t' e => by simp only [Option.some.injEq] at e; subst e; exact hh), fun t' ht' => h3 t' (List.mem_of_mem_take ht')⟩
    · exact ⟨h1, h2, h3⟩
  · exact ⟨h1, h2, h3⟩
theorem insideM_has (least : Int) : ∀ (l : List POp) (p : Pg), HasPage p → HasPage (insideM l least p)
  | [], _, h => h
  | x :: r, p, h => insideM_has least r (insideP least p x) (insideP_has least x h)
/-- What lies below k is as it was. -/
structure Under (k : Nat) (p q : Pg) : Prop where
  now : p.now ≠ none → q.now ≠ none
  opn : q.opn = p.opn
  saves : q.saves.take k = p.saves.take k
  len : k ≤ q.saves.length
theorem insideP_under (k : Nat) (x : POp) (hk : k ≤ p.saves.length) : Under k p (insideP k p x) := by
  have same : Under k p p := ⟨id, rfl, rfl, hk⟩
  unfold insideP
  split
  · unfold pwriteM
    split
    · exact same
    split
    · exact same
    split
    · exact same
    · exact ⟨fun _ => by simp, rfl, rfl, hk⟩
  split
  · unfold presizeM
    split
    · exact same
    split
    · exact same
    · exact ⟨fun _ => by simp, rfl, rfl, hk⟩
  split
  · unfold psaveM
    split
    · exact same
    split
    · exact same
    · refine ⟨id, rfl, ?_, by simp; omega⟩
      exact List.take_append_of_le_length hk
  split
  · split
    · unfold pbackM
      split
      · exact same
      split
      · exact same
      · rename_i h1 _ t hp h2
        have hlt : x.n.toNat - 1 < p.saves.length := by omega
        refine ⟨fun _ => by simp [List.getElem?_eq_getElem hlt], rfl, ?_, by simp; omega⟩
        show (p.saves.take x.n.toNat).take k = _
        rw [List.take_take, Nat.min_eq_left (by omega)]
    · exact same
  split
  · split
    · unfold preleaseM
      split
      · exact same
      split
      · exact same
      · rename_i h1 _ t hp h2
        refine ⟨id, rfl, ?_, by simp; omega⟩
        show (p.saves.take (x.n.toNat - 1)).take k = _
        rw [List.take_take, Nat.min_eq_left (by omega)]
    · exact same
  · exact same
theorem insideM_under (k : Nat) : ∀ (l : List POp) (p : Pg), k ≤ p.saves.length → Under k p (insideM l k p)
  | [], p, hk => ⟨id, rfl, rfl, hk⟩
  | x :: r, p, hk => by
    have h1 := insideP_under k x hk
    have h2 := insideM_under k r (insideP k p x) h1.len
    exact ⟨fun e => h2.now (h1.now e), h2.opn.trans h1.opn, h2.saves.trans h1.saves, h2.len⟩
theorem insideM_now (least : Int) (l : List POp) (p : Pg) (h : p.now ≠ none) : (insideM l least p).now ≠ none := by
  have : ∀ (l : List POp) (p : Pg), p.now ≠ none → (insideM l least p).now ≠ none := by
    intro l
    induction l with
    | nil => exact fun p h => h
    | cons x r ih =>
      intro p h
      refine ih (insideP least p x) ?_
      obtain ⟨t, ht⟩ := Option.ne_none_iff_exists'.1 h
      unfold insideP
      split
      · unfold pwriteM
        rw [ht]
        dsimp only
        split
        · exact h
        split
        · exact h
        · simp
      split
      · unfold presizeM
        rw [ht]
        dsimp only
        split
        · exact h
        · simp
      split
      · unfold psaveM
        rw [ht]
        dsimp only
        split
        · exact h
        · simp [ht]
      split
      · split
        · unfold pbackM
          rw [ht]
          dsimp only
          split
          · exact h
          · have hlt : x.n.toNat - 1 < p.saves.length := by omega
            simp [List.getElem?_eq_getElem hlt]
        · exact h
      split
      · split
        · unfold preleaseM
          rw [ht]
          dsimp only
          split
          · exact h
          · simp [ht]
        · exact h
      · exact h
  exact this l p h
theorem insideP_opn (least : Int) (x : POp) (p : Pg) : (insideP least p x).opn = p.opn := by
  unfold insideP
  split
  · unfold pwriteM
    split
    · rfl
    split
    · rfl
    split <;> rfl
  split
  · unfold presizeM
    split
    · rfl
    split <;> rfl
  split
  · unfold psaveM
    split
    · rfl
    split <;> rfl
  split
  · split
    · unfold pbackM
      split
      · rfl
      split <;> rfl
    · rfl
  split
  · split
    · unfold preleaseM
      split
      · rfl
      split <;> rfl
    · rfl
  · rfl
theorem insideM_opn (least : Int) : ∀ (l : List POp) (p : Pg), (insideM l least p).opn = p.opn
  | [], _ => rfl
  | x :: r, p => (insideM_opn least r (insideP least p x)).trans (insideP_opn least x p)
/-- Back to where it was. -/
theorem back_there {t : Tr} {q : Pg} (hp : p.now = some t) (hq : Under (p.saves.length + 1) { p with saves := p.saves ++ [t] } q) : pbackM q ((p.saves.length : Int) + 1) = (0, { p with saves := p.saves ++ [t] }) := by
  have hn := hq.now (by simp [hp])
  obtain ⟨u, hu⟩ := Option.ne_none_iff_exists'.1 hn
  have hl := hq.len
  have ht : q.saves.take (p.saves.length + 1) = p.saves ++ [t] := by
    rw [hq.saves]
    exact List.take_of_length_le (by simp)
  have hs : q.saves[p.saves.length]? = some t := by
    have e : (q.saves.take (p.saves.length + 1))[p.saves.length]? = some t := by rw [ht]; simp
    rwa [List.getElem?_take_of_lt (by omega)] at e
  have ek : ((p.saves.length : Int) + 1).toNat = p.saves.length + 1 := by omega
  unfold pbackM
  rw [hu]
  dsimp only
  rw [if_neg (by omega), ek, Nat.add_sub_cancel, hs, ht, ← hp]
  have ho := hq.opn
  dsimp only at ho
  cases q
  cases p
  simp_all

/-! ### Pages that can be read -/
theorem pread_now {p q : Pg} (h : p.now = q.now) (n : Int) : preadM p g d n = preadM q g d n := by unfold preadM ppagesM; rw [h]
theorem pgsL_now {p q : Pg} (h : p.now = q.now) : pgsL p g d = pgsL q g d := by
  unfold pgsL pgsR pgCount
  rw [show ppagesM p g = ppagesM q g by unfold ppagesM; rw [h]]
  simp only [pread_now h]
theorem calm_read (h : LgCalm g d) (n : Int) (h1 : 1 ≤ n ∧ n ≤ ppagesM p g) (h2 : ppagesM p g ≤ 256) : (preadM p g d n).2 = 0 := by
  unfold preadM
  rw [if_neg (by omega)]
  split
  · rfl
  · exact calm_page h n (by omega)
theorem pgsOk_calm (h : LgCalm g d) (h2 : ppagesM p g ≤ 256) : pgsOk p g d := by
  intro k hk
  unfold pgCount at hk
  exact calm_read h _ (by omega) h2
end
end Go.Proofs.YtmajfepbbeecjaaGreat
