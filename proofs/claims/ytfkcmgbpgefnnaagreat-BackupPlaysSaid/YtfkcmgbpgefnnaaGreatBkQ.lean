import Derived.Test.YtfkcmgbpgefnnaaGreatBkF
import Derived.Test.YtfkcmgbpgefnnaaGreatBkJ
set_option linter.unusedVariables false
set_option linter.unusedSimpArgs false
namespace Go.Proofs.YtfkcmgbpgefnnaaGreat
open Go.RowKit Go.Maps
set_option maxRecDepth 20000
theorem lastAt_fun {m : List Fr} {F : Int → List UInt8} (h : ∀ f ∈ m, f.data = F f.page) (n : Int) : ∀ k, k ≤ m.length → (lastAt m n k = none ∧ ∀ f ∈ m.take k, f.page ≠ n) ∨ (lastAt m n k = some (F n) ∧ ∃ f ∈ m.take k, f.page = n)
 | 0, _ => .inl ⟨rfl, by simp⟩
 | k + 1, hk => by
  have hlt : k < m.length := by omega
  rw [List.take_succ_eq_append_getElem hlt]
  by_cases hp : m[k].page = n
  ·refine .inr ⟨?_, m[k], List.mem_append.2 (.inr (List.mem_singleton.2 rfl)), hp⟩
   rw [lastAt_hit hlt hp, h _ (List.getElem_mem hlt), hp]
  ·have e : lastAt m n (k + 1) = lastAt m n k := by
    conv => lhs; unfold lastAt
    rw [List.getElem?_eq_getElem hlt]
    simp only [hp, if_false]
   rw [e]
   rcases lastAt_fun h n k (by omega) with ⟨h1, h2⟩ | ⟨h1, f, hf, h2⟩
   ·refine .inl ⟨h1, fun f hf => ?_⟩
    rcases List.mem_append.1 hf with hf | hf
    ·exact h2 f hf
    ·simp only [List.mem_cons, List.not_mem_nil, or_false] at hf
     rw [hf]
     exact hp
   ·exact .inr ⟨h1, f, List.mem_append.2 (.inl hf), h2⟩
theorem lastAt_both (l m : List Fr) (n : Int) : ∀ k, k ≤ m.length → lastAt (l ++ m) n (l.length + k) = (match lastAt m n k with | some s => some s | none => lastAt l n l.length)
 | 0, _ => by simpa [lastAt] using lastAt_append l m n l.length (Nat.le_refl _)
 | k + 1, hk => by
  have hlt : k < m.length := by omega
  have hlt2 : l.length + k < (l ++ m).length := by simp; omega
  have hg : (l ++ m)[l.length + k] = m[k] := by rw [List.getElem_append_right (by omega)]; simp
  by_cases hp : m[k].page = n
  ·rw [lastAt_hit hlt hp, show l.length + (k + 1) = (l.length + k) + 1 from rfl, lastAt_hit hlt2 (by rw [hg]; exact hp), hg]
  ·have e : lastAt m n (k + 1) = lastAt m n k := by
    conv => lhs; unfold lastAt
    rw [List.getElem?_eq_getElem hlt]
    simp only [hp, if_false]
   have e2 : lastAt (l ++ m) n (l.length + k + 1) = lastAt (l ++ m) n (l.length + k) := by
    conv => lhs; unfold lastAt
    rw [List.getElem?_eq_getElem hlt2, hg]
    simp only [hp, if_false]
   rw [e, show l.length + (k + 1) = (l.length + k) + 1 from rfl, e2]
   exact lastAt_both l m n k (by omega)
theorem frsOf_mem {P : Int} {x : List Img} {f : Fr} (h : f ∈ frsOf P x) : ∃ i ∈ x, f.page = i.page ∧ f.data = i.data := by
 obtain ⟨k, hk, rfl⟩ := List.getElem_of_mem h
 rw [frsOf_length] at hk
 rw [frsOf_get P x k hk]
 exact ⟨x[k], List.getElem_mem hk, rfl, rfl⟩
theorem frsOf_has {P : Int} {x : List Img} {i : Img} (h : i ∈ x) : ∃ f ∈ frsOf P x, f.page = i.page := by
 obtain ⟨k, hk, rfl⟩ := List.getElem_of_mem h
 refine ⟨(frsOf P x)[k]'(by rw [frsOf_length]; exact hk), List.getElem_mem _, ?_⟩
 rw [frsOf_get P x k hk]
 rfl
theorem lastAt_tr {t : Tr} (ht : t.Ok) (n : Int) : lastAt (frsOf t.pages (trImgs t)) n (frsOf t.pages (trImgs t)).length = t.wr n := by
 have h : ∀ f ∈ frsOf t.pages (trImgs t), f.data = (t.wr f.page).getD [] := by
  intro f hf
  obtain ⟨i, hi, h1, h2⟩ := frsOf_mem hf
  obtain ⟨q, hq, rfl⟩ := List.mem_map.1 hi
  rw [h2, h1]
 rcases lastAt_fun (F := fun q => (t.wr q).getD []) h n _ (Nat.le_refl _) with ⟨h1, h2⟩ | ⟨h1, f, hf, h2⟩
 ·rw [h1]
  rw [List.take_length] at h2
  cases hn : t.wr n with
  | none => rfl
  | some s =>
   have hd := ht.dom n s hn
   have hp := ht.pages
   obtain ⟨f, hf, he⟩ := frsOf_has (P := t.pages) (x := trImgs t) (i := ⟨n, (t.wr n).getD []⟩) (List.mem_map.2 ⟨n, keysOf_mem.2 ⟨by omega, by rw [hn]; rfl⟩, rfl⟩)
   exact absurd he (h2 f hf)
 ·rw [h1]
  rw [List.take_length] at hf
  obtain ⟨i, hi, e1, -⟩ := frsOf_mem hf
  obtain ⟨q, hq, rfl⟩ := List.mem_map.1 hi
  have hs := (keysOf_mem.1 hq).2
  have hqn : q = n := e1.symm.trans h2
  rw [hqn] at hs
  cases hn : t.wr n with
  | none => rw [hn] at hs; cases hs
  | some s => rfl
section
variable {g : Lg} {d : Dsk} {p : Pg}
theorem app_done2 (h : LgCalm g d) {pages : Int} {x : List Img} (hp : 1 ≤ pages ∧ pages ≤ 256) (h0 : x ≠ []) (hx : ∀ i ∈ x, imgBad i = false) (hr : g.list.length + x.length ≤ 256) : (lappendM pages x g d).1 = 0 := by
 have hl : x.length ≠ 0 := fun e => h0 (List.length_eq_zero_iff.1 e)
 have hany : ¬ x.any imgBad = true := by
  intro e
  obtain ⟨i, hi, hb⟩ := List.any_eq_true.1 e
  rw [hx i hi] at hb
  cases hb
 unfold lappendM
 rw [if_neg (by rw [h.off]; decide), if_neg (by omega), if_neg hany, if_neg (by omega)]
 have htext : (appText g pages x).1.length = (9 * x.length) * 64 := by
  unfold appText
  rw [putsN_length_ok _ _ _ (frsOf_ok hp hx), frsOf_length]
  omega
 have hS : (lputsS (appHead g pages x) true).length = 1 * 64 := by
  show (hdR (appHead g pages x)).1.length = _
  unfold hdR
  rw [if_pos (by unfold hdMay appHead inB; simp; omega)]
  exact hdL_length _
 have hs : (lstepsM (appSteps g pages x) g d).1 = 0 := by
  unfold appSteps
  rw [steps_one (mend_calm h.torn)]
  have w1 := write_ok h.calm (k := 1) (a := 1 + 9 * g.list.length) (by decide) htext (by omega) (by omega)
  have c1 := calm_write h.calm ((1 : Nat) : Int) ((1 + 9 * g.list.length : Nat) : Int) (appText g pages x).1
  have e1 : ((1 + 9 * g.list.length : Nat) : Int) = 1 + 9 * (g.list.length : Int) := by omega
  rw [e1] at w1 c1
  have r1 : lwriteM (appText g pages x).1 g d = (0, g, (writeM d 1 (1 + 9 * g.list.length) (appText g pages x).1).2) := by
   unfold lwriteM
   exact Prod.ext w1 rfl
  rw [steps_one r1]
  obtain ⟨d1, hd⟩ : ∃ d1, d1 = (writeM d 1 (1 + 9 * g.list.length) (appText g pages x).1).2 := ⟨_, rfl⟩
  have c1 : Calm (writeM d 1 (1 + 9 * g.list.length) (appText g pages x).1).2 := c1
  rw [← hd] at c1 ⊢
  clear hd r1 w1
  obtain ⟨r2, c2⟩ := sync_log (g := g) c1 h.off
  rw [steps_one r2]
  obtain ⟨d2, hd⟩ : ∃ d2, d2 = (syncM d1 1).2 := ⟨_, rfl⟩
  rw [← hd] at c2 ⊢
  clear hd r2
  have w3 : (writeM d2 ((1 : Nat) : Int) ((0 : Nat) : Int) (lputsS (appHead g pages x) true)).1 = 0 := write_ok c2 (by decide) hS (by decide) (by decide)
  have w3 : (writeM d2 1 0 (lputsS (appHead g pages x) true)).1 = 0 := w3
  have c3 : Calm (writeM d2 1 0 (lputsS (appHead g pages x) true)).2 := calm_write c2 1 0 _
  have r3 : lputsM (appHead g pages x) true { g with torn := false } d2 = (0, { g with torn := true }, (writeM d2 1 0 (lputsS (appHead g pages x) true)).2) := by
   unfold lputsM
   rw [w3]
   simp
  rw [steps_one r3]
  obtain ⟨r4, -⟩ := sync_log (g := { g with torn := true }) c3 h.off
  rw [steps_one r4]
  rfl
 rw [if_neg (by rw [hs]; simp)]
theorem app_leaves {t : Tr} (hc : LgCalm g d) (ht : t.Ok) (h : (lappendM t.pages (trImgs t) g d).1 = 0) : (lappendM t.pages (trImgs t) g d).2.1.head.pages = t.pages ∧ (lappendM t.pages (trImgs t) g d).2.1.list = g.list ++ frsOf t.pages (trImgs t) ∧
  ∀ n : Nat, 1 ≤ n → n ≤ 256 → (n : Int) ≤ t.pages → pageM (lappendM t.pages (trImgs t) g d).2.1 (lappendM t.pages (trImgs t) g d).2.2 n (lappendM t.pages (trImgs t) g d).2.1.list.length = (match t.wr n with | some s => s | none => (lastAt g.list n g.list.length).getD (pg (d.now 0) n), 0) := by
 have hl := app_list t.pages (trImgs t) g d
 rw [if_pos h] at hl
 have hcalm := app_calm hc t.pages (trImgs t)
 have hnow := app_now0 t.pages (trImgs t) g d
 refine ⟨?_, hl, fun n h1 h2 h3 => ?_⟩
 ·unfold lappendM at h ⊢
  split at h
  ·rw [hc.off] at *; rename_i hh; cases hh
  ·rename_i h0
   rw [if_neg h0]
   split at h
   ·cases h
   ·rename_i h1
    rw [if_neg h1]
    split at h
    ·cases h
    ·rename_i h2
     rw [if_neg h2]
     split at h
     ·cases h
     ·rename_i h3
      rw [if_neg h3]
      split at h
      ·rename_i h4; exact absurd h h4
      ·rename_i h4
       rw [if_neg h4]
       rfl
 ·rw [pageM_calm hcalm.calm.on (by rw [hnow]; exact hc.eight) n _ h1 h2 (Nat.le_refl _), hl, hnow]
  rw [List.length_append, lastAt_both _ _ _ _ (Nat.le_refl _), lastAt_tr ht]
  cases t.wr n with
  | some s => rfl
  | none => rfl
theorem putM_leaves {t : Tr} (hc : LgCalm g d) (hg : g.Ok) (ht : t.Ok) (h1 : 1 ≤ t.pages) (hs : trImgs t ≠ []) (ho : p.opn = 0) (hn : ∀ n : Int, g.head.pages < n → n ≤ t.pages → (t.wr n).isSome = true) :
  (putM p t g d).1 = 0 ∧ (putM p t g d).2.2.1.head.pages = t.pages ∧
  ∀ n : Nat, 1 ≤ n → (n : Int) ≤ t.pages → pageM (putM p t g d).2.2.1 (putM p t g d).2.2.2 n (putM p t g d).2.2.1.list.length = (match t.wr n with | some s => s | none => (pageM g d n g.list.length).1, 0) := by
 have hp := ht.pages
 have hgood := trImgs_good ht
 have hold : ∀ n : Nat, 1 ≤ n → n ≤ 256 → (pageM g d n g.list.length).1 = (lastAt g.list n g.list.length).getD (pg (d.now 0) n) := fun n a b => by
  rw [pageM_calm hc.calm.on hc.eight n _ a b (Nat.le_refl _)]
 have hlen := trImgs_length t
 unfold putM
 by_cases hfull : 256 < g.list.length + (trImgs t).length ∧ p.opn = 0
 ·rw [if_pos hfull]
  obtain ⟨he, hk⟩ := check_calm hc hg
  rw [if_neg (by rw [he]; simp)]
  have hg2 : (lcheckM g d).2.1.list.length + (trImgs t).length ≤ 256 := by rw [hk.list]; simp; omega
  have hone : ∀ n : Nat, 1 ≤ n → (n : Int) ≤ g.head.pages → (lastAt (lcheckM g d).2.1.list n (lcheckM g d).2.1.list.length).getD (pg ((lcheckM g d).2.2.now 0) n) = (pageM g d n g.list.length).1 := fun n a b => by
   rw [← hk.page n a b]
   rw [pageM_calm hk.calm.calm.on hk.calm.eight n _ a (by have := hg.pages; omega) (Nat.le_refl _)]
  have hok2 : (lappendM t.pages (trImgs t) (lcheckM g d).2.1 (lcheckM g d).2.2).1 = 0 := by
   refine app_done2 hk.calm ⟨h1, hp.2⟩ hs hgood hg2
  obtain ⟨a1, a2, a3⟩ := app_leaves hk.calm ht hok2
  refine ⟨hok2, a1, fun n n1 n2 => (a3 n n1 (by omega) n2).trans ?_⟩
  cases hw : t.wr n with
  | some s => rfl
  | none =>
   have hle : (n : Int) ≤ g.head.pages := by
    have := hn n
    rw [hw] at this
    simp at this
    omega
   simp only [hone n n1 hle]
 ·rw [if_neg hfull]
  have hok2 : (lappendM t.pages (trImgs t) g d).1 = 0 := app_done hc hg ⟨h1, hp.2⟩ hs hgood (by rw [ho] at hfull; simp at hfull; omega)
  obtain ⟨a1, a2, a3⟩ := app_leaves hc ht hok2
  refine ⟨hok2, a1, fun n n1 n2 => (a3 n n1 (by omega) n2).trans ?_⟩
  cases hw : t.wr n with
  | some s => rfl
  | none => simp only [hold n n1 (by omega)]
end
structure Db (g : Lg) (d : Dsk) (L : List (List UInt8)) : Prop where
 calm : LgCalm g d
 pages : g.head.pages = (L.length : Int)
 many : L.length ≤ 256
 page : ∀ n : Nat, 1 ≤ n → n ≤ L.length → pageM g d n g.list.length = (L.getD (n - 1) [], 0)
 len : ∀ s ∈ L, s.length = 512
structure Tx (p : Pg) (g : Lg) (d : Dsk) (t : Tr) (M : List (List UInt8)) : Prop where
 now : p.now = some t
 opn : p.opn = 0
 ok : t.Ok
 pages : t.pages = (M.length : Int)
 page : ∀ n : Nat, 1 ≤ n → n ≤ M.length → t.wr n = some (M.getD (n - 1) []) ∨ (t.wr n = none ∧ (n : Int) ≤ g.head.pages ∧ pageM g d n g.list.length = (M.getD (n - 1) [], 0))
section
variable {g : Lg} {d : Dsk} {p : Pg} {t : Tr} {L M : List (List UInt8)}
theorem getD_mem {L : List (List UInt8)} {i : Nat} (h : i < L.length) : L.getD i [] ∈ L := by
 rw [List.getD_eq_getElem?_getD, List.getElem?_eq_getElem h]
 exact List.getElem_mem h
theorem tx_begin (h : Db g d L) (hn : p.now = none) (ho : p.opn = 0) : beginM p g = (0, { p with now := some ⟨g.head.pages, fun _ => none⟩ }) ∧ Tx { p with now := some ⟨g.head.pages, fun _ => none⟩ } g d ⟨g.head.pages, fun _ => none⟩ L := by
 refine ⟨by unfold beginM; rw [hn], rfl, ho, ⟨by have := h.pages; have := h.many; show 0 ≤ g.head.pages ∧ g.head.pages ≤ 256; omega, fun q s e => by cases e⟩, h.pages, fun n h1 h2 => .inr ⟨rfl, by have := h.pages; omega, h.page n h1 h2⟩⟩
theorem tx_pages (h : Tx p g d t M) : ppagesM p g = (M.length : Int) := by unfold ppagesM; rw [h.now]; exact h.pages
theorem db_pages (h : Db g d L) (hn : p.now = none) : ppagesM p g = (L.length : Int) := by unfold ppagesM; rw [hn]; exact h.pages
theorem tx_read (h : Tx p g d t M) (n : Nat) (h1 : 1 ≤ n) (h2 : n ≤ M.length) : preadM p g d n = (M.getD (n - 1) [], 0) := by
 unfold preadM
 rw [tx_pages h, if_neg (by omega), h.now]
 rcases h.page n h1 h2 with e | ⟨e, -, e2⟩
 ·simp only [e]
 ·simp only [e]
  exact e2
theorem db_read (h : Db g d L) (hn : p.now = none) (n : Nat) (h1 : 1 ≤ n) (h2 : n ≤ L.length) : preadM p g d n = (L.getD (n - 1) [], 0) := by
 unfold preadM
 rw [db_pages h hn, if_neg (by omega), hn]
 exact h.page n h1 h2
theorem tx_resize (h : Tx p g d t M) {n : Nat} (h1 : 1 ≤ n) (h2 : n ≤ 256) : ∃ t', presizeM p n = (0, { p with now := some t' }) ∧ Tx { p with now := some t' } g d t' ((List.range n).map fun i => if i < M.length then M.getD i [] else zeros 512) ∧ ((t.wr 1).isSome = true → (t'.wr 1).isSome = true) := by
 refine ⟨⟨n, fun k => if (n : Int) < k then none else if t.pages < k then some (zeros 512) else t.wr k⟩, ?_, ⟨rfl, h.opn, ⟨by show (0 : Int) ≤ n ∧ (n : Int) ≤ 256; omega, fun q s e => ?_⟩, by simp, fun m m1 m2 => ?_⟩, fun hs => ?_⟩
 ·unfold presizeM
  rw [h.now]
  exact if_neg (by omega)
 ·dsimp only at e ⊢
  have hp := h.ok.pages
  split at e
  ·cases e
  split at e
  ·cases e
   exact ⟨by omega, by omega, zeros_length 512⟩
  ·have := h.ok.dom q s e
   exact ⟨this.1, by omega, this.2.2⟩
 ·simp only [List.length_map, List.length_range] at m2
  have em : ((List.range n).map fun i => if i < M.length then M.getD i [] else zeros 512).getD (m - 1) [] = if m - 1 < M.length then M.getD (m - 1) [] else zeros 512 := by
   rw [List.getD_eq_getElem?_getD, List.getElem?_eq_getElem (by simp; omega)]
   simp
  rw [em]
  dsimp only
  rw [if_neg (show ¬ (n : Int) < m by omega)]
  have hp := h.pages
  by_cases hm : m - 1 < M.length
  ·rw [if_pos hm, if_neg (by omega)]
   exact h.page m m1 (by omega)
  ·rw [if_neg hm, if_pos (by omega)]
   exact .inl rfl
 ·dsimp only
  rw [if_neg (by omega)]
  split
  ·rfl
  ·exact hs
theorem tx_write (h : Tx p g d t M) {n : Nat} {s : List UInt8} (h1 : 1 ≤ n) (h2 : n ≤ M.length) (hs : s.length = 512) : ∃ t', pwriteM p n s = (0, { p with now := some t' }) ∧ Tx { p with now := some t' } g d t' (M.set (n - 1) s) ∧ (n = 1 ∨ (t.wr 1).isSome = true → (t'.wr 1).isSome = true) := by
 have hp := h.pages
 refine ⟨{ t with wr := fun k => if k = (n : Int) then some s else t.wr k }, ?_, ⟨rfl, h.opn, ⟨h.ok.pages, fun q u e => ?_⟩, by simp [hp], fun m m1 m2 => ?_⟩, fun hs1 => ?_⟩
 ·unfold pwriteM
  rw [h.now]
  show (if (n : Int) < 1 ∨ t.pages < (n : Int) then _ else _) = _
  rw [if_neg (by omega), if_neg (by omega)]
 ·dsimp only at e ⊢
  split at e
  ·rename_i e1
   cases e
   exact ⟨by omega, by omega, hs⟩
  ·exact h.ok.dom q u e
 ·rw [List.length_set] at m2
  dsimp only
  by_cases e : m = n
  ·subst e
   rw [if_pos rfl, List.getD_eq_getElem?_getD, List.getElem?_set_self (by omega)]
   exact .inl rfl
  ·rw [if_neg (by omega), List.getD_eq_getElem?_getD, List.getElem?_set_ne (by omega), ← List.getD_eq_getElem?_getD]
   exact h.page m m1 m2
 ·dsimp only
  by_cases e : (1 : Int) = (n : Int)
  ·rw [if_pos e]; rfl
  ·rw [if_neg e]
   rcases hs1 with e1 | e1
   ·omega
   ·exact e1
theorem tx_commit (h : Tx p g d t M) (hc : LgCalm g d) (hg : g.Ok) (h1 : (t.wr 1).isSome = true) (hlen : ∀ s ∈ M, s.length = 512) : ∃ g' d', pcommitM p g d = (0, emptied p, g', d') ∧ Db g' d' M := by
 have hp := h.pages
 have hk : 1 ≤ M.length := by
  cases hw : t.wr 1 with
  | none => rw [hw] at h1; cases h1
  | some s => have := h.ok.dom 1 s hw; omega
 have hne : trImgs t ≠ [] := trImgs_some ⟨by decide, by decide⟩ h1
 have hkeys : keysOf t.wr ≠ [] := fun e => hne (by unfold trImgs; rw [e]; rfl)
 have hall : ∀ n : Int, g.head.pages < n → n ≤ t.pages → (t.wr n).isSome = true := fun n a b => by
  have hg1 := hg.pages
  obtain ⟨m, rfl⟩ : ∃ m : Nat, n = m := ⟨n.toNat, by omega⟩
  rcases h.page m (by omega) (by omega) with e | ⟨-, e, -⟩
  ·rw [e]; rfl
  ·omega
 obtain ⟨r1, r2, r3⟩ := putM_leaves (p := p) hc hg h.ok (by omega) hne h.opn hall
 have hcalm := putM_calm t hc hg p
 have e : pcommitM p g d = putM p t g d := by unfold pcommitM; rw [h.now]; exact if_neg hkeys
 refine ⟨(putM p t g d).2.2.1, (putM p t g d).2.2.2, ?_, ⟨hcalm.1, by rw [r2, hp], by have := h.ok.pages; omega, fun n n1 n2 => ?_, hlen⟩⟩
 ·rw [e]
  exact Prod.ext r1 (Prod.ext hcalm.2 rfl)
 ·rw [r3 n n1 (by omega)]
  rcases h.page n n1 n2 with e | ⟨e, -, e2⟩
  ·simp only [e]
  ·simp only [e]
   rw [e2]
end
structure HdOk (h : Hdr) : Prop where
 may : hdrMayB h = true
 wf : h.Wf
theorem hd0_ok : HdOk hdr0 := ⟨by decide, hdr0_wf⟩
theorem writeHM_ok {p : Pg} {h : Hdr} (hh : HdOk h) : writeHM p h = pwriteM p 1 (hdrPg h) := by
 unfold writeHM putH
 rw [if_pos hh.may]
 simp
section
variable {g : Lg} {d : Dsk} {p : Pg} {t : Tr} {L M : List (List UInt8)} {h h' : Hdr}
theorem readHM_head {s : List UInt8} (hP : ppagesM p g ≠ 0) (hr : preadM p g d 1 = (s, 0)) (hh : HdOk h) (hs : s = hdrPg h) : readHM p g d = (h, 0) := by
 unfold readHM
 rw [if_neg hP, hr, if_neg (by simp), hs]
 exact takeH_put hh.may hh.wf
theorem db_head (hD : Db g d (hdrPg h :: L)) (hn : p.now = none) (hh : HdOk h) : readHM p g d = (h, 0) := by
 refine readHM_head (s := hdrPg h) (by rw [db_pages hD hn]; simp; omega) ?_ hh rfl
 have := db_read hD hn 1 (Nat.le_refl _) (by simp)
 simpa using this
theorem tx_ready (hT : Tx p g d t (hdrPg h :: M)) (hh : HdOk h) : readHM p g d = (h, 0) ∧ readySM p g d = (h, 0) := by
 have hP : ppagesM p g ≠ 0 := by rw [tx_pages hT]; simp; omega
 have hr : readHM p g d = (h, 0) := by
  refine readHM_head (s := hdrPg h) hP ?_ hh rfl
  have := tx_read hT 1 (Nat.le_refl _) (by simp)
  simpa using this
 refine ⟨hr, ?_⟩
 unfold readySM
 rw [hr, if_neg (by simp), if_neg]
 rw [hT.now]
 simp [hP]
theorem sp_begin (hD : Db g d L) (hL : (L = [] ∧ h = hdr0) ∨ ∃ M, L = hdrPg h :: M) (hh : HdOk h) (hn : p.now = none) (ho : p.opn = 0) : ∃ t' M', spBeginM p g d = (0, { p with now := some t' }) ∧ Tx { p with now := some t' } g d t' (hdrPg h :: M') ∧ hdrPg h :: M' = (if L = [] then [hdrPg hdr0] else L) := by
 obtain ⟨b1, b2⟩ := tx_begin hD hn ho
 unfold spBeginM
 rw [b1]
 rw [if_neg (by simp)]
 rcases hL with ⟨rfl, rfl⟩ | ⟨M, rfl⟩
 ·rw [if_pos (by rw [tx_pages b2]; rfl)]
  obtain ⟨t1, r1, r2, -⟩ := tx_resize b2 (n := 1) (Nat.le_refl _) (by decide)
  have r1 : presizeM { p with now := some ⟨g.head.pages, fun _ => none⟩ } 1 = (0, { p with now := some t1 }) := r1
  rw [r1]
  rw [writeHM_ok hd0_ok]
  obtain ⟨t2, w1, w2, -⟩ := tx_write r2 (n := 1) (s := hdrPg hdr0) (Nat.le_refl _) (by simp) (hdrPg_length _ rfl)
  have w1 : pwriteM { p with now := some t1 } 1 (hdrPg hdr0) = (0, { p with now := some t2 }) := w1
  refine ⟨t2, [], w1, w2, by simp⟩
 ·rw [if_neg (by rw [tx_pages b2]; simp; omega)]
  rw [(tx_ready b2 hh).1]
  rw [if_neg (by simp)]
  exact ⟨_, M, rfl, b2, by simp⟩
theorem bumped_ok (hh : HdOk h) : HdOk (bumped h) := ⟨hh.may, bumped_wf hh.wf⟩
theorem sp_writeH (hT : Tx p g d t (hdrPg h :: M)) (hh : HdOk h') : ∃ t', writeHM p h' = (0, { p with now := some t' }) ∧ Tx { p with now := some t' } g d t' (hdrPg h' :: M) ∧ (t'.wr 1).isSome = true := by
 rw [writeHM_ok hh]
 obtain ⟨t2, w1, w2, w3⟩ := tx_write hT (n := 1) (s := hdrPg h') (Nat.le_refl _) (by simp) (hdrPg_length _ hh.wf.len)
 exact ⟨t2, w1, w2, w3 (.inl rfl)⟩
theorem sp_commit (hT : Tx p g d t (hdrPg h :: M)) (hh : HdOk h) (hc : LgCalm g d) (hg : g.Ok) (hlen : ∀ s ∈ M, s.length = 512) : ∃ g' d', spCommitM p g d = (0, emptied p, g', d') ∧ Db g' d' (hdrPg (bumped h) :: M) := by
 unfold spCommitM
 rw [(tx_ready hT hh).2]
 rw [if_neg (by simp)]
 obtain ⟨t1, w1, w2, w3⟩ := sp_writeH hT (bumped_ok hh)
 rw [w1, if_neg (by simp)]
 obtain ⟨g', d', c1, c2⟩ := tx_commit w2 hc hg w3 (fun s hs => by
  rcases List.mem_cons.1 hs with e | e
  ·rw [e]; exact hdrPg_length _ (bumped_wf hh.wf).len
  ·exact hlen s e)
 exact ⟨g', d', c1, c2⟩
end
section
variable {g : Lg} {d : Dsk} {p : Pg} {t : Tr} {L M : List (List UInt8)} {h h' : Hdr}
theorem turnP_tx (hT : Tx p g d t (hdrPg h :: M)) (hM : ∀ s ∈ M, s.length = 512) {P : Nat} (h1 : 1 ≤ P) (h2 : P ≤ 256) (n : Int) (c : UInt8) : ∃ t' M', turnP p P n c = { p with now := some t' } ∧ Tx { p with now := some t' } g d t' (hdrPg h :: M') ∧ M'.length + 1 = P ∧ ∀ s ∈ M', s.length = 512 := by
 obtain ⟨t1, r1, r2, -⟩ := tx_resize hT h1 h2
 obtain ⟨M1, hM1⟩ : ∃ M1, ((List.range P).map fun i => if i < (hdrPg h :: M).length then (hdrPg h :: M).getD i [] else zeros 512) = hdrPg h :: M1 ∧ M1.length + 1 = P ∧ ∀ s ∈ M1, s.length = 512 := by
  obtain ⟨m, rfl⟩ : ∃ m, P = m + 1 := ⟨P - 1, by omega⟩
  refine ⟨(List.range m).map fun i => if i + 1 < (hdrPg h :: M).length then (hdrPg h :: M).getD (i + 1) [] else zeros 512, ?_, by simp, fun s hs => ?_⟩
  ·rw [List.range_succ_eq_map, List.map_cons, List.map_map, if_pos (by simp)]
   rfl
  ·obtain ⟨i, hi, rfl⟩ := List.mem_map.1 hs
   split
   ·rename_i hl
    have hl : i < M.length := by simpa using hl
    show (M.getD i []).length = 512
    exact hM _ (getD_mem hl)
   ·exact zeros_length 512
 obtain ⟨e1, e2, e3⟩ := hM1
 rw [e1] at r2
 unfold turnP
 by_cases hn : 1 < n ∧ n ≤ (P : Int)
 ·rw [if_pos hn, r1]
  obtain ⟨m, rfl⟩ : ∃ m : Nat, n = m := ⟨n.toNat, by omega⟩
  obtain ⟨t2, w1, w2, -⟩ := tx_write r2 (n := m) (s := pageOf c) (by omega) (by simp; omega) (pageOf_length c)
  have w1 : pwriteM { p with now := some t1 } m (pageOf c) = (0, { p with now := some t2 }) := w1
  have es : (hdrPg h :: M1).set (m - 1) (pageOf c) = hdrPg h :: M1.set (m - 2) (pageOf c) := by
   obtain ⟨q, rfl⟩ : ∃ q, m = q + 2 := ⟨m - 2, by omega⟩
   rfl
  rw [es] at w2
  refine ⟨t2, M1.set (m - 2) (pageOf c), by rw [w1], w2, by rw [List.length_set]; exact e2, fun s hs => ?_⟩
  rcases List.mem_or_eq_of_mem_set hs with e | e
  ·exact e3 s e
  ·rw [e]; exact pageOf_length c
 ·rw [if_neg hn, r1]
  exact ⟨t1, M1, rfl, r2, e2, e3⟩
theorem turn_db (hD : Db g d L) (hL : (L = [] ∧ h = hdr0) ∨ ∃ M, L = hdrPg h :: M) (hh : HdOk h) (hg : g.Ok) {P : Nat} (h1 : 1 ≤ P) (h2 : P ≤ 256) (n : Int) (c : UInt8) :
  ∃ g' d' M', turnM p0 g d P n c = (0, p0, g', d') ∧ Db g' d' (hdrPg (bumped h) :: M') ∧ M'.length + 1 = P := by
 obtain ⟨t1, M1, b1, b2, b3⟩ := sp_begin (p := p0) hD hL hh rfl rfl
 have hM1 : ∀ s ∈ M1, s.length = 512 := fun s hs => by
  have : s ∈ (if L = [] then [hdrPg hdr0] else L) := by rw [← b3]; exact List.mem_cons_of_mem _ hs
  split at this
  ·rw [List.mem_singleton.1 this]; exact hdrPg_length _ rfl
  ·exact hD.len s this
 obtain ⟨t2, M2, r1, r2, r3, r4⟩ := turnP_tx b2 hM1 h1 h2 n c
 obtain ⟨g', d', c1, c2⟩ := sp_commit r2 hh hD.calm hg r4
 unfold turnM
 rw [b1, if_neg (by simp), r1, c1]
 exact ⟨g', d', M2, rfl, c2, r3⟩
theorem db_new : Db exG0 newM [] := ⟨exG0_calm, rfl, by decide, fun n a b => by simp at b; omega, fun s hs => by cases hs⟩
end
structure Dst (d : Dsk) : Prop where
 calm : Calm d
 eight : (d.now 0).length % 8 = 0
 room : (d.now 0).length ≤ 2048
 log : d.now 1 = []
section
variable {d d' : Dsk} {p : Pg} {g : Lg} {ds : Dsk} {B : Bk} {L M : List (List UInt8)} {h : Hdr}
structure Cop (B : Bk) (d : Dsk) (L : List (List UInt8)) : Prop where
 pages : B.pages = (L.length : Int)
 has : ∀ n : Nat, 2 ≤ n → n ≤ L.length → (B.next ≤ 1 ∨ (n : Int) < B.next) → pg (d.now 0) n = L.getD (n - 1) []
 long : 8 * (if B.next ≤ 1 then (L.length : Int) else B.next - 1) ≤ ((d.now 0).length : Int)
 first : B.next = 0 → (d.now 0).length = 8 * L.length ∧ pg (d.now 0) 1 = L.getD 0 []
end
section
variable {d d' : Dsk} {g : Lg} {ds : Dsk} {B : Bk} {M : List (List UInt8)} {h h' : Hdr}
theorem have_db (hD : Db g ds (hdrPg h :: M)) (hh : HdOk h) : haveM p0 g ds = (h.commits, 0) := by
 have hr := db_head (p := p0) hD rfl hh
 unfold haveM ureadyM
 rw [if_neg (show ¬ p0.now ≠ none by simp [p0]), hr]
 simp
structure Bup (h : Hdr) (L : List (List UInt8)) (B : Bk) (d : Dsk) : Prop where
 ok : BkOk B
 dst : Dst d
 eight : 8 ≤ (d.now 0).length
 le : B.k ≤ h.commits
 cop : B.k = h.commits → Cop B d L
theorem read_db {L : List (List UInt8)} (hD : Db g ds L) : ∀ n : Nat, 1 ≤ n → n ≤ L.length → preadM p0 g ds n = (L.getD (n - 1) [], 0) := fun n a b => db_read (p := p0) hD rfl n a b
end
end Go.Proofs.YtfkcmgbpgefnnaaGreat
