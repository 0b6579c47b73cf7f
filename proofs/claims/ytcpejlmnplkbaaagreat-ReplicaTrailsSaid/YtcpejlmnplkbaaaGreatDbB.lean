import Derived.Test.YtcpejlmnplkbaaaGreatUnD
set_option linter.unusedVariables false
set_option linter.unusedSimpArgs false
namespace Go.Proofs.YtcpejlmnplkbaaaGreat
open Go.RowKit Go.Maps
set_option maxRecDepth 20000
theorem lastAt_fun {m : List Fr} {F : Int → List UInt8} (h : ∀ f ∈ m, f.data = F f.page) (n : Int) : ∀ k, k ≤ m.length → (lastAt m n k = none ∧ ∀ f ∈ m.take k, f.page ≠ n) ∨ (lastAt m n k = some (F n) ∧ ∃ f ∈ m.take k, f.page = n)
 | 0, _ => .inl ⟨rfl, by simp⟩
 | k + 1, hk => by
  have hlt : k < m.length := by omega
  rw [List.take_succ_eq_append_getElem hlt]
  by_cases hp : m[k].page = n
  ·refine .inr ⟨?_, m[k], List.mem_append.2 (.inr (List.mem_singleton.2 rfl)), hp⟩
   rw [lastAt_hit hlt hp, h _ (List.getElem_mem hlt), hp]
  ·have e : lastAt m n (k + 1) = lastAt m n k := by
    conv => lhs; unfold lastAt
    rw [List.getElem?_eq_getElem hlt]
    simp only [hp, if_false]
   rw [e]
   rcases lastAt_fun h n k (by omega) with ⟨h1, h2⟩ | ⟨h1, f, hf, h2⟩
   ·refine .inl ⟨h1, fun f hf => ?_⟩
    rcases List.mem_append.1 hf with hf | hf
    ·exact h2 f hf
    ·simp only [List.mem_cons, List.not_mem_nil, or_false] at hf
     rw [hf]
     exact hp
   ·exact .inr ⟨h1, f, List.mem_append.2 (.inl hf), h2⟩
theorem lastAt_both (l m : List Fr) (n : Int) : ∀ k, k ≤ m.length → lastAt (l ++ m) n (l.length + k) = (match lastAt m n k with | some s => some s | none => lastAt l n l.length)
 | 0, _ => by simpa [lastAt] using lastAt_append l m n l.length (Nat.le_refl _)
 | k + 1, hk => by
  have hlt : k < m.length := by omega
  have hlt2 : l.length + k < (l ++ m).length := by simp; omega
  have hg : (l ++ m)[l.length + k] = m[k] := by rw [List.getElem_append_right (by omega)]; simp
  by_cases hp : m[k].page = n
  ·rw [lastAt_hit hlt hp, show l.length + (k + 1) = (l.length + k) + 1 from rfl, lastAt_hit hlt2 (by rw [hg]; exact hp), hg]
  ·have e : lastAt m n (k + 1) = lastAt m n k := by
    conv => lhs; unfold lastAt
    rw [List.getElem?_eq_getElem hlt]
    simp only [hp, if_false]
   have e2 : lastAt (l ++ m) n (l.length + k + 1) = lastAt (l ++ m) n (l.length + k) := by
    conv => lhs; unfold lastAt
    rw [List.getElem?_eq_getElem hlt2, hg]
    simp only [hp, if_false]
   rw [e, show l.length + (k + 1) = (l.length + k) + 1 from rfl, e2]
   exact lastAt_both l m n k (by omega)
theorem frsOf_mem {P : Int} {x : List Img} {f : Fr} (h : f ∈ frsOf P x) : ∃ i ∈ x, f.page = i.page ∧ f.data = i.data := by
 obtain ⟨k, hk, rfl⟩ := List.getElem_of_mem h
 rw [frsOf_length] at hk
 rw [frsOf_get P x k hk]
 exact ⟨x[k], List.getElem_mem hk, rfl, rfl⟩
theorem frsOf_has {P : Int} {x : List Img} {i : Img} (h : i ∈ x) : ∃ f ∈ frsOf P x, f.page = i.page := by
 obtain ⟨k, hk, rfl⟩ := List.getElem_of_mem h
 refine ⟨(frsOf P x)[k]'(by rw [frsOf_length]; exact hk), List.getElem_mem _, ?_⟩
 rw [frsOf_get P x k hk]
 rfl
theorem lastAt_tr {t : Tr} (ht : t.Ok) (n : Int) : lastAt (frsOf t.pages (trImgs t)) n (frsOf t.pages (trImgs t)).length = t.wr n := by
 have h : ∀ f ∈ frsOf t.pages (trImgs t), f.data = (t.wr f.page).getD [] := by
  intro f hf
  obtain ⟨i, hi, h1, h2⟩ := frsOf_mem hf
  obtain ⟨q, hq, rfl⟩ := List.mem_map.1 hi
  rw [h2, h1]
 rcases lastAt_fun (F := fun q => (t.wr q).getD []) h n _ (Nat.le_refl _) with ⟨h1, h2⟩ | ⟨h1, f, hf, h2⟩
 ·rw [h1]
  rw [List.take_length] at h2
  cases hn : t.wr n with
  | none => rfl
  | some s =>
   have hd := ht.dom n s hn
   have hp := ht.pages
   obtain ⟨f, hf, he⟩ := frsOf_has (P := t.pages) (x := trImgs t) (i := ⟨n, (t.wr n).getD []⟩) (List.mem_map.2 ⟨n, keysOf_mem.2 ⟨by omega, by rw [hn]; rfl⟩, rfl⟩)
   exact absurd he (h2 f hf)
 ·rw [h1]
  rw [List.take_length] at hf
  obtain ⟨i, hi, e1, -⟩ := frsOf_mem hf
  obtain ⟨q, hq, rfl⟩ := List.mem_map.1 hi
  have hs := (keysOf_mem.1 hq).2
  have hqn : q = n := e1.symm.trans h2
  rw [hqn] at hs
  cases hn : t.wr n with
  | none => rw [hn] at hs; cases hs
  | some s => rfl
section
variable {g : Lg} {d : Dsk} {p : Pg}
theorem app_done2 (h : LgCalm g d) {pages : Int} {x : List Img} (hp : 1 ≤ pages ∧ pages ≤ 256) (h0 : x ≠ []) (hx : ∀ i ∈ x, imgBad i = false) (hr : g.list.length + x.length ≤ 256) : (lappendM pages x g d).1 = 0 := by
 have hl : x.length ≠ 0 := fun e => h0 (List.length_eq_zero_iff.1 e)
 have hany : ¬ x.any imgBad = true := by
  intro e
  obtain ⟨i, hi, hb⟩ := List.any_eq_true.1 e
  rw [hx i hi] at hb
  cases hb
 unfold lappendM
 rw [if_neg (by rw [h.off]; decide), if_neg (by omega), if_neg hany, if_neg (by omega)]
 have htext : (appText g pages x).1.length = (9 * x.length) * 64 := by
  unfold appText
  rw [putsN_length_ok _ _ _ (frsOf_ok hp hx), frsOf_length]
  omega
 have hS : (lputsS (appHead g pages x) true).length = 1 * 64 := by
  show (hdR (appHead g pages x)).1.length = _
  unfold hdR
  rw [if_pos (by unfold hdMay appHead inB; simp; omega)]
  exact hdL_length _
 have hs : (lstepsM (appSteps g pages x) g d).1 = 0 := by
  unfold appSteps
  rw [steps_one (mend_calm h.torn)]
  have w1 := write_ok h.calm (k := 1) (a := 1 + 9 * g.list.length) (by decide) htext (by omega) (by omega)
  have c1 := calm_write h.calm ((1 : Nat) : Int) ((1 + 9 * g.list.length : Nat) : Int) (appText g pages x).1
  have e1 : ((1 + 9 * g.list.length : Nat) : Int) = 1 + 9 * (g.list.length : Int) := by omega
  rw [e1] at w1 c1
  have r1 : lwriteM (appText g pages x).1 g d = (0, g, (writeM d 1 (1 + 9 * g.list.length) (appText g pages x).1).2) := by
   unfold lwriteM
   exact Prod.ext w1 rfl
  rw [steps_one r1]
  obtain ⟨d1, hd⟩ : ∃ d1, d1 = (writeM d 1 (1 + 9 * g.list.length) (appText g pages x).1).2 := ⟨_, rfl⟩
  have c1 : Calm (writeM d 1 (1 + 9 * g.list.length) (appText g pages x).1).2 := c1
  rw [← hd] at c1 ⊢
  clear hd r1 w1
  obtain ⟨r2, c2⟩ := sync_log (g := g) c1 h.off
  rw [steps_one r2]
  obtain ⟨d2, hd⟩ : ∃ d2, d2 = (syncM d1 1).2 := ⟨_, rfl⟩
  rw [← hd] at c2 ⊢
  clear hd r2
  have w3 : (writeM d2 ((1 : Nat) : Int) ((0 : Nat) : Int) (lputsS (appHead g pages x) true)).1 = 0 := write_ok c2 (by decide) hS (by decide) (by decide)
  have w3 : (writeM d2 1 0 (lputsS (appHead g pages x) true)).1 = 0 := w3
  have c3 : Calm (writeM d2 1 0 (lputsS (appHead g pages x) true)).2 := calm_write c2 1 0 _
  have r3 : lputsM (appHead g pages x) true { g with torn := false } d2 = (0, { g with torn := true }, (writeM d2 1 0 (lputsS (appHead g pages x) true)).2) := by
   unfold lputsM
   rw [w3]
   simp
  rw [steps_one r3]
  obtain ⟨r4, -⟩ := sync_log (g := { g with torn := true }) c3 h.off
  rw [steps_one r4]
  rfl
 rw [if_neg (by rw [hs]; simp)]
theorem app_leaves {t : Tr} (hc : LgCalm g d) (ht : t.Ok) (h : (lappendM t.pages (trImgs t) g d).1 = 0) : (lappendM t.pages (trImgs t) g d).2.1.head.pages = t.pages ∧ (lappendM t.pages (trImgs t) g d).2.1.list = g.list ++ frsOf t.pages (trImgs t) ∧
  ∀ n : Nat, 1 ≤ n → n ≤ 256 → (n : Int) ≤ t.pages → pageM (lappendM t.pages (trImgs t) g d).2.1 (lappendM t.pages (trImgs t) g d).2.2 n (lappendM t.pages (trImgs t) g d).2.1.list.length = (match t.wr n with | some s => s | none => (lastAt g.list n g.list.length).getD (pg (d.now 0) n), 0) := by
 have hl := app_list t.pages (trImgs t) g d
 rw [if_pos h] at hl
 have hcalm := app_calm hc t.pages (trImgs t)
 have hnow := app_now0 t.pages (trImgs t) g d
 refine ⟨?_, hl, fun n h1 h2 h3 => ?_⟩
 ·unfold lappendM at h ⊢
  split at h
  ·rw [hc.off] at *; rename_i hh; cases hh
  ·rename_i h0
   rw [if_neg h0]
   split at h
   ·cases h
   ·rename_i h1
    rw [if_neg h1]
    split at h
    ·cases h
    ·rename_i h2
     rw [if_neg h2]
     split at h
     ·cases h
     ·rename_i h3
      rw [if_neg h3]
      split at h
      ·rename_i h4; exact absurd h h4
      ·rename_i h4
       rw [if_neg h4]
       rfl
 ·rw [pageM_calm hcalm.calm.on (by rw [hnow]; exact hc.eight) n _ h1 h2 (Nat.le_refl _), hl, hnow]
  rw [List.length_append, lastAt_both _ _ _ _ (Nat.le_refl _), lastAt_tr ht]
  cases t.wr n with
  | some s => rfl
  | none => rfl
theorem putM_leaves {t : Tr} (hc : LgCalm g d) (hg : g.Ok) (ht : t.Ok) (h1 : 1 ≤ t.pages) (hs : trImgs t ≠ []) (ho : p.opn = 0) (hn : ∀ n : Int, g.head.pages < n → n ≤ t.pages → (t.wr n).isSome = true) :
  (putM p t g d).1 = 0 ∧ (putM p t g d).2.2.1.head.pages = t.pages ∧
  ∀ n : Nat, 1 ≤ n → (n : Int) ≤ t.pages → pageM (putM p t g d).2.2.1 (putM p t g d).2.2.2 n (putM p t g d).2.2.1.list.length = (match t.wr n with | some s => s | none => (pageM g d n g.list.length).1, 0) := by
 have hp := ht.pages
 have hgood := trImgs_good ht
 have hold : ∀ n : Nat, 1 ≤ n → n ≤ 256 → (pageM g d n g.list.length).1 = (lastAt g.list n g.list.length).getD (pg (d.now 0) n) := fun n a b => by
  rw [pageM_calm hc.calm.on hc.eight n _ a b (Nat.le_refl _)]
 have hlen := trImgs_length t
 unfold putM
 by_cases hfull : 256 < g.list.length + (trImgs t).length ∧ p.opn = 0
 ·rw [if_pos hfull]
  obtain ⟨he, hk⟩ := check_calm hc hg
  rw [if_neg (by rw [he]; simp)]
  have hg2 : (lcheckM g d).2.1.list.length + (trImgs t).length ≤ 256 := by rw [hk.list]; simp; omega
  have hone : ∀ n : Nat, 1 ≤ n → (n : Int) ≤ g.head.pages → (lastAt (lcheckM g d).2.1.list n (lcheckM g d).2.1.list.length).getD (pg ((lcheckM g d).2.2.now 0) n) = (pageM g d n g.list.length).1 := fun n a b => by
   rw [← hk.page n a b]
   rw [pageM_calm hk.calm.calm.on hk.calm.eight n _ a (by have := hg.pages; omega) (Nat.le_refl _)]
  have hok2 : (lappendM t.pages (trImgs t) (lcheckM g d).2.1 (lcheckM g d).2.2).1 = 0 := by
   refine app_done2 hk.calm ⟨h1, hp.2⟩ hs hgood hg2
  obtain ⟨a1, a2, a3⟩ := app_leaves hk.calm ht hok2
  refine ⟨hok2, a1, fun n n1 n2 => (a3 n n1 (by omega) n2).trans ?_⟩
  cases hw : t.wr n with
  | some s => rfl
  | none =>
   have hle : (n : Int) ≤ g.head.pages := by
    have := hn n
    rw [hw] at this
    simp at this
    omega
   simp only [hone n n1 hle]
 ·rw [if_neg hfull]
  have hok2 : (lappendM t.pages (trImgs t) g d).1 = 0 := app_done hc hg ⟨h1, hp.2⟩ hs hgood (by rw [ho] at hfull; simp at hfull; omega)
  obtain ⟨a1, a2, a3⟩ := app_leaves hc ht hok2
  refine ⟨hok2, a1, fun n n1 n2 => (a3 n n1 (by omega) n2).trans ?_⟩
  cases hw : t.wr n with
  | some s => rfl
  | none => simp only [hold n n1 (by omega)]
end
structure DbW (g : Lg) (d : Dsk) (L : List (List UInt8)) : Prop where
 pages : g.head.pages = (L.length : Int)
 many : L.length ≤ 256
 page : ∀ n : Nat, 1 ≤ n → n ≤ L.length → pageM g d n g.list.length = (L.getD (n - 1) [], 0)
 len : ∀ s ∈ L, s.length = 512
structure Db (g : Lg) (d : Dsk) (L : List (List UInt8)) : Prop where
 calm : LgCalm g d
 pages : g.head.pages = (L.length : Int)
 many : L.length ≤ 256
 page : ∀ n : Nat, 1 ≤ n → n ≤ L.length → pageM g d n g.list.length = (L.getD (n - 1) [], 0)
 len : ∀ s ∈ L, s.length = 512
theorem Db.w {g : Lg} {d : Dsk} {L : List (List UInt8)} (h : Db g d L) : DbW g d L := ⟨h.pages, h.many, h.page, h.len⟩
structure Tx (p : Pg) (g : Lg) (d : Dsk) (t : Tr) (M : List (List UInt8)) : Prop where
 now : p.now = some t
 opn : p.opn = 0
 ok : t.Ok
 pages : t.pages = (M.length : Int)
 page : ∀ n : Nat, 1 ≤ n → n ≤ M.length → t.wr n = some (M.getD (n - 1) []) ∨ (t.wr n = none ∧ (n : Int) ≤ g.head.pages ∧ pageM g d n g.list.length = (M.getD (n - 1) [], 0))
section
variable {g : Lg} {d : Dsk} {p : Pg} {t : Tr} {L M : List (List UInt8)}
theorem getD_mem {L : List (List UInt8)} {i : Nat} (h : i < L.length) : L.getD i [] ∈ L := by
 rw [List.getD_eq_getElem?_getD, List.getElem?_eq_getElem h]
 exact List.getElem_mem h
theorem tx_begin (h : DbW g d L) (hn : p.now = none) (ho : p.opn = 0) : beginM p g = (0, { p with now := some ⟨g.head.pages, fun _ => none⟩ }) ∧ Tx { p with now := some ⟨g.head.pages, fun _ => none⟩ } g d ⟨g.head.pages, fun _ => none⟩ L := by
 refine ⟨by unfold beginM; rw [hn], rfl, ho, ⟨by have := h.pages; have := h.many; show 0 ≤ g.head.pages ∧ g.head.pages ≤ 256; omega, fun q s e => by cases e⟩, h.pages, fun n h1 h2 => .inr ⟨rfl, by have := h.pages; omega, h.page n h1 h2⟩⟩
theorem db_pages (h : DbW g d L) (hn : p.now = none) : ppagesM p g = (L.length : Int) := by unfold ppagesM; rw [hn]; exact h.pages
theorem db_read (h : DbW g d L) (hn : p.now = none) (n : Nat) (h1 : 1 ≤ n) (h2 : n ≤ L.length) : preadM p g d n = (L.getD (n - 1) [], 0) := by
 unfold preadM
 rw [db_pages h hn, if_neg (by omega), hn]
 exact h.page n h1 h2
theorem tx_resize (h : Tx p g d t M) {n : Nat} (h1 : 1 ≤ n) (h2 : n ≤ 256) : ∃ t', presizeM p n = (0, { p with now := some t' }) ∧ Tx { p with now := some t' } g d t' ((List.range n).map fun i => if i < M.length then M.getD i [] else zeros 512) ∧ ((t.wr 1).isSome = true → (t'.wr 1).isSome = true) := by
 refine ⟨⟨n, fun k => if (n : Int) < k then none else if t.pages < k then some (zeros 512) else t.wr k⟩, ?_, ⟨rfl, h.opn, ⟨by show (0 : Int) ≤ n ∧ (n : Int) ≤ 256; omega, fun q s e => ?_⟩, by simp, fun m m1 m2 => ?_⟩, fun hs => ?_⟩
 ·unfold presizeM
  rw [h.now]
  exact if_neg (by omega)
 ·dsimp only at e ⊢
  have hp := h.ok.pages
  split at e
  ·cases e
  split at e
  ·cases e
   exact ⟨by omega, by omega, zeros_length 512⟩
  ·have := h.ok.dom q s e
   exact ⟨this.1, by omega, this.2.2⟩
 ·simp only [List.length_map, List.length_range] at m2
  have em : ((List.range n).map fun i => if i < M.length then M.getD i [] else zeros 512).getD (m - 1) [] = if m - 1 < M.length then M.getD (m - 1) [] else zeros 512 := by
   rw [List.getD_eq_getElem?_getD, List.getElem?_eq_getElem (by simp; omega)]
   simp
  rw [em]
  dsimp only
  rw [if_neg (show ¬ (n : Int) < m by omega)]
  have hp := h.pages
  by_cases hm : m - 1 < M.length
  ·rw [if_pos hm, if_neg (by omega)]
   exact h.page m m1 (by omega)
  ·rw [if_neg hm, if_pos (by omega)]
   exact .inl rfl
 ·dsimp only
  rw [if_neg (by omega)]
  split
  ·rfl
  ·exact hs
theorem tx_write (h : Tx p g d t M) {n : Nat} {s : List UInt8} (h1 : 1 ≤ n) (h2 : n ≤ M.length) (hs : s.length = 512) : ∃ t', pwriteM p n s = (0, { p with now := some t' }) ∧ Tx { p with now := some t' } g d t' (M.set (n - 1) s) ∧ (n = 1 ∨ (t.wr 1).isSome = true → (t'.wr 1).isSome = true) := by
 have hp := h.pages
 refine ⟨{ t with wr := fun k => if k = (n : Int) then some s else t.wr k }, ?_, ⟨rfl, h.opn, ⟨h.ok.pages, fun q u e => ?_⟩, by simp [hp], fun m m1 m2 => ?_⟩, fun hs1 => ?_⟩
 ·unfold pwriteM
  rw [h.now]
  show (if (n : Int) < 1 ∨ t.pages < (n : Int) then _ else _) = _
  rw [if_neg (by omega), if_neg (by omega)]
 ·dsimp only at e ⊢
  split at e
  ·rename_i e1
   cases e
   exact ⟨by omega, by omega, hs⟩
  ·exact h.ok.dom q u e
 ·rw [List.length_set] at m2
  dsimp only
  by_cases e : m = n
  ·subst e
   rw [if_pos rfl, List.getD_eq_getElem?_getD, List.getElem?_set_self (by omega)]
   exact .inl rfl
  ·rw [if_neg (by omega), List.getD_eq_getElem?_getD, List.getElem?_set_ne (by omega), ← List.getD_eq_getElem?_getD]
   exact h.page m m1 m2
 ·dsimp only
  by_cases e : (1 : Int) = (n : Int)
  ·rw [if_pos e]; rfl
  ·rw [if_neg e]
   rcases hs1 with e1 | e1
   ·omega
   ·exact e1
theorem tx_commit (h : Tx p g d t M) (hc : LgCalm g d) (hg : g.Ok) (h1 : (t.wr 1).isSome = true) (hlen : ∀ s ∈ M, s.length = 512) : ∃ g' d', pcommitM p g d = (0, emptied p, g', d') ∧ Db g' d' M := by
 have hp := h.pages
 have hk : 1 ≤ M.length := by
  cases hw : t.wr 1 with
  | none => rw [hw] at h1; cases h1
  | some s => have := h.ok.dom 1 s hw; omega
 have hne : trImgs t ≠ [] := trImgs_some ⟨by decide, by decide⟩ h1
 have hkeys : keysOf t.wr ≠ [] := fun e => hne (by unfold trImgs; rw [e]; rfl)
 have hall : ∀ n : Int, g.head.pages < n → n ≤ t.pages → (t.wr n).isSome = true := fun n a b => by
  have hg1 := hg.pages
  obtain ⟨m, rfl⟩ : ∃ m : Nat, n = m := ⟨n.toNat, by omega⟩
  rcases h.page m (by omega) (by omega) with e | ⟨-, e, -⟩
  ·rw [e]; rfl
  ·omega
 obtain ⟨r1, r2, r3⟩ := putM_leaves (p := p) hc hg h.ok (by omega) hne h.opn hall
 have hcalm := putM_calm t hc hg p
 have e : pcommitM p g d = putM p t g d := by unfold pcommitM; rw [h.now]; exact if_neg hkeys
 refine ⟨(putM p t g d).2.2.1, (putM p t g d).2.2.2, ?_, ⟨hcalm.1, by rw [r2, hp], by have := h.ok.pages; omega, fun n n1 n2 => ?_, hlen⟩⟩
 ·rw [e]
  exact Prod.ext r1 (Prod.ext hcalm.2 rfl)
 ·rw [r3 n n1 (by omega)]
  rcases h.page n n1 n2 with e | ⟨e, -, e2⟩
  ·simp only [e]
  ·simp only [e]
   rw [e2]
end
structure HdOk (h : Hdr) : Prop where
 may : hdrMayB h = true
 wf : h.Wf
section
variable {g : Lg} {d : Dsk} {p : Pg} {t : Tr} {L M : List (List UInt8)} {h h' : Hdr}
theorem readHM_head {s : List UInt8} (hP : ppagesM p g ≠ 0) (hr : preadM p g d 1 = (s, 0)) (hh : HdOk h) (hs : s = hdrPg h) : readHM p g d = (h, 0) := by
 unfold readHM
 rw [if_neg hP, hr, if_neg (by simp), hs]
 exact takeH_put hh.may hh.wf
theorem db_head (hD : DbW g d (hdrPg h :: L)) (hn : p.now = none) (hh : HdOk h) : readHM p g d = (h, 0) := by
 refine readHM_head (s := hdrPg h) (by rw [db_pages hD hn]; simp; omega) ?_ hh rfl
 have := db_read hD hn 1 (Nat.le_refl _) (by simp)
 simpa using this
end
def commL (L : List (List UInt8)) : Int := match L with | [] => 0 | s :: _ => (takeH s).1.commits
def imgAt (l : List Img) (n : Int) (s : List UInt8) : List UInt8 := l.foldl (fun t x => if x.page = n then x.data else t) s
def behindL (L : List (List UInt8)) (m : Sh) : List (List UInt8) := (List.range m.pages.toNat).map fun (i : Nat) => imgAt m.imgs ((i : Int) + 1) (if i < L.length then L.getD i [] else zeros 512)
def followL (L : List (List UInt8)) (m : Sh) : List (List UInt8) × Int :=
 if mayB m = false ∨ m.kind ≠ 1 then (L, 2)
 else if m.k ≤ commL L then (L, 4)
 else if m.full = false ∧ m.k ≠ IntKind.u64.wrap (commL L + 1) then (L, 5)
 else match m.imgs with
  | [] => (L, 7)
  | x :: _ => if x.page ≠ 1 then (L, 7) else if (takeH x.data).2 ≠ 0 ∨ (takeH x.data).1.commits ≠ m.k then (L, 7) else (behindL L m, 0)
def Good (L : List (List UInt8)) : Prop := L = [] ∨ ∃ h M, L = hdrPg h :: M ∧ HdOk h
section
variable {g : Lg} {d : Dsk} {p : Pg} {t : Tr} {L M : List (List UInt8)} {h h' : Hdr}
theorem takeH_hd {s : List UInt8} (h : (takeH s).2 = 0) : ∃ h', s = hdrPg h' ∧ HdOk h' ∧ takeH s = (h', 0) := by
 obtain ⟨h1, h2, h3, h4⟩ := takeH_may h
 exact ⟨(takeH s).1, h3, ⟨h2, takeH_wf s⟩, Prod.ext rfl h⟩
theorem uready_db (hD : DbW g d L) (hL : Good L) (hn : p.now = none) : ∃ h, ureadyM p g d = (h, 0) ∧ h.commits = commL L := by
 unfold ureadyM
 rw [if_neg (by simp [hn])]
 rcases hL with rfl | ⟨h, M, rfl, hh⟩
 ·refine ⟨hdr0, ?_, rfl⟩
  unfold readHM
  rw [if_pos (by rw [db_pages hD hn]; rfl)]
 ·refine ⟨h, db_head hD hn hh, ?_⟩
  show h.commits = (takeH (hdrPg h)).1.commits
  rw [takeH_put hh.may hh.wf]
def putL9 (M : List (List UInt8)) (l : List Img) : List (List UInt8) := l.foldl (fun M x => M.set (x.page.toNat - 1) x.data) M
theorem putL9_length : ∀ (l : List Img) (M : List (List UInt8)), (putL9 M l).length = M.length
 | [], M => rfl
 | x :: r, M => by
  show (putL9 (M.set _ _) r).length = _
  rw [putL9_length r, List.length_set]
theorem putL9_get : ∀ (l : List Img) (M : List (List UInt8)) (i : Nat), i < M.length → (∀ x ∈ l, 1 ≤ x.page) → (putL9 M l).getD i [] = imgAt l ((i : Int) + 1) (M.getD i [])
 | [], M, i, _, _ => rfl
 | x :: r, M, i, hi, hx => by
  show (putL9 (M.set _ _) r).getD i [] = imgAt r _ (if x.page = (i : Int) + 1 then x.data else M.getD i [])
  rw [putL9_get r _ i (by rw [List.length_set]; exact hi) (fun y hy => hx y (List.mem_cons_of_mem _ hy))]
  congr 1
  have := hx x List.mem_cons_self
  by_cases e : x.page = (i : Int) + 1
  ·rw [if_pos e, List.getD_eq_getElem?_getD, show x.page.toNat - 1 = i by omega, List.getElem?_set_self hi]
   rfl
  ·rw [if_neg e, List.getD_eq_getElem?_getD, List.getElem?_set_ne (by omega), ← List.getD_eq_getElem?_getD]
theorem tx_putAll : ∀ (l : List Img) (p : Pg) (t : Tr) (M : List (List UInt8)), Tx p g d t M → (∀ x ∈ l, (1 ≤ x.page ∧ x.page ≤ (M.length : Int)) ∧ x.data.length = 512) →
  ∃ t', putAllM p l = { p with now := some t' } ∧ Tx { p with now := some t' } g d t' (putL9 M l) ∧ ((∃ x ∈ l, x.page = 1) ∨ (t.wr 1).isSome = true → (t'.wr 1).isSome = true)
 | [], p, t, M, hT, _ => ⟨t, by show p = _; rw [← hT.now], by rw [← hT.now]; exact hT, fun h => h.elim (fun ⟨x, hx, _⟩ => by cases hx) id⟩
 | x :: r, p, t, M, hT, hx => by
  have h1 := hx x List.mem_cons_self
  obtain ⟨n, hn⟩ : ∃ n : Nat, x.page = (n : Int) := ⟨x.page.toNat, by omega⟩
  obtain ⟨t1, w1, w2, w3⟩ := tx_write hT (n := n) (s := x.data) (by omega) (by omega) h1.2
  obtain ⟨t2, e1, e2, e3⟩ := tx_putAll r { p with now := some t1 } t1 (M.set (n - 1) x.data) w2 (fun y hy => by rw [List.length_set]; exact hx y (List.mem_cons_of_mem _ hy))
  refine ⟨t2, ?_, ?_, ?_⟩
  ·show putAllM (pwriteM p x.page x.data).2 r = _
   rw [hn, w1]
   exact e1
  ·show Tx _ g d t2 (putL9 (M.set (x.page.toNat - 1) x.data) r)
   rw [hn, Int.toNat_natCast]
   exact e2
  ·rintro (⟨y, hy, h5⟩ | h5)
   ·rcases List.mem_cons.1 hy with rfl | hy
    ·exact e3 (.inr (w3 (.inl (by omega))))
    ·exact e3 (.inl ⟨y, hy, h5⟩)
   ·exact e3 (.inr (w3 (.inr h5)))
theorem imgAt_len : ∀ (l : List Img) (n : Int) (s : List UInt8), s.length = 512 → (∀ x ∈ l, x.data.length = 512) → (imgAt l n s).length = 512
 | [], n, s, hs, _ => hs
 | x :: r, n, s, hs, hx => by
  show (imgAt r n (if x.page = n then x.data else s)).length = 512
  refine imgAt_len r n _ ?_ (fun y hy => hx y (List.mem_cons_of_mem _ hy))
  split
  ·exact hx x List.mem_cons_self
  ·exact hs
theorem imgAt_none : ∀ (l : List Img) (n : Int) (s : List UInt8), (∀ x ∈ l, x.page ≠ n) → imgAt l n s = s
 | [], n, s, _ => rfl
 | x :: r, n, s, hx => by
  show imgAt r n (if x.page = n then x.data else s) = s
  rw [if_neg (hx x List.mem_cons_self)]
  exact imgAt_none r n s (fun y hy => hx y (List.mem_cons_of_mem _ hy))
theorem may_unit {m : Sh} (h : mayB m = true) (hk : m.kind = 1) : (1 ≤ m.pages ∧ m.pages ≤ 256) ∧ mayImgs m.pages 0 m.imgs = true := by
 unfold mayB at h
 rw [if_neg (by omega), if_pos hk] at h
 simp at h
 obtain ⟨⟨⟨⟨h3, h4⟩, _⟩, _⟩, h5⟩ := h
 exact ⟨⟨by omega, by omega⟩, h5⟩
theorem follow_db (hD : Db g d L) (hL : Good L) (hg : g.Ok) (m : Sh) : ∃ g' d', followM p0 g d m = ((followL L m).2, p0, g', d') ∧ Db g' d' (followL L m).1 ∧ Good (followL L m).1 := by
 obtain ⟨h, u1, u2⟩ := uready_db (p := p0) hD.w hL rfl
 unfold followM followL
 rw [u1]
 dsimp only
 rw [u2]
 by_cases c1 : mayB m = false ∨ m.kind ≠ 1
 ·rw [if_pos c1, if_pos c1]
  exact ⟨g, d, rfl, hD, hL⟩
 rw [if_neg c1, if_neg c1, if_neg (show ¬ ((0 : Int) ≠ 0) by simp)]
 by_cases c2 : m.k ≤ commL L
 ·rw [if_pos c2, if_pos c2]
  exact ⟨g, d, rfl, hD, hL⟩
 rw [if_neg c2, if_neg c2]
 by_cases c3 : m.full = false ∧ m.k ≠ IntKind.u64.wrap (commL L + 1)
 ·rw [if_pos c3, if_pos c3]
  exact ⟨g, d, rfl, hD, hL⟩
 rw [if_neg c3, if_neg c3]
 have hmay : mayB m = true := by cases hm : mayB m <;> simp_all
 have hkind : m.kind = 1 := by
  rcases Decidable.em (m.kind = 1) with e | e
  ·exact e
  ·exact absurd (.inr e) c1
 obtain ⟨hP, hI⟩ := may_unit hmay hkind
 cases hi : m.imgs with
 | nil => exact ⟨g, d, rfl, hD, hL⟩
 | cons x r =>
  dsimp only
  by_cases c4 : x.page ≠ 1
  ·rw [if_pos c4, if_pos c4]
   exact ⟨g, d, rfl, hD, hL⟩
  rw [if_neg c4, if_neg c4]
  by_cases c5 : (takeH x.data).2 ≠ 0 ∨ (takeH x.data).1.commits ≠ m.k
  ·rw [if_pos c5, if_pos c5]
   exact ⟨g, d, rfl, hD, hL⟩
  rw [if_neg c5, if_neg c5]
  have hx1 : x.page = 1 := Decidable.not_not.1 c4
  have ht : (takeH x.data).2 = 0 := by
   rcases Decidable.em ((takeH x.data).2 = 0) with e | e
   ·exact e
   ·exact absurd (.inl e) c5
  obtain ⟨h', e1, e2, e3⟩ := takeH_hd ht
  have hall := (mayImgs_len m.imgs m.pages 0 hI).2
  have hr : ∀ y ∈ r, 1 < y.page := fun y hy => by
   rw [hi, mayImgs_cons] at hI
   split at hI
   ·cases hI
   ·have := (mayImgs_len r m.pages x.1 hI).2 y hy
    have e : x.1 = x.page := rfl
    have e' : y.1 = y.page := rfl
    omega
  obtain ⟨P, hPn⟩ : ∃ P : Nat, m.pages = (P : Int) := ⟨m.pages.toNat, by omega⟩
  obtain ⟨b1, b2⟩ := tx_begin (p := p0) hD.w rfl rfl
  obtain ⟨t1, r1, r2, -⟩ := tx_resize b2 (n := P) (by omega) (by omega)
  obtain ⟨t2, w1, w2, w3⟩ := tx_putAll m.imgs _ t1 _ r2 (fun y hy => by
   have := hall y hy
   have e' : y.1 = y.page := rfl
   have e2' : y.2 = y.data := rfl
   rw [List.length_map, List.length_range]
   exact ⟨by omega, this.1⟩)
  have hbe : putL9 ((List.range P).map fun i => if i < L.length then L.getD i [] else zeros 512) m.imgs = behindL L m := by
   apply List.ext_getElem
   ·rw [putL9_length]; simp [behindL, hPn]
   ·intro i i1 i2
    have i3 : i < P := by rw [putL9_length] at i1; simpa using i1
    have := putL9_get m.imgs ((List.range P).map fun i => if i < L.length then L.getD i [] else zeros 512) i (by simpa using i3) (fun y hy => by
     have := hall y hy
     have e' : y.1 = y.page := rfl
     omega)
    rw [List.getD_eq_getElem?_getD, List.getElem?_eq_getElem i1, Option.getD_some] at this
    rw [this]
    simp only [behindL, List.getElem_map, List.getElem_range]
    rw [List.getD_eq_getElem?_getD, List.getElem?_eq_getElem (by simpa using i3), Option.getD_some, List.getElem_map, List.getElem_range]
  have hlenB : ∀ s ∈ behindL L m, s.length = 512 := fun s hs => by
   obtain ⟨i, hi2, rfl⟩ := List.mem_map.1 hs
   refine imgAt_len _ _ _ ?_ (fun y hy => (hall y hy).1)
   split
   ·rename_i hl
    exact hD.len _ (getD_mem hl)
   ·exact zeros_length 512
  have hgood : Good (behindL L m) := by
   refine .inr ⟨h', (List.range (P - 1)).map fun (i : Nat) => imgAt m.imgs ((i : Int) + 2) (if i + 1 < L.length then L.getD (i + 1) [] else zeros 512), ?_, e2⟩
   obtain ⟨q, rfl⟩ : ∃ q, P = q + 1 := ⟨P - 1, by omega⟩
   unfold behindL
   rw [hPn, Int.toNat_natCast, List.range_succ_eq_map, List.map_cons, List.map_map, Nat.add_sub_cancel]
   congr 1
   ·rw [hi]
    show imgAt r 1 (if x.page = 1 then x.data else _) = _
    rw [if_pos hx1, imgAt_none r 1 _ (fun y hy => by have := hr y hy; omega), e1]
  rw [hbe] at w2
  obtain ⟨g', d', c1', c2'⟩ := tx_commit w2 hD.calm hg (w3 (.inl ⟨x, by rw [hi]; exact List.mem_cons_self, hx1⟩)) hlenB
  refine ⟨g', d', ?_, c2', hgood⟩
  rw [← hi, b1]
  dsimp only
  rw [hPn, r1, w1]
  exact c1'
end
end Go.Proofs.YtcpejlmnplkbaaaGreat
