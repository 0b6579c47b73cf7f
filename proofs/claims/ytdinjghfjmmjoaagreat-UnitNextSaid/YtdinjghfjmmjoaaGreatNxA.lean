/- Plain laws of UnitNext: what a commit leaves in the log, and what logged finds there. -/
import Derived.Test.YtdinjghfjmmjoaaGreatUvC
import Derived.Test.YtdinjghfjmmjoaaGreatDbB
set_option linter.unusedVariables false
set_option linter.unusedSimpArgs false
namespace Go.Proofs.YtdinjghfjmmjoaaGreat
open Go.RowKit Go.Maps
set_option maxRecDepth 20000
def laid (f : Int → Option (List UInt8)) (l : List Img) : Int → Option (List UInt8) := l.foldl (fun f x q => if q = x.page then some x.data else f q) f
theorem frsOf_snoc (pages : Int) (l : List Img) (x : Img) : frsOf pages (l ++ [x]) = l.map (fun y => ⟨y.page, 0, y.data⟩) ++ [⟨x.page, pages, x.data⟩] := by
  unfold frsOf
  rw [List.mapIdx_append]
  congr 1
  · apply List.ext_getElem
    · simp
    · intro i h1 h2
      simp at h1
      simp only [List.getElem_mapIdx, List.getElem_map, frAt, List.length_append, List.length_cons, List.length_nil]
      rw [if_neg (by omega)]
  · simp [frAt]
theorem logged_zero (k : Int) : ∀ (l : List Img) (f : Int → Option (List UInt8)) (o : Option Sh), (l.map (fun y => (⟨y.page, 0, y.data⟩ : Fr))).foldl (logStep k) (f, o) = (laid f l, o)
  | [], f, o => rfl
  | x :: r, f, o => by
    rw [List.map_cons, List.foldl_cons]
    have : logStep k (f, o) ⟨x.page, 0, x.data⟩ = (fun q => if q = x.page then some x.data else f q, o) := by
      unfold logStep
      rw [if_pos rfl]
    rw [this, logged_zero k r]
    rfl
theorem logged_run (k pages : Int) (hp : pages ≠ 0) (l : List Img) (x : Img) (o : Option Sh) (f : Int → Option (List UInt8)) :
    (frsOf pages (l ++ [x])).foldl (logStep k) (f, o) = (fun _ => none, if (takeH ((laid f (l ++ [x]) 1).getD [])).2 = 0 ∧ (takeH ((laid f (l ++ [x]) 1).getD [])).1.commits = k then some ⟨1, 0, k, false, pages, mapImgs (laid f (l ++ [x]))⟩ else o) := by
  rw [frsOf_snoc, List.foldl_append, logged_zero]
  have e : laid f (l ++ [x]) = fun q => if q = x.page then some x.data else laid f l q := by
    unfold laid
    rw [List.foldl_append]
    rfl
  rw [e]
  show logStep k (laid f l, o) ⟨x.page, pages, x.data⟩ = _
  unfold logStep
  rw [if_neg hp]
theorem logged_more (L : List Fr) (k pages : Int) (hp : pages ≠ 0) (l : List Img) (hl : l ≠ []) (h0 : (loggedF L k).1 = fun _ => none) :
    loggedF (L ++ frsOf pages l) k = (fun _ => none, if (takeH ((laid (fun _ => none) l 1).getD [])).2 = 0 ∧ (takeH ((laid (fun _ => none) l 1).getD [])).1.commits = k then some ⟨1, 0, k, false, pages, mapImgs (laid (fun _ => none) l)⟩ else (loggedF L k).2) := by
  obtain ⟨i, x, rfl⟩ : ∃ i x, l = i ++ [x] := ⟨l.dropLast, l.getLast hl, (List.dropLast_concat_getLast hl).symm⟩
  unfold loggedF
  rw [List.foldl_append]
  obtain ⟨s, hs⟩ : ∃ s, s = L.foldl (logStep k) (fun _ => none, none) := ⟨_, rfl⟩
  unfold loggedF at h0
  rw [← hs] at h0 ⊢
  obtain ⟨f, o⟩ := s
  dsimp only at h0
  subst h0
  exact logged_run k pages hp i x o _
theorem laid_get : ∀ (l : List Img) (f : Int → Option (List UInt8)) (q : Int), l.Pairwise (fun a b => a.page ≠ b.page) → laid f l q = match l.find? (fun x => x.page == q) with | some x => some x.data | none => f q
  | [], f, q, _ => rfl
  | x :: r, f, q, h => by
    have h2 := List.pairwise_cons.1 h
    have e : laid f (x :: r) q = laid (fun q => if q = x.page then some x.data else f q) r q := rfl
    rw [e, laid_get r _ q h2.2, List.find?_cons]
    by_cases hx : x.page = q
    · have hb : (x.page == q) = true := by simp [hx]
      have hn : r.find? (fun y => y.page == q) = none := by
        rw [List.find?_eq_none]
        intro y hy
        have := h2.1 y hy
        simp
        omega
      rw [hb, hn]
      simp [hx]
    · have hb : (x.page == q) = false := by simpa using hx
      rw [hb]
      simp only []
      cases r.find? (fun y => y.page == q) with
      | some y => rfl
      | none => simp only []; rw [if_neg (fun e => hx e.symm)]
theorem keysOf_apart (f : Int → Option (List UInt8)) : (keysOf f).Pairwise (fun a b => a ≠ b) := by
  unfold keysOf
  refine List.Pairwise.filter _ ?_
  rw [List.pairwise_map]
  exact (List.pairwise_lt_range (n := 256)).imp fun {a b} h => by omega
theorem keysOf_cut (f : Int → Option (List UInt8)) (n : Nat) (hn : n ≤ 256) (hf : ∀ q s, f q = some s → q ≤ n) : keysOf f = ((List.range n).map fun (i : Nat) => (i : Int) + 1).filter fun q => (f q).isSome := by
  unfold keysOf
  obtain ⟨m, rfl⟩ : ∃ m, m = 256 - n := ⟨_, rfl⟩
  have e : 256 = n + (256 - n) := by omega
  rw [e, List.range_add, List.map_append, List.filter_append]
  have hnil : (((List.range (256 - n)).map (n + ·)).map fun (i : Nat) => (i : Int) + 1).filter (fun q => (f q).isSome) = [] := by
    rw [List.filter_eq_nil_iff]
    intro q hq hs
    obtain ⟨i, hi, rfl⟩ := List.mem_map.1 hq
    obtain ⟨j, hj, rfl⟩ := List.mem_map.1 hi
    obtain ⟨s, hs⟩ := Option.isSome_iff_exists.1 hs
    have := hf _ s hs
    omega
  rw [hnil, List.append_nil]
theorem keysOf_le (f : Int → Option (List UInt8)) (n : Nat) (hf : ∀ q s, f q = some s → 1 ≤ q ∧ q ≤ n) : (keysOf f).length ≤ n := by
  by_cases hn : n ≤ 256
  · rw [keysOf_cut f n hn (fun q s e => (hf q s e).2)]
    refine Nat.le_trans (List.length_filter_le _ _) ?_
    simp
  · have := keysOf_length f
    omega
theorem tr_apart (t : Tr) : (trImgs t).Pairwise (fun a b => a.page ≠ b.page) := by
  unfold trImgs
  rw [List.pairwise_map]
  exact (keysOf_apart t.wr).imp fun {a b} h => h
theorem tr_imgs (t : Tr) : mapImgs t.wr = trImgs t := rfl
theorem laid_tr {t : Tr} (ht : t.Ok) : laid (fun _ => none) (trImgs t) = t.wr := by
  funext q
  rw [laid_get _ _ _ (tr_apart t)]
  cases hf : (trImgs t).find? (fun x => x.page == q) with
  | some x =>
    have h1 := List.find?_some hf
    have h2 := List.mem_of_find?_eq_some hf
    have e : x.page = q := by simpa using h1
    unfold trImgs at h2
    obtain ⟨q2, hq, rfl⟩ := List.mem_map.1 h2
    have e : q2 = q := e
    subst e
    have h3 := (keysOf_mem.1 hq).2
    obtain ⟨s, hs⟩ := Option.isSome_iff_exists.1 h3
    dsimp only
    rw [hs]
    rfl
  | none =>
    rw [List.find?_eq_none] at hf
    cases hw : t.wr q with
    | none => rfl
    | some s =>
      have h1 := ht.dom q s hw
      have hp := ht.pages
      have h2 : q ∈ keysOf t.wr := keysOf_mem.2 ⟨by omega, by rw [hw]; rfl⟩
      have := hf ⟨q, (t.wr q).getD []⟩ (by unfold trImgs; exact List.mem_map.2 ⟨q, h2, rfl⟩)
      simp at this
section
variable {g : Lg} {d : Dsk} {p : Pg} {t : Tr} {M : List (List UInt8)} {h : Hdr}
theorem tx_commit2 (hT : Tx p g d t M) (hc : LgCalm g d) (hg : g.Ok) (h1 : (t.wr 1).isSome = true) (hlen : ∀ s ∈ M, s.length = 512) :
    ∃ g' d' A, pcommitM p g d = (0, emptied p, g', d') ∧ Db g' d' M ∧ g'.list = A ++ frsOf t.pages (trImgs t) ∧ (A = g.list ∨ A = []) ∧ (g.list.length + (trImgs t).length ≤ 256 → A = g.list) := by
  obtain ⟨g', d', e, hD⟩ := tx_commit hT hc hg h1 hlen
  have hne : trImgs t ≠ [] := trImgs_some ⟨by decide, by decide⟩ h1
  have hkeys : keysOf t.wr ≠ [] := fun e => hne (by unfold trImgs; rw [e]; rfl)
  have e2 : pcommitM p g d = putM p t g d := by unfold pcommitM; rw [hT.now]; exact if_neg hkeys
  by_cases hroom : g.list.length + (trImgs t).length ≤ 256
  · refine ⟨g', d', g.list, e, hD, ?_, .inl rfl, fun _ => rfl⟩
    have e3 : putM p t g d = ((lappendM t.pages (trImgs t) g d).1, emptied p, (lappendM t.pages (trImgs t) g d).2) := by
      unfold putM
      rw [if_neg (by omega)]
    rw [e2, e3] at e
    have e4 : (lappendM t.pages (trImgs t) g d).1 = 0 := congrArg (fun x => x.1) e
    have e5 : (lappendM t.pages (trImgs t) g d).2.1 = g' := congrArg (fun x => x.2.2.1) e
    rw [← e5]
    exact (app_leaves hc hT.ok e4).2.1
  · refine ⟨g', d', [], e, hD, ?_, .inr rfl, fun hh => absurd hh hroom⟩
    obtain ⟨c0, ck⟩ := check_calm hc hg
    have e3 : putM p t g d = ((lappendM t.pages (trImgs t) (lcheckM g d).2.1 (lcheckM g d).2.2).1, emptied p, (lappendM t.pages (trImgs t) (lcheckM g d).2.1 (lcheckM g d).2.2).2) := by
      unfold putM
      rw [if_pos ⟨by omega, hT.opn⟩, if_neg (by rw [c0]; simp)]
    rw [e2, e3] at e
    have e4 : (lappendM t.pages (trImgs t) (lcheckM g d).2.1 (lcheckM g d).2.2).1 = 0 := congrArg (fun x => x.1) e
    have e5 : (lappendM t.pages (trImgs t) (lcheckM g d).2.1 (lcheckM g d).2.2).2.1 = g' := congrArg (fun x => x.2.2.1) e
    rw [← e5]
    have := (app_leaves ck.calm hT.ok e4).2.1
    rw [ck.list] at this
    exact this
theorem logged_commit {L : List Fr} (hT : Tx p g d t (hdrPg h :: M)) (hh : HdOk h) (h1 : (t.wr 1).isSome = true) (k : Int) (h0 : (loggedF L k).1 = fun _ => none) :
    loggedF (L ++ frsOf t.pages (trImgs t)) k = (fun _ => none, if h.commits = k then some ⟨1, 0, k, false, t.pages, trImgs t⟩ else (loggedF L k).2) := by
  have hne : trImgs t ≠ [] := trImgs_some ⟨by decide, by decide⟩ h1
  have hp : t.pages ≠ 0 := by rw [hT.pages]; simp; omega
  rw [logged_more L k t.pages hp _ hne h0, laid_tr hT.ok]
  have e1 : t.wr 1 = some (hdrPg h) := by
    rcases hT.page 1 (Nat.le_refl _) (by simp) with e | ⟨e, -⟩
    · exact e
    · have e : t.wr 1 = none := e
      rw [e] at h1
      cases h1
  rw [e1, Option.getD_some, takeH_put hh.may hh.wf, tr_imgs]
  simp
end
end Go.Proofs.YtdinjghfjmmjoaaGreat
