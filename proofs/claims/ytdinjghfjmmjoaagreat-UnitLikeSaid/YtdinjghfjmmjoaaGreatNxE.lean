/- Plain laws of UnitNext: what a commit leaves in the log, and what logged finds there. -/
import Derived.Test.YtdinjghfjmmjoaaGreatUvC
import Derived.Test.YtdinjghfjmmjoaaGreatDbB
import Derived.Test.YtdinjghfjmmjoaaGreatPlain
import Derived.StillTailTactics
import Derived.Test.YtdinjghfjmmjoaaGreatSpE
import Derived.Test.YtdinjghfjmmjoaaGreatUsC
import Derived.Test.YtdinjghfjmmjoaaGreatUnF
import Derived.Test.YtdinjghfjmmjoaaGreatLast
import Derived.Deep.AppendLies
set_option linter.unusedVariables false
set_option linter.unusedSimpArgs false
namespace Go.Proofs.YtdinjghfjmmjoaaGreat
open Go.RowKit Go.Maps
set_option maxRecDepth 20000
def laid (f : Int → Option (List UInt8)) (l : List Img) : Int → Option (List UInt8) := l.foldl (fun f x q => if q = x.page then some x.data else f q) f
theorem frsOf_snoc (pages : Int) (l : List Img) (x : Img) : frsOf pages (l ++ [x]) = l.map (fun y => ⟨y.page, 0, y.data⟩) ++ [⟨x.page, pages, x.data⟩] := by
 unfold frsOf
 rw [List.mapIdx_append]
 congr 1
 ·apply List.ext_getElem
  ·simp
  ·intro i h1 h2
   simp at h1
   simp only [List.getElem_mapIdx, List.getElem_map, frAt, List.length_append, List.length_cons, List.length_nil]
   rw [if_neg (by omega)]
 ·simp [frAt]
theorem logged_zero (k : Int) : ∀ (l : List Img) (f : Int → Option (List UInt8)) (o : Option Sh), (l.map (fun y => (⟨y.page, 0, y.data⟩ : Fr))).foldl (logStep k) (f, o) = (laid f l, o)
 | [], f, o => rfl
 | x :: r, f, o => by
  rw [List.map_cons, List.foldl_cons]
  have : logStep k (f, o) ⟨x.page, 0, x.data⟩ = (fun q => if q = x.page then some x.data else f q, o) := by
   unfold logStep
   rw [if_pos rfl]
  rw [this, logged_zero k r]
  rfl
theorem logged_run (k pages : Int) (hp : pages ≠ 0) (l : List Img) (x : Img) (o : Option Sh) (f : Int → Option (List UInt8)) :
  (frsOf pages (l ++ [x])).foldl (logStep k) (f, o) = (fun _ => none, if (takeH ((laid f (l ++ [x]) 1).getD [])).2 = 0 ∧ (takeH ((laid f (l ++ [x]) 1).getD [])).1.commits = k then some ⟨1, 0, k, false, pages, mapImgs (laid f (l ++ [x]))⟩ else o) := by
 rw [frsOf_snoc, List.foldl_append, logged_zero]
 have e : laid f (l ++ [x]) = fun q => if q = x.page then some x.data else laid f l q := by
  unfold laid
  rw [List.foldl_append]
  rfl
 rw [e]
 show logStep k (laid f l, o) ⟨x.page, pages, x.data⟩ = _
 unfold logStep
 rw [if_neg hp]
theorem logged_more (L : List Fr) (k pages : Int) (hp : pages ≠ 0) (l : List Img) (hl : l ≠ []) (h0 : (loggedF L k).1 = fun _ => none) :
  loggedF (L ++ frsOf pages l) k = (fun _ => none, if (takeH ((laid (fun _ => none) l 1).getD [])).2 = 0 ∧ (takeH ((laid (fun _ => none) l 1).getD [])).1.commits = k then some ⟨1, 0, k, false, pages, mapImgs (laid (fun _ => none) l)⟩ else (loggedF L k).2) := by
 obtain ⟨i, x, rfl⟩ : ∃ i x, l = i ++ [x] := ⟨l.dropLast, l.getLast hl, (List.dropLast_concat_getLast hl).symm⟩
 unfold loggedF
 rw [List.foldl_append]
 obtain ⟨s, hs⟩ : ∃ s, s = L.foldl (logStep k) (fun _ => none, none) := ⟨_, rfl⟩
 unfold loggedF at h0
 rw [← hs] at h0 ⊢
 obtain ⟨f, o⟩ := s
 dsimp only at h0
 subst h0
 exact logged_run k pages hp i x o _
theorem laid_get : ∀ (l : List Img) (f : Int → Option (List UInt8)) (q : Int), l.Pairwise (fun a b => a.page ≠ b.page) → laid f l q = match l.find? (fun x => x.page == q) with | some x => some x.data | none => f q
 | [], f, q, _ => rfl
 | x :: r, f, q, h => by
  have h2 := List.pairwise_cons.1 h
  have e : laid f (x :: r) q = laid (fun q => if q = x.page then some x.data else f q) r q := rfl
  rw [e, laid_get r _ q h2.2, List.find?_cons]
  by_cases hx : x.page = q
  ·have hb : (x.page == q) = true := by simp [hx]
   have hn : r.find? (fun y => y.page == q) = none := by
    rw [List.find?_eq_none]
    intro y hy
    have := h2.1 y hy
    simp
    omega
   rw [hb, hn]
   simp [hx]
  ·have hb : (x.page == q) = false := by simpa using hx
   rw [hb]
   simp only []
   cases r.find? (fun y => y.page == q) with
   | some y => rfl
   | none => simp only []; rw [if_neg (fun e => hx e.symm)]
theorem keysOf_apart (f : Int → Option (List UInt8)) : (keysOf f).Pairwise (fun a b => a ≠ b) := by
 unfold keysOf
 refine List.Pairwise.filter _ ?_
 rw [List.pairwise_map]
 exact (List.pairwise_lt_range (n := 256)).imp fun {a b} h => by omega
theorem keysOf_cut (f : Int → Option (List UInt8)) (n : Nat) (hn : n ≤ 256) (hf : ∀ q s, f q = some s → q ≤ n) : keysOf f = ((List.range n).map fun (i : Nat) => (i : Int) + 1).filter fun q => (f q).isSome := by
 unfold keysOf
 obtain ⟨m, rfl⟩ : ∃ m, m = 256 - n := ⟨_, rfl⟩
 have e : 256 = n + (256 - n) := by omega
 rw [e, List.range_add, List.map_append, List.filter_append]
 have hnil : (((List.range (256 - n)).map (n + ·)).map fun (i : Nat) => (i : Int) + 1).filter (fun q => (f q).isSome) = [] := by
  rw [List.filter_eq_nil_iff]
  intro q hq hs
  obtain ⟨i, hi, rfl⟩ := List.mem_map.1 hq
  obtain ⟨j, hj, rfl⟩ := List.mem_map.1 hi
  obtain ⟨s, hs⟩ := Option.isSome_iff_exists.1 hs
  have := hf _ s hs
  omega
 rw [hnil, List.append_nil]
theorem keysOf_le (f : Int → Option (List UInt8)) (n : Nat) (hf : ∀ q s, f q = some s → 1 ≤ q ∧ q ≤ n) : (keysOf f).length ≤ n := by
 by_cases hn : n ≤ 256
 ·rw [keysOf_cut f n hn (fun q s e => (hf q s e).2)]
  refine Nat.le_trans (List.length_filter_le _ _) ?_
  simp
 ·have := keysOf_length f
  omega
theorem tr_apart (t : Tr) : (trImgs t).Pairwise (fun a b => a.page ≠ b.page) := by
 unfold trImgs
 rw [List.pairwise_map]
 exact (keysOf_apart t.wr).imp fun {a b} h => h
theorem tr_imgs (t : Tr) : mapImgs t.wr = trImgs t := rfl
theorem laid_tr {t : Tr} (ht : t.Ok) : laid (fun _ => none) (trImgs t) = t.wr := by
 funext q
 rw [laid_get _ _ _ (tr_apart t)]
 cases hf : (trImgs t).find? (fun x => x.page == q) with
 | some x =>
  have h1 := List.find?_some hf
  have h2 := List.mem_of_find?_eq_some hf
  have e : x.page = q := by simpa using h1
  unfold trImgs at h2
  obtain ⟨q2, hq, rfl⟩ := List.mem_map.1 h2
  have e : q2 = q := e
  subst e
  have h3 := (keysOf_mem.1 hq).2
  obtain ⟨s, hs⟩ := Option.isSome_iff_exists.1 h3
  dsimp only
  rw [hs]
  rfl
 | none =>
  rw [List.find?_eq_none] at hf
  cases hw : t.wr q with
  | none => rfl
  | some s =>
   have h1 := ht.dom q s hw
   have hp := ht.pages
   have h2 : q ∈ keysOf t.wr := keysOf_mem.2 ⟨by omega, by rw [hw]; rfl⟩
   have := hf ⟨q, (t.wr q).getD []⟩ (by unfold trImgs; exact List.mem_map.2 ⟨q, h2, rfl⟩)
   simp at this
section
variable {g : Lg} {d : Dsk} {p : Pg} {t : Tr} {M : List (List UInt8)} {h : Hdr}
theorem tx_commit2 (hT : Tx p g d t M) (hc : LgCalm g d) (hg : g.Ok) (h1 : (t.wr 1).isSome = true) (hlen : ∀ s ∈ M, s.length = 512) :
  ∃ g' d' A, pcommitM p g d = (0, emptied p, g', d') ∧ Db g' d' M ∧ g'.list = A ++ frsOf t.pages (trImgs t) ∧ (A = g.list ∨ A = []) ∧ (g.list.length + (trImgs t).length ≤ 256 → A = g.list) := by
 obtain ⟨g', d', e, hD⟩ := tx_commit hT hc hg h1 hlen
 have hne : trImgs t ≠ [] := trImgs_some ⟨by decide, by decide⟩ h1
 have hkeys : keysOf t.wr ≠ [] := fun e => hne (by unfold trImgs; rw [e]; rfl)
 have e2 : pcommitM p g d = putM p t g d := by unfold pcommitM; rw [hT.now]; exact if_neg hkeys
 by_cases hroom : g.list.length + (trImgs t).length ≤ 256
 ·refine ⟨g', d', g.list, e, hD, ?_, .inl rfl, fun _ => rfl⟩
  have e3 : putM p t g d = ((lappendM t.pages (trImgs t) g d).1, emptied p, (lappendM t.pages (trImgs t) g d).2) := by
   unfold putM
   rw [if_neg (by omega)]
  rw [e2, e3] at e
  have e4 : (lappendM t.pages (trImgs t) g d).1 = 0 := congrArg (fun x => x.1) e
  have e5 : (lappendM t.pages (trImgs t) g d).2.1 = g' := congrArg (fun x => x.2.2.1) e
  rw [← e5]
  exact (app_leaves hc hT.ok e4).2.1
 ·refine ⟨g', d', [], e, hD, ?_, .inr rfl, fun hh => absurd hh hroom⟩
  obtain ⟨c0, ck⟩ := check_calm hc hg
  have e3 : putM p t g d = ((lappendM t.pages (trImgs t) (lcheckM g d).2.1 (lcheckM g d).2.2).1, emptied p, (lappendM t.pages (trImgs t) (lcheckM g d).2.1 (lcheckM g d).2.2).2) := by
   unfold putM
   rw [if_pos ⟨by omega, hT.opn⟩, if_neg (by rw [c0]; simp)]
  rw [e2, e3] at e
  have e4 : (lappendM t.pages (trImgs t) (lcheckM g d).2.1 (lcheckM g d).2.2).1 = 0 := congrArg (fun x => x.1) e
  have e5 : (lappendM t.pages (trImgs t) (lcheckM g d).2.1 (lcheckM g d).2.2).2.1 = g' := congrArg (fun x => x.2.2.1) e
  rw [← e5]
  have := (app_leaves ck.calm hT.ok e4).2.1
  rw [ck.list] at this
  exact this
theorem logged_commit {L : List Fr} (hT : Tx p g d t (hdrPg h :: M)) (hh : HdOk h) (h1 : (t.wr 1).isSome = true) (k : Int) (h0 : (loggedF L k).1 = fun _ => none) :
  loggedF (L ++ frsOf t.pages (trImgs t)) k = (fun _ => none, if h.commits = k then some ⟨1, 0, k, false, t.pages, trImgs t⟩ else (loggedF L k).2) := by
 have hne : trImgs t ≠ [] := trImgs_some ⟨by decide, by decide⟩ h1
 have hp : t.pages ≠ 0 := by rw [hT.pages]; simp; omega
 rw [logged_more L k t.pages hp _ hne h0, laid_tr hT.ok]
 have e1 : t.wr 1 = some (hdrPg h) := by
  rcases hT.page 1 (Nat.le_refl _) (by simp) with e | ⟨e, -⟩
  ·exact e
  ·have e : t.wr 1 = none := e
   rw [e] at h1
   cases h1
 rw [e1, Option.getD_some, takeH_put hh.may hh.wf, tr_imgs]
 simp
end
end Go.Proofs.YtdinjghfjmmjoaaGreat
/- Plain laws of UnitNext: which pages a turn writes. -/
namespace Go.Proofs.YtdinjghfjmmjoaaGreat
open Go.RowKit Go.Maps
set_option maxRecDepth 20000
section
variable {g : Lg} {d : Dsk} {p : Pg} {t t' : Tr} {L M : List (List UInt8)} {h : Hdr}
theorem resize_wr {n : Int} (hp : p.now = some t) (e : presizeM p n = (0, { p with now := some t' })) : t'.wr = fun k => if n < k then none else if t.pages < k then some (zeros 512) else t.wr k := by
 unfold presizeM at e
 rw [hp] at e
 dsimp only at e
 split at e
 ·cases e
 ·have e1 := congrArg (fun x => x.2.now) e
  dsimp only at e1
  injection e1 with e1
  rw [← e1]
theorem write_wr {n : Int} {s : List UInt8} (hp : p.now = some t) (e : pwriteM p n s = (0, { p with now := some t' })) : t'.wr = fun k => if k = n then some s else t.wr k := by
 unfold pwriteM at e
 rw [hp] at e
 dsimp only at e
 split at e
 ·cases e
 split at e
 ·cases e
 ·have e1 := congrArg (fun x => x.2.now) e
  dsimp only at e1
  injection e1 with e1
  rw [← e1]
theorem sp_begin2 (hD : DbW g d L) (hL : (L = [] ∧ h = hdr0) ∨ ∃ M, L = hdrPg h :: M) (hh : HdOk h) (hn : p.now = none) (ho : p.opn = 0) :
  ∃ t' M', spBeginM p g d = (0, { p with now := some t' }) ∧ Tx { p with now := some t' } g d t' (hdrPg h :: M') ∧ hdrPg h :: M' = (if L = [] then [hdrPg hdr0] else L) ∧ ∀ q : Int, (t'.wr q).isSome = true ↔ (L = [] ∧ q = 1) := by
 obtain ⟨b1, b2⟩ := tx_begin hD hn ho
 unfold spBeginM
 rw [b1]
 rw [if_neg (by simp)]
 rcases hL with ⟨rfl, rfl⟩ | ⟨M, rfl⟩
 ·rw [if_pos (by rw [tx_pages b2]; rfl)]
  obtain ⟨t1, r1, r2, -⟩ := tx_resize b2 (n := 1) (Nat.le_refl _) (by decide)
  have q1 := resize_wr b2.now r1
  have r1 : presizeM { p with now := some ⟨g.head.pages, fun _ => none⟩ } 1 = (0, { p with now := some t1 }) := r1
  rw [r1]
  rw [writeHM_ok hd0_ok]
  obtain ⟨t2, w1, w2, -⟩ := tx_write r2 (n := 1) (s := hdrPg hdr0) (Nat.le_refl _) (by simp) (hdrPg_length _ rfl)
  have q2 := write_wr r2.now w1
  have w1 : pwriteM { p with now := some t1 } 1 (hdrPg hdr0) = (0, { p with now := some t2 }) := w1
  refine ⟨t2, [], w1, w2, by simp, fun q => ?_⟩
  rw [q2, q1]
  dsimp only
  have hp0 : g.head.pages = 0 := by simpa using hD.pages
  by_cases e : q = ((1 : Nat) : Int)
  ·rw [if_pos e]
   exact ⟨fun _ => ⟨rfl, e⟩, fun _ => rfl⟩
  ·rw [if_neg e]
   constructor
   ·intro hs
    split at hs
    ·cases hs
    split at hs
    ·rename_i h1 h2
     have h2 : g.head.pages < q := h2
     omega
    ·cases hs
   ·rintro ⟨-, e2⟩
    exact absurd e2 e
 ·rw [if_neg (by rw [tx_pages b2]; simp; omega)]
  rw [(tx_ready b2 hh).1]
  rw [if_neg (by simp)]
  refine ⟨_, M, rfl, b2, by simp, fun q => ?_⟩
  simp
theorem sp_commit2 (hT : Tx p g d t (hdrPg h :: M)) (hh : HdOk h) (hc : LgCalm g d) (hg : g.Ok) (hlen : ∀ s ∈ M, s.length = 512) :
  ∃ g' d' t1 A, spCommitM p g d = (0, emptied p, g', d') ∧ Db g' d' (hdrPg (bumped h) :: M) ∧ (g'.list = A ++ frsOf t1.pages (trImgs t1) ∧ (A = g.list ∨ A = []) ∧ (g.list.length + (M.length + 1) ≤ 256 → A = g.list)) ∧ Tx { p with now := some t1 } g d t1 (hdrPg (bumped h) :: M) ∧ (t1.wr 1).isSome = true ∧ ∀ q : Int, (t1.wr q).isSome = true ↔ (q = 1 ∨ (t.wr q).isSome = true) := by
 unfold spCommitM
 rw [(tx_ready hT hh).2]
 rw [if_neg (by simp)]
 obtain ⟨t1, w1, w2, w3⟩ := sp_writeH hT (bumped_ok hh)
 have w1' := w1
 rw [writeHM_ok (bumped_ok hh)] at w1'
 have q1 := write_wr hT.now w1'
 rw [w1, if_neg (by simp)]
 have hk : (trImgs t1).length ≤ M.length + 1 := by
  have h1 : (keysOf t1.wr).length ≤ M.length + 1 := keysOf_le t1.wr (M.length + 1) (fun q s e => by
   have h2 := w2.ok.dom q s e
   have h3 := w2.pages
   simp at h3
   omega)
  unfold trImgs
  rw [List.length_map]
  exact h1
 obtain ⟨g', d', A, c1, c2, c3, c4, c5⟩ := tx_commit2 w2 hc hg w3 (fun s hs => by
  rcases List.mem_cons.1 hs with e | e
  ·rw [e]; exact hdrPg_length _ (bumped_wf hh.wf).len
  ·exact hlen s e)
 refine ⟨g', d', t1, A, c1, c2, ⟨c3, c4, fun hr => c5 (by omega)⟩, w2, w3, fun q => ?_⟩
 rw [q1]
 dsimp only
 by_cases e : q = 1
 ·rw [if_pos e]
  exact ⟨fun _ => .inl e, fun _ => rfl⟩
 ·rw [if_neg e]
  exact ⟨.inr, fun h => h.resolve_left e⟩
end
end Go.Proofs.YtdinjghfjmmjoaaGreat
/- Plain laws of UnitNext: a turn done to a database. -/
namespace Go.Proofs.YtdinjghfjmmjoaaGreat
open Go.RowKit Go.Maps
set_option maxRecDepth 20000
section
variable {g : Lg} {d : Dsk} {p : Pg} {t t' : Tr} {L M : List (List UInt8)} {h : Hdr}
theorem head_tail {A : List (List UInt8)} {a : List UInt8} (h1 : 1 ≤ A.length) (h2 : A.getD 0 [] = a) : ∃ B, A = a :: B ∧ B.length + 1 = A.length := by
 cases A with
 | nil => simp at h1
 | cons x r => exact ⟨r, by rw [← h2]; rfl, by simp⟩
theorem turn_grow {n : Nat} (hT : Tx { p0 with now := some t } g d t M) (hM : 1 ≤ M.length) (hn : 2 ≤ n ∧ n ≤ 256) :
  ∃ t' A, (if ppagesM { p0 with now := some t } g < n then (presizeM { p0 with now := some t } n).2 else { p0 with now := some t }) = { p0 with now := some t' } ∧ Tx { p0 with now := some t' } g d t' A ∧ A.length = max M.length n ∧ A.getD 0 [] = M.getD 0 [] ∧
   ∀ q : Int, (t'.wr q).isSome = true ↔ ((t.wr q).isSome = true ∨ ((M.length : Int) < q ∧ q ≤ n)) := by
 rw [tx_pages hT]
 by_cases hlt : M.length < n
 ·rw [if_pos (by omega)]
  obtain ⟨t1, r1, r2, -⟩ := tx_resize hT (n := n) (by omega) hn.2
  have q1 := resize_wr (p := { p0 with now := some t }) rfl r1
  rw [r1]
  refine ⟨t1, _, rfl, r2, by simp; omega, ?_, fun q => ?_⟩
  ·rw [List.getD_eq_getElem?_getD, List.getElem?_eq_getElem (by simp; omega)]
   simp only [List.getElem_map, List.getElem_range]
   rw [if_pos (by omega)]
   rfl
  ·rw [q1]
   dsimp only
   have hp := hT.pages
   have hd : ∀ s, t.wr q = some s → 1 ≤ q ∧ q ≤ t.pages := fun s e => ⟨(hT.ok.dom q s e).1, (hT.ok.dom q s e).2.1⟩
   by_cases h1 : (n : Int) < q
   ·rw [if_pos h1]
    constructor
    ·intro hs; cases hs
    ·rintro (hs | hs)
     ·obtain ⟨s, hs⟩ := Option.isSome_iff_exists.1 hs
      have := hd s hs
      omega
     ·omega
   ·rw [if_neg h1]
    by_cases h2 : t.pages < q
    ·rw [if_pos h2]
     exact ⟨fun _ => .inr (by omega), fun _ => rfl⟩
    ·rw [if_neg h2]
     exact ⟨.inl, fun hh => hh.resolve_right (by omega)⟩
 ·rw [if_neg (by omega)]
  refine ⟨t, M, rfl, hT, by omega, rfl, fun q => ⟨.inl, fun hh => hh.resolve_right (by omega)⟩⟩
theorem turn_db (hD : Db g d L) (hL : Good L) (hg : g.Ok) {n : Nat} (hn : 2 ≤ n ∧ n ≤ 21) (hl : L.length ≤ 21) (c : UInt8) :
  ∃ g' d' hd M' t1 F, turnGM p0 g d n c = (0, p0, g', d') ∧ Db g' d' (hdrPg hd :: M') ∧ HdOk hd ∧ hd.commits = IntKind.u64.wrap (commL L + 1) ∧ M'.length + 1 = max L.length n ∧ (g'.list = F ++ frsOf t1.pages (trImgs t1) ∧ (F = g.list ∨ F = []) ∧ (g.list.length + 22 ≤ 256 → F = g.list)) ∧
   (∃ pz, Tx pz g d t1 (hdrPg hd :: M')) ∧ (t1.wr 1).isSome = true ∧ ∀ q : Int, (t1.wr q).isSome = true ↔ (q = 1 ∨ q = n ∨ ((L.length : Int) < q ∧ q ≤ n)) := by
 obtain ⟨h0, hL0, hh0, hc0⟩ : ∃ h0, ((L = [] ∧ h0 = hdr0) ∨ ∃ M, L = hdrPg h0 :: M) ∧ HdOk h0 ∧ commL L = h0.commits := by
  rcases hL with rfl | ⟨h0, M, rfl, hh⟩
  ·exact ⟨hdr0, .inl ⟨rfl, rfl⟩, hd0_ok, rfl⟩
  ·refine ⟨h0, .inr ⟨M, rfl⟩, hh, ?_⟩
   show (takeH (hdrPg h0)).1.commits = _
   rw [takeH_put hh.may hh.wf]
 obtain ⟨t0, M0, s1, T0, e0, k0⟩ := sp_begin2 (p := p0) hD.w hL0 hh0 rfl rfl
 have hm0 : M0.length + 1 = max L.length 1 := by
  have := congrArg List.length e0
  rw [List.length_cons] at this
  rw [this]
  cases L with
  | nil => rfl
  | cons x r => simp
 obtain ⟨t1, A, g1, T1, a1, a2, k1⟩ := turn_grow (n := n) T0 (by simp) ⟨hn.1, by omega⟩
 obtain ⟨t2, w1, T2, -⟩ := tx_write T1 (n := n) (s := pageOf c) (by omega) (by rw [a1]; simp; omega) (pageOf_length c)
 have k2 := write_wr (p := { p0 with now := some t1 }) rfl w1
 obtain ⟨B, eB, lB⟩ := head_tail (A := A.set (n - 1) (pageOf c)) (a := hdrPg h0) (by rw [List.length_set, a1]; simp; omega) (by
  rw [List.getD_eq_getElem?_getD, List.getElem?_set_ne (by omega), ← List.getD_eq_getElem?_getD, a2]
  rfl)
 rw [eB] at T2
 rw [List.length_set, a1, List.length_cons] at lB
 have hlenB : ∀ s ∈ hdrPg h0 :: B, s.length = 512 := T2.len hD.calm.off (fun m m1 m2 => by
  have hp := hD.pages
  rw [hD.page m m1 (by omega)]
  exact hD.len _ (getD_mem (by omega)))
 obtain ⟨g', d', t3, F, c1, c2, ⟨c3, c3b, c3c⟩, c4, c5, c6⟩ := sp_commit2 T2 hh0 hD.calm hg (fun s hs => hlenB s (List.mem_cons_of_mem _ hs))
 refine ⟨g', d', bumped h0, B, t3, F, ?_, c2, bumped_ok hh0, by rw [hc0]; rfl, by omega, ⟨c3, c3b, fun hr => c3c (by omega)⟩, ⟨_, c4⟩, c5, fun q => ?_⟩
 ·unfold turnGM
  rw [s1, if_neg (by simp)]
  dsimp only
  have g1' : (if ppagesM { p0 with now := some t0 } g < (n : Int) then (presizeM { p0 with now := some t0 } (n : Int)).2 else { p0 with now := some t0 }) = { p0 with now := some t1 } := g1
  rw [g1', w1]
  exact c1
 ·rw [c6, k2]
  dsimp only
  by_cases e : q = (n : Int)
  ·rw [if_pos e]
   exact ⟨fun _ => .inr (.inl e), fun _ => .inr rfl⟩
  ·rw [if_neg e, k1, k0]
   simp only [List.length_cons]
   constructor
   ·rintro (h1 | ⟨-, h1⟩ | h1)
    ·exact .inl h1
    ·exact .inl h1
    ·exact .inr (.inr (by omega))
   ·rintro (h1 | h1 | h1)
    ·exact .inl h1
    ·exact absurd h1 e
    ·by_cases h2 : q = 1
     ·exact .inl h2
     ·exact .inr (.inr (by omega))
end
end Go.Proofs.YtdinjghfjmmjoaaGreat
/- Plain laws of UnitNext: the units that the log has. -/
namespace Go.Proofs.YtdinjghfjmmjoaaGreat
open Go.RowKit Go.Maps
set_option maxRecDepth 20000
def unitI (M : List (List UInt8)) (at' : List Int) : List Img := (imgsOf M).filter fun x => decide (x.page ∈ at')
theorem imgsOf_range (M : List (List UInt8)) : imgsOf M = (List.range M.length).map fun (i : Nat) => (⟨(i : Int) + 1, M.getD i []⟩ : Img) := by
 unfold imgsOf
 apply List.ext_getElem
 ·simp
 ·intro i h1 h2
  have h3 : i < M.length := by simpa using h1
  simp only [List.getElem_mapIdx, List.getElem_map, List.getElem_range]
  rw [List.getD_eq_getElem?_getD, List.getElem?_eq_getElem h3]
  rfl
section
variable {g : Lg} {d : Dsk} {p : Pg} {t : Tr} {L M : List (List UInt8)}
theorem tr_unit (hT : Tx p g d t M) (hM : M.length ≤ 256) (at' : List Int) (hK : ∀ q : Int, (t.wr q).isSome = true ↔ q ∈ at') : trImgs t = unitI M at' := by
 unfold trImgs unitI
 rw [keysOf_cut t.wr M.length hM (fun q s e => by have := (hT.ok.dom q s e).2.1; have := hT.pages; omega), imgsOf_range, List.filter_map, List.filter_map, List.map_map]
 have e1 : (List.range M.length).filter ((fun q => (t.wr q).isSome) ∘ fun (i : Nat) => (i : Int) + 1) = (List.range M.length).filter ((fun (x : Img) => decide (x.page ∈ at')) ∘ fun (i : Nat) => (⟨(i : Int) + 1, M.getD i []⟩ : Img)) := by
  refine List.filter_congr fun i hi => ?_
  rw [Bool.eq_iff_iff]
  simp only [Function.comp]
  rw [hK, decide_eq_true_eq]
 rw [← e1]
 refine List.map_congr_left fun i hi => ?_
 have h2 := List.mem_filter.1 hi
 have h3 := List.mem_range.1 h2.1
 have h4 : (t.wr ((i : Int) + 1)).isSome = true := h2.2
 simp only [Function.comp]
 rcases hT.page (i + 1) (by omega) (by omega) with e | ⟨e, -⟩
 ·have e : t.wr ((i : Int) + 1) = some (M.getD i []) := by
   have := e
   rw [show (((i + 1 : Nat) : Int)) = (i : Int) + 1 by omega, Nat.add_sub_cancel] at this
   exact this
  rw [e]
  rfl
 ·have e : t.wr ((i : Int) + 1) = none := by
   have := e
   rw [show (((i + 1 : Nat) : Int)) = (i : Int) + 1 by omega] at this
   exact this
  rw [e] at h4
  cases h4
end
structure NxInv (g : Lg) (d : Dsk) (L : List (List UInt8)) (S : List (List (List UInt8))) (A : List (List Int)) (lg : Nat) : Prop where
 db : Db g d L
 good : Good L
 few : L.length ≤ 21
 commits : commL L = (S.length : Int)
 same : A.length = S.length
 upto : lg ≤ S.length
 last : L = S.getLastD []
 clear : ∀ k : Nat, (loggedF g.list ((k : Int) + 1)).1 = fun _ => none
 units : ∀ k : Nat, (loggedF g.list ((k : Int) + 1)).2 = if lg ≤ k ∧ k < S.length then some ⟨1, 0, (k : Int) + 1, false, ((S.getD k []).length : Int), unitI (S.getD k []) (A.getD k [])⟩ else none
section
variable {g : Lg} {d : Dsk} {L : List (List UInt8)} {S : List (List (List UInt8))} {A : List (List Int)} {lg : Nat}
end
end Go.Proofs.YtdinjghfjmmjoaaGreat
namespace Go.Proofs.YtdinjghfjmmjoaaGreat
open Go.RowKit
set_option maxRecDepth 20000
def fixedL (n : Int) : Nat → List UInt8
 | 0 => []
 | k + 1 => byt (n / 256 ^ k % 256) :: fixedL n k
attribute [irreducible] fixedL
def wordTo (l : List UInt8) (p k : Nat) : Int := num (((l.drop p).take k) ++ List.replicate (k - ((l.drop p).take k).length) 0)
attribute [irreducible] wordTo
end Go.Proofs.YtdinjghfjmmjoaaGreat
namespace Go.Proofs.YtdinjghfjmmjoaaGreat
open Go.RowKit Go.Maps
set_option maxRecDepth 20000
def rfour (n : Int) : List UInt8 := fixedL (IntKind.u64.wrap n) 4
attribute [irreducible] rfour
end Go.Proofs.YtdinjghfjmmjoaaGreat
namespace Go.Proofs.YtdinjghfjmmjoaaGreat
open Go.RowKit Go.Maps
set_option maxRecDepth 20000
structure RkSt (w W : World) (s : List UInt8) (i : Nat) : Prop where
 res : W.heap[w.heap.size]? = some (.cells #[.int .i64 0, .int .i64 0, .int .u64 0, .int .i64 0, .int .i64 0, .int .i64 0, .int .i64 0, .int .i64 0, .int .i64 0, .int .i64 0, .int .i64 0] 85 (0, 0))
 bel : Below w.heap.size w W
 row : W.heap[w.heap.size + 1]? = some (.cells (hdrCells ⟨at4 s 8, at4 s 12, num ((s.drop 16).take 8), rootsTo s i⟩).toArray 85 (0, 0))
end Go.Proofs.YtdinjghfjmmjoaaGreat
namespace Go.Proofs.YtdinjghfjmmjoaaGreat
open Go.RowKit Go.Maps
set_option maxRecDepth 20000
section
variable {w W W' : World}
end
end Go.Proofs.YtdinjghfjmmjoaaGreat
namespace Go.Proofs.YtdinjghfjmmjoaaGreat
open Go.RowKit Go.Maps
set_option maxRecDepth 20000
section
variable {w W W' : World} {m : Sh} {v vs : Value} {L : List (List UInt8)} {base : Nat}
end
end Go.Proofs.YtdinjghfjmmjoaaGreat
/- Plain laws of UnitNext: checkpoints; what Next tells. -/
namespace Go.Proofs.YtdinjghfjmmjoaaGreat
open Go.RowKit Go.Maps
set_option maxRecDepth 20000
section
variable {g : Lg} {d : Dsk} {L : List (List UInt8)} {S : List (List (List UInt8))} {A : List (List Int)} {lg : Nat}
end
end Go.Proofs.YtdinjghfjmmjoaaGreat
