/- Plain laws: what is opened behind a crash; what is read; what a commit comes to. -/
import Derived.Test.YtlkkclooihjpiaaGreatSqD
set_option linter.unusedVariables false
set_option linter.unusedSimpArgs false
namespace Go.Proofs.YtlkkclooihjpiaaGreat
open Go.RowKit Go.Maps
set_option maxRecDepth 20000
section
variable {g g' : Lg} {d d' : Dsk} {c : Cand} {L L' M : List (List UInt8)} {S S' : List (List UInt8) → Prop} {k a n m : Nat} {s : List UInt8}
theorem openN_all (salt : Int) (ho : d.off = false) : ∀ (r : List Fr) (p : Int × Int) (i : Nat) (l : List Fr), (∀ f ∈ r, frOk f = true) → 1 + 9 * i + 9 * r.length ≤ (d.now 1).length →
  (∀ j, j < 9 * r.length → (d.now 1).getD (1 + 9 * i + j) nought = secOf (putsN salt r p).1 j) → openN d salt r.length i l p = some (l ++ r, (putsN salt r p).2)
 | [], p, i, l, _, _, _ => by simp [openN, putsN]
 | f :: r, p, i, l, hok, hlen, hj => by
  have hf := hok f List.mem_cons_self
  have hfl := frL_length p salt f (frOk_facts hf).2.1
  have hs : (putFr p salt f).s = frL p salt f := by unfold putFr; rw [if_pos hf]
  have hq : (putFr p salt f).q = frQ p salt f := by unfold putFr; rw [if_pos hf]
  have ht : (putsN salt (f :: r) p).1 = frL p salt f ++ (putsN salt r (frQ p salt f)).1 := by
   show (putFr p salt f).s ++ (putsN salt r (putFr p salt f).q).1 = _
   rw [hs, hq]
  have hp2 : (putsN salt (f :: r) p).2 = (putsN salt r (frQ p salt f)).2 := by
   show (putsN salt r (putFr p salt f).q).2 = _
   rw [hq]
  rw [List.length_cons] at hlen hj
  have hread : readM d 1 (1 + 9 * (i : Int)) 9 = (frL p salt f, 0) := by
   have e0 : ((1 : Int).toNat) = 1 := rfl
   have e9 : ((9 : Int).toNat) = 9 := rfl
   have ea : (1 + 9 * (i : Int)).toNat = 1 + 9 * i := by omega
   unfold readM
   rw [if_neg (by have := ready_on (d := d) (k := 1) (by decide) ho; simpa using this), e0, if_neg (by omega), ea, e9]
   refine Prod.ext ?_ rfl
   show (List.take 9 (List.drop (1 + 9 * i) (d.now 1))).flatten = frL p salt f
   rw [list_getD (l := List.take 9 (List.drop (1 + 9 * i) (d.now 1))) (m := 9) (g := secOf (frL p salt f)) (by simp; omega) (fun q hq => by
    have := hj q (by omega)
    rw [ht, secOf_left (m := 9) (by rw [hfl]) hq] at this
    rw [← this]
    simp only [List.getD_eq_getElem?_getD, List.getElem?_take, hq, if_true, List.getElem?_drop])]
   rw [flat_secs, List.take_of_length_le (by omega)]
  have htk : tkFr p salt (frL p salt f) = ⟨f, frQ p salt f, 0⟩ := by
   have := tkFr_put p salt f [] hf
   rwa [List.append_nil] at this
  rw [List.length_cons, openN_succ, hread]
  dsimp only
  rw [if_neg (by decide), htk]
  dsimp only
  rw [if_neg (by decide)]
  rw [openN_all salt ho r (frQ p salt f) (i + 1) (l ++ [f]) (fun x hx => hok x (List.mem_cons_of_mem _ hx)) (by omega) (fun j hjr => by
   have := hj (9 + j) (by omega)
   rw [ht, secOf_right (m := 9) (by rw [hfl]) (by omega)] at this
   rw [show 1 + 9 * (i + 1) + j = 1 + 9 * i + (9 + j) by omega, this]
   congr 1
   omega)]
  rw [hp2, List.append_assoc]
  rfl
theorem first_getD (ho : d.off = false) : firstM d = (d.now 1).getD 0 nought := by
 unfold firstM
 cases hl : d.now 1 with
 | nil => rfl
 | cons x r =>
  have e0 : ((1 : Int).toNat) = 1 := rfl
  rw [if_pos (by simp)]
  unfold readM
  rw [if_neg (by have := ready_on (d := d) (k := 1) (by decide) ho; simpa using this), e0, hl, if_neg (by simp; omega)]
  simp
theorem hdL_ne (h : Hd) : hdL h ≠ zeros 64 := by
 intro e
 have h1 : (hdL h).take 8 = wordC := by
  rw [hdL_eq, hdB_app]
  exact cutT _ _ 8 rfl
 rw [e] at h1
 revert h1
 decide
theorem open_cand (ho : d.off = false) (hc : CandOk d c) (hh : (d.now 1).getD 0 nought = headS c.has c.head) : lopenM d = (some (candLg c), 0) := by
 have hf : firstM d = headS c.has c.head := (first_getD ho).trans hh
 have hb := hdMay_bd hc.may
 unfold lopenM
 rw [if_neg (by rw [ho]; decide), hf]
 unfold headS
 cases hhas : c.has with
 | false =>
  obtain ⟨h1, h2, h3, h4, h5⟩ := hc.bare hhas
  have hfr := hc.frames
  rw [h1] at hfr
  simp only [Bool.false_eq_true, if_false, if_true]
  rw [h3, if_neg (by omega)]
  have e : (((d.sure 0).length / 8 : Nat) : Int) = c.head.pages := by omega
  rw [e]
  have hh : c.head = ⟨0, 0, c.head.pages⟩ := by
   cases hq : c.head with
   | mk a b p => rw [hq] at h2 hfr; simp only at h2; simp at hfr; rw [h2, hfr]
  unfold candLg candTx
  rw [h1, hhas, ← hh, h2]
  rfl
 | true =>
  simp only [if_true]
  have ht : tkHd (hdL c.head) = (c.head, 0) := by
   have := tkHd_put c.head [] hc.may hc.wf
   rwa [List.append_nil] at this
  rw [if_neg (hdL_ne _), ht]
  dsimp only
  rw [if_neg (by decide), hc.frames, Int.toNat_natCast]
  have hO : openN d c.head.number c.list.length 0 [] (startP c.head.number) = some ([] ++ c.list, (candTx c).2) := by
   by_cases h0 : c.list = []
   ·rw [h0]
    unfold candTx
    rw [h0]
    rfl
   ·have hl := hc.len h0
    refine openN_all c.head.number ho c.list (startP c.head.number) 0 [] hc.ok (by omega) (fun j hj => ?_)
    rw [show 1 + 9 * 0 + j = 1 + j by omega]
    exact hc.text j hj _ (.inr (.inl rfl))
  rw [hO]
  dsimp only
  rw [List.nil_append]
  have hlast : ¬ (0 < (c.list.length : Int) ∧ lastCommit c.list ≠ c.head.pages) := by
   rintro ⟨h1, h2⟩
   exact h2 (hc.last (fun e => by rw [e] at h1; simp at h1))
  rw [if_neg hlast]
  unfold candLg
  rw [hhas]
theorem crash_mayd {keep : List Bool} {i : Nat} (hc : ∀ x ∈ d.loose, x.file = k → x.cut = true → i < x.at_) (hm : May (crashM d keep) k i s) : May d k i s ∧ s = ((crashM d keep).now k).getD i nought := by
 have hs : s = (crN d keep d.loose.length k).getD i nought := by
  rcases hm with h | h | ⟨x, hx, -⟩
  ·exact h
  ·exact h
  ·cases hx
 refine ⟨?_, hs⟩
 rcases crash_may (keep := keep) k i hc d.loose.length with e | ⟨x, hx, h1, h2, h3, h4⟩
 ·exact .inl (hs.trans e)
 ·exact .inr (.inr ⟨x, hx, h1, h2, h3, h4.trans hs.symm⟩)
theorem CandOk.crash (h : CandOk d c) (h1 : ∀ x ∈ d.loose, x.file = 1 → x.cut = false) (keep : List Bool) : CandOk (crashM d keep) c := by
 have nocut : ∀ i, ∀ x ∈ d.loose, x.file = 1 → x.cut = true → i < x.at_ := fun i x hx hf hc => by rw [h1 x hx hf] at hc; cases hc
 have nocut' : ∀ i, ∀ x ∈ d.loose, x.file = 1 → x.cut = true → i ≤ x.at_ := fun i x hx hf hc => by rw [h1 x hx hf] at hc; cases hc
 refine ⟨h.may, h.wf, h.frames, h.ok, h.last, fun j hj s hs => h.text j hj s (crash_mayd (nocut _) hs).1, fun hne => ?_, fun hb => ?_, fun n n1 n2 e => ?_⟩
 ·have := crash_len (d := d) (keep := keep) 1 _ (h.len hne).1 (nocut' _) d.loose.length
  exact ⟨this, this⟩
 ·obtain ⟨b1, b2, b3, b4, b5⟩ := h.bare hb
  have e : (crashM d keep).sure 0 = d.sure 0 := crash_same 0 b5 _
  exact ⟨b1, b2, rfl, by rw [e]; exact b4, fun x hx => (by cases hx)⟩
 ·have hm := h.main n n1 n2 e
  have := crash_len (d := d) (keep := keep) 0 _ hm.sure hm.cut d.loose.length
  exact ⟨this, this, fun x hx => (by cases hx), fun j hj s hs => (crash_mayd (fun x hx hf hc => by have := hm.cut x hx hf hc; omega) hs).2⟩
theorem CandSt.crash (h : CandSt d c L) (hc : CandOk d c) (keep : List Bool) : CandSt (crashM d keep) c L := by
 refine ⟨h.pages, fun n n1 n2 => ?_, h.len⟩
 rw [← h.page n n1 n2]
 unfold cpage
 cases hl : lastAt c.list n c.list.length with
 | some s => rfl
 | none =>
  have hm := hc.main n n1 (by have := h.pages; omega) hl
  show pg ((crashM d keep).now 0) n = pg (d.now 0) n
  unfold pg
  congr 1
  apply List.map_congr_left
  intro j hj
  have hj8 := List.mem_range.1 hj
  have := crash_mayd (d := d) (keep := keep) (k := 0) (i := 8 * (n - 1) + j) (s := ((crashM d keep).now 0).getD (8 * (n - 1) + j) nought) (fun x hx hf hc => by have := hm.cut x hx hf hc; omega) (.inr (.inl rfl))
  exact hm.one j hj8 _ this.1
theorem inv_crash (h : LgInv g d L S) (keep : List Bool) : ∃ g' L', lopenM (crashM d keep) = (some g', 0) ∧ LgInv g' (crashM d keep) L' (fun _ => False) ∧ g'.torn = false ∧ g'.off = false ∧ (L' = L ∨ S L') := by
 have hh : May d 1 0 (((crashM d keep).now 1).getD 0 nought) := (crash_mayd (d := d) (keep := keep) (k := 1) (i := 0) (fun x hx hf hc => by rw [h.cut1 x hx hf] at hc; cases hc) (.inr (.inl rfl))).1
 have all : ∀ c, CandOk d c → ∀ L', CandSt d c L' → ((crashM d keep).now 1).getD 0 nought = headS c.has c.head → (L' = L ∨ S L') → ∃ g' L', lopenM (crashM d keep) = (some g', 0) ∧ LgInv g' (crashM d keep) L' (fun _ => False) ∧ g'.torn = false ∧ g'.off = false ∧ (L' = L ∨ S L') := by
  intro c hc L' hL' he hor
  have hc2 := hc.crash h.cut1 keep
  refine ⟨candLg c, L', open_cand rfl hc2 he, ⟨fun x hx => (by cases hx), hc2, hL'.crash hc keep, rfl, fun s hs => .inl ?_⟩, rfl, rfl, hor⟩
  have := (crash_mayd (d := d) (keep := keep) (k := 1) (i := 0) (fun x hx hf hc => by rw [h.cut1 x hx hf] at hc; cases hc) hs).2
  exact this.trans he
 rcases h.head _ hh with e | ⟨-, c, e, hc, L', hL', hS⟩
 ·exact all (candOf g) h.ok L h.st e (.inl rfl)
 ·exact all c hc L' hL' e (.inr hS)
theorem LgInv.pages (h : LgInv g d L S) : g.head.pages = (L.length : Int) ∧ L.length ≤ 256 := by
 have h1 : g.head.pages = (L.length : Int) := h.st.pages
 have h2 : 0 ≤ g.head.pages ∧ g.head.pages ≤ 256 := (hdMay_bd h.ok.may).2
 exact ⟨h1, by omega⟩
theorem LgInv.reads (h : LgInv g d L S) (ho : d.off = false) : DbW g d L := by
 obtain ⟨h1, h2⟩ := h.pages
 refine ⟨h1, h2, fun n n1 n2 => ?_, h.st.len⟩
 have hp := h.st.page n n1 n2
 unfold pageM
 rw [if_neg (by unfold pageBad; omega), Int.toNat_natCast, ← hp]
 unfold cpage
 have e : lastAt (candOf g).list n (candOf g).list.length = lastAt g.list n g.list.length := rfl
 rw [e]
 cases hl : lastAt g.list (n : Int) g.list.length with
 | some s => rfl
 | none =>
  have hm := (h.ok.main n n1 (by show (n : Int) ≤ g.head.pages; omega) hl).now
  have e0 : ((0 : Int).toNat) = 0 := rfl
  have e8 : ((8 : Int).toNat) = 8 := rfl
  have ea : (8 * ((n : Int) - 1)).toNat = 8 * (n - 1) := by omega
  dsimp only
  rw [if_neg (by omega)]
  unfold readM
  rw [if_neg (by have := ready_on (d := d) (k := 0) (by decide) ho; simpa using this), e0, if_neg (by omega), e8, ea, pg_here n1 hm]
  rfl
theorem tr_news {t : Tr} (ht : t.Ok) (hp : t.pages = (M.length : Int)) (hl : ∀ s ∈ M, s.length = 512) (hpg : ∀ n : Nat, 1 ≤ n → n ≤ M.length → t.wr n = some (M.getD (n - 1) []) ∨ (t.wr n = none ∧ (n : Int) ≤ g.head.pages ∧ M.getD (n - 1) [] = L.getD (n - 1) [])) : News g L M t.pages (trImgs t) := by
 refine ⟨hp, hl, fun n n1 n2 => ?_⟩
 rw [lastAt_tr ht]
 rcases hpg n n1 n2 with e | ⟨e, e2, e3⟩
 ·rw [e]
 ·rw [e]
  exact ⟨e2, e3⟩
theorem inv_put {t : Tr} {p : Pg} (h : LgInv g d L S) (ht : t.Ok) (hp : t.pages = (M.length : Int)) (hl : ∀ s ∈ M, s.length = 512) (hpg : ∀ n : Nat, 1 ≤ n → n ≤ M.length → t.wr n = some (M.getD (n - 1) []) ∨ (t.wr n = none ∧ (n : Int) ≤ g.head.pages ∧ M.getD (n - 1) [] = L.getD (n - 1) [])) :
  (putM p t g d).2.1 = emptied p ∧ ((putM p t g d).1 = 0 → LgInv (putM p t g d).2.2.1 (putM p t g d).2.2.2 M (fun _ => False) ∧ (putM p t g d).2.2.1.torn = false) ∧
  ((putM p t g d).1 ≠ 0 → LgInv (putM p t g d).2.2.1 (putM p t g d).2.2.2 L (fun y => S y ∨ y = L ∨ y = M)) := by
 unfold putM
 split
 ·obtain ⟨c1, -, -, c4⟩ := inv_check h
  split
  ·rename_i h1
   exact ⟨rfl, fun e => absurd e h1, fun _ => c4.mono fun y hy => hy.elim .inl fun e => .inr (.inl e)⟩
  ·have hN : News (lcheckM g d).2.1 L M t.pages (trImgs t) := tr_news ht hp hl (fun n n1 n2 => by rw [c1]; exact hpg n n1 n2)
   obtain ⟨a1, a2⟩ := inv_append c4 hN
   exact ⟨rfl, a1, fun e => (a2 e).2.mono fun y hy => by
    rcases hy with (hy | hy) | hy
    ·exact .inl hy
    ·exact .inr (.inl hy)
    ·exact .inr (.inr hy)⟩
 ·obtain ⟨a1, a2⟩ := inv_append h (tr_news (g := g) ht hp hl hpg)
  exact ⟨rfl, a1, fun e => (a2 e).2.mono fun y hy => hy.elim .inl fun e => .inr (.inr e)⟩
theorem inv_new : LgInv exG0 newM [] (fun _ => False) := by
 refine ⟨fun x hx => (by cases hx), ⟨by decide, by unfold HdWf; decide, rfl, fun f hf => (by cases hf), fun e => absurd rfl e, fun j hj => absurd hj (by show ¬ j < 9 * 0; omega), fun e => absurd rfl e, fun _ => ⟨rfl, rfl, rfl, rfl, fun x hx => by cases hx⟩, fun n n1 n2 => ?_⟩, ⟨rfl, fun n n1 n2 => ?_, fun s hs => by cases hs⟩, rfl, fun s hs => .inl ?_⟩
 ·have n2 : (n : Int) ≤ 0 := n2
  omega
 ·have n2 : n ≤ 0 := n2
  omega
 ·rcases hs with h | h | ⟨x, hx, -⟩
  ·exact h
  ·exact h
  ·cases hx
end
end Go.Proofs.YtlkkclooihjpiaaGreat
