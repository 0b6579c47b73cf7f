import Derived.Test.YtlkkclooihjpiaaGreatPcA
import Derived.Test.YtlkkclooihjpiaaGreatSpE
set_option linter.unusedVariables false
set_option linter.unusedSimpArgs false
namespace Go.Proofs.YtlkkclooihjpiaaGreat
open Go.RowKit Go.Maps
set_option maxRecDepth 20000
theorem lastAt_fun {m : List Fr} {F : Int → List UInt8} (h : ∀ f ∈ m, f.data = F f.page) (n : Int) : ∀ k, k ≤ m.length → (lastAt m n k = none ∧ ∀ f ∈ m.take k, f.page ≠ n) ∨ (lastAt m n k = some (F n) ∧ ∃ f ∈ m.take k, f.page = n)
 | 0, _ => .inl ⟨rfl, by simp⟩
 | k + 1, hk => by
  have hlt : k < m.length := by omega
  rw [List.take_succ_eq_append_getElem hlt]
  by_cases hp : m[k].page = n
  ·refine .inr ⟨?_, m[k], List.mem_append.2 (.inr (List.mem_singleton.2 rfl)), hp⟩
   rw [lastAt_hit hlt hp, h _ (List.getElem_mem hlt), hp]
  ·have e : lastAt m n (k + 1) = lastAt m n k := by
    conv => lhs; unfold lastAt
    rw [List.getElem?_eq_getElem hlt]
    simp only [hp, if_false]
   rw [e]
   rcases lastAt_fun h n k (by omega) with ⟨h1, h2⟩ | ⟨h1, f, hf, h2⟩
   ·refine .inl ⟨h1, fun f hf => ?_⟩
    rcases List.mem_append.1 hf with hf | hf
    ·exact h2 f hf
    ·simp only [List.mem_cons, List.not_mem_nil, or_false] at hf
     rw [hf]
     exact hp
   ·exact .inr ⟨h1, f, List.mem_append.2 (.inl hf), h2⟩
theorem lastAt_both (l m : List Fr) (n : Int) : ∀ k, k ≤ m.length → lastAt (l ++ m) n (l.length + k) = (match lastAt m n k with | some s => some s | none => lastAt l n l.length)
 | 0, _ => by simpa [lastAt] using lastAt_append l m n l.length (Nat.le_refl _)
 | k + 1, hk => by
  have hlt : k < m.length := by omega
  have hlt2 : l.length + k < (l ++ m).length := by simp; omega
  have hg : (l ++ m)[l.length + k] = m[k] := by rw [List.getElem_append_right (by omega)]; simp
  by_cases hp : m[k].page = n
  ·rw [lastAt_hit hlt hp, show l.length + (k + 1) = (l.length + k) + 1 from rfl, lastAt_hit hlt2 (by rw [hg]; exact hp), hg]
  ·have e : lastAt m n (k + 1) = lastAt m n k := by
    conv => lhs; unfold lastAt
    rw [List.getElem?_eq_getElem hlt]
    simp only [hp, if_false]
   have e2 : lastAt (l ++ m) n (l.length + k + 1) = lastAt (l ++ m) n (l.length + k) := by
    conv => lhs; unfold lastAt
    rw [List.getElem?_eq_getElem hlt2, hg]
    simp only [hp, if_false]
   rw [e, show l.length + (k + 1) = (l.length + k) + 1 from rfl, e2]
   exact lastAt_both l m n k (by omega)
theorem frsOf_mem {P : Int} {x : List Img} {f : Fr} (h : f ∈ frsOf P x) : ∃ i ∈ x, f.page = i.page ∧ f.data = i.data := by
 obtain ⟨k, hk, rfl⟩ := List.getElem_of_mem h
 rw [frsOf_length] at hk
 rw [frsOf_get P x k hk]
 exact ⟨x[k], List.getElem_mem hk, rfl, rfl⟩
theorem frsOf_has {P : Int} {x : List Img} {i : Img} (h : i ∈ x) : ∃ f ∈ frsOf P x, f.page = i.page := by
 obtain ⟨k, hk, rfl⟩ := List.getElem_of_mem h
 refine ⟨(frsOf P x)[k]'(by rw [frsOf_length]; exact hk), List.getElem_mem _, ?_⟩
 rw [frsOf_get P x k hk]
 rfl
theorem lastAt_tr {t : Tr} (ht : t.Ok) (n : Int) : lastAt (frsOf t.pages (trImgs t)) n (frsOf t.pages (trImgs t)).length = t.wr n := by
 have h : ∀ f ∈ frsOf t.pages (trImgs t), f.data = (t.wr f.page).getD [] := by
  intro f hf
  obtain ⟨i, hi, h1, h2⟩ := frsOf_mem hf
  obtain ⟨q, hq, rfl⟩ := List.mem_map.1 hi
  rw [h2, h1]
 rcases lastAt_fun (F := fun q => (t.wr q).getD []) h n _ (Nat.le_refl _) with ⟨h1, h2⟩ | ⟨h1, f, hf, h2⟩
 ·rw [h1]
  rw [List.take_length] at h2
  cases hn : t.wr n with
  | none => rfl
  | some s =>
   have hd := ht.dom n s hn
   have hp := ht.pages
   obtain ⟨f, hf, he⟩ := frsOf_has (P := t.pages) (x := trImgs t) (i := ⟨n, (t.wr n).getD []⟩) (List.mem_map.2 ⟨n, keysOf_mem.2 ⟨by omega, by rw [hn]; rfl⟩, rfl⟩)
   exact absurd he (h2 f hf)
 ·rw [h1]
  rw [List.take_length] at hf
  obtain ⟨i, hi, e1, -⟩ := frsOf_mem hf
  obtain ⟨q, hq, rfl⟩ := List.mem_map.1 hi
  have hs := (keysOf_mem.1 hq).2
  have hqn : q = n := e1.symm.trans h2
  rw [hqn] at hs
  cases hn : t.wr n with
  | none => rw [hn] at hs; cases hs
  | some s => rfl
section
variable {g : Lg} {d : Dsk} {p : Pg}
end
end Go.Proofs.YtlkkclooihjpiaaGreat
namespace Go.Proofs.YtlkkclooihjpiaaGreat
open Go.RowKit Go.Maps
set_option maxRecDepth 20000
structure DbW (g : Lg) (d : Dsk) (L : List (List UInt8)) : Prop where
 pages : g.head.pages = (L.length : Int)
 many : L.length ≤ 256
 page : ∀ n : Nat, 1 ≤ n → n ≤ L.length → pageM g d n g.list.length = (L.getD (n - 1) [], 0)
 len : ∀ s ∈ L, s.length = 512
structure Db (g : Lg) (d : Dsk) (L : List (List UInt8)) : Prop where
 calm : LgCalm g d
 pages : g.head.pages = (L.length : Int)
 many : L.length ≤ 256
 page : ∀ n : Nat, 1 ≤ n → n ≤ L.length → pageM g d n g.list.length = (L.getD (n - 1) [], 0)
 len : ∀ s ∈ L, s.length = 512
structure Tx (p : Pg) (g : Lg) (d : Dsk) (t : Tr) (M : List (List UInt8)) : Prop where
 now : p.now = some t
 opn : p.opn = 0
 ok : t.Ok
 pages : t.pages = (M.length : Int)
 page : ∀ n : Nat, 1 ≤ n → n ≤ M.length → t.wr n = some (M.getD (n - 1) []) ∨ (t.wr n = none ∧ (n : Int) ≤ g.head.pages ∧ pageM g d n g.list.length = (M.getD (n - 1) [], 0))
section
variable {g : Lg} {d : Dsk} {p : Pg} {t : Tr} {L M : List (List UInt8)}
theorem tx_begin (h : DbW g d L) (hn : p.now = none) (ho : p.opn = 0) : beginM p g = (0, { p with now := some ⟨g.head.pages, fun _ => none⟩ }) ∧ Tx { p with now := some ⟨g.head.pages, fun _ => none⟩ } g d ⟨g.head.pages, fun _ => none⟩ L := by
 refine ⟨by unfold beginM; rw [hn], rfl, ho, ⟨by have := h.pages; have := h.many; show 0 ≤ g.head.pages ∧ g.head.pages ≤ 256; omega, fun q s e => by cases e⟩, h.pages, fun n h1 h2 => .inr ⟨rfl, by have := h.pages; omega, h.page n h1 h2⟩⟩
theorem tx_pages (h : Tx p g d t M) : ppagesM p g = (M.length : Int) := by unfold ppagesM; rw [h.now]; exact h.pages
theorem db_pages (h : DbW g d L) (hn : p.now = none) : ppagesM p g = (L.length : Int) := by unfold ppagesM; rw [hn]; exact h.pages
theorem tx_read (h : Tx p g d t M) (n : Nat) (h1 : 1 ≤ n) (h2 : n ≤ M.length) : preadM p g d n = (M.getD (n - 1) [], 0) := by
 unfold preadM
 rw [tx_pages h, if_neg (by omega), h.now]
 rcases h.page n h1 h2 with e | ⟨e, -, e2⟩
 ·simp only [e]
 ·simp only [e]
  exact e2
theorem db_read (h : DbW g d L) (hn : p.now = none) (n : Nat) (h1 : 1 ≤ n) (h2 : n ≤ L.length) : preadM p g d n = (L.getD (n - 1) [], 0) := by
 unfold preadM
 rw [db_pages h hn, if_neg (by omega), hn]
 exact h.page n h1 h2
theorem tx_resize (h : Tx p g d t M) {n : Nat} (h1 : 1 ≤ n) (h2 : n ≤ 256) : ∃ t', presizeM p n = (0, { p with now := some t' }) ∧ Tx { p with now := some t' } g d t' ((List.range n).map fun i => if i < M.length then M.getD i [] else zeros 512) ∧ ((t.wr 1).isSome = true → (t'.wr 1).isSome = true) := by
 refine ⟨⟨n, fun k => if (n : Int) < k then none else if t.pages < k then some (zeros 512) else t.wr k⟩, ?_, ⟨rfl, h.opn, ⟨by show (0 : Int) ≤ n ∧ (n : Int) ≤ 256; omega, fun q s e => ?_⟩, by simp, fun m m1 m2 => ?_⟩, fun hs => ?_⟩
 ·unfold presizeM
  rw [h.now]
  exact if_neg (by omega)
 ·dsimp only at e ⊢
  have hp := h.ok.pages
  split at e
  ·cases e
  split at e
  ·cases e
   exact ⟨by omega, by omega, zeros_length 512⟩
  ·have := h.ok.dom q s e
   exact ⟨this.1, by omega, this.2.2⟩
 ·simp only [List.length_map, List.length_range] at m2
  have em : ((List.range n).map fun i => if i < M.length then M.getD i [] else zeros 512).getD (m - 1) [] = if m - 1 < M.length then M.getD (m - 1) [] else zeros 512 := by
   rw [List.getD_eq_getElem?_getD, List.getElem?_eq_getElem (by simp; omega)]
   simp
  rw [em]
  dsimp only
  rw [if_neg (show ¬ (n : Int) < m by omega)]
  have hp := h.pages
  by_cases hm : m - 1 < M.length
  ·rw [if_pos hm, if_neg (by omega)]
   exact h.page m m1 (by omega)
  ·rw [if_neg hm, if_pos (by omega)]
   exact .inl rfl
 ·dsimp only
  rw [if_neg (by omega)]
  split
  ·rfl
  ·exact hs
theorem tx_write (h : Tx p g d t M) {n : Nat} {s : List UInt8} (h1 : 1 ≤ n) (h2 : n ≤ M.length) (hs : s.length = 512) : ∃ t', pwriteM p n s = (0, { p with now := some t' }) ∧ Tx { p with now := some t' } g d t' (M.set (n - 1) s) ∧ (n = 1 ∨ (t.wr 1).isSome = true → (t'.wr 1).isSome = true) := by
 have hp := h.pages
 refine ⟨{ t with wr := fun k => if k = (n : Int) then some s else t.wr k }, ?_, ⟨rfl, h.opn, ⟨h.ok.pages, fun q u e => ?_⟩, by simp [hp], fun m m1 m2 => ?_⟩, fun hs1 => ?_⟩
 ·unfold pwriteM
  rw [h.now]
  show (if (n : Int) < 1 ∨ t.pages < (n : Int) then _ else _) = _
  rw [if_neg (by omega), if_neg (by omega)]
 ·dsimp only at e ⊢
  split at e
  ·rename_i e1
   cases e
   exact ⟨by omega, by omega, hs⟩
  ·exact h.ok.dom q u e
 ·rw [List.length_set] at m2
  dsimp only
  by_cases e : m = n
  ·subst e
   rw [if_pos rfl, List.getD_eq_getElem?_getD, List.getElem?_set_self (by omega)]
   exact .inl rfl
  ·rw [if_neg (by omega), List.getD_eq_getElem?_getD, List.getElem?_set_ne (by omega), ← List.getD_eq_getElem?_getD]
   exact h.page m m1 m2
 ·dsimp only
  by_cases e : (1 : Int) = (n : Int)
  ·rw [if_pos e]; rfl
  ·rw [if_neg e]
   rcases hs1 with e1 | e1
   ·omega
   ·exact e1
end
structure HdOk (h : Hdr) : Prop where
 may : hdrMayB h = true
 wf : h.Wf
theorem hd0_ok : HdOk hdr0 := ⟨by decide, hdr0_wf⟩
theorem writeHM_ok {p : Pg} {h : Hdr} (hh : HdOk h) : writeHM p h = pwriteM p 1 (hdrPg h) := by
 unfold writeHM putH
 rw [if_pos hh.may]
 simp
section
variable {g : Lg} {d : Dsk} {p : Pg} {t : Tr} {L M : List (List UInt8)} {h h' : Hdr}
theorem readHM_head {s : List UInt8} (hP : ppagesM p g ≠ 0) (hr : preadM p g d 1 = (s, 0)) (hh : HdOk h) (hs : s = hdrPg h) : readHM p g d = (h, 0) := by
 unfold readHM
 rw [if_neg hP, hr, if_neg (by simp), hs]
 exact takeH_put hh.may hh.wf
theorem db_head (hD : DbW g d (hdrPg h :: L)) (hn : p.now = none) (hh : HdOk h) : readHM p g d = (h, 0) := by
 refine readHM_head (s := hdrPg h) (by rw [db_pages hD hn]; simp; omega) ?_ hh rfl
 have := db_read hD hn 1 (Nat.le_refl _) (by simp)
 simpa using this
theorem tx_ready (hT : Tx p g d t (hdrPg h :: M)) (hh : HdOk h) : readHM p g d = (h, 0) ∧ readySM p g d = (h, 0) := by
 have hP : ppagesM p g ≠ 0 := by rw [tx_pages hT]; simp; omega
 have hr : readHM p g d = (h, 0) := by
  refine readHM_head (s := hdrPg h) hP ?_ hh rfl
  have := tx_read hT 1 (Nat.le_refl _) (by simp)
  simpa using this
 refine ⟨hr, ?_⟩
 unfold readySM
 rw [hr, if_neg (by simp), if_neg]
 rw [hT.now]
 simp [hP]
theorem sp_begin (hD : DbW g d L) (hL : (L = [] ∧ h = hdr0) ∨ ∃ M, L = hdrPg h :: M) (hh : HdOk h) (hn : p.now = none) (ho : p.opn = 0) : ∃ t' M', spBeginM p g d = (0, { p with now := some t' }) ∧ Tx { p with now := some t' } g d t' (hdrPg h :: M') ∧ hdrPg h :: M' = (if L = [] then [hdrPg hdr0] else L) := by
 obtain ⟨b1, b2⟩ := tx_begin hD hn ho
 unfold spBeginM
 rw [b1]
 rw [if_neg (by simp)]
 rcases hL with ⟨rfl, rfl⟩ | ⟨M, rfl⟩
 ·rw [if_pos (by rw [tx_pages b2]; rfl)]
  obtain ⟨t1, r1, r2, -⟩ := tx_resize b2 (n := 1) (Nat.le_refl _) (by decide)
  have r1 : presizeM { p with now := some ⟨g.head.pages, fun _ => none⟩ } 1 = (0, { p with now := some t1 }) := r1
  rw [r1]
  rw [writeHM_ok hd0_ok]
  obtain ⟨t2, w1, w2, -⟩ := tx_write r2 (n := 1) (s := hdrPg hdr0) (Nat.le_refl _) (by simp) (hdrPg_length _ rfl)
  have w1 : pwriteM { p with now := some t1 } 1 (hdrPg hdr0) = (0, { p with now := some t2 }) := w1
  refine ⟨t2, [], w1, w2, by simp⟩
 ·rw [if_neg (by rw [tx_pages b2]; simp; omega)]
  rw [(tx_ready b2 hh).1]
  rw [if_neg (by simp)]
  exact ⟨_, M, rfl, b2, by simp⟩
theorem bumped_ok (hh : HdOk h) : HdOk (bumped h) := ⟨hh.may, bumped_wf hh.wf⟩
theorem sp_writeH (hT : Tx p g d t (hdrPg h :: M)) (hh : HdOk h') : ∃ t', writeHM p h' = (0, { p with now := some t' }) ∧ Tx { p with now := some t' } g d t' (hdrPg h' :: M) ∧ (t'.wr 1).isSome = true := by
 rw [writeHM_ok hh]
 obtain ⟨t2, w1, w2, w3⟩ := tx_write hT (n := 1) (s := hdrPg h') (Nat.le_refl _) (by simp) (hdrPg_length _ hh.wf.len)
 exact ⟨t2, w1, w2, w3 (.inl rfl)⟩
end
end Go.Proofs.YtlkkclooihjpiaaGreat
