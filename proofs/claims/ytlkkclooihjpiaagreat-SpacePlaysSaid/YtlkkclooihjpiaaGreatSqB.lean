/- Plain laws: what a crash may leave of a disk's files; a log that is sound whatever a crash keeps. -/
import Derived.Test.YtlkkclooihjpiaaGreatSqA
set_option linter.unusedVariables false
set_option linter.unusedSimpArgs false
namespace Go.Proofs.YtlkkclooihjpiaaGreat
open Go.RowKit Go.Maps
set_option maxRecDepth 20000
def May (d : Dsk) (k i : Nat) (s : Sec) : Prop := s = (d.sure k).getD i nought ∨ s = (d.now k).getD i nought ∨ ∃ c ∈ d.loose, c.file = k ∧ c.cut = false ∧ c.at_ = i ∧ c.bytes = s
structure Alike (d d' : Dsk) : Prop where
 now : d'.now = d.now
 sure : d'.sure = d.sure
 loose : d'.loose = d.loose
theorem Alike.refl (d : Dsk) : Alike d d := ⟨rfl, rfl, rfl⟩
theorem Alike.may {d d' : Dsk} (h : Alike d d') {k i : Nat} {s : Sec} (hm : May d' k i s) : May d k i s := by
 unfold May at hm ⊢
 rwa [h.now, h.sure, h.loose] at hm
theorem alike_meets (d : Dsk) : Alike d (meetsM d).2 := ⟨rfl, rfl, rfl⟩
theorem does_cut_getD {l : List Sec} {c : Chg} {i : Nat} (h : c.cut = true) (hi : i < c.at_) : (doesM l c).getD i nought = l.getD i nought := by
 rw [doesM_cut h]
 simp only [List.getD_eq_getElem?_getD]
 rw [List.getElem?_take_of_lt hi]
section
variable {d : Dsk} {keep : List Bool}
theorem crN_step (m : Nat) : (∃ c ∈ d.loose, crN d keep (m + 1) = put (crN d keep m) c.file (doesM (crN d keep m c.file) c)) ∨ crN d keep (m + 1) = crN d keep m := by
 show (∃ c ∈ d.loose, (match d.loose[m]? with | some c => if keep.getD m false then put (crN d keep m) c.file (doesM (crN d keep m c.file) c) else crN d keep m | none => crN d keep m) = _) ∨ (match d.loose[m]? with | some c => if keep.getD m false then put (crN d keep m) c.file (doesM (crN d keep m c.file) c) else crN d keep m | none => crN d keep m) = _
 cases hc : d.loose[m]? with
 | none => exact .inr rfl
 | some c =>
  have hm : c ∈ d.loose := List.mem_of_getElem? hc
  dsimp only
  split
  ·exact .inl ⟨c, hm, rfl⟩
  ·exact .inr rfl
theorem crash_may (k i : Nat) (hc : ∀ c ∈ d.loose, c.file = k → c.cut = true → i < c.at_) : ∀ m, (crN d keep m k).getD i nought = (d.sure k).getD i nought ∨ ∃ c ∈ d.loose, c.file = k ∧ c.cut = false ∧ c.at_ = i ∧ c.bytes = (crN d keep m k).getD i nought
 | 0 => .inl rfl
 | m + 1 => by
  rcases crN_step (d := d) (keep := keep) m with ⟨c, hm, e⟩ | e
  ·rw [e]
   by_cases hk : k = c.file
   ·subst hk
    rw [put_same']
    cases hcut : c.cut with
    | true =>
     rw [does_cut_getD hcut (hc c hm rfl hcut)]
     exact crash_may c.file i hc m
    | false =>
     rw [does_getD hcut]
     by_cases hi : i = c.at_
     ·rw [if_pos hi]
      exact .inr ⟨c, hm, rfl, hcut, hi.symm, rfl⟩
     ·rw [if_neg hi]
      exact crash_may c.file i hc m
   ·rw [put_other _ _ hk]
    exact crash_may k i hc m
  ·rw [e]
   exact crash_may k i hc m
theorem crash_len (k n : Nat) (h0 : n ≤ (d.sure k).length) (hc : ∀ c ∈ d.loose, c.file = k → c.cut = true → n ≤ c.at_) : ∀ m, n ≤ (crN d keep m k).length
 | 0 => h0
 | m + 1 => by
  have ih := crash_len k n h0 hc m
  rcases crN_step (d := d) (keep := keep) m with ⟨c, hm, e⟩ | e
  ·rw [e]
   by_cases hk : k = c.file
   ·subst hk
    rw [put_same']
    cases hcut : c.cut with
    | true =>
     rw [doesM_length_cut hcut]
     have := hc c hm rfl hcut
     omega
    | false =>
     rw [doesM_length_write hcut]
     omega
   ·rw [put_other _ _ hk]
    exact ih
  ·rw [e]
   exact ih
theorem crash_same (k : Nat) (hc : ∀ c ∈ d.loose, c.file ≠ k) : ∀ m, crN d keep m k = d.sure k
 | 0 => rfl
 | m + 1 => by
  rcases crN_step (d := d) (keep := keep) m with ⟨c, hm, e⟩ | e
  ·rw [e, put_other _ _ (fun h => hc c hm h.symm)]
   exact crash_same k hc m
  ·rw [e]
   exact crash_same k hc m
end
section
variable {d d' : Dsk} {k a n : Nat} {s : List UInt8}
theorem wrN_sure : ∀ n, (wrN d k a s n).sure = d.sure
 | 0 => rfl
 | n + 1 => wrN_sure n
theorem wrN_loose_eq : ∀ n, (wrN d k a s n).loose = d.loose ++ (List.range n).map (wrChg k a s)
 | 0 => by simp [wrN]
 | n + 1 => by
  show (wrN d k a s n).loose ++ [_] = _
  rw [wrN_loose_eq n, List.range_succ, List.map_append, List.append_assoc]
  rfl
theorem wrN_mem {c : Chg} (h : c ∈ (wrN d k a s n).loose) : c ∈ d.loose ∨ ∃ i < n, c = wrChg k a s i := by
 rw [wrN_loose_eq] at h
 rcases List.mem_append.1 h with h | h
 ·exact .inl h
 ·obtain ⟨i, hi, rfl⟩ := List.mem_map.1 h
  exact .inr ⟨i, List.mem_range.1 hi, rfl⟩
theorem may_wr {k' i : Nat} {t : Sec} (h : May (wrN d k a s n) k' i t) : May d k' i t ∨ (k' = k ∧ a ≤ i ∧ i < a + n ∧ t = secOf s (i - a)) := by
 rcases h with h | h | ⟨c, hc, h1, h2, h3, h4⟩
 ·rw [wrN_sure] at h
  exact .inl (.inl h)
 ·by_cases hk : k' = k
  ·subst hk
   rw [wr_getD] at h
   split at h
   ·rename_i hi
    exact .inr ⟨rfl, hi.1, hi.2, h⟩
   ·exact .inl (.inr (.inl h))
  ·rw [wrN_now a s hk d n] at h
   exact .inl (.inr (.inl h))
 ·rcases wrN_mem hc with hc | ⟨j, hj, rfl⟩
  ·exact .inl (.inr (.inr ⟨c, hc, h1, h2, h3, h4⟩))
  ·have h1 : k = k' := h1
   have h3 : a + j = i := h3
   have h4 : secOf s j = t := h4
   refine .inr ⟨h1.symm, by omega, by omega, ?_⟩
   rw [← h4]
   congr 1
   omega
theorem write_or : ((writeM d (k : Int) (a : Int) s).1 ≠ 0 ∧ Alike d (writeM d (k : Int) (a : Int) s).2) ∨ ((writeM d (k : Int) (a : Int) s).1 = 0 ∧ s.length / 64 ≠ 0 ∧ s.length % 64 = 0 ∧ (writeM d (k : Int) (a : Int) s).2 = wrN (meetsM d).2 k a s (s.length / 64)) := by
 unfold writeM
 split
 ·rename_i h
  exact .inl ⟨h, Alike.refl d⟩
 split
 ·exact .inl ⟨by show (2 : Int) ≠ 0; decide, Alike.refl d⟩
 rename_i h1
 split
 ·exact .inl ⟨by show (5 : Int) ≠ 0; decide, Alike.refl d⟩
 split
 ·rename_i h
  exact .inl ⟨h, alike_meets d⟩
 ·exact .inr ⟨rfl, by omega, by omega, by rw [Int.toNat_natCast, Int.toNat_natCast]⟩
theorem sync_or : ((syncM d (k : Int)).1 ≠ 0 ∧ Alike d (syncM d (k : Int)).2) ∨ ((syncM d (k : Int)).1 = 0 ∧ (syncM d (k : Int)).2 = sureM (meetsM d).2 k) := by
 unfold syncM
 split
 ·rename_i h
  exact .inl ⟨h, Alike.refl d⟩
 split
 ·rename_i h
  exact .inl ⟨h, alike_meets d⟩
 ·exact .inr ⟨rfl, by rw [Int.toNat_natCast]⟩
theorem cut_or : ((cutM d (k : Int) (n : Int)).1 ≠ 0 ∧ Alike d (cutM d (k : Int) (n : Int)).2) ∨ ((cutM d (k : Int) (n : Int)).1 = 0 ∧ n ≤ (d.now k).length ∧ (cutM d (k : Int) (n : Int)).2 = applyM (meetsM d).2 ⟨k, n, true, nought⟩) := by
 unfold cutM
 split
 ·rename_i h
  exact .inl ⟨h, Alike.refl d⟩
 split
 ·exact .inl ⟨by show (5 : Int) ≠ 0; decide, Alike.refl d⟩
 rename_i h1
 split
 ·rename_i h
  exact .inl ⟨h, alike_meets d⟩
 ·refine .inr ⟨rfl, ?_, by rw [Int.toNat_natCast, Int.toNat_natCast]⟩
  rw [Int.toNat_natCast] at h1
  omega
theorem sure_same (d : Dsk) (k : Nat) : (sureM d k).sure k = d.now k := by
 show put d.sure k (d.now k) k = _
 exact put_same' _ _ _
theorem sure_other (d : Dsk) {k i : Nat} (h : i ≠ k) : (sureM d k).sure i = d.sure i := by
 show put d.sure k (d.now k) i = _
 exact put_other _ _ h
theorem may_sync {k' i : Nat} {t : Sec} (h : May (sureM d k) k' i t) : May d k' i t ∧ (k' = k → t = (d.now k).getD i nought) := by
 rcases h with h | h | ⟨c, hc, h1, h2, h3, h4⟩
 ·have h : t = (put d.sure k (d.now k) k').getD i nought := h
  by_cases hk : k' = k
  ·subst hk
   rw [put_same'] at h
   exact ⟨.inr (.inl h), fun _ => h⟩
  ·rw [put_other _ _ hk] at h
   exact ⟨.inl h, fun e => absurd e hk⟩
 ·have h : t = (d.now k').getD i nought := h
  exact ⟨.inr (.inl h), fun e => by rw [e] at h; exact h⟩
 ·have hc : c ∈ keepsOf k d.loose := hc
  unfold keepsOf at hc
  obtain ⟨hc, hne⟩ := List.mem_filter.1 hc
  have hne : c.file ≠ k := by simpa using hne
  exact ⟨.inr (.inr ⟨c, hc, h1, h2, h3, h4⟩), fun e => absurd (h1.trans e) hne⟩
theorem may_cut {i : Nat} {t : Sec} {k' : Nat} (h : May (applyM d ⟨k, n, true, nought⟩) k' i t) (hi : k' = k → i < n) : May d k' i t := by
 rcases h with h | h | ⟨c, hc, h1, h2, h3, h4⟩
 ·exact .inl h
 ·have h : t = (put d.now k (doesM (d.now k) ⟨k, n, true, nought⟩) k').getD i nought := h
  by_cases hk : k' = k
  ·subst hk
   rw [put_same', does_cut_getD rfl (hi rfl)] at h
   exact .inr (.inl h)
  ·rw [put_other _ _ hk] at h
   exact .inr (.inl h)
 ·have hc : c ∈ d.loose ++ [⟨k, n, true, nought⟩] := hc
  rcases List.mem_append.1 hc with hc | hc
  ·exact .inr (.inr ⟨c, hc, h1, h2, h3, h4⟩)
  ·rw [List.mem_singleton.1 hc] at h2
   cases h2
end
structure Cand where
 has : Bool
 head : Hd
 list : List Fr
def headS (has : Bool) (h : Hd) : List UInt8 := if has then hdL h else zeros 64
def candOf (g : Lg) : Cand := ⟨g.has, g.head, g.list⟩
def candTx (c : Cand) : List UInt8 × (Int × Int) := putsN c.head.number c.list (startP c.head.number)
def candLg (c : Cand) : Lg := ⟨c.head, c.has, c.list, (candTx c).2, false, false⟩
structure MainOk (d : Dsk) (n : Nat) : Prop where
 sure : 8 * n ≤ (d.sure 0).length
 now : 8 * n ≤ (d.now 0).length
 cut : ∀ x ∈ d.loose, x.file = 0 → x.cut = true → 8 * n ≤ x.at_
 one : ∀ j < 8, ∀ s, May d 0 (8 * (n - 1) + j) s → s = (d.now 0).getD (8 * (n - 1) + j) nought
structure CandOk (d : Dsk) (c : Cand) : Prop where
 may : hdMay c.head = true
 wf : HdWf c.head
 frames : c.head.frames = (c.list.length : Int)
 ok : ∀ f ∈ c.list, frOk f = true
 last : c.list ≠ [] → lastCommit c.list = c.head.pages
 text : ∀ j, j < 9 * c.list.length → ∀ s, May d 1 (1 + j) s → s = secOf (candTx c).1 j
 len : c.list ≠ [] → 1 + 9 * c.list.length ≤ (d.sure 1).length ∧ 1 + 9 * c.list.length ≤ (d.now 1).length
 bare : c.has = false → c.list = [] ∧ c.head.number = 0 ∧ d.now 0 = d.sure 0 ∧ ((d.sure 0).length : Int) = 8 * c.head.pages ∧ ∀ x ∈ d.loose, x.file ≠ 0
 main : ∀ n : Nat, 1 ≤ n → (n : Int) ≤ c.head.pages → lastAt c.list n c.list.length = none → MainOk d n
def cpage (d : Dsk) (c : Cand) (n : Nat) : List UInt8 := (lastAt c.list n c.list.length).getD (pg (d.now 0) n)
structure CandSt (d : Dsk) (c : Cand) (L : List (List UInt8)) : Prop where
 pages : c.head.pages = (L.length : Int)
 page : ∀ n : Nat, 1 ≤ n → n ≤ L.length → cpage d c n = L.getD (n - 1) []
 len : ∀ s ∈ L, s.length = 512
structure LgInv (g : Lg) (d : Dsk) (L : List (List UInt8)) (S : List (List UInt8) → Prop) : Prop where
 cut1 : ∀ x ∈ d.loose, x.file = 1 → x.cut = false
 ok : CandOk d (candOf g)
 st : CandSt d (candOf g) L
 pair : g.pair = (candTx (candOf g)).2
 head : ∀ s, May d 1 0 s → s = headS g.has g.head ∨ (g.torn = true ∧ ∃ c, s = headS c.has c.head ∧ CandOk d c ∧ ∃ L', CandSt d c L' ∧ S L')
section
variable {g g' : Lg} {d d' : Dsk} {c : Cand} {L L' M : List (List UInt8)} {S S' : List (List UInt8) → Prop} {k a n : Nat} {s : List UInt8}
theorem MainOk.alike (h : MainOk d n) (ha : Alike d d') : MainOk d' n :=
 ⟨by rw [ha.sure]; exact h.sure, by rw [ha.now]; exact h.now, by rw [ha.loose]; exact h.cut, fun j hj s hs => by rw [ha.now]; exact h.one j hj s (ha.may hs)⟩
theorem CandOk.alike (h : CandOk d c) (ha : Alike d d') : CandOk d' c :=
 ⟨h.may, h.wf, h.frames, h.ok, h.last, fun j hj s hs => h.text j hj s (ha.may hs), by rw [ha.sure, ha.now]; exact h.len, by rw [ha.sure, ha.now, ha.loose]; exact h.bare, fun n a b e => (h.main n a b e).alike ha⟩
theorem CandSt.alike (h : CandSt d c L) (ha : Alike d d') : CandSt d' c L := ⟨h.pages, fun n a b => by rw [← h.page n a b]; unfold cpage; rw [ha.now], h.len⟩
theorem LgInv.alike (h : LgInv g d L S) (ha : Alike d d') : LgInv g d' L S := by
 refine ⟨by rw [ha.loose]; exact h.cut1, h.ok.alike ha, h.st.alike ha, h.pair, fun s hs => ?_⟩
 rcases h.head s (ha.may hs) with e | ⟨t, c, e, h1, L', h2, h3⟩
 ·exact .inl e
 ·exact .inr ⟨t, c, e, h1.alike ha, L', h2.alike ha, h3⟩
theorem LgInv.mono (h : LgInv g d L S) (hs : ∀ y, S y → S' y) : LgInv g d L S' :=
 ⟨h.cut1, h.ok, h.st, h.pair, fun s hm => (h.head s hm).imp id fun ⟨t, c, e, h1, L', h2, h3⟩ => ⟨t, c, e, h1, L', h2, hs _ h3⟩⟩
theorem LgInv.off (h : LgInv g d L S) (x : Bool) : LgInv { g with off := x } d L S := ⟨h.cut1, h.ok, h.st, h.pair, h.head⟩
theorem LgInv.calm (h : LgInv g d L S) (ht : g.torn = false) : LgInv g d L (fun _ => False) := by
 refine ⟨h.cut1, h.ok, h.st, h.pair, fun s hs => ?_⟩
 rcases h.head s hs with e | ⟨t, -⟩
 ·exact .inl e
 ·rw [ht] at t
  cases t
theorem MainOk.file1 (h : MainOk d n) {m : Nat} : MainOk (wrN (meetsM d).2 1 a s m) n := by
 have e0 : (wrN (meetsM d).2 1 a s m).now 0 = d.now 0 := wrN_now a s (by decide) _ m
 refine ⟨by rw [wrN_sure]; exact h.sure, by rw [e0]; exact h.now, fun x hx hf hc => ?_, fun j hj s' hs => ?_⟩
 ·rcases wrN_mem hx with hx | ⟨i, hi, rfl⟩
  ·exact h.cut x hx hf hc
  ·cases hc
 ·rw [e0]
  rcases may_wr hs with hs | ⟨e, -⟩
  ·exact h.one j hj s' ((alike_meets d).may hs)
  ·cases e
theorem CandOk.write1 (h : CandOk d c) {m : Nat} (ha : 1 + 9 * c.list.length ≤ a ∨ a + m ≤ 1) : CandOk (wrN (meetsM d).2 1 a s m) c := by
 have e0 : (wrN (meetsM d).2 1 a s m).now 0 = d.now 0 := wrN_now a s (by decide) _ m
 refine ⟨h.may, h.wf, h.frames, h.ok, h.last, fun j hj s' hs => ?_, fun hne => ?_, fun hb => ?_, fun n n1 n2 e => (h.main n n1 n2 e).file1⟩
 ·rcases may_wr hs with hs | ⟨-, h1, h2, -⟩
  ·exact h.text j hj s' ((alike_meets d).may hs)
  ·omega
 ·have := h.len hne
  rw [wrN_sure, wr_len]
  refine ⟨this.1, ?_⟩
  have e : (meetsM d).2.now 1 = d.now 1 := rfl
  rw [e]
  split <;> omega
 ·obtain ⟨h1, h2, h3, h4, h5⟩ := h.bare hb
  rw [e0, wrN_sure]
  refine ⟨h1, h2, h3, h4, fun x hx => ?_⟩
  rcases wrN_mem hx with hx | ⟨i, hi, rfl⟩
  ·exact h5 x hx
  ·show (1 : Nat) ≠ 0
   decide
theorem CandSt.write1 (h : CandSt d c L) {m : Nat} : CandSt (wrN (meetsM d).2 1 a s m) c L := by
 have e0 : (wrN (meetsM d).2 1 a s m).now 0 = d.now 0 := wrN_now a s (by decide) _ m
 exact ⟨h.pages, fun n n1 n2 => by rw [← h.page n n1 n2]; unfold cpage; rw [e0], h.len⟩
theorem MainOk.sync1 (h : MainOk d n) : MainOk (sureM (meetsM d).2 1) n := by
 refine ⟨h.sure, h.now, fun x hx hf hc => ?_, fun j hj s' hs => h.one j hj s' ((alike_meets d).may (may_sync hs).1)⟩
 have hx : x ∈ keepsOf 1 d.loose := hx
 unfold keepsOf at hx
 exact h.cut x (List.mem_filter.1 hx).1 hf hc
theorem CandOk.sync1 (h : CandOk d c) : CandOk (sureM (meetsM d).2 1) c := by
 refine ⟨h.may, h.wf, h.frames, h.ok, h.last, fun j hj s' hs => h.text j hj s' ((alike_meets d).may (may_sync hs).1), fun hne => ?_, fun hb => ?_, fun n n1 n2 e => (h.main n n1 n2 e).sync1⟩
 ·have := h.len hne
  have e : (sureM (meetsM d).2 1).sure 1 = d.now 1 := sure_same _ _
  rw [e]
  exact ⟨this.2, this.2⟩
 ·obtain ⟨h1, h2, h3, h4, h5⟩ := h.bare hb
  refine ⟨h1, h2, h3, h4, fun x hx => ?_⟩
  have hx : x ∈ keepsOf 1 d.loose := hx
  unfold keepsOf at hx
  exact h5 x (List.mem_filter.1 hx).1
theorem CandSt.sync1 (h : CandSt d c L) : CandSt (sureM (meetsM d).2 1) c L := ⟨h.pages, h.page, h.len⟩
theorem inv_sync1 (h : LgInv g d L S) (hn : (d.now 1).getD 0 nought = headS g.has g.head) (t : Bool) : LgInv { g with torn := t } (sureM (meetsM d).2 1) L (fun _ => False) := by
 refine ⟨fun x hx hf => ?_, h.ok.sync1, h.st.sync1, h.pair, fun s hs => .inl (((may_sync hs).2 rfl).trans hn)⟩
 have hx : x ∈ keepsOf 1 d.loose := hx
 unfold keepsOf at hx
 exact h.cut1 x (List.mem_filter.1 hx).1 hf
theorem lsync_or : ((lsyncM g d).1 ≠ 0 ∧ (lsyncM g d).2.1 = g ∧ Alike d (lsyncM g d).2.2) ∨ ((lsyncM g d).1 = 0 ∧ (lsyncM g d).2.1 = { g with torn := false } ∧ (lsyncM g d).2.2 = sureM (meetsM d).2 1) := by
 unfold lsyncM
 rcases sync_or (d := d) (k := 1) with ⟨h1, h2⟩ | ⟨h1, h2⟩
 ·have h1 : (syncM d 1).1 ≠ 0 := h1
  refine .inl ⟨h1, ?_, h2⟩
  have : ((syncM d 1).1 != 0) = true := by simpa using h1
  simp [this]
 ·have h1 : (syncM d 1).1 = 0 := h1
  have h2 : (syncM d 1).2 = sureM (meetsM d).2 1 := h2
  refine .inr ⟨h1, ?_, h2⟩
  simp [h1]
theorem headS_len (has : Bool) (h : Hd) : (headS has h).length = 64 := by
 unfold headS
 split
 ·exact hdL_length h
 ·simp [zeros]
theorem lputsS_eq {h : Hd} (has : Bool) (hm : hdMay h = true) : lputsS h has = headS has h := by
 unfold lputsS headS hdR
 rw [if_pos hm]
theorem headS_sec (has : Bool) (h : Hd) : secOf (headS has h) 0 = headS has h := by
 unfold secOf
 rw [Nat.zero_mul, List.drop_zero, List.take_of_length_le (by rw [headS_len]; decide)]
theorem lputs_or {h : Hd} {has : Bool} (hm : hdMay h = true) : ((lputsM h has g d).1 ≠ 0 ∧ (lputsM h has g d).2.1 = g ∧ Alike d (lputsM h has g d).2.2) ∨ ((lputsM h has g d).1 = 0 ∧ (lputsM h has g d).2.1 = { g with torn := true } ∧ (lputsM h has g d).2.2 = wrN (meetsM d).2 1 0 (headS has h) 1) := by
 unfold lputsM
 rw [lputsS_eq has hm]
 rcases write_or (d := d) (k := 1) (a := 0) (s := headS has h) with ⟨h1, h2⟩ | ⟨h1, -, -, h2⟩
 ·have h1 : (writeM d 1 0 (headS has h)).1 ≠ 0 := h1
  refine .inl ⟨h1, ?_, h2⟩
  have : ((writeM d 1 0 (headS has h)).1 == 0) = false := by simpa using h1
  simp [this]
 ·have h1 : (writeM d 1 0 (headS has h)).1 = 0 := h1
  have h2 : (writeM d 1 0 (headS has h)).2 = wrN (meetsM d).2 1 0 (headS has h) ((headS has h).length / 64) := h2
  rw [headS_len] at h2
  refine .inr ⟨h1, ?_, h2⟩
  simp [h1]
theorem head_now (d : Dsk) (has : Bool) (h : Hd) : ((wrN (meetsM d).2 1 0 (headS has h) 1).now 1).getD 0 nought = headS has h := by
 rw [wr_getD, if_pos (by omega), headS_sec]
theorem inv_puts (h : LgInv g d L S) (c : Cand) (hc : (c.has = g.has ∧ c.head = g.head) ∨ (CandOk d c ∧ ∃ L', CandSt d c L' ∧ S L')) : LgInv { g with torn := true } (wrN (meetsM d).2 1 0 (headS c.has c.head) 1) L S := by
 refine ⟨fun x hx hf => ?_, h.ok.write1 (.inr (by decide)), h.st.write1, h.pair, fun s hs => ?_⟩
 ·rcases wrN_mem hx with hx | ⟨i, hi, rfl⟩
  ·exact h.cut1 x hx hf
  ·rfl
 ·have old : ∀ s, May d 1 0 s → s = headS g.has g.head ∨ (true = true ∧ ∃ c', s = headS c'.has c'.head ∧ CandOk (wrN (meetsM d).2 1 0 (headS c.has c.head) 1) c' ∧ ∃ L', CandSt (wrN (meetsM d).2 1 0 (headS c.has c.head) 1) c' L' ∧ S L') := fun s hs => by
   rcases h.head s hs with e | ⟨t, c', e, h1, L', h2, h3⟩
   ·exact .inl e
   ·exact .inr ⟨rfl, c', e, h1.write1 (.inr (by decide)), L', h2.write1, h3⟩
  rcases may_wr hs with hs | ⟨-, h1, h2, e⟩
  ·exact old s ((alike_meets d).may hs)
  ·rw [headS_sec] at e
   rcases hc with ⟨e1, e2⟩ | ⟨h1, L', h2, h3⟩
   ·exact .inl (by rw [e, e1, e2])
   ·exact .inr ⟨rfl, c, e, h1.write1 (.inr (by decide)), L', h2.write1, h3⟩
theorem steps_fail {m : LgM} {r : List LgM} (h : (m g d).1 ≠ 0) : lstepsM (m :: r) g d = ((m g d).1, { (m g d).2.1 with off := (m g d).2.1.off || (m g d).1 == 32 }, (m g d).2.2) := by
 show (if (m g d).1 ≠ 0 then _ else lstepsM r (m g d).2.1 (m g d).2.2) = _
 rw [if_pos h]
theorem steps_done {m : LgM} {r : List LgM} (h : (m g d).1 = 0) : lstepsM (m :: r) g d = lstepsM r (m g d).2.1 (m g d).2.2 := by
 show (if (m g d).1 ≠ 0 then _ else lstepsM r (m g d).2.1 (m g d).2.2) = _
 rw [if_neg (by simpa using h)]
structure Kin (g g' : Lg) : Prop where
 head : g'.head = g.head
 has : g'.has = g.has
 list : g'.list = g.list
 pair : g'.pair = g.pair
theorem Kin.refl (g : Lg) : Kin g g := ⟨rfl, rfl, rfl, rfl⟩
theorem Kin.trans {g1 g2 g3 : Lg} (h : Kin g1 g2) (k : Kin g2 g3) : Kin g1 g3 := ⟨k.head.trans h.head, k.has.trans h.has, k.list.trans h.list, k.pair.trans h.pair⟩
theorem inv_mend (h : LgInv g d L S) : Kin g (lmendM g d).2.1 ∧ LgInv (lmendM g d).2.1 (lmendM g d).2.2 L S ∧ ((lmendM g d).1 = 0 → (lmendM g d).2.1.torn = false) := by
 unfold lmendM
 cases ht : g.torn with
 | false => exact ⟨Kin.refl g, h, fun _ => ht⟩
 | true =>
  simp only [if_true]
  rcases lputs_or (g := g) (d := d) (h := g.head) (has := g.has) h.ok.may with ⟨h1, h2, h3⟩ | ⟨h1, h2, h3⟩
  ·rw [steps_fail h1, h2]
   exact ⟨⟨rfl, rfl, rfl, rfl⟩, (h.alike h3).off _, fun e => absurd e h1⟩
  ·rw [steps_done h1, h2, h3]
   have hI : LgInv { g with torn := true } (wrN (meetsM d).2 1 0 (headS g.has g.head) 1) L S := inv_puts h (candOf g) (.inl ⟨rfl, rfl⟩)
   have hn := head_now d g.has g.head
   rcases lsync_or (g := { g with torn := true }) (d := wrN (meetsM d).2 1 0 (headS g.has g.head) 1) with ⟨k1, k2, k3⟩ | ⟨k1, k2, k3⟩
   ·rw [steps_fail k1, k2]
    exact ⟨⟨rfl, rfl, rfl, rfl⟩, (hI.alike k3).off _, fun e => absurd e k1⟩
   ·rw [steps_done k1, k2, k3]
    exact ⟨⟨rfl, rfl, rfl, rfl⟩, (inv_sync1 hI hn false).mono (fun _ e => e.elim), fun _ => rfl⟩
end
end Go.Proofs.YtlkkclooihjpiaaGreat
