/- Plain laws: what a crash may leave of a disk's files. -/
import Derived.Test.YtenboibbbmeddaaGreatBkQ
set_option linter.unusedVariables false
set_option linter.unusedSimpArgs false
namespace Go.Proofs.YtenboibbbmeddaaGreat
open Go.RowKit Go.Maps
set_option maxRecDepth 20000
def May (d : Dsk) (k i : Nat) (s : Sec) : Prop := s = (d.sure k).getD i nought ∨ s = (d.now k).getD i nought ∨ ∃ c ∈ d.loose, c.file = k ∧ c.cut = false ∧ c.at_ = i ∧ c.bytes = s
structure Alike (d d' : Dsk) : Prop where
 now : d'.now = d.now
 sure : d'.sure = d.sure
 loose : d'.loose = d.loose
theorem Alike.refl (d : Dsk) : Alike d d := ⟨rfl, rfl, rfl⟩
theorem Alike.may {d d' : Dsk} (h : Alike d d') {k i : Nat} {s : Sec} (hm : May d' k i s) : May d k i s := by
 unfold May at hm ⊢
 rwa [h.now, h.sure, h.loose] at hm
theorem alike_meets (d : Dsk) : Alike d (meetsM d).2 := ⟨rfl, rfl, rfl⟩
theorem does_cut_getD {l : List Sec} {c : Chg} {i : Nat} (h : c.cut = true) (hi : i < c.at_) : (doesM l c).getD i nought = l.getD i nought := by
 rw [doesM_cut h]
 simp only [List.getD_eq_getElem?_getD]
 rw [List.getElem?_take_of_lt hi]
section
variable {d : Dsk} {keep : List Bool}
theorem crN_step (m : Nat) : (∃ c ∈ d.loose, crN d keep (m + 1) = put (crN d keep m) c.file (doesM (crN d keep m c.file) c)) ∨ crN d keep (m + 1) = crN d keep m := by
 show (∃ c ∈ d.loose, (match d.loose[m]? with | some c => if keep.getD m false then put (crN d keep m) c.file (doesM (crN d keep m c.file) c) else crN d keep m | none => crN d keep m) = _) ∨ (match d.loose[m]? with | some c => if keep.getD m false then put (crN d keep m) c.file (doesM (crN d keep m c.file) c) else crN d keep m | none => crN d keep m) = _
 cases hc : d.loose[m]? with
 | none => exact .inr rfl
 | some c =>
  have hm : c ∈ d.loose := List.mem_of_getElem? hc
  dsimp only
  split
  ·exact .inl ⟨c, hm, rfl⟩
  ·exact .inr rfl
theorem crash_may (k i : Nat) (hc : ∀ c ∈ d.loose, c.file = k → c.cut = true → i < c.at_) : ∀ m, (crN d keep m k).getD i nought = (d.sure k).getD i nought ∨ ∃ c ∈ d.loose, c.file = k ∧ c.cut = false ∧ c.at_ = i ∧ c.bytes = (crN d keep m k).getD i nought
 | 0 => .inl rfl
 | m + 1 => by
  rcases crN_step (d := d) (keep := keep) m with ⟨c, hm, e⟩ | e
  ·rw [e]
   by_cases hk : k = c.file
   ·subst hk
    rw [put_same']
    cases hcut : c.cut with
    | true =>
     rw [does_cut_getD hcut (hc c hm rfl hcut)]
     exact crash_may c.file i hc m
    | false =>
     rw [does_getD hcut]
     by_cases hi : i = c.at_
     ·rw [if_pos hi]
      exact .inr ⟨c, hm, rfl, hcut, hi.symm, rfl⟩
     ·rw [if_neg hi]
      exact crash_may c.file i hc m
   ·rw [put_other _ _ hk]
    exact crash_may k i hc m
  ·rw [e]
   exact crash_may k i hc m
theorem crash_len (k n : Nat) (h0 : n ≤ (d.sure k).length) (hc : ∀ c ∈ d.loose, c.file = k → c.cut = true → n ≤ c.at_) : ∀ m, n ≤ (crN d keep m k).length
 | 0 => h0
 | m + 1 => by
  have ih := crash_len k n h0 hc m
  rcases crN_step (d := d) (keep := keep) m with ⟨c, hm, e⟩ | e
  ·rw [e]
   by_cases hk : k = c.file
   ·subst hk
    rw [put_same']
    cases hcut : c.cut with
    | true =>
     rw [doesM_length_cut hcut]
     have := hc c hm rfl hcut
     omega
    | false =>
     rw [doesM_length_write hcut]
     omega
   ·rw [put_other _ _ hk]
    exact ih
  ·rw [e]
   exact ih
theorem crash_same (k : Nat) (hc : ∀ c ∈ d.loose, c.file ≠ k) : ∀ m, crN d keep m k = d.sure k
 | 0 => rfl
 | m + 1 => by
  rcases crN_step (d := d) (keep := keep) m with ⟨c, hm, e⟩ | e
  ·rw [e, put_other _ _ (fun h => hc c hm h.symm)]
   exact crash_same k hc m
  ·rw [e]
   exact crash_same k hc m
end
section
variable {d d' : Dsk} {k a n : Nat} {s : List UInt8}
theorem wrN_sure : ∀ n, (wrN d k a s n).sure = d.sure
 | 0 => rfl
 | n + 1 => wrN_sure n
theorem wrN_loose_eq : ∀ n, (wrN d k a s n).loose = d.loose ++ (List.range n).map (wrChg k a s)
 | 0 => by simp [wrN]
 | n + 1 => by
  show (wrN d k a s n).loose ++ [_] = _
  rw [wrN_loose_eq n, List.range_succ, List.map_append, List.append_assoc]
  rfl
theorem wrN_mem {c : Chg} (h : c ∈ (wrN d k a s n).loose) : c ∈ d.loose ∨ ∃ i < n, c = wrChg k a s i := by
 rw [wrN_loose_eq] at h
 rcases List.mem_append.1 h with h | h
 ·exact .inl h
 ·obtain ⟨i, hi, rfl⟩ := List.mem_map.1 h
  exact .inr ⟨i, List.mem_range.1 hi, rfl⟩
theorem may_wr {k' i : Nat} {t : Sec} (h : May (wrN d k a s n) k' i t) : May d k' i t ∨ (k' = k ∧ a ≤ i ∧ i < a + n ∧ t = secOf s (i - a)) := by
 rcases h with h | h | ⟨c, hc, h1, h2, h3, h4⟩
 ·rw [wrN_sure] at h
  exact .inl (.inl h)
 ·by_cases hk : k' = k
  ·subst hk
   rw [wr_getD] at h
   split at h
   ·rename_i hi
    exact .inr ⟨rfl, hi.1, hi.2, h⟩
   ·exact .inl (.inr (.inl h))
  ·rw [wrN_now a s hk d n] at h
   exact .inl (.inr (.inl h))
 ·rcases wrN_mem hc with hc | ⟨j, hj, rfl⟩
  ·exact .inl (.inr (.inr ⟨c, hc, h1, h2, h3, h4⟩))
  ·have h1 : k = k' := h1
   have h3 : a + j = i := h3
   have h4 : secOf s j = t := h4
   refine .inr ⟨h1.symm, by omega, by omega, ?_⟩
   rw [← h4]
   congr 1
   omega
theorem write_or : ((writeM d (k : Int) (a : Int) s).1 ≠ 0 ∧ Alike d (writeM d (k : Int) (a : Int) s).2) ∨ ((writeM d (k : Int) (a : Int) s).1 = 0 ∧ s.length / 64 ≠ 0 ∧ s.length % 64 = 0 ∧ (writeM d (k : Int) (a : Int) s).2 = wrN (meetsM d).2 k a s (s.length / 64)) := by
 unfold writeM
 split
 ·rename_i h
  exact .inl ⟨h, Alike.refl d⟩
 split
 ·exact .inl ⟨by show (2 : Int) ≠ 0; decide, Alike.refl d⟩
 rename_i h1
 split
 ·exact .inl ⟨by show (5 : Int) ≠ 0; decide, Alike.refl d⟩
 split
 ·rename_i h
  exact .inl ⟨h, alike_meets d⟩
 ·exact .inr ⟨rfl, by omega, by omega, by rw [Int.toNat_natCast, Int.toNat_natCast]⟩
theorem sync_or : ((syncM d (k : Int)).1 ≠ 0 ∧ Alike d (syncM d (k : Int)).2) ∨ ((syncM d (k : Int)).1 = 0 ∧ (syncM d (k : Int)).2 = sureM (meetsM d).2 k) := by
 unfold syncM
 split
 ·rename_i h
  exact .inl ⟨h, Alike.refl d⟩
 split
 ·rename_i h
  exact .inl ⟨h, alike_meets d⟩
 ·exact .inr ⟨rfl, by rw [Int.toNat_natCast]⟩
theorem cut_or : ((cutM d (k : Int) (n : Int)).1 ≠ 0 ∧ Alike d (cutM d (k : Int) (n : Int)).2) ∨ ((cutM d (k : Int) (n : Int)).1 = 0 ∧ n ≤ (d.now k).length ∧ (cutM d (k : Int) (n : Int)).2 = applyM (meetsM d).2 ⟨k, n, true, nought⟩) := by
 unfold cutM
 split
 ·rename_i h
  exact .inl ⟨h, Alike.refl d⟩
 split
 ·exact .inl ⟨by show (5 : Int) ≠ 0; decide, Alike.refl d⟩
 rename_i h1
 split
 ·rename_i h
  exact .inl ⟨h, alike_meets d⟩
 ·refine .inr ⟨rfl, ?_, by rw [Int.toNat_natCast, Int.toNat_natCast]⟩
  rw [Int.toNat_natCast] at h1
  omega
theorem sure_same (d : Dsk) (k : Nat) : (sureM d k).sure k = d.now k := by
 show put d.sure k (d.now k) k = _
 exact put_same' _ _ _
theorem sure_other (d : Dsk) {k i : Nat} (h : i ≠ k) : (sureM d k).sure i = d.sure i := by
 show put d.sure k (d.now k) i = _
 exact put_other _ _ h
theorem may_sync {k' i : Nat} {t : Sec} (h : May (sureM d k) k' i t) : May d k' i t ∧ (k' = k → t = (d.now k).getD i nought) := by
 rcases h with h | h | ⟨c, hc, h1, h2, h3, h4⟩
 ·have h : t = (put d.sure k (d.now k) k').getD i nought := h
  by_cases hk : k' = k
  ·subst hk
   rw [put_same'] at h
   exact ⟨.inr (.inl h), fun _ => h⟩
  ·rw [put_other _ _ hk] at h
   exact ⟨.inl h, fun e => absurd e hk⟩
 ·have h : t = (d.now k').getD i nought := h
  exact ⟨.inr (.inl h), fun e => by rw [e] at h; exact h⟩
 ·have hc : c ∈ keepsOf k d.loose := hc
  unfold keepsOf at hc
  obtain ⟨hc, hne⟩ := List.mem_filter.1 hc
  have hne : c.file ≠ k := by simpa using hne
  exact ⟨.inr (.inr ⟨c, hc, h1, h2, h3, h4⟩), fun e => absurd (h1.trans e) hne⟩
theorem may_cut {i : Nat} {t : Sec} {k' : Nat} (h : May (applyM d ⟨k, n, true, nought⟩) k' i t) (hi : k' = k → i < n) : May d k' i t := by
 rcases h with h | h | ⟨c, hc, h1, h2, h3, h4⟩
 ·exact .inl h
 ·have h : t = (put d.now k (doesM (d.now k) ⟨k, n, true, nought⟩) k').getD i nought := h
  by_cases hk : k' = k
  ·subst hk
   rw [put_same', does_cut_getD rfl (hi rfl)] at h
   exact .inr (.inl h)
  ·rw [put_other _ _ hk] at h
   exact .inr (.inl h)
 ·have hc : c ∈ d.loose ++ [⟨k, n, true, nought⟩] := hc
  rcases List.mem_append.1 hc with hc | hc
  ·exact .inr (.inr ⟨c, hc, h1, h2, h3, h4⟩)
  ·rw [List.mem_singleton.1 hc] at h2
   cases h2
end
section
variable {d : Dsk} {keep : List Bool}
theorem crash_mayd {keep : List Bool} {k i : Nat} {s : Sec} (hc : ∀ x ∈ d.loose, x.file = k → x.cut = true → i < x.at_) (hm : May (crashM d keep) k i s) : May d k i s ∧ s = ((crashM d keep).now k).getD i nought := by
 have hs : s = (crN d keep d.loose.length k).getD i nought := by
  rcases hm with h | h | ⟨x, hx, -⟩
  ·exact h
  ·exact h
  ·cases hx
 refine ⟨?_, hs⟩
 rcases crash_may (keep := keep) k i hc d.loose.length with e | ⟨x, hx, h1, h2, h3, h4⟩
 ·exact .inl (hs.trans e)
 ·exact .inr (.inr ⟨x, hx, h1, h2, h3, h4.trans hs.symm⟩)
theorem crash_len_eq (k n : Nat) (h0 : (d.sure k).length = n) (hc : ∀ c ∈ d.loose, c.file = k → c.cut = false ∧ c.at_ < n) : ∀ m, (crN d keep m k).length = n
 | 0 => h0
 | m + 1 => by
  have ih := crash_len_eq k n h0 hc m
  rcases crN_step (d := d) (keep := keep) m with ⟨c, hcm, e⟩ | e
  ·rw [e]
   by_cases hf : k = c.file
   ·subst hf
    obtain ⟨c1, c2⟩ := hc c hcm rfl
    rw [put_same', doesM_length_write c1, ih]
    omega
   ·rw [put_other _ _ hf]
    exact ih
  ·rw [e]
   exact ih
end
end Go.Proofs.YtenboibbbmeddaaGreat
