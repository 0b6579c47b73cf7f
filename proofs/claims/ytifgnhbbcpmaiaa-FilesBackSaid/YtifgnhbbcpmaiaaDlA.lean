/- Plain law: what a Write wrote (FilesBack). -/
import Derived.Test.YtifgnhbbcpmaiaaDkT
namespace Go.Proofs.Ytifgnhbbcpmaiaa
open Go.RowKit Go.Maps
set_option linter.unusedVariables false
set_option linter.unusedSimpArgs false

theorem does_getD {l : List Sec} {c : Chg} (h : c.cut = false) (i : Nat) : (doesM l c).getD i nought = if i = c.at_ then c.bytes else l.getD i nought := by
  have hlen := doesM_length_write (l := l) h
  by_cases hi : i < (doesM l c).length
  · rw [List.getD_eq_getElem?_getD, List.getElem?_eq_getElem hi, Option.getD_some, doesM_get_write h i hi]
    by_cases e : i = c.at_
    · rw [if_pos e, if_pos e]
    · rw [if_neg e, if_neg e]
      by_cases hl : i < l.length
      · rw [dif_pos hl, List.getD_eq_getElem?_getD, List.getElem?_eq_getElem hl]; rfl
      · rw [dif_neg hl, List.getD_eq_getElem?_getD, List.getElem?_eq_none (by omega)]; rfl
  · rw [List.getD_eq_getElem?_getD, List.getElem?_eq_none (by omega), if_neg (by omega), List.getD_eq_getElem?_getD, List.getElem?_eq_none (by omega)]

section
variable {d : Dsk} {k a : Nat} {s : List UInt8}
theorem wr_other {f : Nat} (hf : f ≠ k) : ∀ n, (wrN d k a s n).now f = d.now f
  | 0 => rfl
  | n + 1 => by
    show put (wrN d k a s n).now k _ f = _
    rw [put_other _ _ hf]
    exact wr_other hf n
theorem wr_at (n : Nat) : (wrN d k a s (n + 1)).now k = doesM ((wrN d k a s n).now k) (wrChg k a s n) := by
  show put (wrN d k a s n).now k _ k = _
  rw [put_same]
  rfl
theorem wr_off : ∀ n, (wrN d k a s n).off = d.off
  | 0 => rfl
  | n + 1 => wr_off n
theorem wr_len : ∀ n, ((wrN d k a s n).now k).length = if n = 0 then (d.now k).length else max (d.now k).length (a + n)
  | 0 => rfl
  | n + 1 => by
    rw [wr_at, doesM_length_write rfl, wr_len n]
    show max _ (a + n + 1) = _
    rw [if_neg (show ¬ n + 1 = 0 by omega)]
    split <;> omega
theorem wr_getD (i : Nat) : ∀ n, ((wrN d k a s n).now k).getD i nought = if a ≤ i ∧ i < a + n then secOf s (i - a) else (d.now k).getD i nought
  | 0 => by rw [if_neg (by omega)]; rfl
  | n + 1 => by
    rw [wr_at, does_getD rfl, wr_getD i n]
    show (if i = a + n then secOf s n else _) = _
    by_cases e : i = a + n
    · rw [if_pos e, if_pos (by omega)]; congr 1; omega
    · rw [if_neg e]
      by_cases h : a ≤ i ∧ i < a + n
      · rw [if_pos h, if_pos (by omega)]
      · rw [if_neg h, if_neg (by omega)]
end
theorem secOf_flat {l : List Sec} (hs : ∀ x ∈ l, x.length = 64) : ∀ i, i < l.length → secOf l.flatten i = l.getD i nought := by
  induction l with
  | nil => intro i hi; simp at hi
  | cons x r ih =>
    intro i hi
    have hx := hs x (by simp)
    cases i with
    | zero =>
      unfold secOf
      rw [List.flatten_cons, Nat.zero_mul, List.drop_zero, List.take_append, hx]
      simp [List.take_of_length_le (Nat.le_of_eq hx)]
    | succ i =>
      have := ih (fun y hy => hs y (by simp [hy])) i (by simpa using hi)
      unfold secOf at this ⊢
      rw [List.flatten_cons, List.drop_append, hx, List.drop_eq_nil_of_le (by omega), List.nil_append, show (i + 1) * 64 - 64 = i * 64 by omega, this]
      rfl
theorem flat_secs (s : List UInt8) : ∀ m, ((List.range m).map (secOf s)).flatten = s.take (m * 64)
  | 0 => by simp
  | m + 1 => by
    rw [List.range_succ, List.map_append, List.flatten_append, flat_secs s m]
    simp only [List.map_cons, List.map_nil, List.flatten_cons, List.flatten_nil, List.append_nil]
    unfold secOf
    rw [show (m + 1) * 64 = m * 64 + 64 by omega, List.take_add]
theorem list_getD {l : List Sec} {m : Nat} {g : Nat → Sec} (hl : l.length = m) (h : ∀ i, i < m → l.getD i nought = g i) : l = (List.range m).map g := by
  apply List.ext_getElem?
  intro i
  by_cases hi : i < m
  · have h1 := h i hi
    rw [List.getD_eq_getElem?_getD, List.getElem?_eq_getElem (by omega), Option.getD_some] at h1
    rw [List.getElem?_eq_getElem (by omega), h1]
    simp [hi]
  · rw [List.getElem?_eq_none (by omega), List.getElem?_eq_none (by simp; omega)]

/-- A Write that fails turns no file. -/
theorem write_fail {d : Dsk} {f a : Int} {s : List UInt8} (h : (writeM d f a s).1 ≠ 0) : (writeM d f a s).2.now = d.now := by
  unfold writeM at h ⊢
  split
  · rfl
  · rename_i h1
    rw [if_neg h1] at h
    split
    · rfl
    · rename_i h2
      rw [if_neg h2] at h
      split
      · rfl
      · rename_i h3
        rw [if_neg h3] at h
        split
        · rfl
        · rename_i h4
          rw [if_neg h4] at h
          exact absurd rfl h
/-- What lies there behind a Write that answers 0. -/
structure Wrote (d d2 : Dsk) (k a m : Nat) (s : List UInt8) : Prop where
  m0 : 0 < m
  len : s.length = m * 64
  off : d2.off = false
  size : (d2.now k).length = max (d.now k).length (a + m)
  other : ∀ f, f ≠ k → d2.now f = d.now f
  at_ : ∀ i, (d2.now k).getD i nought = if a ≤ i ∧ i < a + m then secOf s (i - a) else (d.now k).getD i nought
theorem write_zero {d : Dsk} {k a : Nat} {s : List UInt8} (ho : d.off = false) (h : (writeM d (k : Int) (a : Int) s).1 = 0) : Wrote d (writeM d (k : Int) (a : Int) s).2 k a (s.length / 64) s := by
  unfold writeM at h ⊢
  by_cases h1 : readyM d (k : Int) ≠ 0
  · rw [if_pos h1] at h; exact absurd h h1
  rw [if_neg h1] at h ⊢
  by_cases h2 : s.length / 64 = 0 ∨ s.length % 64 ≠ 0
  · rw [if_pos h2] at h; cases h
  rw [if_neg h2] at h ⊢
  by_cases h3 : (a : Int) < 0 ∨ (8192 : Int) < (s.length / 64 : Nat) ∨ (8192 : Int) - (s.length / 64 : Nat) < (a : Int)
  · rw [if_pos h3] at h; cases h
  rw [if_neg h3] at h ⊢
  by_cases h4 : (meetsM d).1 ≠ 0
  · rw [if_pos h4] at h; exact absurd h h4
  rw [if_neg h4]
  have hm := meets_zero (d := d) (by simpa using h4)
  refine ⟨by omega, by omega, ?_, ?_, fun f hf => ?_, fun i => ?_⟩
  · show (wrN _ _ _ _ _).off = false
    rw [wr_off, hm, ho]
  · show ((wrN (meetsM d).2 (Int.toNat k) (Int.toNat a) s _).now k).length = _
    rw [Int.toNat_natCast, Int.toNat_natCast, wr_len, if_neg (by omega)]
    rfl
  · show (wrN (meetsM d).2 (Int.toNat k) (Int.toNat a) s _).now f = _
    rw [Int.toNat_natCast, wr_other hf]
    rfl
  · show ((wrN (meetsM d).2 (Int.toNat k) (Int.toNat a) s _).now k).getD i nought = _
    rw [Int.toNat_natCast, Int.toNat_natCast, wr_getD]
    rfl
theorem Wrote.read {d d2 : Dsk} {k a m : Nat} {s : List UInt8} (h : Wrote d d2 k a m s) (hk : k < 8) : readM d2 (k : Int) (a : Int) (m : Int) = (s, 0) := by
  have hs := h.size
  unfold readM
  rw [if_neg (by simpa using ready_on hk h.off), Int.toNat_natCast, if_neg (by omega), Int.toNat_natCast, Int.toNat_natCast]
  congr 1
  rw [list_getD (l := ((d2.now k).drop a).take m) (m := m) (g := secOf s) (by simp; omega) (fun i hi => ?_), flat_secs, List.take_of_length_le (by rw [h.len]; exact Nat.le_refl _)]
  have h1 := h.at_ (a + i)
  rw [if_pos (by omega), show a + i - a = i by omega] at h1
  rw [← h1]
  simp only [List.getD_eq_getElem?_getD, List.getElem?_take, hi, if_true, List.getElem?_drop]
theorem Wrote.beside {d d2 : Dsk} {k a m : Nat} {s : List UInt8} (h : Wrote d d2 k a m s) (hk : k < 8) (ho : d.off = false) (h1 : ∀ x ∈ d.now k, x.length = 64) (h2 : ∀ x ∈ d2.now k, x.length = 64) {i : Nat} (hi : i < min (d.now k).length 300) (hout : i < a ∨ a + m ≤ i) :
    secOf (allM d2 (k : Int)) i = secOf (allM d (k : Int)) i := by
  have hs := h.size
  rw [allM_on hk h.off, allM_on hk ho, secOf_flat (fun x hx => h2 x (List.mem_of_mem_take hx)) i (by simp; omega), secOf_flat (fun x hx => h1 x (List.mem_of_mem_take hx)) i (by simp; omega)]
  have e := h.at_ i
  rw [if_neg (by omega)] at e
  have hi3 : i < 300 := by omega
  simp only [List.getD_eq_getElem?_getD, List.getElem?_take, hi3, if_true] at e ⊢
  exact e
theorem Wrote.else_ {d d2 : Dsk} {k a m : Nat} {s : List UInt8} (h : Wrote d d2 k a m s) (ho : d.off = false) {f : Nat} (hf : f < 8) (hne : f ≠ k) : allM d2 (f : Int) = allM d (f : Int) := by
  rw [allM_on hf h.off, allM_on hf ho, h.other f hne]
theorem all_len {d : Dsk} {k : Nat} (hk : k < 8) (ho : d.off = false) (h : ∀ x ∈ d.now k, x.length = 64) : (allM d (k : Int)).length = 64 * min (d.now k).length 300 := by
  rw [allM_on hk ho, flat_len (fun x hx => h x (List.mem_of_mem_take hx)), List.length_take, Nat.min_comm]
end Go.Proofs.Ytifgnhbbcpmaiaa
