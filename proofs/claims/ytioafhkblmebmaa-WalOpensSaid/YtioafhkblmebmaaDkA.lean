/- A disk's files in plain words, and a file's map of sectors as a list of sectors. -/
import Derived.Test.YtioafhkblmebmaaBase
import Derived.Maps.OwnSet
import Derived.Maps.Ext
import Derived.Maps.RangeWalk
import Derived.MapKept
import Derived.Laws.Externs
import Derived.Deep.MidRow
namespace Go.Proofs.Ytioafhkblmebmaa
open Go.RowKit Go.Maps
set_option linter.unusedVariables false
set_option linter.unusedSimpArgs false

abbrev Sec := List UInt8
def nought : Sec := List.replicate 64 0
theorem nought_length : nought.length = 64 := rfl

/-- A sector that is written, or a cut. -/
structure Chg where
  file : Nat
  at_ : Nat
  cut : Bool
  bytes : Sec
deriving DecidableEq

/-- A change is made to a file. -/
def doesM (l : List Sec) (c : Chg) : List Sec :=
  if c.cut then l.take c.at_ else (l ++ List.replicate (c.at_ + 1 - l.length) nought).set c.at_ c.bytes
theorem doesM_cut {l : List Sec} {c : Chg} (h : c.cut = true) : doesM l c = l.take c.at_ := if_pos h
theorem doesM_write {l : List Sec} {c : Chg} (h : c.cut = false) : doesM l c = (l ++ List.replicate (c.at_ + 1 - l.length) nought).set c.at_ c.bytes := by simp [doesM, h]
theorem doesM_length_write {l : List Sec} {c : Chg} (h : c.cut = false) : (doesM l c).length = max l.length (c.at_ + 1) := by
  rw [doesM_write h]; simp; omega
theorem doesM_length_cut {l : List Sec} {c : Chg} (h : c.cut = true) : (doesM l c).length = min l.length c.at_ := by
  rw [doesM_cut h]; simp; omega
theorem doesM_get_write {l : List Sec} {c : Chg} (h : c.cut = false) (i : Nat) (hi : i < (doesM l c).length) :
    (doesM l c)[i] = if i = c.at_ then c.bytes else if h : i < l.length then l[i] else nought := by
  simp only [doesM_write h]
  rw [List.getElem_set]
  by_cases e : c.at_ = i
  · rw [if_pos e, if_pos e.symm]
  · rw [if_neg e, if_neg (fun h => e h.symm), List.getElem_append]
    split
    · rfl
    · simp

/-! ### Sectors as values -/
def secV (s : Sec) : Value := .agg (cellsOf s).toArray
theorem byte_value_inj {a b : UInt8} (h : (a.toNat : Int) = (b.toNat : Int)) : a = b := by
  have : a.toNat = b.toNat := by omega
  exact UInt8.toNat_inj.1 this
theorem cellsOf_inj : ∀ {a b : List UInt8}, cellsOf a = cellsOf b → a = b
  | [], [], _ => rfl
  | [], _ :: _, h => by simp [cellsOf] at h
  | _ :: _, [], h => by simp [cellsOf] at h
  | x :: a, y :: b, h => by
    simp only [cellsOf, List.map_cons, List.cons.injEq, Value.int.injEq, true_and] at h
    rw [byte_value_inj h.1, cellsOf_inj h.2]
theorem secV_inj {a b : Sec} (h : secV a = secV b) : a = b := by
  unfold secV at h
  injection h with h
  exact cellsOf_inj (by simpa using congrArg Array.toList h)
open Classical in
/-- How a sector reads as a map's element. -/
noncomputable def secElem (v : Value) : Option (DataW Unit × List MemPlace) :=
  if h : ∃ s : Sec, s.length = 64 ∧ v = secV s then some (.lit (.string h.choose), []) else none
theorem secElem_mk {s : Sec} (h : s.length = 64) : secElem (secV s) = some (.lit (.string s), []) := by
  have hx : ∃ t : Sec, t.length = 64 ∧ secV s = secV t := ⟨s, h, rfl⟩
  unfold secElem
  rw [dif_pos hx, ← secV_inj hx.choose_spec.2]
theorem secElem_inv {v : Value} {z : DataW Unit × List MemPlace} (h : secElem v = some z) : ∃ s : Sec, s.length = 64 ∧ v = secV s ∧ z = (.lit (.string s), []) := by
  unfold secElem at h
  split at h
  · rename_i hx
    obtain ⟨h1, h2⟩ := hx.choose_spec
    exact ⟨_, h1, h2, (Option.some.inj h).symm⟩
  · cases h

/-! ### A map of sectors as a list -/
def ik (i : Int) : Lit := .int .i64 i
theorem ik_inj {i j : Int} (h : ik i = ik j) : i = j := by injection h
theorem ik_ne {i j : Int} (h : i ≠ j) : ik i ≠ ik j := fun e => h (ik_inj e)
theorem ik_key (i : Int) : WideAt.IsKeyLit (ik i) := trivial
def dNought : DataW Unit := .lit (.string nought)

/-- The map holds the list's sectors; what it hasn't is noughts. -/
structure Holds (D : DataW Unit) (l : List Sec) : Prop where
  in_ : ∀ k, Maps.has D k = true → ∃ i : Nat, i < l.length ∧ k = ik i
  at_ : ∀ (i : Nat) (h : i < l.length), D.atKey (ik i) dNought = .lit (.string l[i])

theorem holds_nil : Holds (.map []) [] := ⟨fun k h => (by cases h), fun i h => (by cases h)⟩
theorem Holds.out {D : DataW Unit} {l : List Sec} (h : Holds D l) {i : Nat} (hi : l.length ≤ i) : Maps.has D (ik i) = false := by
  cases hh : Maps.has D (ik i) with
  | false => rfl
  | true =>
    obtain ⟨j, hj, e⟩ := h.in_ _ hh
    have := ik_inj e
    omega
theorem holds_put {D : DataW Unit} {l : List Sec} {c : Chg} (h : Holds D l) (hm : IsMap D) (hc : c.cut = false) : Holds (D.put (ik c.at_) (.lit (.string c.bytes))) (doesM l c) := by
  refine ⟨fun k hk => ?_, fun i hi => ?_⟩
  · rw [doesM_length_write hc]
    by_cases e : k = ik c.at_
    · exact ⟨c.at_, by omega, e⟩
    · rw [has_put_other e] at hk
      obtain ⟨i, hi, e2⟩ := h.in_ k hk
      exact ⟨i, by omega, e2⟩
  · rw [doesM_get_write hc]
    by_cases e : i = c.at_
    · subst e
      rw [if_pos rfl, atKey_put_same hm (ik_key _)]
    · rw [if_neg e, atKey_put_other (ik_ne (by omega))]
      by_cases hl : i < l.length
      · rw [dif_pos hl]
        exact h.at_ i hl
      · rw [dif_neg hl]
        exact atKey_of_not_has (h.out (by omega)) _

/-- What is left of a cut while the round goes through the keys. -/
structure Cutting (D D0 : DataW Unit) (n : Int) (left : Lit → Bool) : Prop where
  has_ : ∀ k, Maps.has D k = (Maps.has D0 k && (left k || match k with | .int .i64 i => decide (i < n) | _ => true))
  at_ : ∀ k z, Maps.has D k = true → D.atKey k z = D0.atKey k z
theorem cutting_start (D0 : DataW Unit) (n : Int) : Cutting D0 D0 n (Maps.has D0) := ⟨fun k => by cases Maps.has D0 k <;> simp, fun _ _ _ => rfl⟩
theorem cutting_keep {D D0 : DataW Unit} {n : Int} {left : Lit → Bool} {i : Int} (h : Cutting D D0 n left) (hi : i < n) : Cutting D D0 n (fun z => left z && !z.sameKey (ik i)) := by
  refine ⟨fun k => ?_, h.at_⟩
  rw [h.has_ k]
  by_cases e : k = ik i
  · subst e
    simp [ik, hi]
  · rw [sameKey_ne e]
    simp
theorem cutting_drop {D D0 : DataW Unit} {n : Int} {left : Lit → Bool} {i : Int} (h : Cutting D D0 n left) (hi : ¬ i < n) : Cutting (D.del (ik i)) D0 n (fun z => left z && !z.sameKey (ik i)) := by
  refine ⟨fun k => ?_, fun k z hk => ?_⟩
  · by_cases e : k = ik i
    · subst e
      rw [has_del_same, WideAt.sameKey_self (ik_key i)]
      simp [ik, hi]
    · rw [has_del_other e, h.has_ k, sameKey_ne e]
      simp
  · by_cases e : k = ik i
    · subst e
      rw [has_del_same] at hk
      cases hk
    · rw [has_del_other e] at hk
      rw [atKey_del_other e, h.at_ k z hk]
theorem cutting_end {D D0 : DataW Unit} {left : Lit → Bool} {l : List Sec} {c : Chg} (h : Cutting D D0 c.at_ left) (h0 : Holds D0 l) (hl : ∀ k, left k = false) (hc : c.cut = true) : Holds D (doesM l c) := by
  rw [doesM_cut hc]
  refine ⟨fun k hk => ?_, fun i hi => ?_⟩
  · rw [h.has_ k, hl k] at hk
    simp only [Bool.false_or, Bool.and_eq_true] at hk
    obtain ⟨i, hi, rfl⟩ := h0.in_ k hk.1
    have h2 := hk.2
    simp only [ik, decide_eq_true_eq] at h2
    exact ⟨i, by simp; omega, rfl⟩
  · have hi' : i < c.at_ ∧ i < l.length := by simp at hi; omega
    have e1 : (l.take c.at_)[i] = l[i]'hi'.2 := by simp
    rw [e1, ← h0.at_ i hi'.2]
    cases hh : Maps.has D (ik i) with
    | true => exact h.at_ _ _ hh
    | false =>
      rw [atKey_of_not_has hh]
      have hd := h.has_ (ik i)
      rw [hh, hl] at hd
      have : decide ((i : Int) < (c.at_ : Int)) = true := by simp; omega
      simp only [ik, this, Bool.false_or, Bool.and_true] at hd
      exact (atKey_of_not_has hd.symm _).symm

/-! ### As many entries as sectors at most -/
theorem nodup_below : ∀ (n : Nat) (ks : List Nat), ks.Pairwise (· ≠ ·) → (∀ k ∈ ks, k < n) → ks.length ≤ n
  | 0, ks, _, h => by
    cases ks with
    | nil => simp
    | cons a r => exact absurd (h a (by simp)) (by omega)
  | n + 1, ks, hp, h => by
    have h1 := nodup_below n (ks.filter (· != n)) (hp.filter _) (fun k hk => by
      simp only [List.mem_filter, bne_iff_ne, ne_eq] at hk
      have := h k hk.1
      omega)
    have h2 : ks.length ≤ (ks.filter (· != n)).length + 1 := by
      clear h1 h
      induction ks with
      | nil => simp
      | cons a r ih =>
        obtain ⟨hp1, hp2⟩ := List.pairwise_cons.1 hp
        by_cases e : a = n
        · subst e
          have : r.filter (· != a) = r := List.filter_eq_self.2 (fun x hx => by simpa using (hp1 x hx).symm)
          simp [this]
        · have e' : (a != n) = true := by simpa using e
          simp only [List.filter_cons, e', if_true, List.length_cons]
          have := ih hp2
          omega
    omega
theorem Holds.size_le {D : DataW Unit} {l : List Sec} (h : Holds D l) (ht : Canon D) : Maps.size D ≤ l.length := by
  obtain ⟨es, rfl, hp0, hkey⟩ := ht
  have hp := apart_of_rising hp0
  have hk : ∀ p ∈ es, ∃ i : Nat, i < l.length ∧ p.1 = ik i := fun p hp' => by
    exact h.in_ p.1 (List.any_eq_true.2 ⟨p, hp', WideAt.sameKey_self (hkey p hp')⟩)
  let num : Lit → Nat := fun k => match k with | .int _ i => i.toNat | _ => 0
  have e : (es.map fun p => num p.1).length ≤ l.length := by
    refine nodup_below _ _ ?_ ?_
    · rw [List.pairwise_map]
      have : es.Pairwise (fun p q => p ∈ es ∧ q ∈ es ∧ p.1 ≠ q.1) := hp.imp_of_mem fun ha hb h => ⟨ha, hb, h⟩
      refine this.imp ?_
      rintro p q ⟨hp', hq', hne⟩ e
      obtain ⟨i, _, e1⟩ := hk p hp'
      obtain ⟨j, _, e2⟩ := hk q hq'
      rw [e1, e2] at e hne
      simp only [num, ik, Int.toNat_natCast] at e
      exact hne (by rw [e])
    · intro k hk'
      obtain ⟨p, hp', rfl⟩ := List.mem_map.1 hk'
      obtain ⟨i, hi, e1⟩ := hk p hp'
      rw [e1]
      simpa [num, ik] using hi
  simpa [Maps.size] using e

theorem owns_exact {P : Program} {k : TypeId} {R : Value → Option (DataW Unit × List MemPlace)} {w : World} {b n : Nat} {D : DataW Unit} (h : w.ownsMap P k R b n D) : w.ownsMap P k R b (Maps.size D) D := by
  obtain ⟨es, clock, hb, F, hs, rfl⟩ := h
  exact ⟨es, clock, hb, F, by simp [Maps.size, length_sorted], rfl⟩

/-! ### A file's map in memory -/
theorem keyI : Keyed Try.prog 3 := int_keyed Try.underlying3
/-- The map that lies at m is the file l. -/
def FileAt (w : World) (m : Option Nat) (l : List Sec) : Prop :=
  match m with
  | none => l = []
  | some b => ∃ D, w.ownsMap Try.prog 3 secElem b l.length D ∧ Holds D l
theorem FileAt.keep {w w' : World} {m : Option Nat} {l : List Sec} (h : FileAt w m l) (hk : ∀ b, m = some b → w'.heap[b]? = w.heap[b]?) : FileAt w' m l := by
  cases m with
  | none => exact h
  | some b =>
    obtain ⟨D, ⟨es, clock, hb, r⟩, hh⟩ := h
    exact ⟨D, ⟨es, clock, (hk b rfl).trans hb, r⟩, hh⟩
theorem FileAt.lt {w : World} {b : Nat} {l : List Sec} (h : FileAt w (some b) l) : b < w.heap.size := by
  obtain ⟨D, h, _⟩ := h
  exact h.lt
theorem fileAt_of {w : World} {b n : Nat} {D : DataW Unit} {l : List Sec} (h : w.ownsMap Try.prog 3 secElem b n D) (hh : Holds D l) : FileAt w (some b) l :=
  ⟨D, (owns_exact h).mono (hh.size_le (h.canon keyI)), hh⟩
end Go.Proofs.Ytioafhkblmebmaa
