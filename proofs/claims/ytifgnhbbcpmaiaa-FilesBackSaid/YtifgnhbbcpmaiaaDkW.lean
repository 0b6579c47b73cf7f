/- Plain law: what was synced stays (FilesSure). -/
import Derived.Test.YtifgnhbbcpmaiaaDkT
namespace Go.Proofs.Ytifgnhbbcpmaiaa
open Go.RowKit Go.Maps
set_option linter.unusedVariables false
set_option linter.unusedSimpArgs false

/-- File k is surely L, and nothing of it is loose. -/
structure Kept (k : Nat) (L : List Sec) (d : Dsk) : Prop where
  sure : d.sure k = L
  loose : ∀ c ∈ d.loose, c.file ≠ k
section
variable {k : Nat} {L : List Sec} {d : Dsk}
theorem Kept.meets (h : Kept k L d) : Kept k L (meetsM d).2 := ⟨h.sure, h.loose⟩
theorem Kept.apply (h : Kept k L d) {c : Chg} (hc : c.file ≠ k) : Kept k L (applyM d c) := ⟨h.sure, fun x hx => by
  have hx' : x ∈ d.loose ++ [c] := hx
  rcases List.mem_append.1 hx' with h1 | h1
  · exact h.loose x h1
  · rw [List.mem_singleton.1 h1]; exact hc⟩
theorem Kept.wr (h : Kept k L d) {f a : Nat} {s : List UInt8} (hf : f ≠ k) : ∀ n, Kept k L (wrN d f a s n)
  | 0 => h
  | n + 1 => (Kept.wr h hf n).apply hf
theorem crN_kept (h : Kept k L d) (keep : List Bool) : ∀ n, crN d keep n k = L
  | 0 => h.sure
  | n + 1 => by
    have ih := crN_kept h keep n
    unfold crN
    cases hc : d.loose[n]? with
    | none => exact ih
    | some c =>
      simp only
      split
      · rw [put_other _ _ (fun e => h.loose c (List.mem_of_getElem? hc) e.symm)]
        exact ih
      · exact ih
theorem Kept.crash (h : Kept k L d) (keep : List Bool) : Kept k L (crashM d keep) := ⟨crN_kept h keep _, fun c hc => by cases hc⟩
theorem ready_other {f : Int} (hr : readyM d f = 0) (hf : f ≠ (k : Int)) : f.toNat ≠ k := by
  obtain ⟨-, h0, h8⟩ := ready_zero hr
  omega
theorem Kept.step (h : Kept k L d) {x : OpM} (hx : x.file ≠ (k : Int)) : Kept k L (stepM d x) := by
  unfold stepM
  split
  · unfold cutM
    split
    · exact h
    · rename_i h1
      split
      · exact h
      · split
        · exact h.meets
        · exact h.meets.apply (ready_other (by simpa using h1) hx)
  split
  · unfold syncM
    split
    · exact h
    · rename_i h1
      split
      · exact h.meets
      · refine ⟨?_, fun c hc => h.loose c (List.mem_filter.1 hc).1⟩
        show put d.sure x.file.toNat _ k = L
        rw [put_other _ _ (fun e => ready_other (by simpa using h1) hx e.symm)]
        exact h.sure
  split
  · exact h
  split
  · unfold armM
    split
    · exact ⟨h.sure, h.loose⟩
    · exact h
  split
  · unfold powerM
    split
    · exact ⟨h.sure, h.loose⟩
    · exact h
  split
  · exact h.crash _
  · unfold writeM
    split
    · exact h
    · rename_i h1
      split
      · exact h
      · split
        · exact h
        · split
          · exact h.meets
          · exact h.meets.wr (ready_other (by simpa using h1) hx) _
end
/-- A Sync that answers 0. -/
theorem sync_zero {D : Dsk} {k : Nat} (hk : k < 8) (h : (syncM D (k : Int)).1 = 0) : (syncM D (k : Int)).2 = sureM (meetsM D).2 k ∧ D.off = false ∧ (meetsM D).1 = 0 := by
  unfold syncM at h ⊢
  by_cases hr : readyM D (k : Int) = 0
  · by_cases hm : (meetsM D).1 = 0
    · rw [if_neg (by simpa using hr), if_neg (by simpa using hm), Int.toNat_natCast]
      exact ⟨rfl, (ready_zero hr).1, hm⟩
    · rw [if_neg (by simpa using hr), if_pos hm] at h
      exact absurd h hm
  · rw [if_pos hr] at h
    exact absurd h hr
theorem sync_kept {D : Dsk} {k : Nat} (hk : k < 8) (h : (syncM D (k : Int)).1 = 0) :
    Kept k (D.now k) (syncM D (k : Int)).2 ∧ (syncM D (k : Int)).2.now k = D.now k ∧ (syncM D (k : Int)).2.off = false := by
  obtain ⟨e, ho, hm⟩ := sync_zero hk h
  rw [e]
  refine ⟨⟨?_, fun c hc => ?_⟩, rfl, ?_⟩
  · show put D.sure k (D.now k) k = _
    exact put_same _ _ _
  · have := (List.mem_filter.1 hc).2
    simpa using this
  · show (meetsM D).2.off = false
    rw [meets_zero hm, ho]
/-- Behind a crash a kept file is what it was. -/
theorem kept_crash {d : Dsk} {k : Nat} {L : List Sec} (h : Kept k L d) (keep : List Bool) : (crashM d keep).now k = L ∧ (crashM d keep).off = false ∧ (crashM d keep).loose = [] := ⟨crN_kept h keep _, rfl, rfl⟩
end Go.Proofs.Ytifgnhbbcpmaiaa
