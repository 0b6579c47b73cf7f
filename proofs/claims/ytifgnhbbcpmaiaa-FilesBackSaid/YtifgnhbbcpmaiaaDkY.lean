/- Plain law: what is now is what is sure with all that is loose (FilesKept). -/
import Derived.Test.YtifgnhbbcpmaiaaDkT
namespace Go.Proofs.Ytifgnhbbcpmaiaa
open Go.RowKit Go.Maps
set_option linter.unusedVariables false
set_option linter.unusedSimpArgs false

def mine (f : Nat) (l : List Chg) : List Chg := l.filter fun c => c.file == f
def Rep (d : Dsk) : Prop := ∀ f, d.now f = (mine f d.loose).foldl doesM (d.sure f)
theorem mine_snoc (f : Nat) (l : List Chg) (c : Chg) : mine f (l ++ [c]) = if c.file = f then mine f l ++ [c] else mine f l := by
  unfold mine
  rw [List.filter_append]
  by_cases h : c.file = f
  · rw [if_pos h]; simp [h]
  · rw [if_neg h]; simp [h]
section
variable {d : Dsk}
theorem Rep.meets (h : Rep d) : Rep (meetsM d).2 := h
theorem Rep.apply (h : Rep d) (c : Chg) : Rep (applyM d c) := fun f => by
  show put d.now c.file (doesM (d.now c.file) c) f = (mine f (d.loose ++ [c])).foldl doesM (d.sure f)
  rw [mine_snoc]
  by_cases e : f = c.file
  · subst e
    rw [put_same, if_pos rfl, List.foldl_append, ← h c.file]
    rfl
  · rw [put_other _ _ e, if_neg (fun h => e h.symm)]
    exact h f
theorem Rep.wr (h : Rep d) (f a : Nat) (s : List UInt8) : ∀ n, Rep (wrN d f a s n)
  | 0 => h
  | n + 1 => (Rep.wr h f a s n).apply _
theorem Rep.sync (h : Rep d) (k : Nat) : Rep (sureM d k) := fun f => by
  show d.now f = (mine f (keepsOf k d.loose)).foldl doesM (put d.sure k (d.now k) f)
  by_cases e : f = k
  · subst e
    rw [put_same]
    have : mine f (keepsOf f d.loose) = [] := by
      unfold mine keepsOf
      rw [List.filter_filter]
      apply List.filter_eq_nil_iff.2
      intro c _
      simp
    rw [this]
    rfl
  · rw [put_other _ _ e]
    have : mine f (keepsOf k d.loose) = mine f d.loose := by
      unfold mine keepsOf
      rw [List.filter_filter]
      apply List.filter_congr
      intro c _
      by_cases h2 : c.file = f
      · simp [h2, e]
      · simp [h2]
    rw [this]
    exact h f
theorem Rep.crash (d : Dsk) (keep : List Bool) : Rep (crashM d keep) := fun f => rfl
theorem Rep.step (h : Rep d) (x : OpM) : Rep (stepM d x) := by
  unfold stepM
  split
  · unfold cutM
    split
    · exact h
    · split
      · exact h
      · split
        · exact h.meets
        · exact h.meets.apply _
  split
  · unfold syncM
    split
    · exact h
    · split
      · exact h.meets
      · exact h.meets.sync _
  split
  · exact h
  split
  · unfold armM
    split
    · exact h
    · exact h
  split
  · unfold powerM
    split
    · exact h
    · exact h
  split
  · exact Rep.crash d _
  · unfold writeM
    split
    · exact h
    · split
      · exact h
      · split
        · exact h
        · split
          · exact h.meets
          · exact h.meets.wr _ _ _ _
theorem rep_new : Rep newM := fun f => rfl
theorem Rep.run : ∀ (l : List OpM) {d : Dsk}, Rep d → Rep (runM d l)
  | [], _, h => h
  | x :: r, d, h => Rep.run r (d := stepM d x) (h.step x)
end
theorem crN_all' (d : Dsk) (n : Nat) : ∀ i, i ≤ n → i ≤ d.loose.length → ∀ f, crN d (List.replicate n true) i f = (mine f (d.loose.take i)).foldl doesM (d.sure f) := by
  intro i
  induction i with
  | zero => intro _ _ f; simp [crN, mine]
  | succ i ih =>
    intro h1 h2 f
    have hi : i < d.loose.length := by omega
    have hg : d.loose[i]? = some d.loose[i] := List.getElem?_eq_getElem hi
    rw [crN_true hg (by rw [List.getElem?_replicate, if_pos (by omega)]), List.take_succ_eq_append_getElem hi, mine_snoc]
    by_cases e : f = d.loose[i].file
    · subst e
      rw [put_same, if_pos rfl, List.foldl_append, ih (by omega) (by omega)]
      rfl
    · rw [put_other _ _ e, if_neg (fun h => e h.symm)]
      exact ih (by omega) (by omega) f
/-- A crash that keeps all. -/
theorem crash_all {d : Dsk} (h : Rep d) (f : Nat) : (crashM d (List.replicate d.loose.length true)).now f = d.now f := by
  show crN d (List.replicate d.loose.length true) d.loose.length f = _
  rw [crN_all' d _ _ (Nat.le_refl _) (Nat.le_refl _), List.take_length]
  exact (h f).symm
/-- A crash behind a crash. -/
theorem crash_twice (d : Dsk) (ks : List Bool) : (crashM (crashM d ks) []).now = (crashM d ks).now := by
  rw [crash_nil_eq]
  rfl
end Go.Proofs.Ytifgnhbbcpmaiaa
