/- Plain laws of disks: what a crash, a cut, a sync leave. -/
import Derived.Test.YtifgnhbbcpmaiaaDkR
namespace Go.Proofs.Ytifgnhbbcpmaiaa
open Go.RowKit Go.Maps
set_option linter.unusedVariables false
set_option linter.unusedSimpArgs false

/-! ### A crash that keeps nothing -/
theorem crN_nil (d : Dsk) : ∀ n, crN d [] n = d.sure
  | 0 => rfl
  | n + 1 => by
    unfold crN
    rw [crN_nil d n]
    cases h : d.loose[n]? <;> simp [List.getD]
theorem crash_nil_eq (d : Dsk) : crashM d [] = { d with now := d.sure, sure := d.sure, loose := [], off := false, goes := -1, armed := fun _ => 0, narm := 0 } := by
  unfold crashM
  rw [crN_nil]

/-! ### What is read -/
theorem flat_len {l : List Sec} (hs : ∀ s ∈ l, s.length = 64) : l.flatten.length = 64 * l.length := by
  have := flat_take (l := l) hs (a := 0) (i := l.length) (by omega)
  simpa using this
theorem flatten_take {l : List Sec} (hs : ∀ s ∈ l, s.length = 64) : ∀ n, l.flatten.take (64 * n) = (l.take n).flatten := by
  induction l with
  | nil => intro n; simp
  | cons s r ih =>
    intro n
    have h64 := hs s (by simp)
    cases n with
    | zero => simp
    | succ n =>
      rw [List.flatten_cons, List.take_append, List.take_of_length_le (by omega), List.take_succ_cons, List.flatten_cons, ← ih (fun x hx => hs x (by simp [hx])) n, h64, show 64 * (n + 1) - 64 = 64 * n by omega]
theorem sizeM_on {d : Dsk} {k : Nat} (hk : k < 8) : sizeM d (k : Int) = (d.now k).length := by
  unfold sizeM
  rw [if_pos (by omega), Int.toNat_natCast]
theorem allM_on {d : Dsk} {k : Nat} (hk : k < 8) (ho : d.off = false) : allM d (k : Int) = ((d.now k).take 300).flatten := by
  unfold allM readM
  have hr : readyM d (k : Int) = 0 := by unfold readyM; rw [ho, if_neg (by simp), if_pos (by omega)]
  rw [sizeM_on hk, if_neg (by simpa using hr), Int.toNat_natCast, if_neg (by omega)]
  have e : (min ((d.now k).length : Int) 300).toNat = min (d.now k).length 300 := by omega
  rw [e, show Int.toNat 0 = 0 from rfl, List.drop_zero]
  congr 1
  by_cases h : (d.now k).length ≤ 300
  · rw [Nat.min_eq_left h, List.take_of_length_le (Nat.le_refl _), List.take_of_length_le h]
  · rw [Nat.min_eq_right (by omega)]
theorem meets_on {d : Dsk} (h0 : 0 ≤ d.ops) (hg : d.goes < 0) (ha : d.armed d.ops = 0) (ho : d.off = false) : (meetsM d).1 = 0 ∧ (meetsM d).2.off = false := by
  have hne : d.ops ≠ d.goes := by omega
  have hb : (d.ops == d.goes) = false := by simpa using hne
  refine ⟨?_, ?_⟩
  · show (if d.ops = d.goes then 32 else d.armed d.ops) = 0
    rw [if_neg hne, ha]
  · show (d.off || d.ops == d.goes) = false
    rw [ho, hb]
    rfl
theorem meets_zero {d : Dsk} (h : (meetsM d).1 = 0) : (meetsM d).2.off = d.off := by
  have hne : d.ops ≠ d.goes := fun e => by
    have h2 : (if d.ops = d.goes then 32 else d.armed d.ops) = 0 := h
    rw [if_pos e] at h2
    cases h2
  have hb : (d.ops == d.goes) = false := by simpa using hne
  show (d.off || d.ops == d.goes) = d.off
  rw [hb, Bool.or_false]

/-! ### Any disk's steps keep it well -/
theorem ready_on {d : Dsk} {k : Nat} (hk : k < 8) (ho : d.off = false) : readyM d (k : Int) = 0 := by unfold readyM; rw [ho, if_neg (by simp), if_pos (by omega)]

/-! ### A file that is cut (FilesCuts) -/
section
variable {D : Dsk} {k : Nat}
/-- The disk behind a crash that kept nothing. -/
def calm (D : Dsk) : Dsk := crashM D []
theorem calm_off : (calm D).off = false := by unfold calm; rw [crash_nil_eq]
theorem calm_sure : (calm D).sure = (calm D).now := by unfold calm; rw [crash_nil_eq]
theorem calm_loose : (calm D).loose = [] := by unfold calm; rw [crash_nil_eq]
theorem calm_meets (h : 0 ≤ D.ops) : (meetsM (calm D)).1 = 0 ∧ (meetsM (calm D)).2.off = false := by
  refine meets_on ?_ ?_ ?_ calm_off
  · unfold calm; rw [crash_nil_eq]; exact h
  · unfold calm; rw [crash_nil_eq]; show (-1 : Int) < 0; omega
  · unfold calm; rw [crash_nil_eq]
theorem cut_bad (hk : k < 8) {n : Int} (hn : n < 0 ∨ ((calm D).now k).length < n) : cutM (calm D) (k : Int) n = (5, calm D) := by
  unfold cutM
  rw [if_neg (by simpa using ready_on hk calm_off), Int.toNat_natCast, if_pos hn]
def cutD (D : Dsk) (k n : Nat) : Dsk := applyM (meetsM (calm D)).2 ⟨k, n, true, nought⟩
theorem cut_good (hk : k < 8) (h : 0 ≤ D.ops) {n : Nat} (hn : n ≤ ((calm D).now k).length) : cutM (calm D) (k : Int) (n : Int) = (0, cutD D k n) := by
  unfold cutM
  rw [if_neg (by simpa using ready_on hk calm_off), Int.toNat_natCast, if_neg (by omega), if_neg (by simpa using (calm_meets h).1), Int.toNat_natCast]
  rfl
theorem cutD_now {n : Nat} : (cutD D k n).now k = ((calm D).now k).take n := by
  show put (calm D).now k (doesM ((calm D).now k) ⟨k, n, true, nought⟩) k = _
  rw [put_same, doesM_cut rfl]
theorem cutD_off (h : 0 ≤ D.ops) {n : Nat} : (cutD D k n).off = false := (calm_meets h).2
theorem cutD_sure {n : Nat} : (cutD D k n).sure = (calm D).now := by
  show (calm D).sure = _
  exact calm_sure
theorem cutD_loose {n : Nat} : (cutD D k n).loose = [⟨k, n, true, nought⟩] := by
  show (calm D).loose ++ [_] = _
  rw [calm_loose]
  rfl
theorem cutD_keep {n : Nat} : (crashM (cutD D k n) [true]).now k = ((calm D).now k).take n := by
  have h0 : (cutD D k n).loose[0]? = some ⟨k, n, true, nought⟩ := by rw [cutD_loose]; rfl
  show crN (cutD D k n) [true] (cutD D k n).loose.length k = _
  rw [cutD_loose]
  show crN (cutD D k n) [true] (0 + 1) k = _
  rw [crN_true h0 rfl, put_same, doesM_cut rfl]
  show List.take n ((cutD D k n).sure k) = _
  rw [cutD_sure]
theorem cutD_lost {n : Nat} : (crashM (cutD D k n) []).now = (calm D).now := by
  rw [crash_nil_eq]
  exact cutD_sure (D := D) (k := k) (n := n)
theorem cut_read (hk : k < 8) (h : 0 ≤ D.ops) (hs : ∀ s ∈ (calm D).now k, s.length = 64) {n : Nat} (hn : n ≤ ((calm D).now k).length) :
    allM (cutD D k n) (k : Int) = (allM (calm D) (k : Int)).take (min n 300 * 64) := by
  rw [allM_on hk (cutD_off h), allM_on hk calm_off, cutD_now, Nat.mul_comm (min n 300) 64, flatten_take (fun s hs' => hs s (List.mem_of_mem_take hs')), List.take_take, List.take_take]
  congr 2
  omega
end
end Go.Proofs.Ytifgnhbbcpmaiaa
