/- A log's Frames. -/
import Derived.Test.YtioafhkblmebmaaWaB
import Derived.Laws.AppendOwnNone
import Derived.Deep.DeepMust
namespace Go.Proofs.Ytioafhkblmebmaa
open Go.RowKit Go.Maps
set_option linter.unusedVariables false
set_option linter.unusedSimpArgs false

def framesBad (g : Lg) (a z : Int) : Prop := a < 0 ∨ z < a ∨ (g.list.length : Int) < z
instance (g : Lg) (a z : Int) : Decidable (framesBad g a z) := by unfold framesBad; infer_instance
/-- A row of the call's own that was laid ahead of the growth. -/
theorem below_grownBy {w w1 : World} {o : Obj} {k : Nat} (h : (w.alloc o).grownBy w1 (Value.ownBlock (.slice (some ⟨w.heap.size, 0, none⟩) k 0))) : Below w.heap.size w w1 :=
  ⟨h.os, h.tape, h.output, by have := h.size; simp at this; omega, fun i hi => (h.block i (by simp; omega) (fun e => by simp [Value.ownBlock] at e; omega)).trans (Below.heap_alloc w o i hi)⟩
theorem frsCells_slice (l : List Fr) (a n : Nat) : ((frsCells l).drop (a * 3)).take (n * 3) = frsCells ((l.drop a).take n) := by
  induction l generalizing a n with
  | nil => simp [frsCells]
  | cons f r ih =>
    have e : frsCells (f :: r) = frCells f ++ frsCells r := rfl
    have h3 : (frCells f).length = 3 := rfl
    cases a with
    | zero =>
      cases n with
      | zero => simp [frsCells]
      | succ n =>
        have e2 : (n + 1) * 3 = (frCells f).length + n * 3 := by omega
        have := ih 0 n
        simp only [Nat.zero_mul, List.drop_zero] at this ⊢
        rw [e, e2, List.take_length_add_append, this, List.take_succ_cons]
        rfl
    | succ a =>
      have e2 : (a + 1) * 3 = (frCells f).length + a * 3 := by omega
      rw [e, e2, List.drop_length_add_append, ih a n]
      rfl
section
variable {w : World} {l b : Nat} {F : Foot} {G : Nat → Prop} {g : Lg} {d : Dsk}
set_option maxRecDepth 20000 in
theorem frames_bad (h : LgAt w l b F G g d) (x y : Int) (hb : framesBad g x y) :
    Calls Try.prog 20 #[.pointer (some ⟨l, 0, none⟩), .int .i64 x, .int .i64 y] w fun e w' => e = .returned (.tuple #[.slice none 0 0, .int .i64 5]) ∧ w' = w := by
  obtain ⟨lv, h⟩ := h.log
  have c5 := h.cell 5
  simp only [logCells, List.getElem?_cons_succ, List.getElem?_cons_zero] at c5
  obtain ⟨ao, cap, rfl, -⟩ := h.slice
  unfold framesBad at hb
  obtain ⟨z, hz⟩ : ∃ z, z = g.list.length := ⟨_, rfl⟩
  rw [← hz] at c5 hb
  clear h hz
  by_cases h1 : x < 0
  · have h1' : decide (x < 0) = true := by simpa using h1
    clear hb h1
    go_enter Try.func20, Try.ntmps20
    go_wp2_with fail
    go_ret2
    exact ⟨rfl, rfl⟩
  by_cases h2 : y < x
  · have h1' : decide (x < 0) = false := by simpa using h1
    have h2' : decide (y < x) = true := by simpa using h2
    clear hb h1 h2
    go_enter Try.func20, Try.ntmps20
    go_wp2_with fail
    go_ret2
    exact ⟨rfl, rfl⟩
  · have h1' : decide (x < 0) = false := by simpa using h1
    have h2' : decide (y < x) = false := by simpa using h2
    have h4' : decide ((z : Int) < y) = true := by simp; omega
    clear hb h1 h2
    go_enter Try.func20, Try.ntmps20
    go_wp2_with fail
    go_ret2
    exact ⟨rfl, rfl⟩

set_option maxHeartbeats 1000000 in
set_option maxRecDepth 20000 in
theorem frames_good (h : LgAt w l b F G g d) (x y : Nat) (hxy : x ≤ y) (hy : y ≤ g.list.length) :
    Calls Try.prog 20 #[.pointer (some ⟨l, 0, none⟩), .int .i64 (x : Int), .int .i64 (y : Int)] w fun e w' => ∃ v, e = .returned (.tuple #[v, .int .i64 0]) ∧ w'.ownsRow w.heap.size 51 3 v (y - x) (frsCells ((g.list.drop x).take (y - x))) ∧ Below w.heap.size w w' := by
  obtain ⟨lv, hl⟩ := h.log
  have c5 := hl.cell 5
  simp only [logCells, List.getElem?_cons_succ, List.getElem?_cons_zero] at c5
  have hmany := hl.ok.many
  have hrow := hl.row
  obtain ⟨z, hz⟩ : ∃ z, z = g.list.length := ⟨_, rfl⟩
  have hlt := h.lt
  rw [← hz] at hy hmany hrow
  have h1' : decide ((x : Int) < 0) = false := by simp
  have h2' : ¬ (y < x) := by omega
  have h4' : ¬ (z < y) := by omega
  have hrow1 := row_keep hrow (w' := w.alloc (.cells #[] 51)) (fun k hk => Below.heap_alloc w _ k (hl.glt k (hl.rown k hk)))
  have hown0 : (w.alloc (.cells #[] 51)).ownsRow w.heap.size 51 3 (.slice (some ⟨w.heap.size, 0, none⟩) 0 0) 0 [] := ⟨rfl, .inr ⟨w.heap.size, 0, #[], rfl, Nat.le_refl _, heap_alloc_new _ _, Nat.le_refl _, by decide, rfl, rfl⟩⟩
  have Hown0 := hid hown0
  obtain ⟨i0, hi, hz0, hz1, hz2⟩ := info_parts (P := Try.prog) (e := 51) (z := frV ⟨0, 0, []⟩) (size := 3) (bytes := 32) (by kernel_rfl)
  clear hl h hown0
  rcases hrow1.2 with ⟨rfl, h0⟩ | ⟨q, cap, cur, rfl, -, hq, hzc, hcm, hcs, ht⟩
  · obtain rfl : x = 0 := by omega
    obtain rfl : y = 0 := by omega
    obtain rfl : z = 0 := h0
    have Hz := hid hz
    clear hrow hrow1 hz hxy hy
    go_enter Try.func20, Try.ntmps20
    go_wp2_with (first
      | (at_builtin; go_must (refine wpList_append_own_none rfl _ _ 47 (by rfl) w.heap.size 51 i0 3 Try.underlying47 hi (.slice (some ⟨w.heap.size, 0, none⟩) 0 0) 0 [] (by rfl) Hown0.out (by rfl) ?_))
      | go_in)
    go_ret2
    exact ⟨_, rfl, by simpa [frsCells] using Hown0.out, (Below.refl _ _).alloc (Nat.le_refl _) _⟩
  · obtain ⟨n, hn⟩ : ∃ n, n = y - x := ⟨_, rfl⟩
    rw [← hn]
    have hnl : (frsCells ((g.list.drop x).take n)).length = n * 3 := by rw [frsCells_length]; simp; omega
    have hnews : ∀ j u, (frsCells ((g.list.drop x).take n))[j]? = some u → (w.alloc (.cells #[] 51)).cell? (Addr.add ⟨q, x * 3, none⟩ j) = some u := by
      intro j u hj
      have hj2 : j < n * 3 := by
        have := (List.getElem?_eq_some_iff.1 hj).1
        omega
      rw [Addr.add_lit, cell_of_block hq]
      rw [← frsCells_slice, List.getElem?_take, if_pos hj2, List.getElem?_drop, ← ht, List.getElem?_take, if_pos (by omega)] at hj
      simpa using hj
    have Hnl := hid hnl
    have Hnews := hid hnews
    have Hz := hid hz
    have Hmany := hid hmany
    have hxc : x ≤ cap := by omega
    have hyc : y ≤ cap := by omega
    have hcm' : cap ≤ 9223372036854775807 := hcm
    have Hzc := hid hzc
    have Hy := hid hy
    have Hxy := hid hxy
    have Hn := hid hn
    clear hrow hrow1 hz hnl hnews ht hmany hq hcs hcm
    by_cases hcx : cap = x
    · obtain rfl : y = x := by omega
      subst hcx
      obtain rfl : n = 0 := by omega
      clear hn hzc hy hxy
      go_enter Try.func20, Try.ntmps20
      go_wp2_with (first
        | (at_builtin; go_must (refine wpList_append_own _ rfl _ _ 47 (by rfl) w.heap.size 51 i0 _ 3 32 Try.underlying47 hi hz0 hz1 hz2 rfl (by omega) (.slice (some ⟨w.heap.size, 0, none⟩) 0 0) 0 [] (by rfl) Hown0.out ⟨q, 0, none⟩ 0 0 [] (by simp [Act.eval]) rfl (fun j u hj => by simp at hj) (fun u hu => by simp at hu) (by decide) (by omega) (by simp) ?_; intro v' w1 hown hgrow _; have Hown := hid hown; have Hgrow := hid hgrow; clear hown hgrow))
        | go_in)
      go_ret2
      exact ⟨_, rfl, by simpa [frsCells] using Hown.out, below_grownBy Hgrow.out⟩
    · clear hn hzc hy hxy
      go_enter Try.func20, Try.ntmps20
      go_wp2_with (first
        | (at_builtin; go_must (refine wpList_append_own _ rfl _ _ 47 (by rfl) w.heap.size 51 i0 _ 3 32 Try.underlying47 hi hz0 hz1 hz2 rfl (by omega) (.slice (some ⟨w.heap.size, 0, none⟩) 0 0) 0 [] (by rfl) Hown0.out ⟨q, x * 3, none⟩ n (cap - x) (frsCells ((g.list.drop x).take n)) (by rw [Hn.out]; rfl) Hnl.out Hnews.out (frsCells_one _) (by have := Hmany.out; have := Hy.out; have := Hn.out; unfold maxLen; omega) (by have := Hmany.out; have := Hy.out; have := Hn.out; omega) (by simp) ?_; intro v' w1 hown hgrow _; have Hown := hid hown; have Hgrow := hid hgrow; clear hown hgrow))
        | go_in)
      go_ret2
      exact ⟨_, rfl, by simpa using Hown.out, below_grownBy Hgrow.out⟩
end
end Go.Proofs.Ytioafhkblmebmaa
