/- The frame package's small functions: within, four, noughts, parts, fours, Start. -/
import Derived.Test.YtioafhkblmebmaaPlain
import Derived.Test.YtioafhkblmebmaaShelf
import Derived.Test.YtioafhkblmebmaaRegion
namespace Go.Proofs.Ytioafhkblmebmaa
open Go.RowKit
set_option linter.unusedVariables false
set_option linter.unusedSimpArgs false

def inB (n a b : Int) : Bool := decide (a ≤ n) && decide (n ≤ b)
theorem inB_true {n a b : Int} : inB n a b = true ↔ a ≤ n ∧ n ≤ b := by unfold inB; simp
theorem inB_false {n a b : Int} : inB n a b = false ↔ n < a ∨ b < n := by
  rw [← Bool.not_eq_true, inB_true]; omega
theorem within_any (n a b : Int) (w : World) :
    Calls Try.prog 58 #[.int .i64 n, .int .i64 a, .int .i64 b] w fun e w' => e = .returned (.bool (inB n a b)) ∧ w' = w := by
  by_cases h1 : a ≤ n
  · have b1 : decide (a ≤ n) = true := by simpa using h1
    by_cases h2 : n ≤ b
    · have b2 : decide (n ≤ b) = true := by simpa using h2
      have e : inB n a b = true := inB_true.2 ⟨h1, h2⟩
      have E := hid e
      clear e
      go_enter Try.func58, Try.ntmps58
      go_wp2_with fail
      go_ret
      exact ⟨ret_bool E.out.symm, rfl⟩
    · have b2 : decide (n ≤ b) = false := by simpa using h2
      have e : inB n a b = false := inB_false.2 (by omega)
      have E := hid e
      clear e
      go_enter Try.func58, Try.ntmps58
      go_wp2_with fail
      go_ret
      exact ⟨ret_bool E.out.symm, rfl⟩
  · have b1 : decide (a ≤ n) = false := by simpa using h1
    have e : inB n a b = false := inB_false.2 (by omega)
    have E := hid e
    clear e
    go_enter Try.func58, Try.ntmps58
    go_wp2_with fail
    go_ret
    exact ⟨ret_bool E.out.symm, rfl⟩

theorem pfour_any (n : Int) (w : World) (h0 : 0 ≤ n) (h1 : n < 4294967296) :
    Calls Try.prog 63 #[.int .i64 n] w fun e w' => e = .returned (.string (bs (four n))) ∧ Below w.heap.size w w' := by
  have F := fun W => four_any n W h0 h1
  go_enter Try.func63, Try.ntmps63
  go_wp2_with fail
  refine (F _).mono ?_
  rintro e w1 ⟨rfl, hb1⟩
  go_wp2_with fail
  go_ret
  exact ⟨rfl, hb1⟩

theorem repeat_one (c : UInt8) : ∀ n, Lib.repeatL [c] n = List.replicate n c
  | 0 => rfl
  | n + 1 => by simp [Lib.repeatL, repeat_one c n, List.replicate_succ]
theorem noughts_any (k : Nat) (w : World) (hk : k ≤ 1000) :
    Calls Try.prog 57 #[.int .i64 (k : Int)] w fun e w' => e = .returned (.string (bs (List.replicate k 0))) ∧ Below w.heap.size w w' := by
  have R := fun W => Try.strings_Repeat (bs [0]) k W (by omega) (by rw [bs_size]; simp; omega)
  have e0 : ByteArray.mk #[0] = bs [0] := rfl
  go_enter Try.func57, Try.ntmps57
  go_wp2_with fail
  refine (R _).mono ?_
  rintro e w1 ⟨rfl, hb1⟩
  go_wp2_with fail
  go_ret
  exact ⟨ret_str (repeat_one 0 k), hb1⟩

theorem noughts_at (z : Int) (k : Nat) (w : World) (hz : z = (k : Int)) (hk : k ≤ 1000) :
    Calls Try.prog 57 #[.int .i64 z] w fun e w' => e = .returned (.string (bs (List.replicate k 0))) ∧ Below w.heap.size w w' := by
  subst hz
  exact noughts_any k w hk

theorem join_flat : ∀ xs : List (List UInt8), Lib.join xs [] = xs.flatten
  | [] => rfl
  | [x] => by simp [Lib.join_one]
  | x :: y :: r => by
    have := join_flat (y :: r)
    simp only [List.flatten_cons] at *
    rw [← this]
    simp [Lib.join]
/-- 'parts' of a slice whose cells are these strings. -/
theorem parts_any (xs : List (List UInt8)) (n g o c : Nat) (w : World) (hn : xs.length = n) (hcells : ∀ (j : Nat) x, xs[j]? = some x → w.cell? ⟨g, o + j, none⟩ = some (.string (bs x))) (hg : g < w.heap.size) (hN : n ≤ 100) (hcap : n ≤ c) (hlen : xs.flatten.length ≤ 140737488355328) :
    Calls Try.prog 62 #[.slice (some ⟨g, o, none⟩) n c] w fun e w' => e = .returned (.string (bs xs.flatten)) ∧ Below w.heap.size w w' := by
  subst hn
  have e1 : (xs.map bs).map (fun b => b.data.toList) = xs := by rw [List.map_map]; conv => rhs; rw [← List.map_id xs]
                                                                rfl
  have J := Try.strings_Join g o c (xs.map bs) (bs []) w (by
    intro j x hx
    rw [List.getElem?_map] at hx
    cases hj : xs[j]? with
    | none => rw [hj] at hx; cases hx
    | some y =>
      rw [hj] at hx
      obtain rfl : bs y = x := by simpa using hx
      exact hcells j y hj) hg (by simp; omega) (by simpa using hcap) (by rw [e1, bs_data, join_flat]; exact hlen)
  rw [e1, bs_data, join_flat, List.length_map] at J
  have HJ := hid J
  clear J hcells e1
  go_enter Try.func62, Try.ntmps62
  go_wp2_with fail
  refine HJ.out.mono ?_
  rintro e w1 ⟨rfl, hb1⟩
  go_wp2_with fail
  go_ret
  exact ⟨rfl, hb1⟩
end Go.Proofs.Ytioafhkblmebmaa
