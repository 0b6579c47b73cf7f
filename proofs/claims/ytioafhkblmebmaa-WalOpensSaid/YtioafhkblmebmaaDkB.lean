/- maps.Clone at a disk's two maps; a change's cells. -/
import Derived.Test.YtioafhkblmebmaaDkA
import Derived.Shelf.SlMaps.Clone
namespace Go.Proofs.Ytioafhkblmebmaa
open Go.RowKit Go.Maps
set_option linter.unusedVariables false
set_option linter.unusedSimpArgs false


set_option maxHeartbeats 2000000 in
theorem clone_sec (b : Nat) (es : Array MapEntry) (clock : Nat) (w : World) (hb : w.heap[b]? = some (.map es clock)) :
    Calls Try.prog 67 #[.map (some b)] w fun e w' => e = .returned (.map (some w.heap.size)) ∧ w' = w.alloc (.map es clock) := by
  have hq := fun w => run_eql_map_nil_sl (P := Try.prog) w 64 _ _ (some b) Try.underlying64
  have ha := fun (w : World) (v : Value) => run_typeAssert_map_sl (P := Try.prog) w 64 20 _ _ v Try.underlying64
  go_enter Try.func67, Try.ntmps67
  go_wp2
  rw [run_callFunc_extern Try.func68 (by kernel_rfl) (by kernel_rfl) (by kernel_rfl) (e := Extern.MapsClone.clone) (by kernel_rfl), run_maps_clone_sl w 64 hb]
  simp only [Result.andThen]
  rw [Oper.upon_value]
  go_wp2
  go_ret
  exact ⟨rfl, rfl⟩

set_option maxHeartbeats 2000000 in
theorem clone_sec_nil (w : World) :
    Calls Try.prog 67 #[.map none] w fun e w' => e = .returned (.map none) ∧ w' = w := by
  have hq := fun w => run_eql_map_nil_sl (P := Try.prog) w 64 _ _ none Try.underlying64
  go_enter Try.func67, Try.ntmps67
  go_wp2
  go_ret
  exact ⟨rfl, rfl⟩

set_option maxHeartbeats 2000000 in
theorem clone_err (b : Nat) (es : Array MapEntry) (clock : Nat) (w : World) (hb : w.heap[b]? = some (.map es clock)) :
    Calls Try.prog 50 #[.map (some b)] w fun e w' => e = .returned (.map (some w.heap.size)) ∧ w' = w.alloc (.map es clock) := by
  have hq := fun w => run_eql_map_nil_sl (P := Try.prog) w 63 _ _ (some b) Try.underlying63
  have ha := fun (w : World) (v : Value) => run_typeAssert_map_sl (P := Try.prog) w 63 20 _ _ v Try.underlying63
  go_enter Try.func50, Try.ntmps50
  go_wp2
  rw [run_callFunc_extern Try.func68 (by kernel_rfl) (by kernel_rfl) (by kernel_rfl) (e := Extern.MapsClone.clone) (by kernel_rfl), run_maps_clone_sl w 63 hb]
  simp only [Result.andThen]
  rw [Oper.upon_value]
  go_wp2
  go_ret
  exact ⟨rfl, rfl⟩

set_option maxHeartbeats 2000000 in
theorem clone_err_nil (w : World) :
    Calls Try.prog 50 #[.map none] w fun e w' => e = .returned (.map none) ∧ w' = w := by
  have hq := fun w => run_eql_map_nil_sl (P := Try.prog) w 63 _ _ none Try.underlying63
  go_enter Try.func50, Try.ntmps50
  go_wp2
  go_ret
  exact ⟨rfl, rfl⟩

/-- A change's cells. -/
def chgCells (c : Chg) : List Value := [.int .i64 c.file, .int .i64 c.at_, .bool c.cut] ++ cellsOf c.bytes
theorem chgCells_length {c : Chg} (h : c.bytes.length = 64) : (chgCells c).length = 67 := by simp [chgCells, cellsOf_length, h]
theorem chgCells_one (c : Chg) : ∀ u ∈ chgCells c, u.oneCell' = true := by
  intro u hu
  rcases List.mem_append.1 hu with h | h
  · simp only [List.mem_cons, List.not_mem_nil, or_false] at h
    rcases h with rfl | rfl | rfl <;> rfl
  · exact cellsOf_one _ u h
def chgV (c : Chg) : Value := .agg (chgCells c).toArray
end Go.Proofs.Ytioafhkblmebmaa
