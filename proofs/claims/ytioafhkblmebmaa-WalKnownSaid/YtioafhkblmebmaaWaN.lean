/- For the laws of a log: a page of one byte, images that are written out, no log's Frames; the models on examples. -/
import Derived.Test.YtioafhkblmebmaaWaK
import Derived.Test.YtioafhkblmebmaaWaM
namespace Go.Proofs.Ytioafhkblmebmaa
open Go.RowKit Go.Maps
set_option linter.unusedVariables false
set_option linter.unusedSimpArgs false

def pageOf (c : UInt8) : List UInt8 := List.replicate 512 c
theorem pageOf_length (c : UInt8) : (pageOf c).length = 512 := List.length_replicate
set_option maxRecDepth 20000 in
theorem lpage_any (c : UInt8) (w : World) : Calls Try.prog 25 #[.int .u8 (c.toNat : Int)] w fun e w' => e = .returned (.string (bs (pageOf c))) ∧ Below w.heap.size w w' := by
  have R := fun w => Try.strings_Repeat (bs [c]) 512 w (by omega) (by simp [bs_size])
  rw [show (bs [c]).data.toList = [c] from rfl, repeat_one] at R
  have R := hid R
  have hconv : (convert 55 9 (.slice (some ⟨w.heap.size, 0, none⟩) 1 1)).run Try.prog (w.alloc (.cells #[.int .u8 (c.toNat : Int)] 5)) = .ok (.string (bs [c])) (w.alloc (.cells #[.int .u8 (c.toNat : Int)] 5)) := by
    have h := run_convert_cells (P := Try.prog) (w.alloc (.cells #[.int .u8 (c.toNat : Int)] 5)) 55 9 5 Try.underlying55 Try.underlying5 Try.underlying9 w.heap.size 0 1 1 [(c.toNat : Int)] rfl (fun i hi => by
      obtain rfl : i = 0 := by omega
      exact (cell_of_block (heap_alloc_new w _) 0).trans rfl)
    simpa using h
  go_enter Try.func25, Try.ntmps25
  go_wp2_with (first | (go_at_call 51; refine (R.out _).mono ?_; rintro e w1 ⟨rfl, hb⟩) | go_in)
  go_ret
  exact ⟨rfl, then_below ((Below.refl _ _).alloc (Nat.le_refl _) _) hb⟩
set_option maxRecDepth 20000 in
theorem frames_nil (a z : Int) (w : World) : Calls Try.prog 20 #[.pointer none, .int .i64 a, .int .i64 z] w fun e w' => e = .returned (.tuple #[.slice none 0 0, .int .i64 1]) ∧ w' = w := by
  go_enter Try.func20, Try.ntmps20
  go_wp2_with fail
  go_ret2
  exact ⟨rfl, rfl⟩
def imgCells (x : Img) : List Value := [.int .i64 x.page, .string (bs x.data)]
theorem imgs_new (w : World) (l : List Img) : ImgsAt (w.alloc (.cells (l.flatMap imgCells).toArray 53)) (.slice (some ⟨w.heap.size, 0, none⟩) l.length l.length) l := by
  refine ⟨_, _, rfl, fun k hk => ⟨w.heap.size, rfl, by simp, ?_, ?_⟩⟩
  all_goals
    rw [cell_of_block (heap_alloc_new w _)]
    simp only [List.getElem?_toArray]
    induction l generalizing k with
    | nil => simp at hk
    | cons f r ih =>
      cases k with
      | zero => rfl
      | succ k =>
        have := ih k (by simpa using hk)
        have e : (f :: r).flatMap imgCells = imgCells f ++ r.flatMap imgCells := rfl
        rw [e, List.getElem?_append_right (by simp [imgCells]; omega)]
        have e2 : (imgCells f).length = 2 := rfl
        rw [e2]
        first
          | (rw [show (k + 1) * 2 - 2 = k * 2 by omega]; exact this)
          | (rw [show (k + 1) * 2 + 1 - 2 = k * 2 + 1 by omega]; exact this)
/-! ### The examples of works, on the models -/
def exG0 : Lg := ⟨⟨0, 0, 0⟩, false, [], startP 0, false, false⟩
theorem ex_open : lopenM newM = (some exG0, 0) := by
  unfold lopenM firstM newM
  simp [exG0]
def exQ : Int × Lg × Dsk := lappendM 2 [⟨2, pageOf 113⟩] exG0 newM
theorem ex_append : exQ.1 = 0 := by decide +kernel
theorem ex_mark : ((lopenM exQ.2.2).1.map fun g => g.list.length) = some 1 := by decide +kernel
end Go.Proofs.Ytioafhkblmebmaa
