/- Equality of heads, pairs and frames; works: that a head and a frame are put and taken. -/
import Derived.Test.YtnfoahedkkamhaaFrQ
namespace Go.Proofs.Ytnfoahedkkamhaa
open Go.RowKit
set_option linter.unusedVariables false
set_option linter.unusedSimpArgs false

theorem neq_pair (a b c d : Int) (w : World) :
    (binOp .neq 33 (.agg #[.int .u32 a, .int .u32 b]) (.agg #[.int .u32 c, .int .u32 d])).run Try.prog w = .ok (.bool (!(a == c && b == d))) w := by
  have hS : Try.prog.underlying 33 = some (.struct (Try.prog.fieldsOf 33)) := by kernel_rfl
  have hp : Try.prog.stoodInHeld 33 = false := by kernel_rfl
  rw [run_neq_struct, show (10000 : Nat) = 9999 + 1 from rfl, run_equalIn_agg w 9999 33 _ _ hS hp]
  simp only [Program.fieldsOf, Try.underlying33]
  go_simp
  by_cases h1 : a = c <;> by_cases h2 : b = d <;> simp [h1, h2]
theorem eql_pair (a b c d : Int) (w : World) :
    (binOp .eql 33 (.agg #[.int .u32 a, .int .u32 b]) (.agg #[.int .u32 c, .int .u32 d])).run Try.prog w = .ok (.bool (a == c && b == d)) w := by
  have hS : Try.prog.underlying 33 = some (.struct (Try.prog.fieldsOf 33)) := by kernel_rfl
  have hp : Try.prog.stoodInHeld 33 = false := by kernel_rfl
  rw [run_eql_struct, show (10000 : Nat) = 9999 + 1 from rfl, run_equalIn_agg w 9999 33 _ _ hS hp]
  simp only [Program.fieldsOf, Try.underlying33]
  go_simp
  by_cases h1 : a = c <;> by_cases h2 : b = d <;> simp [h1, h2]
theorem neq_hd (a b c d e f : Int) (w : World) :
    (binOp .neq 27 (.agg #[.int .u64 a, .int .i64 b, .int .i64 c]) (.agg #[.int .u64 d, .int .i64 e, .int .i64 f])).run Try.prog w = .ok (.bool (!(a == d && (b == e && c == f)))) w := by
  have hS : Try.prog.underlying 27 = some (.struct (Try.prog.fieldsOf 27)) := by kernel_rfl
  have hp : Try.prog.stoodInHeld 27 = false := by kernel_rfl
  rw [run_neq_struct, show (10000 : Nat) = 9999 + 1 from rfl, run_equalIn_agg w 9999 27 _ _ hS hp]
  simp only [Program.fieldsOf, Try.underlying27]
  go_simp
  by_cases h1 : a = d <;> by_cases h2 : b = e <;> by_cases h3 : c = f <;> simp [h1, h2, h3]
theorem eql_hd (a b c d e f : Int) (w : World) :
    (binOp .eql 27 (.agg #[.int .u64 a, .int .i64 b, .int .i64 c]) (.agg #[.int .u64 d, .int .i64 e, .int .i64 f])).run Try.prog w = .ok (.bool (a == d && (b == e && c == f))) w := by
  have hS : Try.prog.underlying 27 = some (.struct (Try.prog.fieldsOf 27)) := by kernel_rfl
  have hp : Try.prog.stoodInHeld 27 = false := by kernel_rfl
  rw [run_eql_struct, show (10000 : Nat) = 9999 + 1 from rfl, run_equalIn_agg w 9999 27 _ _ hS hp]
  simp only [Program.fieldsOf, Try.underlying27]
  go_simp
  by_cases h1 : a = d <;> by_cases h2 : b = e <;> by_cases h3 : c = f <;> simp [h1, h2, h3]
theorem neq_fr (a b d e : Int) (s t : List UInt8) (w : World) :
    (binOp .neq 37 (.agg #[.int .i64 a, .int .i64 b, .string (bs s)]) (.agg #[.int .i64 d, .int .i64 e, .string (bs t)])).run Try.prog w = .ok (.bool (!(a == d && (b == e && s == t)))) w := by
  have hS : Try.prog.underlying 37 = some (.struct (Try.prog.fieldsOf 37)) := by kernel_rfl
  have hp : Try.prog.stoodInHeld 37 = false := by kernel_rfl
  rw [run_neq_struct, show (10000 : Nat) = 9999 + 1 from rfl, run_equalIn_agg w 9999 37 _ _ hS hp]
  simp only [Program.fieldsOf, Try.underlying37]
  go_simp
  by_cases h1 : a = d <;> by_cases h2 : b = e <;> by_cases h3 : s = t <;> simp [h1, h2, h3]
theorem eql_fr (a b d e : Int) (s t : List UInt8) (w : World) :
    (binOp .eql 37 (.agg #[.int .i64 a, .int .i64 b, .string (bs s)]) (.agg #[.int .i64 d, .int .i64 e, .string (bs t)])).run Try.prog w = .ok (.bool (a == d && (b == e && s == t))) w := by
  have hS : Try.prog.underlying 37 = some (.struct (Try.prog.fieldsOf 37)) := by kernel_rfl
  have hp : Try.prog.stoodInHeld 37 = false := by kernel_rfl
  rw [run_eql_struct, show (10000 : Nat) = 9999 + 1 from rfl, run_equalIn_agg w 9999 37 _ _ hS hp]
  simp only [Program.fieldsOf, Try.underlying37]
  go_simp
  by_cases h1 : a = d <;> by_cases h2 : b = e <;> by_cases h3 : s = t <;> simp [h1, h2, h3]
theorem guard_pair : Try.prog.eqGuardType Try.prog.depth 33 = false := by kernel_rfl
theorem guard_hd : Try.prog.eqGuardType Try.prog.depth 27 = false := by kernel_rfl
theorem guard_fr : Try.prog.eqGuardType Try.prog.depth 37 = false := by kernel_rfl

set_option maxHeartbeats 400000 in
theorem page_any (c : UInt8) (w : World) :
    Calls Try.prog 12 #[.int .u8 (c.toNat : Int)] w fun e w' => e = .returned (.string (bs (List.replicate 512 c))) ∧ Below w.heap.size w w' := by
  have kc := fun (W : World) (T : TypeId) => run_convert_cells (P := Try.prog) (W.alloc (.cells #[.int .u8 (c.toNat : Int)] T)) 52 9 5 Try.underlying52 Try.underlying5 Try.underlying9 W.heap.size 0 1 1 [(c.toNat : Int)] rfl
    (by intro i hi; match i, hi with | 0, _ => simp)
  have e1 : ([(c.toNat : Int)].map fun n => UInt8.ofNat n.toNat) = [c] := by simp
  simp only [e1] at kc
  go_enter Try.func12, Try.ntmps12
  go_wp2_with fail
  refine (Try.strings_Repeat (bs [c]) 512 _ (by omega) (by rw [bs_size]; simp)).mono ?_
  rintro e w1 ⟨rfl, hb1⟩
  go_wp2_with fail
  go_ret
  refine ⟨?_, ((Below.refl _ _).alloc (Nat.le_refl _) _).trans (hb1.mono (by simp))⟩
  refine ret_str ?_
  exact repeat_one c 512

def pageX : List UInt8 := List.replicate 512 120
theorem pageX_len : pageX.length = 512 := List.length_replicate ..
theorem page_x (w : World) : Calls Try.prog 12 #[.int .u8 120] w fun e w' => e = .returned (.string (bs pageX)) ∧ Below w.heap.size w w' := page_any 120 w
def hd7 : Hd := ⟨7, 2, 3⟩
def frX : Fr := ⟨1, 0, pageX⟩
theorem start_wf (n : Int) : PairWf (startP n) := sumAdd_bd _ _ (by decide) (by decide)
theorem frQ_wf {p : Int × Int} (hp : PairWf p) (salt : Int) (f : Fr) : PairWf (frQ p salt f) := by
  have := sumAdd_bd p (frHead salt f) hp.1 hp.2
  exact sumAdd_bd _ _ this.1 this.2
theorem frX_ok : frOk frX = true := by
  unfold frOk frX
  simp only [pageX_len]
  decide
theorem frX_other : frQ (startP 7) 7 frX ≠ startP 7 := by decide +kernel
attribute [irreducible] pageX
end Go.Proofs.Ytnfoahedkkamhaa
