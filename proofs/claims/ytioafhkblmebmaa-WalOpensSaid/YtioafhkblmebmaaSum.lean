/- Sums of bytes in two words: what sum.words, blocks, Add, Of, Text come to. -/
import Derived.Test.YtioafhkblmebmaaNum
namespace Go.Proofs.Ytioafhkblmebmaa
open Go.RowKit
set_option linter.unusedVariables false
set_option linter.unusedSimpArgs false

/-- A block's eight bytes: what is behind a text's end is 0. -/
def pad8 (l : List UInt8) : List UInt8 := l ++ List.replicate (8 - l.length) 0
def wordA (l : List UInt8) : Int := num ((pad8 l).take 4)
def wordB (l : List UInt8) : Int := num ((pad8 l).drop 4)


def cells8 (l : List UInt8) : Array Value := ((pad8 l).map fun c => Value.int .u8 (c.toNat : Int)).toArray
theorem pad8_length (l : List UInt8) (h : l.length ≤ 8) : (pad8 l).length = 8 := by simp [pad8]; omega
theorem u8_back (c : UInt8) : UInt8.ofNat ((c.toNat : Int)).toNat = c := by simp
theorem pad8_conv (l : List UInt8) (h : l.length ≤ 8) (W : World) (T : TypeId) (b : Nat) (hb : W.heap[b]? = some (.cells (cells8 l) T (0, 0))) (o n : Nat) (hn : o + n ≤ 8) (i : Nat) (hi : i < n) :
    W.cell? ⟨b, o + i, none⟩ = some (.int .u8 ((((pad8 l).drop o).take n).map fun c => (c.toNat : Int))[i]!) := by
  have hl := pad8_length l h
  simp only [World.cell?, hb, cells8]
  have h1 : o + i < (pad8 l).length := by omega
  simp [List.getElem?_take, List.getElem?_drop, hi, h1]
set_option maxRecDepth 20000 in
theorem conv8 (l : List UInt8) (h : l.length ≤ 8) (W : World) (T : TypeId) (b : Nat) (hb : W.heap[b]? = some (.cells (cells8 l) T (0, 0))) (o n c : Nat) (hn : o + n ≤ 8) :
    (convert 55 9 (.slice (some ⟨b, o, none⟩) n c)).run Try.prog W = .ok (.string (bs (((pad8 l).drop o).take n))) W := by
  have hl := pad8_length l h
  have := run_convert_cells (P := Try.prog) W 55 9 5 Try.underlying55 Try.underlying5 Try.underlying9 b o n c ((((pad8 l).drop o).take n).map fun c => (c.toNat : Int)) (by simp; omega)
    (by intro i hi; rw [pad8_conv l h W T b hb o n hn i hi, List.getElem!_eq_getElem?_getD, List.getD_eq_getElem?_getD]; rfl)
  rw [this]
  congr 3
  simp [u8_back, Function.comp_def]
theorem copy8 (l : List UInt8) (h : l.length ≤ 8) (W : World) (T : TypeId) :
    (Builtin.copy_ #[55, 9] 3 #[.slice (some ⟨W.heap.size, 0, none⟩) 8 8, .string (bs l)]).run Try.prog (W.alloc (.cells #[.int .u8 0, .int .u8 0, .int .u8 0, .int .u8 0, .int .u8 0, .int .u8 0, .int .u8 0, .int .u8 0] T)) =
      .ok (goInt l.length) (W.alloc (.cells (cells8 l) T)) := by
  rw [run_copy_string (P := Try.prog) _ 55 9 3 5 W.heap.size 0 8 8 #[.int .u8 0, .int .u8 0, .int .u8 0, .int .u8 0, .int .u8 0, .int .u8 0, .int .u8 0, .int .u8 0] T l Try.underlying55 (by kernel_rfl) (by simp [World.alloc, -World.alloc_eq]) h (by simpa using h), setRow_alloc]
  congr 3
  apply Array.ext'
  simp [cells8, pad8]
  match l, h with
  | [], _ => rfl
  | [_], _ => rfl
  | [_, _], _ => rfl
  | [_, _, _], _ => rfl
  | [_, _, _, _], _ => rfl
  | [_, _, _, _, _], _ => rfl
  | [_, _, _, _, _, _], _ => rfl
  | [_, _, _, _, _, _, _], _ => rfl
  | [_, _, _, _, _, _, _, _], _ => rfl
  | _ :: _ :: _ :: _ :: _ :: _ :: _ :: _ :: _ :: _, h => simp at h

set_option maxHeartbeats 400000 in
theorem words_any (l : List UInt8) (w : World) (hs : l.length ≤ 8) :
    Calls Try.prog 83 #[.string (bs l)] w fun e w' => e = .returned (.tuple #[.int .u32 (wordA l), .int .u32 (wordB l)]) ∧ Below w.heap.size w w' := by
  have hp := pad8_length l hs
  have hcopy := copy8 l hs
  have hcv1 := conv8 l hs (w.alloc (.cells (cells8 l) 144)) 144 w.heap.size (by simp [World.alloc, -World.alloc_eq]) 0 4 8 (by omega)
  have hcv2 := fun (W : World) (hb : Below (w.heap.size + 1) (w.alloc (.cells (cells8 l) 144)) W) => conv8 l hs W 144 w.heap.size (by rw [hb.block _ (by omega)]; simp [World.alloc, -World.alloc_eq]) 4 4 4 (by omega)
  obtain ⟨a, b, c, d, e, f, g, h, hl⟩ : ∃ a b c d e f g h, pad8 l = [a, b, c, d, e, f, g, h] := by
    match pad8 l, hp with
    | [a, b, c, d, e, f, g, h], _ => exact ⟨a, b, c, d, e, f, g, h, rfl⟩
  have hA : wordA l = num [a, b, c, d] := by simp [wordA, hl]
  have hB : wordB l = num [e, f, g, h] := by simp [wordB, hl]
  rw [hA, hB]
  rw [hl] at hcv1 hcv2
  simp only [List.drop, List.take] at hcv1 hcv2
  clear hA hB hl hp
  go_enter Try.func83, Try.ntmps83
  go_wp2_with fail
  refine (takeFour_yes _ _ _ _ _ _ (by simp)).mono ?_
  rintro e w1 ⟨rfl, hb1⟩
  have hb0 : Below w.heap.size w w1 := ((Below.refl _ _).alloc (Nat.le_refl _) _).trans (hb1.mono (by simp))
  have hcv3 := hcv2 w1 (hb1.mono (by simp))
  clear hcv2 hcv1
  go_wp2_with fail
  refine (takeFour_yes _ _ _ _ _ _ (by simp)).mono ?_
  rintro e w2 ⟨rfl, hb2⟩
  go_wp2_with fail
  go_ret2
  exact ⟨rfl, then_below hb0 hb2⟩

set_option maxHeartbeats 400000 in
theorem addOne_any (x y pa pb : Int) (b : Nat) (w : World) (hb : w.heap[b]? = some (.cells #[.int .u32 pa, .int .u32 pb] 73 (0, 0))) :
    Calls Try.prog 76 #[.int .u32 x, .int .u32 y, .pointer (some ⟨b, 0, none⟩)] w fun e w' => e = .returned (.tuple #[]) ∧ Frm (· = b) w w' ∧
      w'.heap[b]? = some (.cells #[.int .u32 ((pa + (x + pb)) % 4294967296), .int .u32 ((pb + (y + (pa + (x + pb)))) % 4294967296)] 73 (0, 0)) := by
  have c0 := cell_of_block hb 0
  have c1 := cell_of_block hb 1
  have f0 := free_of_block hb 0
  have f1 := free_of_block hb 1
  simp at c0 c1
  go_enter Try.func76, Try.ntmps76
  go_wp2
  go_end0
  refine ⟨rfl, ((Frm.refl (· = b) w).setCell (p := ⟨b, 0, none⟩) (.inl rfl) _).setCell (p := ⟨b, 1, none⟩) (.inl rfl) _, ?_⟩
  rw [heap_setCell_same (heap_setCell_same hb 0 _) 1 _]
  rfl

def stepSum (p : Int × Int) (x y : Int) : Int × Int := ((p.1 + (x + p.2)) % 4294967296, (p.2 + (y + (p.1 + (x + p.2)))) % 4294967296)
def sumN : Nat → Int × Int → List UInt8 → Int × Int
  | 0, p, _ => p
  | n + 1, p, l => if l.isEmpty then p else sumN n (stepSum p (wordA (l.take 8)) (wordB (l.take 8))) (l.drop 8)
def sumAdd (p : Int × Int) (l : List UInt8) : Int × Int := sumN l.length p l
theorem sumN_nil (n : Nat) (p : Int × Int) : sumN n p [] = p := by cases n <;> simp [sumN]
theorem sumN_fuel : ∀ (n m : Nat) (p : Int × Int) (l : List UInt8), l.length ≤ n → l.length ≤ m → sumN n p l = sumN m p l := by
  intro n
  induction n with
  | zero => intro m p l h1 _; obtain rfl : l = [] := List.length_eq_zero_iff.1 (by omega); simp [sumN_nil]
  | succ n ih =>
    intro m p l h1 h2
    cases l with
    | nil => simp [sumN_nil]
    | cons c l =>
      cases m with
      | zero => simp at h2
      | succ m =>
        simp only [sumN, List.isEmpty_cons, Bool.false_eq_true, if_false]
        exact ih _ _ _ (by simp at h1 ⊢; omega) (by simp at h2 ⊢; omega)
theorem sumAdd_nil (p : Int × Int) : sumAdd p [] = p := rfl
theorem sumAdd_step (p : Int × Int) (l : List UInt8) (h : 0 < l.length) : sumAdd p l = sumAdd (stepSum p (wordA (l.take 8)) (wordB (l.take 8))) (l.drop 8) := by
  unfold sumAdd
  cases l with
  | nil => simp at h
  | cons c l =>
    simp only [List.length_cons, sumN, List.isEmpty_cons, Bool.false_eq_true, if_false]
    exact sumN_fuel _ _ _ _ (by simp) (Nat.le_refl _)
attribute [irreducible] sumAdd stepSum wordA wordB

def sizeOfStr : Value → Nat | .string s => s.size | _ => 0
def SumRel (b : Nat) (T : TypeId) (p : Int × Int) (l : List UInt8) (w : World) (v : Value) (wr : World) : Prop :=
  ∃ (m : List UInt8) (q : Int × Int), v = .string (bs m) ∧ sumAdd q m = sumAdd p l ∧ wr.heap[b]? = some (.cells #[.int .u32 q.1, .int .u32 q.2] T (0, 0)) ∧ Frm (· = b) w wr ∧ m.length ≤ l.length

set_option maxHeartbeats 400000 in
theorem blocks_any (l : List UInt8) (p : Int × Int) (b : Nat) (w : World) (hl : l.length ≤ 9223372036854775807) (hb : w.heap[b]? = some (.cells #[.int .u32 p.1, .int .u32 p.2] 73 (0, 0))) :
    Calls Try.prog 75 #[.string (bs l), .func (.func 76) #[] #[.pointer (some ⟨b, 0, none⟩)]] w fun e w' => e = .returned (.tuple #[]) ∧ Frm (· = b) w w' ∧
      w'.heap[b]? = some (.cells #[.int .u32 (sumAdd p l).1, .int .u32 (sumAdd p l).2] 73 (0, 0)) := by
  go_enter Try.func75, Try.ntmps75
  go_wp2_with fail
  go_loopw [0] (fun s wr => SumRel b 73 p l w s wr) (fun s _ => sizeOfStr s)
  case atStart => exact ⟨l, p, rfl, rfl, hb, Frm.refl _ _, Nat.le_refl _⟩
  case round =>
    obtain ⟨m, q, rfl, hq, hbr, hfr, hm⟩ := hrel
    have Hq := hid hq
    have Hb := hid hbr
    clear hq hbr hb
    by_cases h8 : 8 ≤ m.length
    · have hlt : 0 < m.length := by omega
      have ht : (m.take 8).length ≤ 8 := by simp; omega
      go_wp2_with fail
      refine (words_any _ _ ht).mono ?_
      rintro e w1 ⟨rfl, hb1⟩
      have hbl : w1.heap[b]? = some (.cells #[.int .u32 q.1, .int .u32 q.2] 73 (0, 0)) := (hb1.block b (lt_of_block Hb.out)).trans Hb.out
      have Hb1 := hid hbl
      clear hbl
      go_wp2_with fail
      refine (addOne_any _ _ q.1 q.2 b _ Hb1.out).mono ?_
      rintro e w2 ⟨rfl, hf2, hb2⟩
      have Hb2 := hid hb2
      clear hb2
      go_wp2_with fail
      go_roundw
      case rel =>
        refine ⟨m.drop 8, stepSum q (wordA (m.take 8)) (wordB (m.take 8)), ?_, ?_, ?_, (hfr.trans (Frm.of_below hb1)).trans hf2, ?_⟩
        · first | rfl | rw [show (m.drop 8).take (m.length - 8) = m.drop 8 from List.take_of_length_le (by simp)]
        · rw [← Hq.out, sumAdd_step q m hlt]
        · rw [Hb2.out]; simp only [stepSum]
        · simp; omega
      case measure => simp [sizeOfStr, bs_size]; omega
    · by_cases hlt : 0 < m.length
      · have ht : m.length ≤ 8 := by omega
        have hk : m.take 8 = m := List.take_of_length_le ht
        have Hk := hid hk
        clear hk
        go_wp2_with fail
        refine (words_any _ _ ht).mono ?_
        rintro e w1 ⟨rfl, hb1⟩
        have hbl : w1.heap[b]? = some (.cells #[.int .u32 q.1, .int .u32 q.2] 73 (0, 0)) := (hb1.block b (lt_of_block Hb.out)).trans Hb.out
        have Hb1 := hid hbl
        clear hbl
        go_wp2_with fail
        refine (addOne_any _ _ q.1 q.2 b _ Hb1.out).mono ?_
        rintro e w2 ⟨rfl, hf2, hb2⟩
        have Hb2 := hid hb2
        clear hb2
        go_wp2_with fail
        go_roundw
        case rel =>
          refine ⟨[], stepSum q (wordA m) (wordB m), ?_, ?_, ?_, (hfr.trans (Frm.of_below hb1)).trans hf2, ?_⟩
          · simp; rfl
          · rw [← Hq.out, sumAdd_step q m hlt, Hk.out, List.drop_eq_nil_of_le ht]
          · rw [Hb2.out]; simp only [stepSum]
          · simp
        case measure => simp [sizeOfStr, bs_size]; omega
      · have h0 : m = [] := List.length_eq_zero_iff.1 (by omega)
        subst h0
        go_wp2_with fail
        go_end0
        rw [sumAdd_nil] at Hq
        refine ⟨rfl, hfr, ?_⟩
        rw [← Hq.out]
        exact Hb.out

set_option maxHeartbeats 400000 in
theorem add_any (l : List UInt8) (p : Int × Int) (w : World) (hl : l.length ≤ 9223372036854775807) :
    Calls Try.prog 61 #[.agg #[.int .u32 p.1, .int .u32 p.2], .string (bs l)] w fun e w' => e = .returned (.agg #[.int .u32 (sumAdd p l).1, .int .u32 (sumAdd p l).2]) ∧ Below w.heap.size w w' := by
  go_enter Try.func61, Try.ntmps61
  go_wp2_with fail
  refine (blocks_any l p w.heap.size _ hl (heap_alloc_old (heap_alloc_new _ _))).mono ?_
  rintro e w1 ⟨rfl, hf, hb⟩
  have hb2 : w1.heap[w.heap.size + 1]? = some (.cells #[.int .u32 0, .int .u32 0] 73 (0, 0)) := by
    rw [hf.block _ (by simp) (by omega)]
    have := heap_alloc_new (w.alloc (.cells #[.int .u32 p.1, .int .u32 p.2] 73)) (.cells #[.int .u32 0, .int .u32 0] 73)
    simpa using this
  have hf0 : Below w.heap.size w w1 := (((Frm.refl (· = w.heap.size) w).alloc _).alloc _ |>.trans (hf.mono (fun _ h => h))).below (by omega)
  have c0 := cell_of_block hb 0
  have c1 := cell_of_block hb 1
  have d0 := cell_of_block hb2 0
  have d1 := cell_of_block hb2 1
  have f0 := free_of_block hb2 0
  have f1 := free_of_block hb2 1
  simp at c0 c1 d0 d1
  have Hb := hid hb
  have Hb2 := hid hb2
  clear hb hb2 hf
  go_wp2_with fail
  refine bodyPost_ret (v := .agg #[.int .u32 (sumAdd p l).1, .int .u32 (sumAdd p l).2]) (by simp [results, Try.results61, go_sem, d0, d1, f0, f1]) rfl ⟨rfl, ?_⟩
  exact (hf0.setCell (by simp) _).setCell (by simp) _

set_option maxHeartbeats 400000 in
theorem of_any (l : List UInt8) (w : World) (hl : l.length ≤ 9223372036854775807) :
    Calls Try.prog 53 #[.string (bs l)] w fun e w' => e = .returned (.agg #[.int .u32 (sumAdd (0, 0) l).1, .int .u32 (sumAdd (0, 0) l).2]) ∧ Below w.heap.size w w' := by
  go_enter Try.func53, Try.ntmps53
  go_wp2_with fail
  refine (add_any l (0, 0) _ hl).mono ?_
  rintro e w1 ⟨rfl, hb1⟩
  have hb2 : w1.heap[w.heap.size]? = some (.cells #[.int .u32 0, .int .u32 0] 73 (0, 0)) := (hb1.block _ (by simp)).trans (heap_alloc_new _ _)
  have hf0 : Below w.heap.size w w1 := ((Below.refl _ _).alloc (Nat.le_refl _) _).trans (hb1.mono (by simp))
  have d0 := cell_of_block hb2 0
  have d1 := cell_of_block hb2 1
  have f0 := free_of_block hb2 0
  have f1 := free_of_block hb2 1
  simp at d0 d1
  clear hb2 hb1
  go_wp2_with fail
  refine bodyPost_ret (v := .agg #[.int .u32 (sumAdd (0, 0) l).1, .int .u32 (sumAdd (0, 0) l).2]) (by simp [results, Try.results53, go_sem, d0, d1, f0, f1]) rfl ⟨rfl, ?_⟩
  exact (hf0.setCell (by simp) _).setCell (by simp) _

def textOf (p : Int × Int) : List UInt8 := four p.1 ++ four p.2
set_option maxHeartbeats 400000 in
theorem text_any (p : Int × Int) (w : World) (h0 : 0 ≤ p.1) (h1 : p.1 < 4294967296) (h2 : 0 ≤ p.2) (h3 : p.2 < 4294967296) :
    Calls Try.prog 59 #[.agg #[.int .u32 p.1, .int .u32 p.2]] w fun e w' => e = .returned (.string (bs (textOf p))) ∧ Below w.heap.size w w' := by
  go_enter Try.func59, Try.ntmps59
  have c0 := fun d os => cell_regrown (w := w.alloc (.cells #[.int .u32 p.1, .int .u32 p.2] 73)) (a := ⟨w.heap.size, 0, none⟩) (v := .int .u32 p.1) (by simp) d os
  have c1 := fun d os => cell_regrown (w := w.alloc (.cells #[.int .u32 p.1, .int .u32 p.2] 73)) (a := ⟨w.heap.size, 1, none⟩) (v := .int .u32 p.2) (by simp) d os
  have hl : ∀ n, (four n).length = 4 := fun n => rfl
  go_wp2_with fail
  refine region_below (by kernel_rfl) (by kernel_rfl) ?_
  repeat (go_big_quiet_step ((go_at_call 73; exact Calls.regrown_of (four_any _ _ (by assumption) (by assumption)))))
  refine wpQuiet_nil ?_
  intro w1 hb1
  go_wp2_with fail
  go_ret
  exact ⟨rfl, ((Below.refl _ _).alloc (Nat.le_refl _) _).trans (hb1.mono (by simp))⟩
end Go.Proofs.Ytioafhkblmebmaa
