/- ship.Take: what it comes to. -/
import Derived.Test.YtdgpdfigipplpaaShipB
namespace Go.Proofs.Ytdgpdfigipplpaa
open Go.RowKit
set_option linter.unusedVariables false
set_option linter.unusedSimpArgs false

theorem eight_of (l : List UInt8) (h : 8 ≤ l.length) : ∃ a b c d e f g i t, l = a :: b :: c :: d :: e :: f :: g :: i :: t := by
  match l, h with
  | a :: b :: c :: d :: e :: f :: g :: i :: t, _ => exact ⟨a, b, c, d, e, f, g, i, t, rfl⟩
theorem takeEight_any (l : List UInt8) (w : World) (h : 8 ≤ l.length) (hs : l.length ≤ 9223372036854775807) :
    Calls Try.prog 27 #[.string (bs l)] w fun e' w' => e' = .returned (.tuple #[.int .u64 (num (l.take 8)), .int .i64 0]) ∧ Below w.heap.size w w' := by
  obtain ⟨a, b, c, d, e, f, g, i, t, rfl⟩ := eight_of l h
  exact takeEight_yes a b c d e f g i t w (by simpa using hs)

theorem num8_lt (l : List UInt8) : 0 ≤ num (l.take 8) ∧ num (l.take 8) < 18446744073709551616 := by
  refine ⟨num_lo _, ?_⟩
  have h := num_hi (l.take 8)
  have h2 : (l.take 8).length ≤ 8 := by simp; omega
  have h3 : (256 : Nat) ^ (l.take 8).length ≤ 256 ^ 8 := Nat.pow_le_pow_right (by decide) h2
  have h4 : ((256 : Int) ^ (l.take 8).length) = ((256 ^ (l.take 8).length : Nat) : Int) := by simp
  omega

set_option maxHeartbeats 400000 in
theorem takeOne (l : List UInt8) (b : Nat) (w : World) (h : 8 ≤ l.length) (hs : l.length ≤ 9223372036854775807) (hb : w.heap[b]? = some (.cells #[.string (bs l)] 9 (0, 0))) :
    Calls Try.prog 26 #[.pointer (some ⟨b, 0, none⟩)] w fun e w' => e = .returned (.int .u64 (num (l.take 8))) ∧ Frm (· = b) w w' ∧
      w'.heap[b]? = some (.cells #[.string (bs (l.drop 8))] 9 (0, 0)) := by
  have c0 := cell_of_block hb 0
  simp at c0
  have Hb := hid hb
  clear hb
  go_enter Try.func26, Try.ntmps26
  go_wp2_with fail
  refine (takeEight_any l _ h hs).mono ?_
  rintro e w1 ⟨rfl, hb1⟩
  have hb2 : w1.heap[b]? = some (.cells #[.string (bs l)] 9 (0, 0)) := (hb1.block b (lt_of_block Hb.out)).trans Hb.out
  have d0 := cell_of_block hb2 0
  have f0 := free_of_block hb2 0
  simp at d0
  have Hb2 := hid hb2
  clear hb2 c0
  go_wp2_with fail
  go_ret
  refine ⟨rfl, (Frm.of_below hb1).trans ((Frm.refl (fun x => x = b) w1).setCell (p := ⟨b, 0, none⟩) (.inl rfl) _), ?_⟩
  rw [heap_setCell_same Hb2.out 0 _]
  rfl

def parseI : Nat → Int → List UInt8 → List Img
  | 0, _, _ => []
  | f + 1, r, l => if 0 < r ∧ 520 ≤ l.length then (num (l.take 8) % 1099511627776, (l.drop 8).take 512) :: parseI f (r - 1) (l.drop 520) else []
theorem parseI_fuel : ∀ (n m : Nat) (r : Int) (l : List UInt8), l.length ≤ n → l.length ≤ m → parseI n r l = parseI m r l := by
  intro n
  induction n with
  | zero =>
    intro m r l h1 _
    cases m with
    | zero => rfl
    | succ m => unfold parseI; rw [if_neg (by omega)]
  | succ n ih =>
    intro m r l h1 h2
    cases m with
    | zero => conv => lhs; unfold parseI
              conv => rhs; unfold parseI
              rw [if_neg (by omega)]
    | succ m =>
      conv => lhs; unfold parseI
      conv => rhs; unfold parseI
      by_cases h : 0 < r ∧ 520 ≤ l.length
      · rw [if_pos h, if_pos h, ih m (r - 1) (l.drop 520) (by simp; omega) (by simp; omega)]
      · rw [if_neg h, if_neg h]
def parseAll (r : Int) (l : List UInt8) : List Img := parseI l.length r l
theorem parseAll_go (r : Int) (l : List UInt8) (h : 0 < r) (h2 : 520 ≤ l.length) : parseAll r l = (num (l.take 8) % 1099511627776, (l.drop 8).take 512) :: parseAll (r - 1) (l.drop 520) := by
  unfold parseAll
  obtain ⟨n, hn⟩ : ∃ n, l.length = n + 1 := ⟨l.length - 1, by omega⟩
  rw [hn]
  conv => lhs; unfold parseI
  rw [if_pos ⟨h, h2⟩, parseI_fuel n (l.drop 520).length (r - 1) (l.drop 520) (by simp; omega) (Nat.le_refl _)]
theorem parseAll_stop (r : Int) (l : List UInt8) (h : ¬ (0 < r ∧ 520 ≤ l.length)) : parseAll r l = [] := by
  unfold parseAll
  cases hn : l.length with
  | zero => rfl
  | succ n => unfold parseI; rw [if_neg (by rw [hn] at h; rw [hn]; exact h)]
theorem parseAll_eq (r : Int) (l : List UInt8) : parseAll r l = parseI l.length r l := rfl
attribute [irreducible] parseAll

def zeroSh : Sh := ⟨0, 0, 0, false, 0, []⟩
def parseSh (s : List UInt8) : Sh :=
  ⟨num ((s.drop 8).take 8) % 256, num ((s.drop 16).take 8), num ((s.drop 24).take 8), num ((s.drop 32).take 8) == 1, num ((s.drop 40).take 8) % 1099511627776, parseAll (num ((s.drop 48).take 8)) (s.drop 56)⟩
def takeM (s : List UInt8) : Sh × Int :=
  if s.length < 56 ∨ s.length % 8 ≠ 0 then (zeroSh, 7)
  else if ¬ s.take 8 = textOf (sumAdd (0, 0) (s.drop 8)) then (zeroSh, 40)
  else if mayB (parseSh s) = true ∧ putL (parseSh s) = s then (parseSh s, 0) else (zeroSh, 7)

def zeroV : Value := .agg #[.int .u8 0, .int .u64 0, .int .u64 0, .bool false, .int .i64 0, .slice none 0 0]

set_option maxHeartbeats 400000 in
theorem take_short (s : List UInt8) (w : World) (h : s.length < 56) :
    Calls Try.prog 12 #[.string (bs s)] w fun e w' => e = .returned (.tuple #[zeroV, .int .i64 7]) ∧ Below w.heap.size w w' := by
  have h1 : decide ((s.length : Int) < 56) = true := by simp; omega
  go_enter Try.func12, Try.ntmps12
  go_wp2_with fail
  refine bodyPost_ret (v := .tuple #[zeroV, .int .i64 7]) (by simp [results, Try.results12, go_sem, zeroV]) rfl ⟨rfl, ?_⟩
  repeat (first | exact (Below.refl _ _).alloc (Nat.le_refl _) _ | refine Below.setCell ?_ (by simp) _)

set_option maxHeartbeats 400000 in
theorem take_odd (s : List UInt8) (w : World) (h : 56 ≤ s.length) (h2 : s.length % 8 ≠ 0) (hs : s.length ≤ 1099511627776) :
    Calls Try.prog 12 #[.string (bs s)] w fun e w' => e = .returned (.tuple #[zeroV, .int .i64 7]) ∧ Below w.heap.size w w' := by
  have h1 : decide ((s.length : Int) < 56) = false := by simp; omega
  have h3 : ((s.length : Int) % 8 != 0) = true := by simp; omega
  go_enter Try.func12, Try.ntmps12
  go_wp2_with fail
  refine bodyPost_ret (v := .tuple #[zeroV, .int .i64 7]) (by simp [results, Try.results12, go_sem, zeroV]) rfl ⟨rfl, ?_⟩
  repeat (first | exact (Below.refl _ _).alloc (Nat.le_refl _) _ | refine Below.setCell ?_ (by simp) _)

set_option maxHeartbeats 400000 in
theorem take_sum (s : List UInt8) (w : World) (h : 56 ≤ s.length) (h2 : s.length % 8 = 0) (hs : s.length ≤ 1099511627776) (hno : ¬ s.take 8 = textOf (sumAdd (0, 0) (s.drop 8))) :
    Calls Try.prog 12 #[.string (bs s)] w fun e w' => e = .returned (.tuple #[zeroV, .int .i64 40]) ∧ Below w.heap.size w w' := by
  have h1 : decide ((s.length : Int) < 56) = false := by simp; omega
  have h3 : ((s.length : Int) % 8 != 0) = false := by simp; omega
  have h4 : (s.take 8 == textOf (sumAdd (0, 0) (s.drop 8))) = false := by simpa using hno
  obtain ⟨⟨q0, q1⟩, q2, q3⟩ := sumAdd_bd (0, 0) (s.drop 8) (by decide) (by decide)
  have h5 : (8 : Nat) ≤ s.length := by omega
  clear hno h2
  go_enter Try.func12, Try.ntmps12
  go_wp2_with fail
  refine region_below (by kernel_rfl) (by kernel_rfl) ?_
  repeat (go_big_quiet_step ((first | (go_at_call 24; exact Calls.regrown_of (of_any _ _ (by simp; omega))) | (go_at_call 23; exact Calls.regrown_of (text_any _ _ q0 q1 q2 q3)))))
  refine wpQuiet_nil ?_
  intro w1 hb1
  have hbw : Below w.heap.size w w1 := ((Below.refl _ _).alloc (Nat.le_refl _) _).trans (hb1.mono (by simp))
  obtain ⟨r0, r1, r2, r3, r4, r5, rf⟩ := cells6 ((hb1.block w.heap.size (by simp)).trans (heap_alloc_new _ _))
  clear hb1
  go_wp2_with fail
  refine bodyPost_ret (v := .tuple #[zeroV, .int .i64 40]) (by simp [results, Try.results12, go_sem, zeroV, r0, r1, r2, r3, r4, r5, rf]) rfl ⟨rfl, ?_⟩
  iterate 6 refine Below.setCell ?_ (by simp) _
  exact hbw

def imgCells (l : List Img) : List Value := (l.map fun x => [Value.int .i64 x.1, Value.string (bs x.2)]).flatten
theorem imgCells_length (l : List Img) : (imgCells l).length = l.length * 2 := by
  induction l with
  | nil => rfl
  | cons x l ih => simp only [imgCells, List.map_cons, List.flatten_cons, List.length_append, List.length_cons, List.length_nil] at *; omega
theorem imgCells_snoc (l : List Img) (x : Img) : imgCells (l ++ [x]) = imgCells l ++ [Value.int .i64 x.1, Value.string (bs x.2)] := by simp [imgCells]
theorem imgCells_at : ∀ (l : List Img) (j : Nat) (h : j < l.length), (imgCells l)[j * 2]? = some (.int .i64 l[j].1) ∧ (imgCells l)[j * 2 + 1]? = some (.string (bs l[j].2))
  | x :: l, 0, _ => by simp [imgCells]
  | x :: l, j + 1, h => by
    have := imgCells_at l j (by simpa using h)
    simp only [imgCells, List.map_cons, List.flatten_cons] at *
    refine ⟨?_, ?_⟩
    · rw [show (j + 1) * 2 = j * 2 + 1 + 1 by omega]
      simpa using this.1
    · rw [show (j + 1) * 2 + 1 = j * 2 + 1 + 1 + 1 by omega]
      simpa using this.2
theorem own_imgs {W : World} {base : Nat} {T : TypeId} {v : Value} {l : List Img} (h : W.ownsRow base T 2 v l.length (imgCells l)) : ImgsAt W v l := by
  rcases h.2 with ⟨rfl, h0⟩ | ⟨g, cap, cur, rfl, _, hg, _⟩
  · exact .inl ⟨⟨none, 0, by simp⟩, List.length_eq_zero_iff.1 h0⟩
  · refine .inr ⟨g, 0, cap, rfl, fun j hj => ?_⟩
    obtain ⟨h1, h2⟩ := imgCells_at l j hj
    have c1 := h.cells (g := g) rfl _ _ h1
    have c2 := h.cells (g := g) rfl _ _ h2
    rw [Addr.add_lit] at c1 c2
    exact ⟨c1, by rw [Nat.add_assoc]; exact c2⟩

theorem Lib.ownBlock_ne2 {w : World} {B : Nat} {e T : TypeId} {size : Nat} {v : Value} {n : Nat} {xs : List Value} {b : Nat} {cs : Array Value} {fr : Nat × Nat} (hown : w.ownsRow B e size v n xs) (hb : w.heap[b]? = some (.cells cs T fr)) (hTe : T ≠ e) : v.ownBlock ≠ some b := by
  rcases hown.2 with ⟨rfl, _⟩ | ⟨g, cap, cur, rfl, _, hg, _⟩
  · simp [Value.ownBlock]
  · intro h
    simp only [Value.ownBlock, Option.some.injEq] at h
    subst h
    rw [hg] at hb
    simp only [Option.some.injEq, Obj.cells.injEq] at hb
    exact hTe hb.2.1.symm

def TakeRel (s : List UInt8) (m0 : Sh) (many : Int) (R L M : Nat) (w : World) (v9 : Value) (wr : World) : Prop :=
  ∃ (j : Nat) (v : Value) (l1 : List Img) (lf : List UInt8), v9 = .int .u64 j ∧ l1.length = j ∧
    wr.heap[L]? = some (.cells #[.string (bs lf)] 9 (0, 0)) ∧
    wr.heap[M]? = some (.cells #[.int .u8 m0.kind, .int .u64 m0.epoch, .int .u64 m0.k, .bool m0.full, .int .i64 m0.pages, v] 28 (0, 0)) ∧
    wr.heap[R]? = some (.cells #[.int .u8 0, .int .u64 0, .int .u64 0, .bool false, .int .i64 0, .slice none 0 0] 28 (0, 0)) ∧
    wr.ownsRow w.heap.size 51 2 v j (imgCells l1) ∧
    l1 ++ parseAll (many - j) lf = parseAll many (s.drop 56) ∧ Below w.heap.size w wr ∧ 520 * j + lf.length ≤ s.length

theorem parseI_small : ∀ (n : Nat) (r : Int) (l : List UInt8), ∀ x ∈ parseI n r l, x.2.length ≤ 512
  | 0, r, l, x, hx => by simp [parseI] at hx
  | n + 1, r, l, x, hx => by
    unfold parseI at hx
    by_cases h : 0 < r ∧ 520 ≤ l.length
    · rw [if_pos h] at hx
      rcases List.mem_cons.1 hx with rfl | hx
      · simp; omega
      · exact parseI_small n _ _ x hx
    · rw [if_neg h] at hx
      simp at hx
theorem parseAll_small (r : Int) (l : List UInt8) : ∀ x ∈ parseAll r l, x.2.length ≤ 512 := by rw [parseAll_eq]; exact parseI_small _ _ _
theorem grown_set {W : World} {a : Addr} (u : Value) : W.grownBy (W.setCell a u) (some a.block) :=
  ⟨rfl, rfl, rfl, by simp [World.setCell], fun k _ hne => Below.heap_setCell W a u k (fun e => hne (by rw [e]))⟩
theorem take_step {s : List UInt8} {m0 : Sh} {many pg : Int} {R L M gg cap j : Nat} {w w9 : World} {v : Value} {l1 : List Img} {lf : List UInt8}
    (hLM : L < M) (hRL : R < L) (hwL : w.heap.size ≤ L) (hl1 : l1.length = j) (hg : (j : Int) < many) (hl : 520 ≤ lf.length) (hlen : 520 * j + lf.length ≤ s.length) (hpg : pg = num (lf.take 8))
    (hpar : l1 ++ parseAll (many - j) lf = parseAll many (s.drop 56))
    (hL : w9.heap[L]? = some (.cells #[.string (bs (lf.drop 8))] 9 (0, 0)))
    (hM : w9.heap[M]? = some (.cells #[.int .u8 m0.kind, .int .u64 m0.epoch, .int .u64 m0.k, .bool m0.full, .int .i64 m0.pages, v] 28 (0, 0)))
    (hR : w9.heap[R]? = some (.cells #[.int .u8 0, .int .u64 0, .int .u64 0, .bool false, .int .i64 0, .slice none 0 0] 28 (0, 0)))
    (hown : w9.ownsRow w.heap.size 51 2 (.slice (some ⟨gg, 0, none⟩) (j + 1) cap) (j + 1) (imgCells l1 ++ [.int .i64 (pg % 1099511627776), .string (bs ((lf.drop 8).take 512))]))
    (hB : Below w.heap.size w w9) :
    TakeRel s m0 many R L M w (.int .u64 ((j : Int) + 1)) ((w9.setCell ⟨M, 5, none⟩ (.slice (some ⟨gg, 0, none⟩) (j + 1) cap)).setCell ⟨L, 0, none⟩ (.string (bs ((lf.drop 520).take (lf.length - 8 - 512))))) := by
  have e520 : (lf.drop 520).take (lf.length - 8 - 512) = lf.drop 520 := List.take_of_length_le (by simp; omega)
  have neM := Lib.ownBlock_ne2 hown hM (by decide)
  have neL := Lib.ownBlock_ne2 hown hL (by decide)
  rw [e520]
  refine ⟨j + 1, .slice (some ⟨gg, 0, none⟩) (j + 1) cap, l1 ++ [(pg % 1099511627776, (lf.drop 8).take 512)], lf.drop 520, by go_num, by simp [hl1], ?_, ?_, ?_, ?_, ?_, ?_, by simp; omega⟩
  · rw [heap_setCell_same ((Below.heap_setCell w9 ⟨M, 5, none⟩ _ L (by simp; omega)).trans hL) 0 _]
    rfl
  · rw [Below.heap_setCell _ ⟨L, 0, none⟩ _ M (by simp; omega), heap_setCell_same hM 5 _]
    rfl
  · rw [Below.heap_setCell _ ⟨L, 0, none⟩ _ R (by simp; omega), Below.heap_setCell _ ⟨M, 5, none⟩ _ R (by simp; omega), hR]
  · rw [imgCells_snoc]
    exact (hown.kept (grown_set (a := ⟨M, 5, none⟩) _) (.inr neM)).kept (grown_set (a := ⟨L, 0, none⟩) _) (.inr neL)
  · rw [← hpar, parseAll_go (many - j) lf (by omega) hl, ← hpg, List.append_assoc]
    rw [show many - ((j + 1 : Nat) : Int) = many - (j : Int) - 1 by omega]
    rfl
  · exact (hB.setCell (p := ⟨M, 5, none⟩) (by simp; omega) _).setCell (p := ⟨L, 0, none⟩) (by simp; omega) _
theorem imgs_result {W W' : World} {v : Value} {l : List Img} {R : Nat} {T : TypeId} (h : ImgsAt W v l) (hR : W.heap[R]? = some (.cells #[.int .u8 0, .int .u64 0, .int .u64 0, .bool false, .int .i64 0, .slice none 0 0] T (0, 0)))
    (hW : ∀ k, k ≠ R → W'.heap[k]? = W.heap[k]?) : ImgsAt W' v l := by
  rcases h with h | ⟨b, off, cap, rfl, h⟩
  · exact .inl h
  · refine .inr ⟨b, off, cap, rfl, fun j hj => ?_⟩
    obtain ⟨c1, c2⟩ := h j hj
    have hb : b ≠ R := by
      rintro rfl
      simp only [World.cell?, hR] at c2
      match off + j * 2 + 1, c2 with
      | 0, c2 => simp at c2
      | 1, c2 => simp at c2
      | 2, c2 => simp at c2
      | 3, c2 => simp at c2
      | 4, c2 => simp at c2
      | 5, c2 => simp at c2
      | n + 6, c2 => simp at c2
    exact ⟨by rw [World.cell?_of_block (hW b hb)]; exact c1, by rw [World.cell?_of_block (hW b hb)]; exact c2⟩
theorem imgOne (a : Int) (b : ByteArray) : ∀ u ∈ [Value.int .i64 a, Value.string b], u.oneCell' = true := by
  intro u hu
  simp only [List.mem_cons, List.not_mem_nil, or_false] at hu
  rcases hu with rfl | rfl <;> rfl
theorem and40 (x : Int) (h0 : 0 ≤ x) (h1 : x < 18446744073709551616) : bits BinOp.and IntKind.u64 x 1099511627775 = x % 1099511627776 :=
  bits_mask .u64 64 (by decide) wraps_u64 40 (by decide) x h0 (by omega)

end Go.Proofs.Ytdgpdfigipplpaa
