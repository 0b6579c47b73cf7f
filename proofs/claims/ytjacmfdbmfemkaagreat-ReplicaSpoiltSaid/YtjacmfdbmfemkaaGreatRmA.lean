/- ship.Take, and the plain laws of ships as bytes. -/
import Derived.Test.YtjacmfdbmfemkaaGreatUsC
import Derived.Test.YtjacmfdbmfemkaaGreatLift
set_option linter.unusedVariables false
set_option linter.unusedSimpArgs false
namespace Go.Proofs.YtjacmfdbmfemkaaGreat.Rf
open Go.RowKit Go.Maps
set_option maxRecDepth 20000
theorem eight_of (l : List UInt8) (h : 8 ≤ l.length) : ∃ a b c d e f g i t, l = a :: b :: c :: d :: e :: f :: g :: i :: t := by
 match l, h with
 | a :: b :: c :: d :: e :: f :: g :: i :: t, _ => exact ⟨a, b, c, d, e, f, g, i, t, rfl⟩
theorem takeEight_any (l : List UInt8) (w : World) (h : 8 ≤ l.length) (hs : l.length ≤ 9223372036854775807) :
  Calls Tryz.prog 77 #[.string (bs l)] w fun e' w' => e' = .returned (.tuple #[.int .u64 (num (l.take 8)), .int .i64 0]) ∧ Below w.heap.size w w' := by
 obtain ⟨a, b, c, d, e, f, g, i, t, rfl⟩ := eight_of l h
 exact takeEight_yes a b c d e f g i t w (by simpa using hs)
theorem num8_lt (l : List UInt8) : 0 ≤ num (l.take 8) ∧ num (l.take 8) < 18446744073709551616 := by
 refine ⟨num_lo _, ?_⟩
 have h := num_hi (l.take 8)
 have h2 : (l.take 8).length ≤ 8 := by simp; omega
 have h3 : (256 : Nat) ^ (l.take 8).length ≤ 256 ^ 8 := Nat.pow_le_pow_right (by decide) h2
 have h4 : ((256 : Int) ^ (l.take 8).length) = ((256 ^ (l.take 8).length : Nat) : Int) := by simp
 omega
set_option maxHeartbeats 400000 in
theorem takeOne (l : List UInt8) (b : Nat) (w : World) (h : 8 ≤ l.length) (hs : l.length ≤ 9223372036854775807) (hb : w.heap[b]? = some (.cells #[.string (bs l)] 9 (0, 0))) :
  Calls Tryz.prog 76 #[.pointer (some ⟨b, 0, none⟩)] w fun e w' => e = .returned (.int .u64 (num (l.take 8))) ∧ Frm (· = b) w w' ∧
   w'.heap[b]? = some (.cells #[.string (bs (l.drop 8))] 9 (0, 0)) := by
 have c0 := cell_of_block hb 0
 simp at c0
 have Hb := hid hb
 clear hb
 go_enter Tryz.func76, Tryz.ntmps76
 go_wp2_with fail
 refine (takeEight_any l _ h hs).mono ?_
 rintro e w1 ⟨rfl, hb1⟩
 have hb2 : w1.heap[b]? = some (.cells #[.string (bs l)] 9 (0, 0)) := (hb1.block b (lt_of_block Hb.out)).trans Hb.out
 have d0 := cell_of_block hb2 0
 have f0 := free_of_block hb2 0
 simp at d0
 have Hb2 := hid hb2
 clear hb2 c0
 go_wp2_with fail
 go_ret
 refine ⟨rfl, (Frm.of_below hb1).trans ((Frm.refl (fun x => x = b) w1).setCell (p := ⟨b, 0, none⟩) (.inl rfl) _), ?_⟩
 rw [heap_setCell_same Hb2.out 0 _]
 rfl
def parseI : Nat → Int → List UInt8 → List Img
 | 0, _, _ => []
 | f + 1, r, l => if 0 < r ∧ 520 ≤ l.length then (⟨num (l.take 8) % 1099511627776, (l.drop 8).take 512⟩ : Img) :: parseI f (r - 1) (l.drop 520) else []
theorem parseI_fuel : ∀ (n m : Nat) (r : Int) (l : List UInt8), l.length ≤ n → l.length ≤ m → parseI n r l = parseI m r l := by
 intro n
 induction n with
 | zero =>
  intro m r l h1 _
  cases m with
  | zero => rfl
  | succ m => unfold parseI; rw [if_neg (by omega)]
 | succ n ih =>
  intro m r l h1 h2
  cases m with
  | zero => conv => lhs; unfold parseI
            conv => rhs; unfold parseI
            rw [if_neg (by omega)]
  | succ m =>
   conv => lhs; unfold parseI
   conv => rhs; unfold parseI
   by_cases h : 0 < r ∧ 520 ≤ l.length
   ·rw [if_pos h, if_pos h, ih m (r - 1) (l.drop 520) (by simp; omega) (by simp; omega)]
   ·rw [if_neg h, if_neg h]
def parseAll (r : Int) (l : List UInt8) : List Img := parseI l.length r l
theorem parseAll_go (r : Int) (l : List UInt8) (h : 0 < r) (h2 : 520 ≤ l.length) : parseAll r l = (⟨num (l.take 8) % 1099511627776, (l.drop 8).take 512⟩ : Img) :: parseAll (r - 1) (l.drop 520) := by
 unfold parseAll
 obtain ⟨n, hn⟩ : ∃ n, l.length = n + 1 := ⟨l.length - 1, by omega⟩
 rw [hn]
 conv => lhs; unfold parseI
 rw [if_pos ⟨h, h2⟩, parseI_fuel n (l.drop 520).length (r - 1) (l.drop 520) (by simp; omega) (Nat.le_refl _)]
theorem parseAll_stop (r : Int) (l : List UInt8) (h : ¬ (0 < r ∧ 520 ≤ l.length)) : parseAll r l = [] := by
 unfold parseAll
 cases hn : l.length with
 | zero => rfl
 | succ n => unfold parseI; rw [if_neg (by rw [hn] at h; rw [hn]; exact h)]
theorem parseAll_eq (r : Int) (l : List UInt8) : parseAll r l = parseI l.length r l := rfl
attribute [irreducible] parseAll
def zeroSh : Sh := ⟨0, 0, 0, false, 0, []⟩
def parseSh (s : List UInt8) : Sh :=
 ⟨num ((s.drop 8).take 8) % 256, num ((s.drop 16).take 8), num ((s.drop 24).take 8), num ((s.drop 32).take 8) == 1, num ((s.drop 40).take 8) % 1099511627776, parseAll (num ((s.drop 48).take 8)) (s.drop 56)⟩
def takeM (s : List UInt8) : Sh × Int :=
 if s.length < 56 ∨ s.length % 8 ≠ 0 then (zeroSh, 7)
 else if ¬ s.take 8 = textOf (sumAdd (0, 0) (s.drop 8)) then (zeroSh, 40)
 else if mayB (parseSh s) = true ∧ putL (parseSh s) = s then (parseSh s, 0) else (zeroSh, 7)
def zeroV : Value := .agg #[.int .u8 0, .int .u64 0, .int .u64 0, .bool false, .int .i64 0, .slice none 0 0]
set_option maxHeartbeats 400000 in
theorem take_short (s : List UInt8) (w : World) (h : s.length < 56) :
  Calls Tryz.prog 49 #[.string (bs s)] w fun e w' => e = .returned (.tuple #[zeroV, .int .i64 7]) ∧ Below w.heap.size w w' := by
 have h1 : decide ((s.length : Int) < 56) = true := by simp; omega
 go_enter Tryz.func49, Tryz.ntmps49
 go_wp2_with fail
 refine bodyPost_ret (v := .tuple #[zeroV, .int .i64 7]) (by simp [results, Tryz.results49, go_sem, zeroV]) rfl ⟨rfl, ?_⟩
 repeat (first | exact (Below.refl _ _).alloc (Nat.le_refl _) _ | refine Below.setCell ?_ (by simp) _)
set_option maxHeartbeats 400000 in
theorem take_odd (s : List UInt8) (w : World) (h : 56 ≤ s.length) (h2 : s.length % 8 ≠ 0) (hs : s.length ≤ 1099511627776) :
  Calls Tryz.prog 49 #[.string (bs s)] w fun e w' => e = .returned (.tuple #[zeroV, .int .i64 7]) ∧ Below w.heap.size w w' := by
 have h1 : decide ((s.length : Int) < 56) = false := by simp; omega
 have h3 : ((s.length : Int) % 8 != 0) = true := by simp; omega
 go_enter Tryz.func49, Tryz.ntmps49
 go_wp2_with fail
 refine bodyPost_ret (v := .tuple #[zeroV, .int .i64 7]) (by simp [results, Tryz.results49, go_sem, zeroV]) rfl ⟨rfl, ?_⟩
 repeat (first | exact (Below.refl _ _).alloc (Nat.le_refl _) _ | refine Below.setCell ?_ (by simp) _)
set_option maxHeartbeats 400000 in
theorem take_sum (s : List UInt8) (w : World) (h : 56 ≤ s.length) (h2 : s.length % 8 = 0) (hs : s.length ≤ 1099511627776) (hno : ¬ s.take 8 = textOf (sumAdd (0, 0) (s.drop 8))) :
  Calls Tryz.prog 49 #[.string (bs s)] w fun e w' => e = .returned (.tuple #[zeroV, .int .i64 40]) ∧ Below w.heap.size w w' := by
 have h1 : decide ((s.length : Int) < 56) = false := by simp; omega
 have h3 : ((s.length : Int) % 8 != 0) = false := by simp; omega
 have h4 : (s.take 8 == textOf (sumAdd (0, 0) (s.drop 8))) = false := by simpa using hno
 obtain ⟨⟨q0, q1⟩, q2, q3⟩ := sumAdd_bdS (0, 0) (s.drop 8) (by decide) (by decide)
 have h5 : (8 : Nat) ≤ s.length := by omega
 clear hno h2
 go_enter Tryz.func49, Tryz.ntmps49
 go_wp2_with fail
 refine region_below (by kernel_rfl) (by kernel_rfl) ?_
 repeat (go_big_quiet_step ((first | (go_at_call 75; exact Calls.regrown_of (of_any _ _ (by simp; omega))) | (go_at_call 74; exact Calls.regrown_of (text_any _ _ q0 q1 q2 q3)))))
 refine wpQuiet_nil ?_
 intro w1 hb1
 have hbw : Below w.heap.size w w1 := ((Below.refl _ _).alloc (Nat.le_refl _) _).trans (hb1.mono (by simp))
 obtain ⟨r0, r1, r2, r3, r4, r5, rf⟩ := cells6 ((hb1.block w.heap.size (by simp)).trans (heap_alloc_new _ _))
 clear hb1
 go_wp2_with fail
 refine bodyPost_ret (v := .tuple #[zeroV, .int .i64 40]) (by simp [results, Tryz.results49, go_sem, zeroV, r0, r1, r2, r3, r4, r5, rf]) rfl ⟨rfl, ?_⟩
 iterate 6 refine Below.setCell ?_ (by simp) _
 exact hbw
def imgCells (l : List Img) : List Value := (l.map fun x => [Value.int .i64 x.1, Value.string (bs x.2)]).flatten
theorem imgCells_snoc (l : List Img) (x : Img) : imgCells (l ++ [x]) = imgCells l ++ [Value.int .i64 x.1, Value.string (bs x.2)] := by simp [imgCells]
theorem imgCells_at : ∀ (l : List Img) (j : Nat) (h : j < l.length), (imgCells l)[j * 2]? = some (.int .i64 l[j].1) ∧ (imgCells l)[j * 2 + 1]? = some (.string (bs l[j].2))
 | x :: l, 0, _ => by simp [imgCells]
 | x :: l, j + 1, h => by
  have := imgCells_at l j (by simpa using h)
  simp only [imgCells, List.map_cons, List.flatten_cons] at *
  refine ⟨?_, ?_⟩
  ·rw [show (j + 1) * 2 = j * 2 + 1 + 1 by omega]
   simpa using this.1
  ·rw [show (j + 1) * 2 + 1 = j * 2 + 1 + 1 + 1 by omega]
   simpa using this.2
theorem own_imgs {W : World} {base : Nat} {T : TypeId} {v : Value} {l : List Img} (h : W.ownsRow base T 2 v l.length (imgCells l)) : SImgsAt W v l := by
 rcases h.2 with ⟨rfl, h0⟩ | ⟨g, cap, cur, rfl, _, hg, _⟩
 ·exact .inl ⟨⟨none, 0, by simp⟩, List.length_eq_zero_iff.1 h0⟩
 ·refine .inr ⟨g, 0, cap, rfl, fun j hj => ?_⟩
  obtain ⟨h1, h2⟩ := imgCells_at l j hj
  have c1 := h.cells (g := g) rfl _ _ h1
  have c2 := h.cells (g := g) rfl _ _ h2
  rw [Addr.add_lit] at c1 c2
  exact ⟨c1, by rw [Nat.add_assoc]; exact c2⟩
theorem Lib.ownBlock_ne2 {w : World} {B : Nat} {e T : TypeId} {size : Nat} {v : Value} {n : Nat} {xs : List Value} {b : Nat} {cs : Array Value} {fr : Nat × Nat} (hown : w.ownsRow B e size v n xs) (hb : w.heap[b]? = some (.cells cs T fr)) (hTe : T ≠ e) : v.ownBlock ≠ some b := by
 rcases hown.2 with ⟨rfl, _⟩ | ⟨g, cap, cur, rfl, _, hg, _⟩
 ·simp [Value.ownBlock]
 ·intro h
  simp only [Value.ownBlock, Option.some.injEq] at h
  subst h
  rw [hg] at hb
  simp only [Option.some.injEq, Obj.cells.injEq] at hb
  exact hTe hb.2.1.symm
def TakeRel (s : List UInt8) (m0 : Sh) (many : Int) (R L M : Nat) (w : World) (v9 : Value) (wr : World) : Prop :=
 ∃ (j : Nat) (v : Value) (l1 : List Img) (lf : List UInt8), v9 = .int .u64 j ∧ l1.length = j ∧
  wr.heap[L]? = some (.cells #[.string (bs lf)] 9 (0, 0)) ∧
  wr.heap[M]? = some (.cells #[.int .u8 m0.kind, .int .u64 m0.epoch, .int .u64 m0.k, .bool m0.full, .int .i64 m0.pages, v] 25 (0, 0)) ∧
  wr.heap[R]? = some (.cells #[.int .u8 0, .int .u64 0, .int .u64 0, .bool false, .int .i64 0, .slice none 0 0] 25 (0, 0)) ∧
  wr.ownsRow w.heap.size 145 2 v j (imgCells l1) ∧
  l1 ++ parseAll (many - j) lf = parseAll many (s.drop 56) ∧ Below w.heap.size w wr ∧ 520 * j + lf.length ≤ s.length
theorem parseI_small : ∀ (n : Nat) (r : Int) (l : List UInt8), ∀ x ∈ parseI n r l, x.2.length ≤ 512
 | 0, r, l, x, hx => by simp [parseI] at hx
 | n + 1, r, l, x, hx => by
  unfold parseI at hx
  by_cases h : 0 < r ∧ 520 ≤ l.length
  ·rw [if_pos h] at hx
   rcases List.mem_cons.1 hx with rfl | hx
   ·simp; omega
   ·exact parseI_small n _ _ x hx
  ·rw [if_neg h] at hx
   simp at hx
theorem parseAll_small (r : Int) (l : List UInt8) : ∀ x ∈ parseAll r l, x.2.length ≤ 512 := by rw [parseAll_eq]; exact parseI_small _ _ _
theorem grown_set {W : World} {a : Addr} (u : Value) : W.grownBy (W.setCell a u) (some a.block) :=
 ⟨rfl, rfl, rfl, by simp [World.setCell], fun k _ hne => Below.heap_setCell W a u k (fun e => hne (by rw [e]))⟩
theorem take_step {s : List UInt8} {m0 : Sh} {many pg : Int} {R L M gg cap j : Nat} {w w9 : World} {v : Value} {l1 : List Img} {lf : List UInt8}
  (hLM : L < M) (hRL : R < L) (hwL : w.heap.size ≤ L) (hl1 : l1.length = j) (hg : (j : Int) < many) (hl : 520 ≤ lf.length) (hlen : 520 * j + lf.length ≤ s.length) (hpg : pg = num (lf.take 8))
  (hpar : l1 ++ parseAll (many - j) lf = parseAll many (s.drop 56))
  (hL : w9.heap[L]? = some (.cells #[.string (bs (lf.drop 8))] 9 (0, 0)))
  (hM : w9.heap[M]? = some (.cells #[.int .u8 m0.kind, .int .u64 m0.epoch, .int .u64 m0.k, .bool m0.full, .int .i64 m0.pages, v] 25 (0, 0)))
  (hR : w9.heap[R]? = some (.cells #[.int .u8 0, .int .u64 0, .int .u64 0, .bool false, .int .i64 0, .slice none 0 0] 25 (0, 0)))
  (hown : w9.ownsRow w.heap.size 145 2 (.slice (some ⟨gg, 0, none⟩) (j + 1) cap) (j + 1) (imgCells l1 ++ [.int .i64 (pg % 1099511627776), .string (bs ((lf.drop 8).take 512))]))
  (hB : Below w.heap.size w w9) :
  TakeRel s m0 many R L M w (.int .u64 ((j : Int) + 1)) ((w9.setCell ⟨M, 5, none⟩ (.slice (some ⟨gg, 0, none⟩) (j + 1) cap)).setCell ⟨L, 0, none⟩ (.string (bs ((lf.drop 520).take (lf.length - 8 - 512))))) := by
 have e520 : (lf.drop 520).take (lf.length - 8 - 512) = lf.drop 520 := List.take_of_length_le (by simp; omega)
 have neM := Lib.ownBlock_ne2 hown hM (by decide)
 have neL := Lib.ownBlock_ne2 hown hL (by decide)
 rw [e520]
 refine ⟨j + 1, .slice (some ⟨gg, 0, none⟩) (j + 1) cap, l1 ++ [(⟨pg % 1099511627776, (lf.drop 8).take 512⟩ : Img)], lf.drop 520, by go_num, by simp [hl1], ?_, ?_, ?_, ?_, ?_, ?_, by simp; omega⟩
 ·rw [heap_setCell_same ((Below.heap_setCell w9 ⟨M, 5, none⟩ _ L (by simp; omega)).trans hL) 0 _]
  rfl
 ·rw [Below.heap_setCell _ ⟨L, 0, none⟩ _ M (by simp; omega), heap_setCell_same hM 5 _]
  rfl
 ·rw [Below.heap_setCell _ ⟨L, 0, none⟩ _ R (by simp; omega), Below.heap_setCell _ ⟨M, 5, none⟩ _ R (by simp; omega), hR]
 ·rw [imgCells_snoc]
  exact (hown.kept (grown_set (a := ⟨M, 5, none⟩) _) (.inr neM)).kept (grown_set (a := ⟨L, 0, none⟩) _) (.inr neL)
 ·rw [← hpar, parseAll_go (many - j) lf (by omega) hl, ← hpg, List.append_assoc]
  rw [show many - ((j + 1 : Nat) : Int) = many - (j : Int) - 1 by omega]
  rfl
 ·exact (hB.setCell (p := ⟨M, 5, none⟩) (by simp; omega) _).setCell (p := ⟨L, 0, none⟩) (by simp; omega) _
theorem imgs_result {W W' : World} {v : Value} {l : List Img} {R : Nat} {T : TypeId} (h : SImgsAt W v l) (hR : W.heap[R]? = some (.cells #[.int .u8 0, .int .u64 0, .int .u64 0, .bool false, .int .i64 0, .slice none 0 0] T (0, 0)))
  (hW : ∀ k, k ≠ R → W'.heap[k]? = W.heap[k]?) : SImgsAt W' v l := by
 rcases h with h | ⟨b, off, cap, rfl, h⟩
 ·exact .inl h
 ·refine .inr ⟨b, off, cap, rfl, fun j hj => ?_⟩
  obtain ⟨c1, c2⟩ := h j hj
  have hb : b ≠ R := by
   rintro rfl
   simp only [World.cell?, hR] at c2
   match off + j * 2 + 1, c2 with
   | 0, c2 => simp at c2
   | 1, c2 => simp at c2
   | 2, c2 => simp at c2
   | 3, c2 => simp at c2
   | 4, c2 => simp at c2
   | 5, c2 => simp at c2
   | n + 6, c2 => simp at c2
  exact ⟨by rw [World.cell?_of_block (hW b hb)]; exact c1, by rw [World.cell?_of_block (hW b hb)]; exact c2⟩
theorem imgOne (a : Int) (b : ByteArray) : ∀ u ∈ [Value.int .i64 a, Value.string b], u.oneCell' = true := by
 intro u hu
 simp only [List.mem_cons, List.not_mem_nil, or_false] at hu
 rcases hu with rfl | rfl <;> rfl
theorem and40 (x : Int) (h0 : 0 ≤ x) (h1 : x < 18446744073709551616) : bits BinOp.and IntKind.u64 x 1099511627775 = x % 1099511627776 :=
 bits_mask .u64 64 (by decide) wraps_u64 40 (by decide) x h0 (by omega)
set_option maxHeartbeats 4000000 in
theorem take_main (s : List UInt8) (w : World) (h : 56 ≤ s.length) (h2 : s.length % 8 = 0) (hs : s.length ≤ 1099511627776) (hyes : s.take 8 = textOf (sumAdd (0, 0) (s.drop 8))) :
  Calls Tryz.prog 49 #[.string (bs s)] w fun e w' => ∃ v, e = .returned (.tuple #[shipV (takeM s).1 v, .int .i64 (takeM s).2]) ∧ SImgsAt w' v (takeM s).1.imgs ∧ (∀ b off n cap, v = .slice (some ⟨b, off, none⟩) n cap → w.heap.size ≤ b) ∧ Below w.heap.size w w' := by
 have h1 : decide ((s.length : Int) < 56) = false := by simp; omega
 have h3 : ((s.length : Int) % 8 != 0) = false := by simp; omega
 have h4 : (s.take 8 == textOf (sumAdd (0, 0) (s.drop 8))) = true := by simpa using hyes
 obtain ⟨⟨q0, q1⟩, q2, q3⟩ := sumAdd_bdS (0, 0) (s.drop 8) (by decide) (by decide)
 have h5 : (8 : Nat) ≤ s.length := by omega
 have Hyes := hid hyes
 have H2 := hid h2
 have T := hid (fun (k : Nat) (hk : k ≤ 48) (b : Nat) (W : World) (hb : W.heap[b]? = some (.cells #[.string (bs (s.drop k))] 9 (0, 0))) =>
  takeOne (s.drop k) b W (by simp; omega) (by simp; omega) hb)
 clear hyes h2
 go_enter Tryz.func49, Tryz.ntmps49
 go_wp2_with fail
 refine region_below (by kernel_rfl) (by kernel_rfl) ?_
 repeat (go_big_quiet_step ((first | (go_at_call 75; exact Calls.regrown_of (of_any _ _ (by simp; omega))) | (go_at_call 74; exact Calls.regrown_of (text_any _ _ q0 q1 q2 q3)))))
 refine wpQuiet_nil ?_
 intro w1 hb1
 have hbw : Below w.heap.size w w1 := ((Below.refl _ _).alloc (Nat.le_refl _) _).trans (hb1.mono (by simp))
 have hR1 := (hb1.block w.heap.size (by simp)).trans (heap_alloc_new _ _)
 have HR1 := hid hR1
 have hsz1 := hb1.size
 simp at hsz1
 clear hb1 hR1 q0 q1 q2 q3
 obtain ⟨n0, hn0⟩ : ∃ n, n = num ((s.drop 8).take 8) := ⟨_, rfl⟩
 obtain ⟨n1, hn1⟩ : ∃ n, n = num ((s.drop 16).take 8) := ⟨_, rfl⟩
 obtain ⟨n2, hn2⟩ : ∃ n, n = num ((s.drop 24).take 8) := ⟨_, rfl⟩
 obtain ⟨n3, hn3⟩ : ∃ n, n = num ((s.drop 32).take 8) := ⟨_, rfl⟩
 obtain ⟨n4, hn4⟩ : ∃ n, n = num ((s.drop 40).take 8) := ⟨_, rfl⟩
 obtain ⟨n5, hn5⟩ : ∃ n, n = num ((s.drop 48).take 8) := ⟨_, rfl⟩
 have T0 := T.out 8 (by omega)
 have T1 := T.out 16 (by omega)
 have T2 := T.out 24 (by omega)
 have T3 := T.out 32 (by omega)
 have T4 := T.out 40 (by omega)
 have T5 := T.out 48 (by omega)
 rw [List.drop_drop] at T0 T1 T2 T3 T4 T5
 rw [← hn0] at T0
 rw [← hn1] at T1
 rw [← hn2] at T2
 rw [← hn3] at T3
 rw [← hn4] at T4
 rw [← hn5] at T5
 have b0 := num8_lt (s.drop 8)
 have b1 := num8_lt (s.drop 16)
 have b2 := num8_lt (s.drop 24)
 have b3 := num8_lt (s.drop 32)
 have b4 := num8_lt (s.drop 40)
 have b5 := num8_lt (s.drop 48)
 rw [← hn0] at b0
 rw [← hn1] at b1
 rw [← hn2] at b2
 rw [← hn3] at b3
 rw [← hn4] at b4
 rw [← hn5] at b5
 have HT0 := hid T0
 have HT1 := hid T1
 have HT2 := hid T2
 have HT3 := hid T3
 have HT4 := hid T4
 have HT5 := hid T5
 have HN := hid (And.intro hn0 (And.intro hn1 (And.intro hn2 (And.intro hn3 (And.intro hn4 hn5)))))
 have a4 := and40 n4 b4.1 b4.2
 clear T0 T1 T2 T3 T4 T5 hn0 hn1 hn2 hn3 hn4 hn5 T
 go_wp2_with fail
 refine (HT0.out _ _ (heap_alloc_new _ _)).mono ?_
 rintro e w2 ⟨rfl, hf2, hb2⟩
 have F2 := hid ((Frm.refl (fun k => k = w1.heap.size) w1).alloc (.cells #[.string (bs (s.drop 8))] 9) |>.trans hf2)
 have HB2 := hid hb2
 clear hf2 hb2
 go_wp2_with fail
 refine (HT1.out _ _ HB2.out).mono ?_
 rintro e w3 ⟨rfl, hf3, hb3⟩
 have F3 := hid (F2.out.trans hf3)
 have HB3 := hid hb3
 clear hf3 hb3 F2 HB2
 go_wp2_with fail
 refine (HT2.out _ _ HB3.out).mono ?_
 rintro e w4 ⟨rfl, hf4, hb4⟩
 have F4 := hid (F3.out.trans hf4)
 have HB4 := hid hb4
 clear hf4 hb4 F3 HB3
 go_wp2_with fail
 refine (HT3.out _ _ HB4.out).mono ?_
 rintro e w5 ⟨rfl, hf5, hb5⟩
 have F5 := hid (F4.out.trans hf5)
 have HB5 := hid hb5
 clear hf5 hb5 F4 HB4
 go_wp2_with fail
 refine (HT4.out _ _ HB5.out).mono ?_
 rintro e w6 ⟨rfl, hf6, hb6⟩
 have F6 := hid (F5.out.trans hf6)
 have HB6 := hid hb6
 clear hf6 hb6 F5 HB5
 go_wp2_with fail
 refine (HT5.out _ _ (heap_alloc_old HB6.out)).mono ?_
 rintro e w7 ⟨rfl, hf7, hb7⟩
 obtain ⟨m0, hm0⟩ : ∃ m0 : Sh, m0 = ⟨n0 % 256, n1, n2, n3 == 1, n4 % 1099511627776, []⟩ := ⟨_, rfl⟩
 have hM : w7.heap[w6.heap.size]? = some (.cells #[.int .u8 m0.kind, .int .u64 m0.epoch, .int .u64 m0.k, .bool m0.full, .int .i64 m0.pages, .slice none 0 0] 25 (0, 0)) := by
  rw [hf7.block w6.heap.size (by simp) (by have := lt_of_block HB6.out; omega), hm0]
  exact heap_alloc_new _ _
 have hLM : w1.heap.size < w6.heap.size := lt_of_block HB6.out
 have F7 := (F6.out.alloc (.cells #[.int .u8 (n0 % 256), .int .u64 n1, .int .u64 n2, .bool (n3 == 1), .int .i64 (n4 % 1099511627776), .slice none 0 0] 25)).trans hf7
 have hR7 : w7.heap[w.heap.size]? = some (.cells #[.int .u8 0, .int .u64 0, .int .u64 0, .bool false, .int .i64 0, .slice none 0 0] 25 (0, 0)) := by
  rw [F7.block w.heap.size (by omega) (by omega)]
  exact HR1.out
 have hbw7 : Below w.heap.size w w7 := hbw.trans ⟨F7.os, F7.tape, F7.output, F7.size, fun k hk => F7.block k (by omega) (by omega)⟩
 have start : TakeRel s m0 n5 w.heap.size w1.heap.size w6.heap.size w (.int .u64 ((0 : Nat) : Int)) w7 :=
  ⟨0, .slice none 0 0, [], s.drop 56, rfl, rfl, hb7, hM, hR7, World.ownsRow_nil _ _ _ _, by simp, hbw7, by simp⟩
 have Hm0 := hid hm0
 clear hf7 hb7 hM F7 hR7 hbw7 F6 HB6 HR1 HT0 HT1 HT2 HT3 HT4 HT5 a4 hm0
 go_wp2_with fail
 obtain ⟨i0, hi, hz0, hz1, hz2⟩ := info_parts (P := Tryz.prog) (e := 145) (z := .agg #[.int .i64 0, .string (bs [])]) (size := 2) (bytes := 24) (by kernel_rfl)
 go_loopw [9] (fun v9 wr => TakeRel s m0 n5 w.heap.size w1.heap.size w6.heap.size w v9 wr) (fun v9 _ => s.length - (intOf v9).toNat)
 case atStart => exact start
 case round =>
  clear start
  obtain ⟨j, v, l1, lf, rfl, hl1, hL, hM, hR, hown, hpar, hbwr, hlen⟩ := hrel
  have L0 := cell_of_block hL 0
  have Lf := free_of_block hL 0
  simp at L0
  obtain ⟨m0c, m1c, m2c, m3c, m4c, m5c, mf⟩ := cells6 hM
  have HL := hid hL
  have HM := hid hM
  have HR := hid hR
  have Hpar := hid hpar
  have Hl1 := hid hl1
  clear hL hM hR hpar hl1
  by_cases gj : (j : Int) < n5
  ·by_cases gl : 520 ≤ lf.length
   ·have gl' : decide ((520 : Int) ≤ (lf.length : Int)) = true := by simp; omega
    obtain ⟨pg, hpg⟩ : ∃ n, n = num (lf.take 8) := ⟨_, rfl⟩
    have bp := num8_lt lf
    rw [← hpg] at bp
    have ap := and40 pg bp.1 bp.2
    have T1 := takeOne lf w1.heap.size wr (by omega) (by omega) HL.out
    rw [← hpg] at T1
    have HT := hid T1
    have Hpg := hid hpg
    clear T1 hpg
    go_wp2_with fail
    refine HT.out.mono ?_
    rintro e w8 ⟨rfl, hf8, hb8⟩
    have hM8 := (hf8.block w6.heap.size (lt_of_block HM.out) (by omega)).trans HM.out
    have hR8 := (hf8.block w.heap.size (lt_of_block HR.out) (by omega)).trans HR.out
    have hown8 : w8.ownsRow w.heap.size 145 2 v j (imgCells l1) := hown.kept (row := some w1.heap.size) ⟨hf8.os, hf8.tape, hf8.output, hf8.size, fun k hk hne => hf8.block k hk (fun e => hne (by rw [e]))⟩ (.inr (Lib.ownBlock_ne2 hown HL.out (by decide)))
    have hbw8 : Below w.heap.size w w8 := hbwr.trans ⟨hf8.os, hf8.tape, hf8.output, hf8.size, fun k hk => hf8.block k (by have := hbwr.size; omega) (by omega)⟩
    have hsz8 := hbw8.size
    clear hf8 L0 Lf m0c m1c m2c m3c m4c m5c mf HT HL HM HR hown hbwr
    have L0 := cell_of_block hb8 0
    simp at L0
    obtain ⟨m0c, m1c, m2c, m3c, m4c, m5c, mf⟩ := cells6 hM8
    have HL8 := hid hb8
    have HM8 := hid hM8
    have HR8 := hid hR8
    clear hb8 hM8 hR8 m0c m1c m2c m3c m4c
    have l8 : (512 : Int) ≤ ((lf.length - 8 : Nat) : Int) := by omega
    have lM := lt_of_block HM8.out
    have lL := lt_of_block HL8.out
    have hjm : j + 1 ≤ maxLen := by unfold maxLen; omega
    have hjb : (j + 1) * 24 ≤ 140737488355328 := by omega
    have hvM : some w6.heap.size ≠ v.ownBlock := Ne.symm (Lib.ownBlock_ne2 hown8 HM8.out (by decide))
    have hvL : some w1.heap.size ≠ v.ownBlock := Ne.symm (Lib.ownBlock_ne2 hown8 HL8.out (by decide))
    have hvR : some w.heap.size ≠ v.ownBlock := Ne.symm (Lib.ownBlock_ne2 hown8 HR8.out (by decide))
    have HV := hid (And.intro hvM (And.intro hvL hvR))
    clear hvM hvL hvR
    go_wp2_with fail
    go_region_law ((refine step_append_lies _ (by rfl) _ _ 23 (by rfl) w.heap.size 145 i0 _ 2 24 Tryz.underlying23 hi hz0 hz1 hz2 rfl (by omega) v j (imgCells l1) (by rfl) ((hown8.alloc _).drew) ⟨w8.heap.size, 0, none⟩ 1 1 [.int .i64 (pg % 1099511627776), .string (bs ((lf.drop 8).take 512))] (by rfl) (by rfl) (World.news_of_block (cs := #[.int .i64 (pg % 1099511627776), .string (bs ((lf.drop 8).take 512))]) (t := 145) (fr := (0, 0)) (heap_alloc_new w8 _)) (imgOne _ _) (by omega) hjm hjb (by simp; omega) (w8.heap.size + 1) (by simp) ?_; intro gg cap w9 hown9 hgrow hat hlt; have hM9 := (hgrow.block w6.heap.size (by simp; omega) HV.out.1).trans (heap_alloc_old HM8.out); obtain ⟨x0, x1, x2, x3, x4, x5, xf⟩ := cells6 hM9; clear x0 x1 x2 x3 x4; have HM9 := hid hM9; clear hM9; have hL9 := (hgrow.block w1.heap.size (by simp; omega) HV.out.2.1).trans (heap_alloc_old HL8.out); have y0 := cell_of_block hL9 0; have yf := free_of_block hL9 0; simp at y0; have HL9 := hid hL9; clear hL9; have hR9 := (hgrow.block w.heap.size (by simp; have := lt_of_block HR8.out; omega) HV.out.2.2).trans (heap_alloc_old HR8.out); have HR9 := hid hR9; clear hR9; have hB9 := (hbw8.alloc hsz8 (.cells #[.int .i64 (pg % 1099511627776), .string (bs ((lf.drop 8).take 512))] 145)).drew.grown hgrow (by simp; omega) (fun k hk => (hown8.lt k hk).1)))
    all_goals
     clear L0 m5c mf x5 hgrow
     have l9 : (512 : Int) ≤ ((lf.length - 8 : Nat) : Int) := l8
     go_wp2_with fail
     refine ⟨?_, by simp [intOf]; omega⟩
     have hRL : w.heap.size < w1.heap.size := by omega
     exact take_step hLM hRL (by omega) Hl1.out gj gl hlen Hpg.out Hpar.out HL9.out HM9.out HR9.out hown9 hB9
   ·have gl' : decide ((520 : Int) ≤ (lf.length : Int)) = false := by simp; omega
    have hall : l1 = parseAll n5 (s.drop 56) := by rw [← Hpar.out, parseAll_stop _ _ (by omega), List.append_nil]
    have hmm : (⟨m0.kind, m0.epoch, m0.k, m0.full, m0.pages, l1⟩ : Sh) = parseSh s := by
     obtain ⟨a0, a1, a2, a3, a4, a5⟩ := HN.out
     rw [Hm0.out]
     simp only [parseSh]
     rw [← a0, ← a1, ← a2, ← a3, ← a4, ← a5, ← hall]
    have hsmall : ∀ x ∈ l1, x.2.length ≤ 9223372036854775807 := fun x hx => by
     rw [hall] at hx
     have := parseAll_small _ _ x hx
     omega
    have himgs : SImgsAt wr v l1 := own_imgs (by rw [Hl1.out]; exact hown)
    have HBase := hid (fun (b : Nat) (hb : v.ownBlock = some b) => (row_base hown hb).1)
    have hjs : l1.length ≤ 9223372036854775807 := by rw [Hl1.out]; omega
    obtain ⟨ao, cap, rfl⟩ := imgs_shape himgs
    have hwf : ShWf ⟨m0.kind, m0.epoch, m0.k, m0.full, m0.pages, l1⟩ := by
     rw [Hm0.out]
     exact ⟨⟨by simp only; omega, by simp only; omega⟩, b1, b2⟩
    have hbx : ∀ w', Below wr.heap.size wr w' → Below w.heap.size w w' := fun w' h => hbwr.trans (h.mono hbwr.size)
    have Hmm := hid hmm
    have Himgs := hid himgs
    have Hsmall := hid hsmall
    have Hbx := hid hbx
    have Hjs := hid hjs
    have Hall := hid hall
    clear hall hmm himgs hsmall hbx hjs hbwr hown hlen Lf
    cases hmay : mayB ⟨m0.kind, m0.epoch, m0.k, m0.full, m0.pages, l1⟩
    ·have hno := sputS_no ⟨m0.kind, m0.epoch, m0.k, m0.full, m0.pages, l1⟩ _ wr Himgs.out Hjs.out Hsmall.out hmay
     have hres : takeM s = (zeroSh, 7) := by
      rw [Hmm.out] at hmay
      unfold takeM
      rw [if_neg (by have := H2.out; omega), if_neg (by rw [Hyes.out]; simp), if_neg (by rw [hmay]; simp)]
     have Hres := hid hres
     have Hno := hid hno
     unfold shipV at Hno
     clear hno hres hmay
     go_wp2_with fail
     refine Hno.out.mono ?_
     rintro e w8 ⟨rfl, hb8⟩
     have HR8 := hid ((hb8.block w.heap.size (lt_of_block HR.out)).trans HR.out)
     obtain ⟨r0, r1, r2, r3, r4, r5, rf⟩ := cells6 HR8.out
     have HB8 := hid (Hbx.out w8 hb8)
     clear m0c m1c m2c m3c m4c m5c mf hb8
     go_wp2_with fail
     refine bodyPost_ret (v := .tuple #[zeroV, .int .i64 7]) (by simp [results, Tryz.results49, go_sem, zeroV, r0, r1, r2, r3, r4, r5, rf]) rfl ⟨.slice none 0 0, by rw [Hres.out]; rfl, by rw [Hres.out]; exact .inl ⟨⟨_, _, rfl⟩, rfl⟩, (fun b off n cap e => by cases e), ?_⟩
     iterate 6 refine Below.setCell ?_ (by simp) _
     exact HB8.out
    ·have hyes2 := sputS_yes ⟨m0.kind, m0.epoch, m0.k, m0.full, m0.pages, l1⟩ _ wr Himgs.out hmay hwf
     by_cases heq : putL ⟨m0.kind, m0.epoch, m0.k, m0.full, m0.pages, l1⟩ = s
     ·have hres : takeM s = (⟨m0.kind, m0.epoch, m0.k, m0.full, m0.pages, l1⟩, 0) := by
       rw [Hmm.out] at hmay heq
       rw [Hmm.out]
       unfold takeM
       rw [if_neg (by have := H2.out; omega), if_neg (by rw [Hyes.out]; simp), if_pos ⟨hmay, heq⟩]
      rw [heq] at hyes2
      have heqb : (s == s) = true := by simp
      have Hres := hid hres
      have Hyes2 := hid hyes2
      unfold shipV at Hyes2
      clear hyes2 hres hmay heq
      go_wp2_with fail
      refine Hyes2.out.mono ?_
      rintro e w8 ⟨rfl, hb8⟩
      have HR8 := hid ((hb8.block w.heap.size (lt_of_block HR.out)).trans HR.out)
      obtain ⟨r0, r1, r2, r3, r4, r5, rf⟩ := cells6 HR8.out
      have hM8 := (hb8.block w6.heap.size (lt_of_block HM.out)).trans HM.out
      have HI8 := hid (imgs_kept Himgs.out hb8)
      have HB8 := hid (Hbx.out w8 hb8)
      clear m0c m1c m2c m3c m4c m5c mf
      obtain ⟨m0c, m1c, m2c, m3c, m4c, m5c, mf⟩ := cells6 hM8
      clear hb8 hM8
      go_wp2_with fail
      refine bodyPost_ret (v := .tuple #[shipV ⟨m0.kind, m0.epoch, m0.k, m0.full, m0.pages, l1⟩ (.slice ao l1.length cap), .int .i64 0]) (by simp [results, Tryz.results49, go_sem, shipV, r0, r1, r2, r3, r4, r5, rf]) rfl ⟨.slice ao l1.length cap, by rw [Hres.out], ?_, (fun b off n cap' e => HBase.out b (by injection e with e1 _ _; rw [e1]; rfl)), ?_⟩
      ·rw [Hres.out]
       refine imgs_result HI8.out HR8.out (fun k hk => ?_)
       iterate 6 rw [Below.heap_setCell _ _ _ k (by simpa using hk)]
      ·iterate 6 refine Below.setCell ?_ (by simp) _
       exact HB8.out
     ·have hres : takeM s = (zeroSh, 7) := by
       rw [Hmm.out] at heq
       unfold takeM
       rw [if_neg (by have := H2.out; omega), if_neg (by rw [Hyes.out]; simp), if_neg (by simp [heq])]
      obtain ⟨t, ht⟩ : ∃ t, t = putL ⟨m0.kind, m0.epoch, m0.k, m0.full, m0.pages, l1⟩ := ⟨_, rfl⟩
      rw [← ht] at hyes2 heq
      have heqb : (t == s) = false := by simpa using heq
      have Hres := hid hres
      have Hyes2 := hid hyes2
      unfold shipV at Hyes2
      clear hyes2 hres hmay heq ht
      go_wp2_with fail
      refine Hyes2.out.mono ?_
      rintro e w8 ⟨rfl, hb8⟩
      have HR8 := hid ((hb8.block w.heap.size (lt_of_block HR.out)).trans HR.out)
      obtain ⟨r0, r1, r2, r3, r4, r5, rf⟩ := cells6 HR8.out
      have HB8 := hid (Hbx.out w8 hb8)
      clear m0c m1c m2c m3c m4c m5c mf hb8
      go_wp2_with fail
      refine bodyPost_ret (v := .tuple #[zeroV, .int .i64 7]) (by simp [results, Tryz.results49, go_sem, zeroV, r0, r1, r2, r3, r4, r5, rf]) rfl ⟨.slice none 0 0, by rw [Hres.out]; rfl, by rw [Hres.out]; exact .inl ⟨⟨_, _, rfl⟩, rfl⟩, (fun b off n cap e => by cases e), ?_⟩
      iterate 6 refine Below.setCell ?_ (by simp) _
      exact HB8.out
  ·have gj' : decide ((j : Int) < n5) = false := by simpa using gj
   have hall : l1 = parseAll n5 (s.drop 56) := by rw [← Hpar.out, parseAll_stop _ _ (by omega), List.append_nil]
   have hmm : (⟨m0.kind, m0.epoch, m0.k, m0.full, m0.pages, l1⟩ : Sh) = parseSh s := by
    obtain ⟨a0, a1, a2, a3, a4, a5⟩ := HN.out
    rw [Hm0.out]
    simp only [parseSh]
    rw [← a0, ← a1, ← a2, ← a3, ← a4, ← a5, ← hall]
   have hsmall : ∀ x ∈ l1, x.2.length ≤ 9223372036854775807 := fun x hx => by
    rw [hall] at hx
    have := parseAll_small _ _ x hx
    omega
   have himgs : SImgsAt wr v l1 := own_imgs (by rw [Hl1.out]; exact hown)
   have HBase := hid (fun (b : Nat) (hb : v.ownBlock = some b) => (row_base hown hb).1)
   have hjs : l1.length ≤ 9223372036854775807 := by rw [Hl1.out]; omega
   obtain ⟨ao, cap, rfl⟩ := imgs_shape himgs
   have hwf : ShWf ⟨m0.kind, m0.epoch, m0.k, m0.full, m0.pages, l1⟩ := by
    rw [Hm0.out]
    exact ⟨⟨by simp only; omega, by simp only; omega⟩, b1, b2⟩
   have hbx : ∀ w', Below wr.heap.size wr w' → Below w.heap.size w w' := fun w' h => hbwr.trans (h.mono hbwr.size)
   have Hmm := hid hmm
   have Himgs := hid himgs
   have Hsmall := hid hsmall
   have Hbx := hid hbx
   have Hjs := hid hjs
   have Hall := hid hall
   clear hall hmm himgs hsmall hbx hjs hbwr hown hlen Lf
   cases hmay : mayB ⟨m0.kind, m0.epoch, m0.k, m0.full, m0.pages, l1⟩
   ·have hno := sputS_no ⟨m0.kind, m0.epoch, m0.k, m0.full, m0.pages, l1⟩ _ wr Himgs.out Hjs.out Hsmall.out hmay
    have hres : takeM s = (zeroSh, 7) := by
     rw [Hmm.out] at hmay
     unfold takeM
     rw [if_neg (by have := H2.out; omega), if_neg (by rw [Hyes.out]; simp), if_neg (by rw [hmay]; simp)]
    have Hres := hid hres
    have Hno := hid hno
    unfold shipV at Hno
    clear hno hres hmay
    go_wp2_with fail
    refine Hno.out.mono ?_
    rintro e w8 ⟨rfl, hb8⟩
    have HR8 := hid ((hb8.block w.heap.size (lt_of_block HR.out)).trans HR.out)
    obtain ⟨r0, r1, r2, r3, r4, r5, rf⟩ := cells6 HR8.out
    have HB8 := hid (Hbx.out w8 hb8)
    clear m0c m1c m2c m3c m4c m5c mf hb8
    go_wp2_with fail
    refine bodyPost_ret (v := .tuple #[zeroV, .int .i64 7]) (by simp [results, Tryz.results49, go_sem, zeroV, r0, r1, r2, r3, r4, r5, rf]) rfl ⟨.slice none 0 0, by rw [Hres.out]; rfl, by rw [Hres.out]; exact .inl ⟨⟨_, _, rfl⟩, rfl⟩, (fun b off n cap e => by cases e), ?_⟩
    iterate 6 refine Below.setCell ?_ (by simp) _
    exact HB8.out
   ·have hyes2 := sputS_yes ⟨m0.kind, m0.epoch, m0.k, m0.full, m0.pages, l1⟩ _ wr Himgs.out hmay hwf
    by_cases heq : putL ⟨m0.kind, m0.epoch, m0.k, m0.full, m0.pages, l1⟩ = s
    ·have hres : takeM s = (⟨m0.kind, m0.epoch, m0.k, m0.full, m0.pages, l1⟩, 0) := by
      rw [Hmm.out] at hmay heq
      rw [Hmm.out]
      unfold takeM
      rw [if_neg (by have := H2.out; omega), if_neg (by rw [Hyes.out]; simp), if_pos ⟨hmay, heq⟩]
     rw [heq] at hyes2
     have heqb : (s == s) = true := by simp
     have Hres := hid hres
     have Hyes2 := hid hyes2
     unfold shipV at Hyes2
     clear hyes2 hres hmay heq
     go_wp2_with fail
     refine Hyes2.out.mono ?_
     rintro e w8 ⟨rfl, hb8⟩
     have HR8 := hid ((hb8.block w.heap.size (lt_of_block HR.out)).trans HR.out)
     obtain ⟨r0, r1, r2, r3, r4, r5, rf⟩ := cells6 HR8.out
     have hM8 := (hb8.block w6.heap.size (lt_of_block HM.out)).trans HM.out
     have HI8 := hid (imgs_kept Himgs.out hb8)
     have HB8 := hid (Hbx.out w8 hb8)
     clear m0c m1c m2c m3c m4c m5c mf
     obtain ⟨m0c, m1c, m2c, m3c, m4c, m5c, mf⟩ := cells6 hM8
     clear hb8 hM8
     go_wp2_with fail
     refine bodyPost_ret (v := .tuple #[shipV ⟨m0.kind, m0.epoch, m0.k, m0.full, m0.pages, l1⟩ (.slice ao l1.length cap), .int .i64 0]) (by simp [results, Tryz.results49, go_sem, shipV, r0, r1, r2, r3, r4, r5, rf]) rfl ⟨.slice ao l1.length cap, by rw [Hres.out], ?_, (fun b off n cap' e => HBase.out b (by injection e with e1 _ _; rw [e1]; rfl)), ?_⟩
     ·rw [Hres.out]
      refine imgs_result HI8.out HR8.out (fun k hk => ?_)
      iterate 6 rw [Below.heap_setCell _ _ _ k (by simpa using hk)]
     ·iterate 6 refine Below.setCell ?_ (by simp) _
      exact HB8.out
    ·have hres : takeM s = (zeroSh, 7) := by
      rw [Hmm.out] at heq
      unfold takeM
      rw [if_neg (by have := H2.out; omega), if_neg (by rw [Hyes.out]; simp), if_neg (by simp [heq])]
     obtain ⟨t, ht⟩ : ∃ t, t = putL ⟨m0.kind, m0.epoch, m0.k, m0.full, m0.pages, l1⟩ := ⟨_, rfl⟩
     rw [← ht] at hyes2 heq
     have heqb : (t == s) = false := by simpa using heq
     have Hres := hid hres
     have Hyes2 := hid hyes2
     unfold shipV at Hyes2
     clear hyes2 hres hmay heq ht
     go_wp2_with fail
     refine Hyes2.out.mono ?_
     rintro e w8 ⟨rfl, hb8⟩
     have HR8 := hid ((hb8.block w.heap.size (lt_of_block HR.out)).trans HR.out)
     obtain ⟨r0, r1, r2, r3, r4, r5, rf⟩ := cells6 HR8.out
     have HB8 := hid (Hbx.out w8 hb8)
     clear m0c m1c m2c m3c m4c m5c mf hb8
     go_wp2_with fail
     refine bodyPost_ret (v := .tuple #[zeroV, .int .i64 7]) (by simp [results, Tryz.results49, go_sem, zeroV, r0, r1, r2, r3, r4, r5, rf]) rfl ⟨.slice none 0 0, by rw [Hres.out]; rfl, by rw [Hres.out]; exact .inl ⟨⟨_, _, rfl⟩, rfl⟩, (fun b off n cap e => by cases e), ?_⟩
     iterate 6 refine Below.setCell ?_ (by simp) _
     exact HB8.out
theorem byt_toNat (n : Int) (h0 : 0 ≤ n) (h1 : n < 256) : ((byt n).toNat : Int) = n := by simp [byt]; omega
theorem num_four (n : Int) (h0 : 0 ≤ n) (h1 : n < 4294967296) : num (four n) = n := by
 unfold four
 rw [num4, byt_toNat _ (by omega) (by omega), byt_toNat _ (by omega) (by omega), byt_toNat _ (by omega) (by omega), byt_toNat _ (by omega) (by omega)]
 omega
theorem num_eight (n : Int) (h0 : 0 ≤ n) (h1 : n < 18446744073709551616) : num (eight n) = n := by
 unfold eight
 rw [num_append, num_four _ (by omega) (by omega), num_four _ (by omega) (by omega)]
 have : (four (n % 4294967296)).length = 4 := rfl
 rw [this]
 omega
theorem num_inj : ∀ (a b : List UInt8), a.length = b.length → num a = num b → a = b
 | [], [], _, _ => rfl
 | [], _ :: _, h, _ => by simp at h
 | _ :: _, [], h, _ => by simp at h
 | x :: a, y :: b, h, e => by
  have hl : a.length = b.length := by simpa using h
  have e1 : num (x :: a) = (x.toNat : Int) * 256 ^ a.length + num a := by rw [show x :: a = [x] ++ a from rfl, num_append, num_one]
  have e2 : num (y :: b) = (y.toNat : Int) * 256 ^ b.length + num b := by rw [show y :: b = [y] ++ b from rfl, num_append, num_one]
  rw [e1, e2, hl] at e
  have h1 := num_hi a
  have h2 := num_hi b
  have l1 := num_lo a
  have l2 := num_lo b
  rw [hl] at h1
  generalize (256 : Int) ^ b.length = M at *
  have hx : (x.toNat : Int) = y.toNat := by
   rcases Int.lt_trichotomy (x.toNat : Int) y.toNat with hlt | heq | hgt
   ·have : ((x.toNat : Int) + 1) * M ≤ (y.toNat : Int) * M := Int.mul_le_mul_of_nonneg_right (by omega) (by omega)
    rw [Int.add_mul] at this
    omega
   ·exact heq
   ·have : ((y.toNat : Int) + 1) * M ≤ (x.toNat : Int) * M := Int.mul_le_mul_of_nonneg_right (by omega) (by omega)
    rw [Int.add_mul] at this
    omega
  have hxy : x = y := by
   apply UInt8.toNat_inj.1
   omega
  subst hxy
  rw [num_inj a b hl (by omega)]
theorem four_inj {a b : Int} (a0 : 0 ≤ a) (a1 : a < 4294967296) (b0 : 0 ≤ b) (b1 : b < 4294967296) (h : four a = four b) : a = b := by
 rw [← num_four a a0 a1, ← num_four b b0 b1, h]
theorem textOf_length (p : Int × Int) : (textOf p).length = 8 := rfl
theorem textOf_inj {p q : Int × Int} (hp : (0 ≤ p.1 ∧ p.1 < 4294967296) ∧ (0 ≤ p.2 ∧ p.2 < 4294967296)) (hq : (0 ≤ q.1 ∧ q.1 < 4294967296) ∧ (0 ≤ q.2 ∧ q.2 < 4294967296)) (h : textOf p = textOf q) : p = q := by
 unfold textOf at h
 obtain ⟨h1, h2⟩ := List.append_inj h rfl
 obtain ⟨a, b⟩ := p
 obtain ⟨c, d⟩ := q
 simp only at *
 rw [four_inj hp.1.1 hp.1.2 hq.1.1 hq.1.2 h1, four_inj hp.2.1 hp.2.2 hq.2.1 hq.2.2 h2]
theorem sumAdd_append : ∀ (n : Nat) (a b : List UInt8) (p : Int × Int), a.length = 8 * n → sumAdd p (a ++ b) = sumAdd (sumAdd p a) b
 | 0, a, b, p, h => by
  obtain rfl : a = [] := List.length_eq_zero_iff.1 (by omega)
  rw [sumAdd_nil]; rfl
 | n + 1, a, b, p, h => by
  rw [sumAdd_step p (a ++ b) (by simp; omega), sumAdd_step p a (by omega)]
  have e1 : (a ++ b).take 8 = a.take 8 := by rw [List.take_append_of_le_length (by omega)]
  have e2 : (a ++ b).drop 8 = a.drop 8 ++ b := by rw [List.drop_append_of_le_length (by omega)]
  rw [e1, e2]
  exact sumAdd_append n (a.drop 8) b _ (by simp; omega)
theorem word_inj (a b : List UInt8) (ha : a.length = 8) (hb : b.length = 8) (h1 : wordA a = wordA b) (h2 : wordB a = wordB b) : a = b := by
 have pa : pad8 a = a := by simp [pad8, ha]
 have pb : pad8 b = b := by simp [pad8, hb]
 unfold wordA at h1
 unfold wordB at h2
 rw [pa, pb] at h1 h2
 have e1 := num_inj _ _ (by simp [ha, hb]) h1
 have e2 := num_inj _ _ (by simp [ha, hb]) h2
 rw [← List.take_append_drop 4 a, ← List.take_append_drop 4 b, e1, e2]
theorem word_lo (l : List UInt8) (h : l.length = 8) : (0 ≤ wordA l ∧ wordA l < 4294967296) ∧ (0 ≤ wordB l ∧ wordB l < 4294967296) := by
 have pa : pad8 l = l := by simp [pad8, h]
 unfold wordA wordB
 rw [pa]
 match l, h with
 | [a, b, c, d, e, f, g, i], _ => exact ⟨⟨num4_lo _ _ _ _, num4_hi _ _ _ _⟩, num4_lo _ _ _ _, num4_hi _ _ _ _⟩
theorem stepSum_inj_block {p : Int × Int} {x y x' y' : Int} (hx : 0 ≤ x ∧ x < 4294967296) (hy : 0 ≤ y ∧ y < 4294967296) (hx' : 0 ≤ x' ∧ x' < 4294967296) (hy' : 0 ≤ y' ∧ y' < 4294967296) (h : stepSum p x y = stepSum p x' y') : x = x' ∧ y = y' := by
 unfold stepSum at h
 simp only [Prod.mk.injEq] at h
 omega
theorem stepSum_inj_pair {p q : Int × Int} {x y : Int} (hp : (0 ≤ p.1 ∧ p.1 < 4294967296) ∧ (0 ≤ p.2 ∧ p.2 < 4294967296)) (hq : (0 ≤ q.1 ∧ q.1 < 4294967296) ∧ (0 ≤ q.2 ∧ q.2 < 4294967296)) (h : stepSum p x y = stepSum q x y) : p = q := by
 unfold stepSum at h
 simp only [Prod.mk.injEq] at h
 obtain ⟨a, b⟩ := p
 obtain ⟨c, d⟩ := q
 simp only at *
 have : b = d := by omega
 have : a = c := by omega
 simp [*]
theorem sumN_inj : ∀ (n : Nat) (l : List UInt8) (p q : Int × Int), (0 ≤ p.1 ∧ p.1 < 4294967296) ∧ (0 ≤ p.2 ∧ p.2 < 4294967296) → (0 ≤ q.1 ∧ q.1 < 4294967296) ∧ (0 ≤ q.2 ∧ q.2 < 4294967296) → sumN n p l = sumN n q l → p = q
 | 0, l, p, q, _, _, h => h
 | n + 1, l, p, q, hp, hq, h => by
  unfold sumN at h
  cases hl : l.isEmpty
  ·rw [hl] at h
   simp only [Bool.false_eq_true, if_false] at h
   exact stepSum_inj_pair hp hq (sumN_inj n _ _ _ (stepSum_bdS _ _ _) (stepSum_bdS _ _ _) h)
  ·rw [hl] at h
   simpa using h
theorem sumAdd_inj {l : List UInt8} {p q : Int × Int} (hp : (0 ≤ p.1 ∧ p.1 < 4294967296) ∧ (0 ≤ p.2 ∧ p.2 < 4294967296)) (hq : (0 ≤ q.1 ∧ q.1 < 4294967296) ∧ (0 ≤ q.2 ∧ q.2 < 4294967296)) (h : sumAdd p l = sumAdd q l) : p = q := by
 unfold sumAdd at h
 exact sumN_inj _ _ _ _ hp hq h
theorem sum_block {n : Nat} {a b c d : List UInt8} {p : Int × Int} (hp : (0 ≤ p.1 ∧ p.1 < 4294967296) ∧ (0 ≤ p.2 ∧ p.2 < 4294967296)) (ha : a.length = 8 * n) (hb : b.length = 8) (hc : c.length = 8) (h : sumAdd p (a ++ b ++ d) = sumAdd p (a ++ c ++ d)) : b = c := by
 rw [List.append_assoc, List.append_assoc, sumAdd_append n a _ p ha, sumAdd_append n a _ p ha, sumAdd_append 1 b d _ (by omega), sumAdd_append 1 c d _ (by omega)] at h
 have hq := sumAdd_bdS p a hp.1 hp.2
 have h1 := sumAdd_inj (sumAdd_bdS _ _ hq.1 hq.2) (sumAdd_bdS _ _ hq.1 hq.2) h
 rw [sumAdd_step _ b (by omega), sumAdd_step _ c (by omega)] at h1
 have e1 : b.drop 8 = [] := List.drop_eq_nil_of_le (by omega)
 have e2 : c.drop 8 = [] := List.drop_eq_nil_of_le (by omega)
 have e3 : b.take 8 = b := List.take_of_length_le (by omega)
 have e4 : c.take 8 = c := List.take_of_length_le (by omega)
 rw [e1, e2, e3, e4, sumAdd_nil, sumAdd_nil] at h1
 obtain ⟨w1, w2⟩ := word_lo b hb
 obtain ⟨w3, w4⟩ := word_lo c hc
 obtain ⟨g1, g2⟩ := stepSum_inj_block w1 w2 w3 w4 h1
 exact word_inj b c hb hc g1 g2
theorem drop8 (a b : List UInt8) (k : Nat) (h : a.length = 8) : (a ++ b).drop (k + 8) = b.drop k := by
 rw [Nat.add_comm, ← h, List.drop_append]
 simp
theorem take8 (a b : List UInt8) (h : a.length = 8) : (a ++ b).take 8 = a := by
 rw [← h, List.take_left]
theorem parseAll_imgs : ∀ (l : List Img), (∀ x ∈ l, x.2.length = 512 ∧ 0 < x.1 ∧ x.1 ≤ 256) → parseAll (l.length : Int) (imgsL l) = l
 | [], _ => parseAll_stop _ _ (by simp)
 | x :: l, h => by
  obtain ⟨h1, h2, h3⟩ := h x (by simp)
  have e : imgsL (x :: l) = eight x.1 ++ (x.2 ++ imgsL l) := by simp [imgsL]
  have hlen : (imgsL (x :: l)).length = 520 + (imgsL l).length := by rw [e]; simp only [List.length_append, eight_lengthS, h1]; omega
  rw [parseAll_go _ _ (by simp only [List.length_cons]; omega) (by omega)]
  have e1 : (imgsL (x :: l)).take 8 = eight x.1 := by rw [e, take8 _ _ (eight_lengthS _)]
  have e2 : (imgsL (x :: l)).drop 8 = x.2 ++ imgsL l := by rw [e]; exact drop8 _ _ 0 (eight_lengthS _)
  have e3 : (imgsL (x :: l)).drop 520 = imgsL l := by
   rw [show (520 : Nat) = 8 + 512 from rfl, ← List.drop_drop, e2, ← h1, List.drop_left]
  rw [e1, e2, e3, num_eight _ (by omega) (by omega), ← h1, List.take_left]
  rw [show ((x :: l).length : Int) - 1 = (l.length : Int) by simp, parseAll_imgs l (fun y hy => h y (by simp [hy]))]
  have : x.1 % 1099511627776 = x.1 := by omega
  rw [this]
theorem putL_length (m : Sh) (h : mayB m = true) : (putL m).length = 56 + 520 * m.imgs.length := by
 obtain ⟨_, _, h3⟩ := may_facts m h
 unfold putL bodyL
 simp only [List.length_append, textOf_length, headL_length, imgsL_length _ (fun x hx => (h3 x hx).1)]
 omega
theorem parse_put (m : Sh) (h : mayB m = true) (hw : ShWf m) : parseSh (putL m) = m := by
 obtain ⟨⟨p0, p1⟩, hn, h3⟩ := may_facts m h
 obtain ⟨⟨k0, k1⟩, ⟨e0, e1⟩, g0, g1⟩ := hw
 have hs : putL m = textOf (sumAdd (0, 0) (bodyL m)) ++ (eight m.kind ++ (eight m.epoch ++ (eight m.k ++ (eight (if m.full then 1 else 0) ++ (eight m.pages ++ (eight (m.imgs.length : Int) ++ imgsL m.imgs)))))) := by
  unfold putL bodyL headL wordsL
  simp
 have t := textOf_length (sumAdd (0, 0) (bodyL m))
 have e8 := eight_lengthS
 have d8 : (putL m).drop 8 = eight m.kind ++ (eight m.epoch ++ (eight m.k ++ (eight (if m.full then 1 else 0) ++ (eight m.pages ++ (eight (m.imgs.length : Int) ++ imgsL m.imgs))))) := by
  rw [hs]; exact drop8 _ _ 0 t
 have d16 : (putL m).drop 16 = eight m.epoch ++ (eight m.k ++ (eight (if m.full then 1 else 0) ++ (eight m.pages ++ (eight (m.imgs.length : Int) ++ imgsL m.imgs)))) := by
  rw [show (16 : Nat) = 8 + 8 from rfl, ← List.drop_drop, d8]; exact drop8 _ _ 0 (e8 _)
 have d24 : (putL m).drop 24 = eight m.k ++ (eight (if m.full then 1 else 0) ++ (eight m.pages ++ (eight (m.imgs.length : Int) ++ imgsL m.imgs))) := by
  rw [show (24 : Nat) = 16 + 8 from rfl, ← List.drop_drop, d16]; exact drop8 _ _ 0 (e8 _)
 have d32 : (putL m).drop 32 = eight (if m.full then 1 else 0) ++ (eight m.pages ++ (eight (m.imgs.length : Int) ++ imgsL m.imgs)) := by
  rw [show (32 : Nat) = 24 + 8 from rfl, ← List.drop_drop, d24]; exact drop8 _ _ 0 (e8 _)
 have d40 : (putL m).drop 40 = eight m.pages ++ (eight (m.imgs.length : Int) ++ imgsL m.imgs) := by
  rw [show (40 : Nat) = 32 + 8 from rfl, ← List.drop_drop, d32]; exact drop8 _ _ 0 (e8 _)
 have d48 : (putL m).drop 48 = eight (m.imgs.length : Int) ++ imgsL m.imgs := by
  rw [show (48 : Nat) = 40 + 8 from rfl, ← List.drop_drop, d40]; exact drop8 _ _ 0 (e8 _)
 have d56 : (putL m).drop 56 = imgsL m.imgs := by
  rw [show (56 : Nat) = 48 + 8 from rfl, ← List.drop_drop, d48]; exact drop8 _ _ 0 (e8 _)
 unfold parseSh
 rw [d8, d16, d24, d32, d40, d48, d56, take8 _ _ (e8 _), take8 _ _ (e8 _), take8 _ _ (e8 _), take8 _ _ (e8 _), take8 _ _ (e8 _), take8 _ _ (e8 _)]
 rw [num_eight _ k0 (by omega), num_eight _ e0 e1, num_eight _ g0 g1, num_eight _ p0 (by omega), num_eight (m.imgs.length : Int) (by omega) (by omega), parseAll_imgs _ h3]
 have hf : (num (eight (if m.full = true then 1 else 0)) == 1) = m.full := by
  cases m.full
  ·rw [if_neg (by decide), num_eight 0 (by decide) (by decide)]; rfl
  ·rw [if_pos rfl, num_eight 1 (by decide) (by decide)]; rfl
 rw [hf]
 have a1 : m.kind % 256 = m.kind := by omega
 have a2 : m.pages % 1099511627776 = m.pages := by omega
 rw [a1, a2]
theorem take_put (m : Sh) (h : mayB m = true) (hw : ShWf m) : takeM (putL m) = (m, 0) := by
 have hl := putL_length m h
 unfold takeM
 have h1 : (putL m).take 8 = textOf (sumAdd (0, 0) (bodyL m)) := take8 _ _ (textOf_length _)
 have h2 : (putL m).drop 8 = bodyL m := drop8 _ _ 0 (textOf_length _)
 rw [if_neg (by omega), h1, h2, if_neg (by simp), parse_put m h hw, if_pos ⟨h, rfl⟩]
theorem take_zero (s : List UInt8) (h : (takeM s).2 ≠ 0) : (takeM s).1 = zeroSh := by
 unfold takeM at *
 split
 ·rfl
 ·split
  ·rfl
  ·split
   ·rename_i h1 h2 h3; rw [if_neg h1, if_neg h2, if_pos h3] at h; exact absurd rfl h
   ·rfl
theorem take_ok (s : List UInt8) (h : (takeM s).2 = 0) : mayB (takeM s).1 = true ∧ putL (takeM s).1 = s ∧ (takeM s).1 = parseSh s := by
 unfold takeM at *
 by_cases h1 : s.length < 56 ∨ s.length % 8 ≠ 0
 ·rw [if_pos h1] at h; cases h
 ·rw [if_neg h1] at h ⊢
  by_cases h2 : ¬ s.take 8 = textOf (sumAdd (0, 0) (s.drop 8))
  ·rw [if_pos h2] at h; cases h
  ·rw [if_neg h2] at h ⊢
   by_cases h3 : mayB (parseSh s) = true ∧ putL (parseSh s) = s
   ·rw [if_pos h3]; exact ⟨h3.1, h3.2, rfl⟩
   ·rw [if_neg h3] at h; cases h
theorem parse_wf (s : List UInt8) : ShWf (parseSh s) := by
 refine ⟨⟨?_, ?_⟩, num8_lt _, num8_lt _⟩ <;> simp only [parseSh] <;> omega
theorem take_block (m : Sh) (h : mayB m = true) (hw : ShWf m) (n : Nat) (a b c d : List UInt8) (ha : a.length = 8 * n) (hb : b.length = 8) (hc : c.length = 8) (hs : putL m = a ++ b ++ d) (hne : b ≠ c) : (takeM (a ++ c ++ d)).2 ≠ 0 := by
 intro h0
 obtain ⟨_, h2, _⟩ := take_ok _ h0
 have h2t : (a ++ c ++ d).take 8 = textOf (sumAdd (0, 0) ((a ++ c ++ d).drop 8)) := by
  have e : (a ++ c ++ d) = textOf (sumAdd (0, 0) (bodyL (takeM (a ++ c ++ d)).1)) ++ bodyL (takeM (a ++ c ++ d)).1 := h2.symm
  have e1 : (a ++ c ++ d).take 8 = textOf (sumAdd (0, 0) (bodyL (takeM (a ++ c ++ d)).1)) := by
   conv => lhs; rw [e]
   exact take8 _ _ (textOf_length _)
  have e2 : (a ++ c ++ d).drop 8 = bodyL (takeM (a ++ c ++ d)).1 := by
   conv => lhs; rw [e]
   exact drop8 _ _ 0 (textOf_length _)
  rw [e1, e2]
 have h1t : (a ++ b ++ d).take 8 = textOf (sumAdd (0, 0) ((a ++ b ++ d).drop 8)) := by
  rw [← hs]
  have e1 : (putL m).take 8 = textOf (sumAdd (0, 0) (bodyL m)) := take8 _ _ (textOf_length _)
  have e2 : (putL m).drop 8 = bodyL m := drop8 _ _ 0 (textOf_length _)
  rw [e1, e2]
 cases n with
 | zero =>
  obtain rfl : a = [] := List.length_eq_zero_iff.1 (by omega)
  rw [List.nil_append, take8 _ _ hb, show (b ++ d).drop 8 = d from drop8 _ _ 0 hb] at h1t
  rw [List.nil_append, take8 _ _ hc, show (c ++ d).drop 8 = d from drop8 _ _ 0 hc] at h2t
  exact hne (h1t.trans h2t.symm)
 | succ n =>
  have t1 : (a ++ b ++ d).take 8 = a.take 8 := by rw [List.append_assoc, List.take_append_of_le_length (by omega)]
  have t2 : (a ++ c ++ d).take 8 = a.take 8 := by rw [List.append_assoc, List.take_append_of_le_length (by omega)]
  have d1 : (a ++ b ++ d).drop 8 = a.drop 8 ++ b ++ d := by rw [List.append_assoc, List.drop_append_of_le_length (by omega), List.append_assoc]
  have d2 : (a ++ c ++ d).drop 8 = a.drop 8 ++ c ++ d := by rw [List.append_assoc, List.drop_append_of_le_length (by omega), List.append_assoc]
  rw [t1, d1] at h1t
  rw [t2, d2] at h2t
  have z : (0 ≤ ((0, 0) : Int × Int).1 ∧ ((0, 0) : Int × Int).1 < 4294967296) ∧ (0 ≤ ((0, 0) : Int × Int).2 ∧ ((0, 0) : Int × Int).2 < 4294967296) := by decide
  have e := textOf_inj (sumAdd_bdS _ _ z.1 z.2) (sumAdd_bdS _ _ z.1 z.2) (h1t.symm.trans h2t)
  exact hne (sum_block (n := n) z (by simp; omega) hb hc e)
theorem take_any (s : List UInt8) (w : World) (hs : s.length ≤ 1099511627776) :
  Calls Tryz.prog 49 #[.string (bs s)] w fun e w' => ∃ v, e = .returned (.tuple #[shipV (takeM s).1 v, .int .i64 (takeM s).2]) ∧ SImgsAt w' v (takeM s).1.imgs ∧ (∀ b off n cap, v = .slice (some ⟨b, off, none⟩) n cap → w.heap.size ≤ b) ∧ Below w.heap.size w w' := by
 by_cases h1 : s.length < 56
 ·have e : takeM s = (zeroSh, 7) := by unfold takeM; rw [if_pos (.inl h1)]
  rw [e]
  exact (take_short s w h1).mono fun _ _ ⟨he, hb⟩ => ⟨.slice none 0 0, he, .inl ⟨⟨_, _, rfl⟩, rfl⟩, (fun b off n cap e => by cases e), hb⟩
 ·by_cases h2 : s.length % 8 ≠ 0
  ·have e : takeM s = (zeroSh, 7) := by unfold takeM; rw [if_pos (.inr h2)]
   rw [e]
   exact (take_odd s w (by omega) h2 hs).mono fun _ _ ⟨he, hb⟩ => ⟨.slice none 0 0, he, .inl ⟨⟨_, _, rfl⟩, rfl⟩, (fun b off n cap e => by cases e), hb⟩
  ·have h2' : s.length % 8 = 0 := by omega
   by_cases h3 : s.take 8 = textOf (sumAdd (0, 0) (s.drop 8))
   ·exact take_main s w (by omega) h2' hs h3
   ·have e : takeM s = (zeroSh, 40) := by unfold takeM; rw [if_neg (by omega), if_pos h3]
    rw [e]
    exact (take_sum s w (by omega) h2' hs h3).mono fun _ _ ⟨he, hb⟩ => ⟨.slice none 0 0, he, .inl ⟨⟨_, _, rfl⟩, rfl⟩, (fun b off n cap e => by cases e), hb⟩
end Go.Proofs.YtjacmfdbmfemkaaGreat.Rf
