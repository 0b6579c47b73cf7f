import Derived.Test.YtlkkclooihjpiaaGreatPlain
import Derived.Test.YtlkkclooihjpiaaGreatShelf
import Derived.Test.YtlkkclooihjpiaaGreatRegion
import Derived.Deep.DeepCutAuto
set_option linter.unusedVariables false
set_option linter.unusedSimpArgs false
namespace Go.Proofs.YtlkkclooihjpiaaGreat
open Go.RowKit
set_option maxRecDepth 20000
def inB (n a b : Int) : Bool := decide (a ≤ n) && decide (n ≤ b)
theorem inB_true {n a b : Int} : inB n a b = true ↔ a ≤ n ∧ n ≤ b := by unfold inB; simp
theorem inB_false {n a b : Int} : inB n a b = false ↔ n < a ∨ b < n := by
 rw [← Bool.not_eq_true, inB_true]; omega
theorem within_any (n a b : Int) (w : World) :
  Calls Tryz.prog 79 #[.int .i64 n, .int .i64 a, .int .i64 b] w fun e w' => e = .returned (.bool (inB n a b)) ∧ w' = w := by
 by_cases h1 : a ≤ n
 ·have b1 : decide (a ≤ n) = true := by simpa using h1
  by_cases h2 : n ≤ b
  ·have b2 : decide (n ≤ b) = true := by simpa using h2
   have e : inB n a b = true := inB_true.2 ⟨h1, h2⟩
   have E := hid e
   clear e
   go_enter Tryz.func79, Tryz.ntmps79
   go_wp2_with fail
   go_ret
   exact ⟨ret_bool E.out.symm, rfl⟩
  ·have b2 : decide (n ≤ b) = false := by simpa using h2
   have e : inB n a b = false := inB_false.2 (by omega)
   have E := hid e
   clear e
   go_enter Tryz.func79, Tryz.ntmps79
   go_wp2_with fail
   go_ret
   exact ⟨ret_bool E.out.symm, rfl⟩
 ·have b1 : decide (a ≤ n) = false := by simpa using h1
  have e : inB n a b = false := inB_false.2 (by omega)
  have E := hid e
  clear e
  go_enter Tryz.func79, Tryz.ntmps79
  go_wp2_with fail
  go_ret
  exact ⟨ret_bool E.out.symm, rfl⟩
theorem pfour_any (n : Int) (w : World) (h0 : 0 ≤ n) (h1 : n < 4294967296) :
  Calls Tryz.prog 125 #[.int .i64 n] w fun e w' => e = .returned (.string (bs (four n))) ∧ Below w.heap.size w w' := by
 have F := fun W => four_any n W h0 h1
 go_enter Tryz.func125, Tryz.ntmps125
 go_wp2_with fail
 refine (F _).mono ?_
 rintro e w1 ⟨rfl, hb1⟩
 go_wp2_with fail
 go_ret
 exact ⟨rfl, hb1⟩
theorem repeat_one (c : UInt8) : ∀ n, Lib.repeatL [c] n = List.replicate n c
 | 0 => rfl
 | n + 1 => by simp [Lib.repeatL, repeat_one c n, List.replicate_succ]
theorem noughts_any (k : Nat) (w : World) (hk : k ≤ 1000) :
  Calls Tryz.prog 78 #[.int .i64 (k : Int)] w fun e w' => e = .returned (.string (bs (List.replicate k 0))) ∧ Below w.heap.size w w' := by
 have R := fun W => Tryz.strings_Repeat (bs [0]) k W (by omega) (by rw [bs_size]; simp; omega)
 have e0 : ByteArray.mk #[0] = bs [0] := rfl
 go_enter Tryz.func78, Tryz.ntmps78
 go_wp2_with fail
 refine (R _).mono ?_
 rintro e w1 ⟨rfl, hb1⟩
 go_wp2_with fail
 go_ret
 exact ⟨ret_str (repeat_one 0 k), hb1⟩
theorem noughts_at (z : Int) (k : Nat) (w : World) (hz : z = (k : Int)) (hk : k ≤ 1000) :
  Calls Tryz.prog 78 #[.int .i64 z] w fun e w' => e = .returned (.string (bs (List.replicate k 0))) ∧ Below w.heap.size w w' := by
 subst hz
 exact noughts_any k w hk
theorem join_flat : ∀ xs : List (List UInt8), Lib.join xs [] = xs.flatten
 | [] => rfl
 | [x] => by simp [Lib.join_one]
 | x :: y :: r => by
  have := join_flat (y :: r)
  simp only [List.flatten_cons] at *
  rw [← this]
  simp [Lib.join]
theorem parts_any (xs : List (List UInt8)) (n g o c : Nat) (w : World) (hn : xs.length = n) (hcells : ∀ (j : Nat) x, xs[j]? = some x → w.cell? ⟨g, o + j, none⟩ = some (.string (bs x))) (hg : g < w.heap.size) (hN : n ≤ 100) (hcap : n ≤ c) (hlen : xs.flatten.length ≤ 140737488355328) :
  Calls Tryz.prog 124 #[.slice (some ⟨g, o, none⟩) n c] w fun e w' => e = .returned (.string (bs xs.flatten)) ∧ Below w.heap.size w w' := by
 subst hn
 have e1 : (xs.map bs).map (fun b => b.data.toList) = xs := by rw [List.map_map]; conv => rhs; rw [← List.map_id xs]
                                                               rfl
 have J := Tryz.strings_Join g o c (xs.map bs) (bs []) w (by
  intro j x hx
  rw [List.getElem?_map] at hx
  cases hj : xs[j]? with
  | none => rw [hj] at hx; cases hx
  | some y =>
   rw [hj] at hx
   obtain rfl : bs y = x := by simpa using hx
   exact hcells j y hj) hg (by simp; omega) (by simpa using hcap) (by rw [e1, bs_data, join_flat]; exact hlen)
 rw [e1, bs_data, join_flat, List.length_map] at J
 have HJ := hid J
 clear J hcells e1
 go_enter Tryz.func124, Tryz.ntmps124
 go_wp2_with fail
 refine HJ.out.mono ?_
 rintro e w1 ⟨rfl, hb1⟩
 go_wp2_with fail
 go_ret
 exact ⟨rfl, hb1⟩
end Go.Proofs.YtlkkclooihjpiaaGreat
namespace Go.Proofs.YtlkkclooihjpiaaGreat
open Go.RowKit
set_option maxRecDepth 20000
structure Hd where
 number : Int
 frames : Int
 pages : Int
def HdWf (h : Hd) : Prop := 0 ≤ h.number ∧ h.number < 18446744073709551616
def hdV (h : Hd) : Value := .agg #[.int .u64 h.number, .int .i64 h.frames, .int .i64 h.pages]
def hdMay (h : Hd) : Bool := inB h.frames 0 256 && inB h.pages 0 256
def wordC : List UInt8 := [99, 111, 117, 110, 116, 101, 114, 102]
def zeros (k : Nat) : List UInt8 := List.replicate k 0
theorem zeros_length (k : Nat) : (zeros k).length = k := List.length_replicate ..
theorem four_length (n : Int) : (four n).length = 4 := rfl
theorem wordC_length : wordC.length = 8 := rfl
def hdB (h : Hd) : List UInt8 := [wordC, eight h.number, four h.frames, four h.pages].flatten
theorem hdB_length (h : Hd) : (hdB h).length = 24 := by simp [hdB, wordC_length, eight_length, four_length]
def hdL (h : Hd) : List UInt8 := [hdB h, textOf (sumAdd (0, 0) (hdB h)), zeros 32].flatten
theorem hdL_length (h : Hd) : (hdL h).length = 64 := by simp [hdL, hdB_length, textOf_length, zeros_length]
def hdR (h : Hd) : List UInt8 × Int := if hdMay h then (hdL h, 0) else ([], 2)
theorem cells3 {W : World} {b : Nat} {T : TypeId} {a0 a1 a2 : Value} (h : W.heap[b]? = some (.cells #[a0, a1, a2] T (0, 0))) :
  W.cell? ⟨b, 0, none⟩ = some a0 ∧ W.cell? ⟨b, 1, none⟩ = some a1 ∧ W.cell? ⟨b, 2, none⟩ = some a2 ∧ (∀ o, W.frozen? ⟨b, o, none⟩ = false) := by
 refine ⟨?_, ?_, ?_, fun o => by simp [World.frozen?, h]⟩ <;> simp [World.cell?, h]
theorem cells2 {W : World} {b : Nat} {T : TypeId} {a0 a1 : Value} (h : W.heap[b]? = some (.cells #[a0, a1] T (0, 0))) :
  W.cell? ⟨b, 0, none⟩ = some a0 ∧ W.cell? ⟨b, 1, none⟩ = some a1 ∧ (∀ o, W.frozen? ⟨b, o, none⟩ = false) := by
 refine ⟨?_, ?_, fun o => by simp [World.frozen?, h]⟩ <;> simp [World.cell?, h]
theorem heap_two_new (w : World) (a b : Obj) : ((w.alloc a).alloc b).heap[w.heap.size + 1]? = some b := by
 have h := heap_alloc_new (w.alloc a) b
 have e : (w.alloc a).heap.size = w.heap.size + 1 := by simp
 rwa [e] at h
theorem heap_two_old (w : World) (a b : Obj) : ((w.alloc a).alloc b).heap[w.heap.size]? = some a := heap_alloc_old (heap_alloc_new _ _)
theorem parts_new (xs : List (List UInt8)) (n : Nat) (T : TypeId) (w : World) (hn : xs.length = n) (hN : n ≤ 100) (hlen : xs.flatten.length ≤ 140737488355328) (cs : Array Value) (hcs : cs = (xs.map fun x => Value.string (bs x)).toArray) :
  Calls Tryz.prog 124 #[.slice (some ⟨w.heap.size, 0, none⟩) n n] (w.alloc (.cells cs T)) fun e w' => e = .returned (.string (bs xs.flatten)) ∧ Below w.heap.size w w' := by
 refine (parts_any xs n w.heap.size 0 n (w.alloc (.cells cs T)) hn ?_ (by simp) hN (Nat.le_refl _) hlen).mono ?_
 ·intro j x hx
  rw [cell_of_block (heap_alloc_new w _), hcs]
  simp [hx]
 ·rintro e w' ⟨he, hb⟩
  exact ⟨he, ((Below.refl _ _).alloc (Nat.le_refl _) _).trans (hb.mono (by simp))⟩
set_option maxHeartbeats 1000000 in
set_option maxRecDepth 100000 in
theorem putHead_no (h : Hd) (w : World) (hno : hdMay h = false) :
  Calls Tryz.prog 123 #[hdV h] w fun e w' => e = .returned (.tuple #[.string (bs []), .int .i64 2]) ∧ Below w.heap.size w w' := by
 obtain ⟨number, frames, pages⟩ := h
 simp only [hdMay] at hno
 have F1 := fun W => within_any frames 0 256 W
 have F2 := fun W => within_any pages 0 256 W
 obtain ⟨b1, h1⟩ : ∃ b, b = inB frames 0 256 := ⟨_, rfl⟩
 obtain ⟨b2, h2⟩ : ∃ b, b = inB pages 0 256 := ⟨_, rfl⟩
 simp only [← h1] at F1 hno
 simp only [← h2] at F2 hno
 clear h1 h2
 unfold hdV
 cases b1
 ·clear hno
  go_enter Tryz.func123, Tryz.ntmps123
  go_wp2_with fail
  refine (F1 _).mono ?_
  rintro e w1 ⟨rfl, rfl⟩
  go_wp2_with fail
  go_ret2
  exact ⟨rfl, (Below.refl _ _).alloc (Nat.le_refl _) _⟩
 ·cases b2
  ·clear hno
   go_enter Tryz.func123, Tryz.ntmps123
   go_wp2_with fail
   refine (F1 _).mono ?_
   rintro e w1 ⟨rfl, rfl⟩
   go_wp2_with fail
   refine (F2 _).mono ?_
   rintro e w1 ⟨rfl, rfl⟩
   go_wp2_with fail
   go_ret2
   exact ⟨rfl, (Below.refl _ _).alloc (Nat.le_refl _) _⟩
  ·cases hno
set_option maxHeartbeats 2000000 in
set_option maxRecDepth 100000 in
theorem putHead_yes (h : Hd) (w : World) (hyes : hdMay h = true) (hwf : HdWf h) :
  Calls Tryz.prog 123 #[hdV h] w fun e w' => e = .returned (.tuple #[.string (bs (hdL h)), .int .i64 0]) ∧ Below w.heap.size w w' := by
 have hq := sumAdd_bd (0, 0) (hdB h) (by decide) (by decide)
 have hlen := hdB_length h
 have hL : hdL h = [hdB h, textOf (sumAdd (0, 0) (hdB h)), zeros 32].flatten := rfl
 have hLL := hdL_length h
 have hB : hdB h = [wordC, eight h.number, four h.frames, four h.pages].flatten := rfl
 obtain ⟨B, hBd⟩ : ∃ B, B = hdB h := ⟨_, rfl⟩
 rw [← hBd] at hq hlen hL hB
 have O := fun W => of_any B W (by omega)
 obtain ⟨q, hqd⟩ : ∃ q, q = sumAdd (0, 0) B := ⟨_, rfl⟩
 simp only [← hqd] at hq hL O
 have T := fun W => text_any q W hq.1.1 hq.1.2 hq.2.1 hq.2.2
 have Z : ∀ W : World, Calls Tryz.prog 78 #[.int .i64 32] W fun e w' => e = .returned (.string (bs (zeros 32))) ∧ Below W.heap.size W w' := fun W => noughts_at 32 32 W rfl (by decide)
 obtain ⟨number, frames, pages⟩ := h
 simp only [hdMay, Bool.and_eq_true] at hyes
 obtain ⟨f1, f2⟩ := inB_true.1 hyes.1
 obtain ⟨p1, p2⟩ := inB_true.1 hyes.2
 have F1 := fun W => within_any frames 0 256 W
 have F2 := fun W => within_any pages 0 256 W
 simp only [hyes.1] at F1
 simp only [hyes.2] at F2
 have E1 := fun W => eight_any number W hwf.1 hwf.2
 have E2 := fun W => pfour_any frames W f1 (by omega)
 have E3 := fun W => pfour_any pages W p1 (by omega)
 have P1 := fun W => parts_new [wordC, eight number, four frames, four pages] 4 9 W rfl (by decide) (by simp [wordC_length, eight_length, four_length]) #[.string (bs wordC), .string (bs (eight number)), .string (bs (four frames)), .string (bs (four pages))] (by simp)
 have P2 := fun W => parts_new [B, textOf q, zeros 32] 3 9 W rfl (by decide) (by rw [← hL, hLL]; decide) #[.string (bs B), .string (bs (textOf q)), .string (bs (zeros 32))] (by simp)
 simp only [← hL] at P2
 simp only at hB
 simp only [← hB] at P1
 have ew : ByteArray.mk #[99, 111, 117, 110, 116, 101, 114, 102] = bs wordC := rfl
 have HL := hid hL
 have Hq := hid hq
 clear hq hlen hL hLL hB hBd hqd hwf hyes f1 f2 p1 p2
 unfold hdV
 go_enter Tryz.func123, Tryz.ntmps123
 go_wp2_with fail
 refine (F1 _).mono ?_
 rintro e w1 ⟨rfl, rfl⟩
 go_wp2_with fail
 refine (F2 _).mono ?_
 rintro e w1 ⟨rfl, rfl⟩
 clear F1 F2
 have hbox := heap_alloc_new w (.cells #[.int .u64 number, .int .i64 frames, .int .i64 pages] 104)
 obtain ⟨c0, c1, c2, cf⟩ := cells3 hbox
 have r0 := fun d os => cell_regrown c0 d os
 have r1 := fun d os => cell_regrown c1 d os
 have r2 := fun d os => cell_regrown c2 d os
 clear hbox c0 c1 c2 cf
 go_wp2_with fail
 refine region_grow [0, 1, 2, 3, 4, 5, 6, 7, 8] 9 [10, 11] (by kernel_rfl) (by kernel_rfl) ?_
 simp only [pick, List.getElem?_cons_succ, List.getElem?_cons_zero]
 repeat (go_big_quiet_step ((first | (go_at_call 76; with_reducible exact Calls.regrown_of (E1 _)) | (go_at_call 125; first | with_reducible exact Calls.regrown_of (E2 _) | with_reducible exact Calls.regrown_of (E3 _)))))
 refine wpQuiet_nil ?_
 intro w1 hb1
 have hbw1 : Below w.heap.size w w1 := ((Below.refl _ _).alloc (Nat.le_refl _) _).trans (hb1.mono (by simp))
 clear r0 r1 r2 E1 E2 E3 hb1
 go_wp2_with fail
 refine (P1 _).mono ?_
 rintro e w2 ⟨rfl, hb2⟩
 have hbw2 := hbw1.trans (hb2.mono hbw1.size)
 clear P1 hb2
 go_wp2_with fail
 refine (O _).mono ?_
 rintro e w3 ⟨rfl, hb3⟩
 have hbw3 := hbw2.trans (hb3.mono hbw2.size)
 clear O hb3
 go_wp2_with fail
 refine (T _).mono ?_
 rintro e w4 ⟨rfl, hb4⟩
 have hbw4 := hbw3.trans (hb4.mono hbw3.size)
 clear T hb4
 go_wp2_with fail
 refine (Z _).mono ?_
 rintro e w5 ⟨rfl, hb5⟩
 have hbw5 := hbw4.trans (hb5.mono hbw4.size)
 clear Z hb5
 go_wp2_with fail
 refine (P2 _).mono ?_
 rintro e w6 ⟨rfl, hb6⟩
 have hbw6 := hbw5.trans (hb6.mono hbw5.size)
 clear P2 hb6
 go_wp2_with fail
 go_ret2
 exact ⟨rfl, hbw6⟩
theorem putHead_any (h : Hd) (w : World) (hwf : HdWf h) :
  Calls Tryz.prog 123 #[hdV h] w fun e w' => e = .returned (.tuple #[.string (bs (hdR h).1), .int .i64 (hdR h).2]) ∧ Below w.heap.size w w' := by
 unfold hdR
 cases hm : hdMay h
 ·exact putHead_no h w hm
 ·exact putHead_yes h w hm hwf
def startP (n : Int) : Int × Int := sumAdd (0, 0) (wordC ++ eight n)
def pairV (p : Int × Int) : Value := .agg #[.int .u32 p.1, .int .u32 p.2]
set_option maxHeartbeats 400000 in
theorem start_any (n : Int) (w : World) (h0 : 0 ≤ n) (h1 : n < 18446744073709551616) :
  Calls Tryz.prog 54 #[.int .u64 n] w fun e w' => e = .returned (pairV (startP n)) ∧ Below w.heap.size w w' := by
 have E := fun W => eight_any n W h0 h1
 have O := fun W => of_any (wordC ++ eight n) W (by simp [wordC_length, eight_length])
 have hl : (eight n).length = 8 := eight_length n
 have hl2 : (wordC ++ eight n).length = 16 := by simp [wordC_length, eight_length]
 have ew : ByteArray.mk #[99, 111, 117, 110, 116, 101, 114, 102] = bs wordC := rfl
 have hs : startP n = sumAdd (0, 0) (wordC ++ eight n) := rfl
 obtain ⟨q, hq⟩ : ∃ q, q = sumAdd (0, 0) (wordC ++ eight n) := ⟨_, rfl⟩
 simp only [← hq] at O hs
 rw [hs]
 clear hq hs
 unfold pairV
 go_enter Tryz.func54, Tryz.ntmps54
 go_wp2_with fail
 refine (E _).mono ?_
 rintro e w1 ⟨rfl, hb1⟩
 go_wp2_with fail
 refine (O _).mono ?_
 rintro e w2 ⟨rfl, hb2⟩
 have hB : Below (w.alloc (.cells #[.int .u32 0, .int .u32 0] 108)).heap.size (w.alloc (.cells #[.int .u32 0, .int .u32 0] 108)) w2 := hb1.trans (hb2.mono hb1.size)
 have hbox := (hB.block w.heap.size (by simp)).trans (heap_alloc_new _ _)
 have hbw : Below w.heap.size w w2 := ((Below.refl _ _).alloc (Nat.le_refl _) _).trans (hB.mono (by simp))
 obtain ⟨c0, c1, cf⟩ := cells2 hbox
 clear hB hb1 hb2 E O hbox
 go_wp2_with fail
 refine bodyPost_ret (v := .agg #[.int .u32 q.1, .int .u32 q.2]) (by simp [results, Tryz.results54, go_sem, c0, c1, cf]) rfl ⟨rfl, ?_⟩
 exact (hbw.setCell (by simp) _).setCell (by simp) _
end Go.Proofs.YtlkkclooihjpiaaGreat
namespace Go.Proofs.YtlkkclooihjpiaaGreat
open Go.RowKit
set_option maxRecDepth 20000
theorem four_of (l : List UInt8) (h : 4 ≤ l.length) : ∃ a b c d t, l = a :: b :: c :: d :: t := by
 match l, h with
 | a :: b :: c :: d :: t, _ => exact ⟨a, b, c, d, t, rfl⟩
theorem takeFour_any (l : List UInt8) (w : World) (h : 4 ≤ l.length) (hs : l.length ≤ 9223372036854775807) :
  Calls Tryz.prog 60 #[.string (bs l)] w fun e' w' => e' = .returned (.tuple #[.int .u32 (num (l.take 4)), .int .i64 0]) ∧ Below w.heap.size w w' := by
 obtain ⟨a, b, c, d, t, rfl⟩ := four_of l h
 refine (takeFour_yes a b c d t w (by simpa using hs)).mono fun e w' h => ?_
 first
  | exact ⟨h.1, h.2⟩
  | exact ⟨h.1, by rw [h.2]; exact Below.refl _ _⟩
theorem num4_bd (l : List UInt8) : 0 ≤ num (l.take 4) ∧ num (l.take 4) < 4294967296 := by
 refine ⟨num_lo _, ?_⟩
 have h := num_hi (l.take 4)
 have h2 : (l.take 4).length ≤ 4 := by simp; omega
 have h3 : (256 : Nat) ^ (l.take 4).length ≤ 256 ^ 4 := Nat.pow_le_pow_right (by decide) h2
 have h4 : ((256 : Int) ^ (l.take 4).length) = ((256 ^ (l.take 4).length : Nat) : Int) := by simp
 omega
def foursC (s : List UInt8) : Nat → Array Value
 | 0 => #[.int .i64 0, .int .i64 0, .int .i64 0, .int .i64 0]
 | k + 1 => (foursC s k).setIfInBounds k (.int .i64 (num ((s.drop (4 * k)).take 4)))
theorem foursC_size (s : List UInt8) : ∀ k, (foursC s k).size = 4
 | 0 => rfl
 | k + 1 => by simp [foursC, foursC_size s k]
theorem foursC_succ (s : List UInt8) (k : Nat) : foursC s (k + 1) = (foursC s k).setIfInBounds k (.int .i64 (num ((s.drop (4 * k)).take 4))) := rfl
theorem foursC_four (s : List UInt8) : foursC s 4 = #[.int .i64 (num (s.take 4)), .int .i64 (num ((s.drop 4).take 4)), .int .i64 (num ((s.drop 8).take 4)), .int .i64 (num ((s.drop 12).take 4))] := rfl
attribute [irreducible] foursC
def FoursRel (s : List UInt8) (w : World) (v7 : Value) (wr : World) : Prop :=
 ∃ k : Nat, k ≤ 4 ∧ v7 = .int .i64 k ∧ wr.heap[w.heap.size + 1]? = some (.cells (foursC s k) 149 (0, 0)) ∧
  wr.heap[w.heap.size]? = some (.cells #[.int .i64 0, .int .i64 0, .int .i64 0, .int .i64 0] 149 (0, 0)) ∧ Below w.heap.size w wr
def foursV (s : List UInt8) : Value := .agg #[.int .i64 (num (s.take 4)), .int .i64 (num ((s.drop 4).take 4)), .int .i64 (num ((s.drop 8).take 4)), .int .i64 (num ((s.drop 12).take 4))]
set_option maxHeartbeats 1000000 in
theorem fours_any (s : List UInt8) (w : World) (hs : 16 ≤ s.length) (hl : s.length ≤ 1099511627776) :
  Calls Tryz.prog 77 #[.string (bs s)] w fun e w' => e = .returned (foursV s) ∧ Below w.heap.size w w' := by
 unfold foursV
 go_enter Tryz.func77, Tryz.ntmps77
 go_wp2_with fail
 go_loopw [7] (fun v7 wr => FoursRel s w v7 wr) (fun v7 _ => 4 - (intOf v7).toNat)
 case atStart => exact ⟨0, by omega, rfl, by unfold foursC; simpa using heap_alloc_new (w.alloc _) _, heap_alloc_old (heap_alloc_new _ _), ((Below.refl _ _).alloc (Nat.le_refl _) _).alloc (by simp) _⟩
 case round =>
  obtain ⟨k, hk, rfl, hC, hR, hb⟩ := hrel
  by_cases hlt : k < 4
  ·have F := fun W => takeFour_any (s.drop (4 * k)) W (by simp; omega) (by simp; omega)
   have nb := num4_bd (s.drop (4 * k))
   have hnext := foursC_succ s k
   obtain ⟨n, hn⟩ : ∃ n, n = num ((s.drop (4 * k)).take 4) := ⟨_, rfl⟩
   simp only [← hn] at F nb hnext
   obtain ⟨n0, n1⟩ := nb
   have Hnext := hid hnext
   have HC := hid hC
   have HR := hid hR
   clear hn hnext hC hR
   have f1 : (4 : Int) * (k : Int) ≤ (s.length : Int) := by omega
   have f2 : (0 : Int) ≤ 4 * (k : Int) := by omega
   have f3 : (4 * (k : Int)).toNat = 4 * k := by omega
   have f4 : 4 * k ≤ s.length := by omega
   have f5 : (k : Int) < 4 := by omega
   go_wp2_with fail
   refine (F _).mono ?_
   rintro e w1 ⟨rfl, hb1⟩
   have hC1 := (hb1.block _ (lt_of_block HC.out)).trans HC.out
   have hR1 := (hb1.block _ (lt_of_block HR.out)).trans HR.out
   have hbw := hb.trans (hb1.mono hb.size)
   have hsz := foursC_size s k
   have ck : ∃ x, w1.cell? ⟨w.heap.size + 1, k, none⟩ = some x := ⟨(foursC s k)[k]'(by omega), by rw [cell_of_block hC1]; simp [hsz, hlt]⟩
   obtain ⟨x, cx⟩ := ck
   have cf := free_of_block hC1 k
   have HC1 := hid hC1
   have HR1 := hid hR1
   clear hC1 hR1 hb1 F HC HR hsz
   go_wp2_with fail
   refine ⟨⟨k + 1, by omega, by go_num, ?_, ?_, hbw.setCell (by simp) _⟩, by simp [intOf]; omega⟩
   ·rw [heap_setCell_same HC1.out k _, Hnext.out]
   ·rw [Below.heap_setCell _ ⟨w.heap.size + 1, k, none⟩ _ _ (by simp), HR1.out]
  ·obtain rfl : k = 4 := by omega
   rw [foursC_four] at hC
   have d0 := cell_of_block hC 0
   have d1 := cell_of_block hC 1
   have d2 := cell_of_block hC 2
   have d3 := cell_of_block hC 3
   have c0 := cell_of_block hR 0
   have c1 := cell_of_block hR 1
   have c2 := cell_of_block hR 2
   have c3 := cell_of_block hR 3
   have cf := fun o => free_of_block hR o
   simp at c0 c1 c2 c3 d0 d1 d2 d3
   clear hC hR
   go_wp2_with fail
   refine bodyPost_ret (v := foursV s) (by simp [results, Tryz.results77, go_sem, foursV, c0, c1, c2, c3, cf]) rfl ⟨rfl, ?_⟩
   iterate 4 refine Below.setCell ?_ (by simp) _
   exact hb
end Go.Proofs.YtlkkclooihjpiaaGreat
namespace Go.Proofs.YtlkkclooihjpiaaGreat
open Go.RowKit
set_option maxRecDepth 20000
def zeroHd : Hd := ⟨0, 0, 0⟩
def hdOf (s : List UInt8) : Hd := ⟨num ((s.drop 8).take 8), num ((s.drop 16).take 4), num ((s.drop 20).take 4)⟩
def hdBad (s : List UInt8) : Bool := !(s.take 8 == wordC) || (!((s.drop 32).take 32 == zeros 32) || (!inB (hdOf s).frames 0 256 || !inB (hdOf s).pages 0 256))
def tkHd (s : List UInt8) : Hd × Int :=
 if s.length < 64 then (zeroHd, 10)
 else if hdBad s then (zeroHd, 11)
 else if (s.drop 24).take 8 == textOf (sumAdd (0, 0) (s.take 24)) then (hdOf s, 0) else (zeroHd, 40)
theorem sub_take (s : List UInt8) (a b k n : Nat) (h : k + n ≤ b) : (((s.drop a).take b).drop k).take n = (s.drop (a + k)).take n := by
 rw [List.drop_take, List.take_take, List.drop_drop]
 congr 1
 omega
theorem sub_take0 (s : List UInt8) (a b n : Nat) (h : n ≤ b) : ((s.drop a).take b).take n = (s.drop a).take n := by
 rw [List.take_take]
 congr 1
 omega
set_option maxHeartbeats 400000 in
theorem takeHead_short (s : List UInt8) (w : World) (h : s.length < 64) :
  Calls Tryz.prog 55 #[.string (bs s)] w fun e w' => e = .returned (.tuple #[hdV zeroHd, .int .i64 10]) ∧ Below w.heap.size w w' := by
 have h1 : decide ((s.length : Int) < 64) = true := by simp; omega
 go_enter Tryz.func55, Tryz.ntmps55
 go_wp2_with fail
 refine bodyPost_ret (v := .tuple #[hdV zeroHd, .int .i64 10]) (by simp [results, Tryz.results55, go_sem, hdV, zeroHd]) rfl ⟨rfl, ?_⟩
 repeat (first | exact (Below.refl _ _).alloc (Nat.le_refl _) _ | refine Below.setCell ?_ (by simp) _)
set_option maxHeartbeats 4000000 in
set_option maxRecDepth 100000 in
theorem takeHead_long (s : List UInt8) (w : World) (h : 64 ≤ s.length) (hs : s.length ≤ 1099511627776) :
  Calls Tryz.prog 55 #[.string (bs s)] w fun e w' => e = .returned (.tuple #[hdV (tkHd s).1, .int .i64 (tkHd s).2]) ∧ Below w.heap.size w w' := by
 have h1 : decide ((s.length : Int) < 64) = false := by simp; omega
 have hres : tkHd s = if hdBad s then (zeroHd, 11) else if (s.drop 24).take 8 == textOf (sumAdd (0, 0) (s.take 24)) then (hdOf s, 0) else (zeroHd, 40) := by
  unfold tkHd; rw [if_neg (by omega)]
 have hbad : hdBad s = (!(s.take 8 == wordC) || (!((s.drop 32).take 32 == zeros 32) || (!inB (hdOf s).frames 0 256 || !inB (hdOf s).pages 0 256))) := rfl
 have G1 := fun W => takeEight_any (s.drop 8) W (by simp; omega) (by simp; omega)
 have G2 := fun W => fours_any ((s.drop 16).take 16) W (by simp; omega) (by simp; omega)
 have hof : hdOf s = ⟨num ((s.drop 8).take 8), num ((s.drop 16).take 4), num ((s.drop 20).take 4)⟩ := rfl
 unfold foursV at G2
 rw [sub_take0 s 16 16 4 (by omega), sub_take s 16 16 4 4 (by omega)] at G2
 have bq := num8_lt (s.drop 8)
 obtain ⟨n, hn⟩ : ∃ x, x = num ((s.drop 8).take 8) := ⟨_, rfl⟩
 obtain ⟨f, hf⟩ : ∃ x, x = num ((s.drop 16).take 4) := ⟨_, rfl⟩
 obtain ⟨p, hp⟩ : ∃ x, x = num ((s.drop 20).take 4) := ⟨_, rfl⟩
 obtain ⟨u, hu⟩ : ∃ x, x = num ((((s.drop 16).take 16).drop 8).take 4) := ⟨_, rfl⟩
 obtain ⟨v, hv⟩ : ∃ x, x = num ((((s.drop 16).take 16).drop 12).take 4) := ⟨_, rfl⟩
 simp only [← hn] at G1 hof bq
 simp only [← hf, ← hu, ← hv] at G2
 simp only [← hf] at hof
 simp only [← hp] at G2 hof
 rw [hof] at hres hbad
 simp only at hbad
 obtain ⟨B, hB⟩ : ∃ b, b = hdBad s := ⟨_, rfl⟩
 rw [← hB] at hres hbad
 have Hres := hid hres
 have Hbad := hid hbad
 have hq := sumAdd_bd (0, 0) (s.take 24) (by decide) (by decide)
 have O := fun W => of_any (s.take 24) W (by simp; omega)
 have T := fun W => text_any (sumAdd (0, 0) (s.take 24)) W hq.1.1 hq.1.2 hq.2.1 hq.2.2
 have Z : ∀ W : World, Calls Tryz.prog 78 #[.int .i64 32] W fun e w' => e = .returned (.string (bs (zeros 32))) ∧ Below W.heap.size W w' := fun W => noughts_at 32 32 W rfl (by decide)
 have F1 : ∀ W : World, Calls Tryz.prog 79 #[.int .i64 f, .int .i64 0, .int .i64 256] W fun e w' => e = .returned (.bool (inB f 0 256)) ∧ Below W.heap.size W w' := fun W => (within_any f 0 256 W).mono fun e w' ⟨h1, h2⟩ => ⟨h1, by rw [h2]; exact Below.refl _ _⟩
 have F2 : ∀ W : World, Calls Tryz.prog 79 #[.int .i64 p, .int .i64 0, .int .i64 256] W fun e w' => e = .returned (.bool (inB p 0 256)) ∧ Below W.heap.size W w' := fun W => (within_any p 0 256 W).mono fun e w' ⟨h1, h2⟩ => ⟨h1, by rw [h2]; exact Below.refl _ _⟩
 have ew : ByteArray.mk #[99, 111, 117, 110, 116, 101, 114, 102] = bs wordC := rfl
 have s8 : (8 : Int) ≤ (s.length : Int) := by omega
 have s32 : (32 : Int) ≤ (s.length : Int) := by omega
 have s64 : (64 : Int) ≤ (s.length : Int) := by omega
 have s24 : (24 : Int) ≤ (s.length : Int) := by omega
 have t8 : (8 : Nat) ≤ s.length := by omega
 have t32 : (32 : Nat) ≤ s.length := by omega
 have t24 : (24 : Nat) ≤ s.length := by omega
 clear hres hbad hn hf hp hu hv hof hq hB
 go_enter Tryz.func55, Tryz.ntmps55
 go_wp2_with fail
 refine (G1 _).mono ?_
 rintro e w1 ⟨rfl, hb1⟩
 have HR := hid ((hb1.block w.heap.size (by simp)).trans (heap_alloc_new _ _))
 have hbw1 : Below w.heap.size w w1 := ((Below.refl _ _).alloc (Nat.le_refl _) _).trans (hb1.mono (by simp))
 clear hb1 G1
 go_wp2_with fail
 refine (G2 _).mono ?_
 rintro e w2 ⟨rfl, hb2⟩
 have HR2 := hid ((hb2.block w.heap.size (lt_of_block HR.out)).trans HR.out)
 have hbw2 := hbw1.trans (hb2.mono hbw1.size)
 have hRlt := lt_of_block HR2.out
 clear hb2 G2 HR hbw1
 go_upto_region 6 with fail
 go_cut [47] (fun s47 wx => s47 = .bool B ∧ ∃ wy, wy = wx ∧ Below ((w2.alloc (.cells #[.int .i64 f, .int .i64 p, .int .i64 u, .int .i64 v] 149)).alloc (.cells #[.int .u64 n, .int .i64 f, .int .i64 p] 104)).heap.size ((w2.alloc (.cells #[.int .i64 f, .int .i64 p, .int .i64 u, .int .i64 v] 149)).alloc (.cells #[.int .u64 n, .int .i64 f, .int .i64 p] 104)) wy)
 case first =>
  obtain ⟨c0, c1, c2, cf⟩ := cells3 (heap_two_new w2 (.cells #[.int .i64 f, .int .i64 p, .int .i64 u, .int .i64 v] 149) (.cells #[.int .u64 n, .int .i64 f, .int .i64 p] 104))
  have r1 := fun d os => cell_regrown c1 d os
  have r2 := fun d os => cell_regrown c2 d os
  clear c0 c1 c2 cf O T
  cases e1 : (s.take 8 == wordC)
  ·have hz := hid True.intro
   refine region_below (by kernel_rfl) (by kernel_rfl) ?_
   repeat (go_big_quiet_step ((first | (go_at_call 78; with_reducible exact Calls.regrown_of (Z _)) | (go_at_call 79; first | with_reducible exact Calls.regrown_of (F1 _) | with_reducible exact Calls.regrown_of (F2 _)))))
   refine wpQuiet_nil ?_
   intro w3 hb3
   go_wp2_with fail
   go_meet
   exact ⟨by rw [Hbad.out]; simp [e1], _, rfl, hb3⟩
  ·cases e2 : ((s.drop 32).take 32 == zeros 32)
   ·have hz := hid True.intro
    refine region_below (by kernel_rfl) (by kernel_rfl) ?_
    repeat (go_big_quiet_step ((first | (go_at_call 78; with_reducible exact Calls.regrown_of (Z _)) | (go_at_call 79; first | with_reducible exact Calls.regrown_of (F1 _) | with_reducible exact Calls.regrown_of (F2 _)))))
    refine wpQuiet_nil ?_
    intro w3 hb3
    go_wp2_with fail
    go_meet
    exact ⟨by rw [Hbad.out]; simp [e1, e2], _, rfl, hb3⟩
   ·obtain ⟨x, hx⟩ : ∃ x, x = inB f 0 256 := ⟨_, rfl⟩
    obtain ⟨y, hy⟩ : ∃ y, y = inB p 0 256 := ⟨_, rfl⟩
    rw [← hx, ← hy] at Hbad
    simp only [← hx] at F1
    simp only [← hy] at F2
    clear hx hy
    cases x
    ·have hz := hid True.intro
     refine region_below (by kernel_rfl) (by kernel_rfl) ?_
     repeat (go_big_quiet_step ((first | (go_at_call 78; with_reducible exact Calls.regrown_of (Z _)) | (go_at_call 79; first | with_reducible exact Calls.regrown_of (F1 _) | with_reducible exact Calls.regrown_of (F2 _)))))
     refine wpQuiet_nil ?_
     intro w3 hb3
     go_wp2_with fail
     go_meet
     exact ⟨by rw [Hbad.out]; simp [e1, e2], _, rfl, hb3⟩
    ·cases y
     ·have hz := hid True.intro
      refine region_below (by kernel_rfl) (by kernel_rfl) ?_
      repeat (go_big_quiet_step ((first | (go_at_call 78; with_reducible exact Calls.regrown_of (Z _)) | (go_at_call 79; first | with_reducible exact Calls.regrown_of (F1 _) | with_reducible exact Calls.regrown_of (F2 _)))))
      refine wpQuiet_nil ?_
      intro w3 hb3
      go_wp2_with fail
      go_meet
      exact ⟨by rw [Hbad.out]; simp [e1, e2], _, rfl, hb3⟩
     ·have hz := hid True.intro
      refine region_below (by kernel_rfl) (by kernel_rfl) ?_
      repeat (go_big_quiet_step ((first | (go_at_call 78; with_reducible exact Calls.regrown_of (Z _)) | (go_at_call 79; first | with_reducible exact Calls.regrown_of (F1 _) | with_reducible exact Calls.regrown_of (F2 _)))))
      refine wpQuiet_nil ?_
      intro w3 hb3
      go_wp2_with fail
      go_meet
      exact ⟨by rw [Hbad.out]; simp [e1, e2], _, rfl, hb3⟩
 case rest =>
  obtain ⟨rfl, wx, rfl, hbx⟩ := hcut
  have hb26 : Below w2.heap.size w2 ((w2.alloc (.cells #[.int .i64 f, .int .i64 p, .int .i64 u, .int .i64 v] 149)).alloc (.cells #[.int .u64 n, .int .i64 f, .int .i64 p] 104)) := ((Below.refl _ _).alloc (Nat.le_refl _) _).alloc (by simp) _
  have hbwx : Below w.heap.size w wx := (hbw2.trans (hb26.mono hbw2.size)).trans (hbx.mono (by have := hbw2.size; simp; omega))
  have HRx := hid ((hbx.block w.heap.size (by simp; omega)).trans (heap_alloc_old (heap_alloc_old HR2.out)))
  have HMx := hid ((hbx.block (w2.heap.size + 1) (by simp)).trans (heap_two_new w2 _ _))
  have hRx := lt_of_block HRx.out
  have hMx := lt_of_block HMx.out
  obtain ⟨r0, r1, r2, rf⟩ := cells3 HRx.out
  obtain ⟨m0, m1, m2, mf⟩ := cells3 HMx.out
  clear hbx hb26 HR2 HRx HMx F1 F2 Z
  cases B
  ·cases e5 : ((s.drop 24).take 8 == textOf (sumAdd (0, 0) (s.take 24)))
   ·have hr : tkHd s = (zeroHd, 40) := by rw [Hres.out, e5]; rfl
    have Hr := hid hr
    clear hr Hres Hbad
    go_wp2_with fail
    refine region_below (by kernel_rfl) (by kernel_rfl) ?_
    repeat (go_big_quiet_step ((first | (go_at_call 75; with_reducible exact Calls.regrown_of (O _)) | (go_at_call 80; with_reducible exact Calls.regrown_of (T _)))))
    refine wpQuiet_nil ?_
    intro w7 hb7
    have hbw7 := hbwx.trans (hb7.mono hbwx.size)
    have r0' := (hb7.cell (p := ⟨w.heap.size, 0, none⟩) hRx).trans r0
    have r1' := (hb7.cell (p := ⟨w.heap.size, 1, none⟩) hRx).trans r1
    have r2' := (hb7.cell (p := ⟨w.heap.size, 2, none⟩) hRx).trans r2
    have rf' := fun o => (hb7.frozen (p := ⟨w.heap.size, o, none⟩) hRx).trans (rf o)
    have m0' := (hb7.cell (p := ⟨w2.heap.size + 1, 0, none⟩) hMx).trans m0
    have m1' := (hb7.cell (p := ⟨w2.heap.size + 1, 1, none⟩) hMx).trans m1
    have m2' := (hb7.cell (p := ⟨w2.heap.size + 1, 2, none⟩) hMx).trans m2
    clear r0 r1 r2 rf m0 m1 m2 mf hbwx hb7 O T
    obtain ⟨r0, r1, r2, rf, hbwx⟩ := (⟨r0', r1', r2', rf', hbw7⟩ : _ ∧ _ ∧ _ ∧ _ ∧ _)
    clear r0' r1' r2' rf' hbw7
    go_wp2_with fail
    refine bodyPost_ret (v := .tuple #[hdV zeroHd, .int .i64 40]) (by simp [results, Tryz.results55, go_sem, hdV, zeroHd, r0, r1, r2, rf]) rfl ⟨by rw [Hr.out], ?_⟩
    iterate 3 refine Below.setCell ?_ (by simp) _
    exact hbwx
   ·have hr : tkHd s = (⟨n, f, p⟩, 0) := by rw [Hres.out, e5]; rfl
    have Hr := hid hr
    clear hr Hres Hbad
    go_wp2_with fail
    refine region_below (by kernel_rfl) (by kernel_rfl) ?_
    repeat (go_big_quiet_step ((first | (go_at_call 75; with_reducible exact Calls.regrown_of (O _)) | (go_at_call 80; with_reducible exact Calls.regrown_of (T _)))))
    refine wpQuiet_nil ?_
    intro w7 hb7
    have hbw7 := hbwx.trans (hb7.mono hbwx.size)
    have r0' := (hb7.cell (p := ⟨w.heap.size, 0, none⟩) hRx).trans r0
    have r1' := (hb7.cell (p := ⟨w.heap.size, 1, none⟩) hRx).trans r1
    have r2' := (hb7.cell (p := ⟨w.heap.size, 2, none⟩) hRx).trans r2
    have rf' := fun o => (hb7.frozen (p := ⟨w.heap.size, o, none⟩) hRx).trans (rf o)
    have m0' := (hb7.cell (p := ⟨w2.heap.size + 1, 0, none⟩) hMx).trans m0
    have m1' := (hb7.cell (p := ⟨w2.heap.size + 1, 1, none⟩) hMx).trans m1
    have m2' := (hb7.cell (p := ⟨w2.heap.size + 1, 2, none⟩) hMx).trans m2
    clear r0 r1 r2 rf m0 m1 m2 mf hbwx hb7 O T
    obtain ⟨r0, r1, r2, rf, hbwx⟩ := (⟨r0', r1', r2', rf', hbw7⟩ : _ ∧ _ ∧ _ ∧ _ ∧ _)
    clear r0' r1' r2' rf' hbw7
    go_wp2_with fail
    refine bodyPost_ret (v := .tuple #[hdV ⟨n, f, p⟩, .int .i64 0]) (by simp [results, Tryz.results55, go_sem, hdV, zeroHd, r0, r1, r2, rf]) rfl ⟨by rw [Hr.out], ?_⟩
    iterate 3 refine Below.setCell ?_ (by simp) _
    exact hbwx
  ·have hr : tkHd s = (zeroHd, 11) := by rw [Hres.out]; rfl
   have Hr := hid hr
   clear hr Hres Hbad O T
   go_wp2_with fail
   refine bodyPost_ret (v := .tuple #[hdV zeroHd, .int .i64 11]) (by simp [results, Tryz.results55, go_sem, hdV, zeroHd, r0, r1, r2, rf]) rfl ⟨by rw [Hr.out], ?_⟩
   iterate 3 refine Below.setCell ?_ (by simp) _
   exact hbwx
theorem takeHead_any (s : List UInt8) (w : World) (hs : s.length ≤ 1099511627776) :
  Calls Tryz.prog 55 #[.string (bs s)] w fun e w' => e = .returned (.tuple #[hdV (tkHd s).1, .int .i64 (tkHd s).2]) ∧ Below w.heap.size w w' := by
 by_cases h : s.length < 64
 ·have e : tkHd s = (zeroHd, 10) := by unfold tkHd; rw [if_pos h]
  rw [e]
  exact takeHead_short s w h
 ·exact takeHead_long s w (by omega) hs
end Go.Proofs.YtlkkclooihjpiaaGreat
