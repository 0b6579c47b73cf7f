/- frame.PutHead and frame.Start: what they come to. -/
import Derived.Test.YtioafhkblmebmaaFrA
namespace Go.Proofs.Ytioafhkblmebmaa
open Go.RowKit
set_option linter.unusedVariables false
set_option linter.unusedSimpArgs false

structure Hd where
  number : Int
  frames : Int
  pages : Int
def HdWf (h : Hd) : Prop := 0 ≤ h.number ∧ h.number < 18446744073709551616
def hdV (h : Hd) : Value := .agg #[.int .u64 h.number, .int .i64 h.frames, .int .i64 h.pages]
def hdMay (h : Hd) : Bool := inB h.frames 0 256 && inB h.pages 0 256
def wordC : List UInt8 := [99, 111, 117, 110, 116, 101, 114, 102]
def zeros (k : Nat) : List UInt8 := List.replicate k 0
theorem zeros_length (k : Nat) : (zeros k).length = k := List.length_replicate ..
theorem four_length (n : Int) : (four n).length = 4 := rfl
theorem wordC_length : wordC.length = 8 := rfl
def hdB (h : Hd) : List UInt8 := [wordC, eight h.number, four h.frames, four h.pages].flatten
theorem hdB_length (h : Hd) : (hdB h).length = 24 := by simp [hdB, wordC_length, eight_length, four_length]
def hdL (h : Hd) : List UInt8 := [hdB h, textOf (sumAdd (0, 0) (hdB h)), zeros 32].flatten
theorem hdL_length (h : Hd) : (hdL h).length = 64 := by simp [hdL, hdB_length, textOf_length, zeros_length]
def hdR (h : Hd) : List UInt8 × Int := if hdMay h then (hdL h, 0) else ([], 2)

theorem cells3 {W : World} {b : Nat} {T : TypeId} {a0 a1 a2 : Value} (h : W.heap[b]? = some (.cells #[a0, a1, a2] T (0, 0))) :
    W.cell? ⟨b, 0, none⟩ = some a0 ∧ W.cell? ⟨b, 1, none⟩ = some a1 ∧ W.cell? ⟨b, 2, none⟩ = some a2 ∧ (∀ o, W.frozen? ⟨b, o, none⟩ = false) := by
  refine ⟨?_, ?_, ?_, fun o => by simp [World.frozen?, h]⟩ <;> simp [World.cell?, h]
theorem cells2 {W : World} {b : Nat} {T : TypeId} {a0 a1 : Value} (h : W.heap[b]? = some (.cells #[a0, a1] T (0, 0))) :
    W.cell? ⟨b, 0, none⟩ = some a0 ∧ W.cell? ⟨b, 1, none⟩ = some a1 ∧ (∀ o, W.frozen? ⟨b, o, none⟩ = false) := by
  refine ⟨?_, ?_, fun o => by simp [World.frozen?, h]⟩ <;> simp [World.cell?, h]
theorem heap_two_new (w : World) (a b : Obj) : ((w.alloc a).alloc b).heap[w.heap.size + 1]? = some b := by
  have h := heap_alloc_new (w.alloc a) b
  have e : (w.alloc a).heap.size = w.heap.size + 1 := by simp
  rwa [e] at h
theorem heap_two_old (w : World) (a b : Obj) : ((w.alloc a).alloc b).heap[w.heap.size]? = some a := heap_alloc_old (heap_alloc_new _ _)
/-- 'parts' of strings that have just been laid in a row. -/
theorem parts_new (xs : List (List UInt8)) (n : Nat) (T : TypeId) (w : World) (hn : xs.length = n) (hN : n ≤ 100) (hlen : xs.flatten.length ≤ 140737488355328) (cs : Array Value) (hcs : cs = (xs.map fun x => Value.string (bs x)).toArray) :
    Calls Try.prog 62 #[.slice (some ⟨w.heap.size, 0, none⟩) n n] (w.alloc (.cells cs T)) fun e w' => e = .returned (.string (bs xs.flatten)) ∧ Below w.heap.size w w' := by
  refine (parts_any xs n w.heap.size 0 n (w.alloc (.cells cs T)) hn ?_ (by simp) hN (Nat.le_refl _) hlen).mono ?_
  · intro j x hx
    rw [cell_of_block (heap_alloc_new w _), hcs]
    simp [hx]
  · rintro e w' ⟨he, hb⟩
    exact ⟨he, ((Below.refl _ _).alloc (Nat.le_refl _) _).trans (hb.mono (by simp))⟩

set_option maxHeartbeats 1000000 in
set_option maxRecDepth 100000 in
theorem putHead_no (h : Hd) (w : World) (hno : hdMay h = false) :
    Calls Try.prog 66 #[hdV h] w fun e w' => e = .returned (.tuple #[.string (bs []), .int .i64 2]) ∧ Below w.heap.size w w' := by
  obtain ⟨number, frames, pages⟩ := h
  simp only [hdMay] at hno
  have F1 := fun W => within_any frames 0 256 W
  have F2 := fun W => within_any pages 0 256 W
  obtain ⟨b1, h1⟩ : ∃ b, b = inB frames 0 256 := ⟨_, rfl⟩
  obtain ⟨b2, h2⟩ : ∃ b, b = inB pages 0 256 := ⟨_, rfl⟩
  simp only [← h1] at F1 hno
  simp only [← h2] at F2 hno
  clear h1 h2
  unfold hdV
  cases b1
  · clear hno
    go_enter Try.func66, Try.ntmps66
    go_wp2_with fail
    refine (F1 _).mono ?_
    rintro e w1 ⟨rfl, rfl⟩
    go_wp2_with fail
    go_ret2
    exact ⟨rfl, (Below.refl _ _).alloc (Nat.le_refl _) _⟩
  · cases b2
    · clear hno
      go_enter Try.func66, Try.ntmps66
      go_wp2_with fail
      refine (F1 _).mono ?_
      rintro e w1 ⟨rfl, rfl⟩
      go_wp2_with fail
      refine (F2 _).mono ?_
      rintro e w1 ⟨rfl, rfl⟩
      go_wp2_with fail
      go_ret2
      exact ⟨rfl, (Below.refl _ _).alloc (Nat.le_refl _) _⟩
    · cases hno

set_option maxHeartbeats 2000000 in
set_option maxRecDepth 100000 in
theorem putHead_yes (h : Hd) (w : World) (hyes : hdMay h = true) (hwf : HdWf h) :
    Calls Try.prog 66 #[hdV h] w fun e w' => e = .returned (.tuple #[.string (bs (hdL h)), .int .i64 0]) ∧ Below w.heap.size w w' := by
  have hq := sumAdd_bd (0, 0) (hdB h) (by decide) (by decide)
  have hlen := hdB_length h
  have hL : hdL h = [hdB h, textOf (sumAdd (0, 0) (hdB h)), zeros 32].flatten := rfl
  have hLL := hdL_length h
  have hB : hdB h = [wordC, eight h.number, four h.frames, four h.pages].flatten := rfl
  obtain ⟨B, hBd⟩ : ∃ B, B = hdB h := ⟨_, rfl⟩
  rw [← hBd] at hq hlen hL hB
  have O := fun W => of_any B W (by omega)
  obtain ⟨q, hqd⟩ : ∃ q, q = sumAdd (0, 0) B := ⟨_, rfl⟩
  simp only [← hqd] at hq hL O
  have T := fun W => text_any q W hq.1.1 hq.1.2 hq.2.1 hq.2.2
  have Z : ∀ W : World, Calls Try.prog 57 #[.int .i64 32] W fun e w' => e = .returned (.string (bs (zeros 32))) ∧ Below W.heap.size W w' := fun W => noughts_at 32 32 W rfl (by decide)
  obtain ⟨number, frames, pages⟩ := h
  simp only [hdMay, Bool.and_eq_true] at hyes
  obtain ⟨f1, f2⟩ := inB_true.1 hyes.1
  obtain ⟨p1, p2⟩ := inB_true.1 hyes.2
  have F1 := fun W => within_any frames 0 256 W
  have F2 := fun W => within_any pages 0 256 W
  simp only [hyes.1] at F1
  simp only [hyes.2] at F2
  have E1 := fun W => eight_any number W hwf.1 hwf.2
  have E2 := fun W => pfour_any frames W f1 (by omega)
  have E3 := fun W => pfour_any pages W p1 (by omega)
  have P1 := fun W => parts_new [wordC, eight number, four frames, four pages] 4 9 W rfl (by decide) (by simp [wordC_length, eight_length, four_length]) #[.string (bs wordC), .string (bs (eight number)), .string (bs (four frames)), .string (bs (four pages))] (by simp)
  have P2 := fun W => parts_new [B, textOf q, zeros 32] 3 9 W rfl (by decide) (by rw [← hL, hLL]; decide) #[.string (bs B), .string (bs (textOf q)), .string (bs (zeros 32))] (by simp)
  simp only [← hL] at P2
  simp only at hB
  simp only [← hB] at P1
  have ew : ByteArray.mk #[99, 111, 117, 110, 116, 101, 114, 102] = bs wordC := rfl
  have HL := hid hL
  have Hq := hid hq
  clear hq hlen hL hLL hB hBd hqd hwf hyes f1 f2 p1 p2
  unfold hdV
  go_enter Try.func66, Try.ntmps66
  go_wp2_with fail
  refine (F1 _).mono ?_
  rintro e w1 ⟨rfl, rfl⟩
  go_wp2_with fail
  refine (F2 _).mono ?_
  rintro e w1 ⟨rfl, rfl⟩
  clear F1 F2
  have hbox := heap_alloc_new w (.cells #[.int .u64 number, .int .i64 frames, .int .i64 pages] 57)
  obtain ⟨c0, c1, c2, cf⟩ := cells3 hbox
  have r0 := fun d os => cell_regrown c0 d os
  have r1 := fun d os => cell_regrown c1 d os
  have r2 := fun d os => cell_regrown c2 d os
  clear hbox c0 c1 c2 cf
  go_wp2_with fail
  refine region_grow [0, 1, 2, 3, 4, 5, 6, 7, 8] 9 [10, 11] (by kernel_rfl) (by kernel_rfl) ?_
  simp only [pick, List.getElem?_cons_succ, List.getElem?_cons_zero]
  repeat (go_big_quiet_step ((first | (go_at_call 54; with_reducible exact Calls.regrown_of (E1 _)) | (go_at_call 63; first | with_reducible exact Calls.regrown_of (E2 _) | with_reducible exact Calls.regrown_of (E3 _)))))
  refine wpQuiet_nil ?_
  intro w1 hb1
  have hbw1 : Below w.heap.size w w1 := ((Below.refl _ _).alloc (Nat.le_refl _) _).trans (hb1.mono (by simp))
  clear r0 r1 r2 E1 E2 E3 hb1
  go_wp2_with fail
  refine (P1 _).mono ?_
  rintro e w2 ⟨rfl, hb2⟩
  have hbw2 := hbw1.trans (hb2.mono hbw1.size)
  clear P1 hb2
  go_wp2_with fail
  refine (O _).mono ?_
  rintro e w3 ⟨rfl, hb3⟩
  have hbw3 := hbw2.trans (hb3.mono hbw2.size)
  clear O hb3
  go_wp2_with fail
  refine (T _).mono ?_
  rintro e w4 ⟨rfl, hb4⟩
  have hbw4 := hbw3.trans (hb4.mono hbw3.size)
  clear T hb4
  go_wp2_with fail
  refine (Z _).mono ?_
  rintro e w5 ⟨rfl, hb5⟩
  have hbw5 := hbw4.trans (hb5.mono hbw4.size)
  clear Z hb5
  go_wp2_with fail
  refine (P2 _).mono ?_
  rintro e w6 ⟨rfl, hb6⟩
  have hbw6 := hbw5.trans (hb6.mono hbw5.size)
  clear P2 hb6
  go_wp2_with fail
  go_ret2
  exact ⟨rfl, hbw6⟩

theorem putHead_any (h : Hd) (w : World) (hwf : HdWf h) :
    Calls Try.prog 66 #[hdV h] w fun e w' => e = .returned (.tuple #[.string (bs (hdR h).1), .int .i64 (hdR h).2]) ∧ Below w.heap.size w w' := by
  unfold hdR
  cases hm : hdMay h
  · exact putHead_no h w hm
  · exact putHead_yes h w hm hwf

def startP (n : Int) : Int × Int := sumAdd (0, 0) (wordC ++ eight n)
def pairV (p : Int × Int) : Value := .agg #[.int .u32 p.1, .int .u32 p.2]
set_option maxHeartbeats 400000 in
theorem start_any (n : Int) (w : World) (h0 : 0 ≤ n) (h1 : n < 18446744073709551616) :
    Calls Try.prog 30 #[.int .u64 n] w fun e w' => e = .returned (pairV (startP n)) ∧ Below w.heap.size w w' := by
  have E := fun W => eight_any n W h0 h1
  have O := fun W => of_any (wordC ++ eight n) W (by simp [wordC_length, eight_length])
  have hl : (eight n).length = 8 := eight_length n
  have hl2 : (wordC ++ eight n).length = 16 := by simp [wordC_length, eight_length]
  have ew : ByteArray.mk #[99, 111, 117, 110, 116, 101, 114, 102] = bs wordC := rfl
  have hs : startP n = sumAdd (0, 0) (wordC ++ eight n) := rfl
  obtain ⟨q, hq⟩ : ∃ q, q = sumAdd (0, 0) (wordC ++ eight n) := ⟨_, rfl⟩
  simp only [← hq] at O hs
  rw [hs]
  clear hq hs
  unfold pairV
  go_enter Try.func30, Try.ntmps30
  go_wp2_with fail
  refine (E _).mono ?_
  rintro e w1 ⟨rfl, hb1⟩
  go_wp2_with fail
  refine (O _).mono ?_
  rintro e w2 ⟨rfl, hb2⟩
  have hB : Below (w.alloc (.cells #[.int .u32 0, .int .u32 0] 73)).heap.size (w.alloc (.cells #[.int .u32 0, .int .u32 0] 73)) w2 := hb1.trans (hb2.mono hb1.size)
  have hbox := (hB.block w.heap.size (by simp)).trans (heap_alloc_new _ _)
  have hbw : Below w.heap.size w w2 := ((Below.refl _ _).alloc (Nat.le_refl _) _).trans (hB.mono (by simp))
  obtain ⟨c0, c1, cf⟩ := cells2 hbox
  clear hB hb1 hb2 E O hbox
  go_wp2_with fail
  refine bodyPost_ret (v := .agg #[.int .u32 q.1, .int .u32 q.2]) (by simp [results, Try.results30, go_sem, c0, c1, cf]) rfl ⟨rfl, ?_⟩
  exact (hbw.setCell (by simp) _).setCell (by simp) _
end Go.Proofs.Ytioafhkblmebmaa
