/- Open of a log. -/
import Derived.Test.YtlkkclooihjpiaaGreatWaK
set_option linter.unusedVariables false
set_option linter.unusedSimpArgs false
namespace Go.Proofs.YtlkkclooihjpiaaGreat
open Go.RowKit Go.Maps
set_option maxRecDepth 20000
def openN (d : Dsk) (salt : Int) : Nat → Nat → List Fr → (Int × Int) → Option (List Fr × (Int × Int))
 | 0, _, l, p => some (l, p)
 | c + 1, i, l, p => if (readM d 1 (1 + 9 * (i : Int)) 9).2 ≠ 0 then none else if (tkFr p salt (readM d 1 (1 + 9 * (i : Int)) 9).1).e ≠ 0 then none
  else openN d salt c (i + 1) (l ++ [(tkFr p salt (readM d 1 (1 + 9 * (i : Int)) 9).1).f]) (tkFr p salt (readM d 1 (1 + 9 * (i : Int)) 9).1).q
def firstM (d : Dsk) : List UInt8 := if 0 < (d.now 1).length then (readM d 1 0 1).1 else zeros 64
def lastCommit (l : List Fr) : Int := match l.getLast? with | some f => f.commit | none => 0
def lopenM (d : Dsk) : Option Lg × Int :=
 if d.off then (none, 32)
 else if firstM d = zeros 64 then (if (d.now 0).length % 8 ≠ 0 ∨ 256 < (d.now 0).length / 8 then (none, 7) else (some ⟨⟨0, 0, ((d.now 0).length / 8 : Nat)⟩, false, [], startP 0, false, false⟩, 0))
 else if (tkHd (firstM d)).2 ≠ 0 then (none, 7)
 else match openN d (tkHd (firstM d)).1.number (tkHd (firstM d)).1.frames.toNat 0 [] (startP (tkHd (firstM d)).1.number) with
  | none => (none, 7)
  | some x => if 0 < (tkHd (firstM d)).1.frames ∧ lastCommit x.1 ≠ (tkHd (firstM d)).1.pages then (none, 7) else (some ⟨(tkHd (firstM d)).1, true, x.1, x.2, false, false⟩, 0)
def OpenGave (w : World) (b : Nat) (F : Foot) (d : Dsk) (r : Option Lg × Int) (e : Ending) (w' : World) : Prop :=
 Below w.heap.size w w' ∧ match r.1 with
  | none => e = .returned (.tuple #[.pointer none, .int .i64 r.2])
  | some g => ∃ l G, e = .returned (.tuple #[.pointer (some ⟨l, 0, none⟩), .int .i64 0]) ∧ LgAt w' l b F G g d ∧ ∀ k, G k → w.heap.size ≤ k
section
variable {w w' : World} {b : Nat} {F : Foot} {d : Dsk}
set_option maxRecDepth 20000 in
theorem lopen_off (h : DiskAt w b F d) (ho : d.off = true) : Calls Tryz.prog 26 #[.pointer (some ⟨b, 0, none⟩)] w fun e w' => e = .returned (.tuple #[.pointer none, .int .i64 32]) ∧ w' = w := by
 have O := on_any h
 rw [ho] at O
 have O := hid O
 clear h ho
 go_enter Tryz.func26, Tryz.ntmps26
 go_wp2_with (first | (go_at_call 50; refine (O.out).mono ?_; rintro e w1 ⟨rfl, rfl⟩) | go_in)
 go_ret2
 exact ⟨rfl, rfl⟩
def zeroLg : Lg := ⟨⟨0, 0, 0⟩, false, [], (0, 0), false, false⟩
theorem opened {W : World} {lb : Nat} {g : Lg} {lv : Value} (h : DiskAt w b F d) (hb : Below w.heap.size w W) (hl : w.heap.size ≤ lb) (hk : W.heap[lb]? = some (.cells (logCells b g lv).toArray 110 (0, 0))) (hr : W.ownsRow w.heap.size 118 3 lv g.list.length (frsCells g.list)) (ho : g.Ok) :
  ∃ G, LgAt W lb b F G g d ∧ ∀ k, G k → w.heap.size ≤ k := by
 have ge : ∀ k, k = lb ∨ lv.ownBlock = some k → w.heap.size ≤ k ∧ k < W.heap.size := fun k h => h.elim (fun e => e ▸ ⟨hl, lt_of_block hk⟩) (fun e => row_base hr e)
 refine ⟨fun k => k = lb ∨ lv.ownBlock = some k, ⟨h.below hb, lv, hk, row_zero hr, fun k h => .inr h, .inl rfl, fun k h1 => ?_, fun k h => (ge k h).2, ho⟩, fun k h => (ge k h).1⟩
 have := (ge k h1).1
 exact ⟨fun h2 => by have := h.olt k h2; omega, fun h2 => by have := h.slt k h2; omega⟩
theorem first_read (h : DiskAt w b F d) (ho : d.off = false) (h1 : (d.now 1).length ≠ 0) : firstM d = (readM d 1 0 1).1 := by
 unfold firstM
 rw [if_pos (by omega)]
set_option maxHeartbeats 2000000 in
set_option maxRecDepth 20000 in
theorem lopen_bare (h : DiskAt w b F d) (ho : d.off = false) (hf : firstM d = zeros 64) : Calls Tryz.prog 26 #[.pointer (some ⟨b, 0, none⟩)] w fun e w' => OpenGave w b F d (lopenM d) e w' := by
 have hM : lopenM d = if (d.now 0).length % 8 ≠ 0 ∨ 256 < (d.now 0).length / 8 then (none, 7) else (some ⟨⟨0, 0, ((d.now 0).length / 8 : Nat)⟩, false, [], startP 0, false, false⟩, 0) := by
  unfold lopenM
  rw [ho, if_neg (by simp), if_pos hf]
 obtain ⟨M, hMM⟩ : ∃ M, M = lopenM d := ⟨_, rfl⟩
 rw [← hMM] at hM ⊢
 have O := on_any h
 rw [ho] at O
 have O := hid O
 obtain ⟨Z, hZ⟩ : ∃ Z, Z = List.replicate 64 (0 : UInt8) := ⟨_, rfl⟩
 have SZ0 : ∀ W, Below w.heap.size w W → Calls Tryz.prog 52 #[.pointer (some ⟨b, 0, none⟩), .int .i64 0] W fun e w' => e = .returned (.int .i64 ((d.now 0).length : Nat)) ∧ w' = W := fun W hb => by
  have := size_any (h.below hb) 0
  rwa [if_pos (by omega)] at this
 have SZ1 : ∀ W, Below w.heap.size w W → Calls Tryz.prog 52 #[.pointer (some ⟨b, 0, none⟩), .int .i64 1] W fun e w' => e = .returned (.int .i64 ((d.now 1).length : Nat)) ∧ w' = W := fun W hb => by
  have := size_any (h.below hb) 1
  rwa [if_pos (by omega)] at this
 have RD : (d.now 1).length ≠ 0 → ∀ W, Below w.heap.size w W → Calls Tryz.prog 53 #[.pointer (some ⟨b, 0, none⟩), .int .i64 1, .int .i64 0, .int .i64 1] W fun e w' => e = .returned (.tuple #[.string (bs Z), .int .i64 (readM d 1 0 1).2]) ∧ Below W.heap.size W w' := fun h1 W hb => by
  have := read_any (h.below hb) 1 0 1 (by omega)
  rwa [← first_read h ho h1, hf, show zeros 64 = Z from hZ.symm] at this
 have NT : ∀ W, Calls Tryz.prog 51 #[.int .i64 64] W fun e w' => e = .returned (.string (bs Z)) ∧ Below W.heap.size W w' := fun W => by rw [hZ]; exact wnoughts_any 64 W (by omega)
 have ST := fun W => start_any 0 W (by omega) (by omega)
 unfold pairV at ST
 have hb0 := (Below.refl w.heap.size w).alloc (Nat.le_refl _) (.cells (logCells b zeroLg (.slice none 0 0)).toArray 110)
 have hl0 := heap_alloc_new w (.cells (logCells b zeroLg (.slice none 0 0)).toArray 110)
 obtain ⟨s1, hs1⟩ : ∃ s1, s1 = (d.now 1).length := ⟨_, rfl⟩
 obtain ⟨s0, hs0⟩ : ∃ s0, s0 = (d.now 0).length := ⟨_, rfl⟩
 rw [← hs0] at SZ0 hM
 rw [← hs1] at SZ1 RD
 have hlen := h.ok.nl 0 (by omega)
 rw [← hs0] at hlen
 have hlt := h.lt
 have H := hid h
 have HM := hid hM
 have SZ0 := hid SZ0
 have SZ1 := hid SZ1
 have RD := hid RD
 have NT := hid NT
 have ST := hid ST
 have HB0 := hid hb0
 have HL0 := hid hl0
 clear h ho hM hMM hb0 hl0 hZ hf hs1 hs0
 go_enter Tryz.func26, Tryz.ntmps26
 go_upto_region 7 with (first
  | (go_at_call 50; refine (O.out).mono ?_; rintro e w1 ⟨rfl, hw⟩; obtain rfl := hw.symm)
  | (go_at_call 51; refine (NT.out _).mono ?_; rintro e w2 ⟨rfl, hb2⟩)
  | go_in)
 have hw2 : Below w.heap.size w w2 := HB0.out.trans (hb2.mono HB0.out.size)
 have hl2 : w2.heap[w.heap.size]? = some (.cells (logCells b zeroLg (.slice none 0 0)).toArray 110 (0, 0)) := (hb2.block _ (lt_of_block HL0.out)).trans HL0.out
 obtain ⟨lb, hlb⟩ : ∃ lb, lb = w.heap.size := ⟨_, rfl⟩
 rw [← hlb] at hl2 ⊢
 have Hlb := hid hlb
 have Hb2 := hid hw2
 have Hl2 := hid hl2
 clear hb2 hw2 hl2 hlb
 have hq1 : ((s0 : Int)).tmod 8 = ((s0 % 8 : Nat) : Int) := by rw [Int.tmod_eq_emod_of_nonneg (by omega)]; omega
 have hq2 : ((s0 : Int)).tdiv 8 = ((s0 / 8 : Nat) : Int) := by rw [Int.tdiv_eq_ediv_of_nonneg (by omega)]; omega
 obtain ⟨rm, hrm⟩ : ∃ rm : Nat, rm = s0 % 8 := ⟨_, rfl⟩
 obtain ⟨qt, hqt⟩ : ∃ qt : Nat, qt = s0 / 8 := ⟨_, rfl⟩
 rw [← hrm] at hq1 HM
 rw [← hqt] at hq2 HM
 have hqw : IntKind.i64.wrap (qt : Int) = (qt : Int) := IntWalk.i64_in _ (by omega)
 clear hrm hqt
 by_cases h1 : s1 = 0
 ·subst h1
  clear RD
  go_upto_region 10 with (first
   | (go_at_call 52; refine (SZ1.out _ Hb2.out).mono ?_; rintro e w3 ⟨rfl, hw⟩; obtain rfl := hw.symm)
   | (go_at_call 51; refine (NT.out _).mono ?_; rintro e w4 ⟨rfl, hb4⟩)
   | go_in)
  have hw4 : Below w.heap.size w w4 := Hb2.out.trans (hb4.mono Hb2.out.size)
  have hl4 := (hb4.block _ (lt_of_block Hl2.out)).trans Hl2.out
  have Hw4 := hid hw4
  have Hl4 := hid hl4
  clear hw4 hb4 hl4
  by_cases hr : rm = 0
  ·subst hr
   have r0 : (((0 : Nat) : Int) != 0) = false := by decide
   by_cases hq : 256 < qt
   ·have q0 : (256 : Int) < (qt : Int) := by omega
    go_wp2_with (first | (go_at_call 52; refine (SZ0.out _ Hw4.out).mono ?_; rintro e w5 ⟨rfl, hw⟩; obtain rfl := hw.symm) | go_in)
    go_ret2
    rw [HM.out, if_pos (.inr hq)]
    exact ⟨Hw4.out, rfl⟩
   ·have q0 : ¬ (256 : Int) < (qt : Int) := by omega
    have HM2 := HM.out
    rw [if_neg (by omega)] at HM2
    have HM2 := hid HM2
    have Hq := hid hq
    clear HM
    have a3 : w4.cell? ⟨lb, 3, none⟩ = some (.int .i64 0) := (cell_of_block Hl4.out 3).trans rfl
    go_upto_region 14 with (first
     | (go_at_call 52; refine (SZ0.out _ Hw4.out).mono ?_; rintro e w5 ⟨rfl, hw⟩; obtain rfl := hw.symm)
     | (go_at_call 54; refine (ST.out _).mono ?_; rintro e w6 ⟨rfl, hb6⟩; have hl6 := (hb6.block _ (lt_of_block Hl4.out)).trans Hl4.out; have Hl6 := hid hl6; have Hb6 := hid hb6; have b3 := (cell_of_block hl6 3).trans (rfl : _ = some (Value.int .i64 0)); have b6 := (cell_of_block hl6 6).trans (rfl : _ = some (Value.int .u32 0)); have b7 := (cell_of_block hl6 7).trans (rfl : _ = some (Value.int .u32 0)); have bf3 := free_of_block hl6 3; have bf6 := free_of_block hl6 6; have bf7 := free_of_block hl6 7; clear hl6 hb6)
     | go_in)
    have hk7 := heap_setCell_same (heap_setCell_same (heap_setCell_same Hl6.out 3 (.int .i64 (qt : Int))) 6 (.int .u32 (startP 0).1)) 7 (.int .u32 (startP 0).2)
    have hw6 : Below w.heap.size w w6 := Hw4.out.trans (Hb6.out.mono Hw4.out.size)
    have hw7 := ((hw6.setCell (p := ⟨lb, 3, none⟩) (by rw [Hlb.out]; exact Nat.le_refl _) (.int .i64 (qt : Int))).setCell (p := ⟨lb, 6, none⟩) (by rw [Hlb.out]; exact Nat.le_refl _) (.int .u32 (startP 0).1)).setCell (p := ⟨lb, 7, none⟩) (by rw [Hlb.out]; exact Nat.le_refl _) (.int .u32 (startP 0).2)
    go_wp2_with fail
    go_ret2
    rw [HM2.out]
    refine ⟨hw7, ?_⟩
    have hqt : (0 : Int) ≤ (qt : Int) ∧ (qt : Int) ≤ 256 := by have := Hq.out; omega
    obtain ⟨G, h8, h9⟩ := opened (g := (⟨⟨0, 0, (qt : Int)⟩, false, [], startP 0, false, false⟩ : Lg)) (lv := .slice none 0 0) H.out hw7 (by rw [Hlb.out]; exact Nat.le_refl _) (hk7.trans rfl) (World.ownsRow_nil _ _ _ _)
     ⟨(show (0 : Int) ≤ 0 ∧ (0 : Int) < 18446744073709551616 by decide), hqt, (show (0 : Int) ≤ 0 ∧ (0 : Int) ≤ 256 by decide), sumAdd_bd _ _ (by decide) (by decide), by simp, fun f hf => by cases hf⟩
    exact ⟨lb, G, rfl, h8, h9⟩
  ·have r0 : ((rm : Int) != 0) = true := by simp; omega
   go_wp2_with (first | (go_at_call 52; refine (SZ0.out _ Hw4.out).mono ?_; rintro e w5 ⟨rfl, hw⟩; obtain rfl := hw.symm) | go_in)
   go_ret2
   rw [HM.out, if_pos (.inl hr)]
   exact ⟨Hw4.out, rfl⟩
 ·have h1p : (0 : Int) < (s1 : Int) := by omega
  have h1n : 0 < s1 := by omega
  have RD1 := hid (RD.out h1)
  clear RD h1
  go_upto_region 10 with (first
   | (go_at_call 52; refine (SZ1.out _ Hb2.out).mono ?_; rintro e w3 ⟨rfl, hw⟩; obtain rfl := hw.symm)
   | (go_at_call 53; refine (RD1.out _ Hb2.out).mono ?_; rintro e w3 ⟨rfl, hb3⟩)
   | (go_at_call 51; refine (NT.out _).mono ?_; rintro e w4 ⟨rfl, hb4⟩)
   | go_in)
  have hw3 : Below w.heap.size w w3 := Hb2.out.trans (hb3.mono Hb2.out.size)
  have hl3 := (hb3.block _ (lt_of_block Hl2.out)).trans Hl2.out
  have hw4 : Below w.heap.size w w4 := hw3.trans (hb4.mono hw3.size)
  have hl4 := (hb4.block _ (lt_of_block hl3)).trans hl3
  clear hw3 hl3 h1p h1n
  have Hw4 := hid hw4
  have Hl4 := hid hl4
  clear hw4 hb4 hl4
  by_cases hr : rm = 0
  ·subst hr
   have r0 : (((0 : Nat) : Int) != 0) = false := by decide
   by_cases hq : 256 < qt
   ·have q0 : (256 : Int) < (qt : Int) := by omega
    go_wp2_with (first | (go_at_call 52; refine (SZ0.out _ Hw4.out).mono ?_; rintro e w5 ⟨rfl, hw⟩; obtain rfl := hw.symm) | go_in)
    go_ret2
    rw [HM.out, if_pos (.inr hq)]
    exact ⟨Hw4.out, rfl⟩
   ·have q0 : ¬ (256 : Int) < (qt : Int) := by omega
    have HM2 := HM.out
    rw [if_neg (by omega)] at HM2
    have HM2 := hid HM2
    have Hq := hid hq
    clear HM
    have a3 : w4.cell? ⟨lb, 3, none⟩ = some (.int .i64 0) := (cell_of_block Hl4.out 3).trans rfl
    go_upto_region 14 with (first
     | (go_at_call 52; refine (SZ0.out _ Hw4.out).mono ?_; rintro e w5 ⟨rfl, hw⟩; obtain rfl := hw.symm)
     | (go_at_call 54; refine (ST.out _).mono ?_; rintro e w6 ⟨rfl, hb6⟩; have hl6 := (hb6.block _ (lt_of_block Hl4.out)).trans Hl4.out; have Hl6 := hid hl6; have Hb6 := hid hb6; have b3 := (cell_of_block hl6 3).trans (rfl : _ = some (Value.int .i64 0)); have b6 := (cell_of_block hl6 6).trans (rfl : _ = some (Value.int .u32 0)); have b7 := (cell_of_block hl6 7).trans (rfl : _ = some (Value.int .u32 0)); have bf3 := free_of_block hl6 3; have bf6 := free_of_block hl6 6; have bf7 := free_of_block hl6 7; clear hl6 hb6)
     | go_in)
    have hk7 := heap_setCell_same (heap_setCell_same (heap_setCell_same Hl6.out 3 (.int .i64 (qt : Int))) 6 (.int .u32 (startP 0).1)) 7 (.int .u32 (startP 0).2)
    have hw6 : Below w.heap.size w w6 := Hw4.out.trans (Hb6.out.mono Hw4.out.size)
    have hw7 := ((hw6.setCell (p := ⟨lb, 3, none⟩) (by rw [Hlb.out]; exact Nat.le_refl _) (.int .i64 (qt : Int))).setCell (p := ⟨lb, 6, none⟩) (by rw [Hlb.out]; exact Nat.le_refl _) (.int .u32 (startP 0).1)).setCell (p := ⟨lb, 7, none⟩) (by rw [Hlb.out]; exact Nat.le_refl _) (.int .u32 (startP 0).2)
    go_wp2_with fail
    go_ret2
    rw [HM2.out]
    refine ⟨hw7, ?_⟩
    have hqt : (0 : Int) ≤ (qt : Int) ∧ (qt : Int) ≤ 256 := by have := Hq.out; omega
    obtain ⟨G, h8, h9⟩ := opened (g := (⟨⟨0, 0, (qt : Int)⟩, false, [], startP 0, false, false⟩ : Lg)) (lv := .slice none 0 0) H.out hw7 (by rw [Hlb.out]; exact Nat.le_refl _) (hk7.trans rfl) (World.ownsRow_nil _ _ _ _)
     ⟨(show (0 : Int) ≤ 0 ∧ (0 : Int) < 18446744073709551616 by decide), hqt, (show (0 : Int) ≤ 0 ∧ (0 : Int) ≤ 256 by decide), sumAdd_bd _ _ (by decide) (by decide), by simp, fun f hf => by cases hf⟩
    exact ⟨lb, G, rfl, h8, h9⟩
  ·have r0 : ((rm : Int) != 0) = true := by simp; omega
   go_wp2_with (first | (go_at_call 52; refine (SZ0.out _ Hw4.out).mono ?_; rintro e w5 ⟨rfl, hw⟩; obtain rfl := hw.symm) | go_in)
   go_ret2
   rw [HM.out, if_pos (.inl hr)]
   exact ⟨Hw4.out, rfl⟩
end
end Go.Proofs.YtlkkclooihjpiaaGreat
