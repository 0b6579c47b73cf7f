/- The laws' works. -/
import Derived.Test.YtioafhkblmebmaaWaO
namespace Go.Proofs.Ytioafhkblmebmaa
open Go.RowKit Go.Maps
set_option linter.unusedVariables false
set_option linter.unusedSimpArgs false

attribute [local irreducible] exQ exC exG1 pageOf
theorem works_append {w W : World} {l b : Nat} (h : Mk w W l b exG0 newM) : Calls Try.prog 12 #[.pointer (some ⟨l, 0, none⟩), .int .i64 2, .slice (some ⟨W.heap.size, 0, none⟩) 1 1] (W.alloc (.cells #[.int .i64 2, .string (bs (pageOf 113))] 53)) fun e w' => e = .returned (.int .i64 0) ∧ Mk w w' l b exQ.2.1 exQ.2.2 := by
  have A := mk_append (h.below ((Below.refl _ _).alloc (Nat.le_refl _) (.cells ([(⟨2, pageOf 113⟩ : Img)].flatMap imgCells).toArray 53))) 100 new_small (by decide) 2 _ [⟨2, pageOf 113⟩] (imgs_new W [⟨2, pageOf 113⟩]) (by decide)
  have e := ex_append
  unfold exQ at e ⊢
  rw [e] at A
  exact A
theorem works_check {w W : World} {l b : Nat} (h : Mk w W l b exG1 exQ.2.2) : Calls Try.prog 18 #[.pointer (some ⟨l, 0, none⟩)] W fun e w' => e = .returned (.int .i64 0) ∧ Mk w w' l b exC.2.1 exC.2.2 := by
  have A := mk_check h 100 ex_small (by decide)
  have e := ex_check
  unfold exC at e ⊢
  rw [e] at A
  exact A
theorem works_mark {w W : World} {l b : Nat} (h : Mk w W l b exG1 exQ.2.2) : Calls Try.prog 15 #[.pointer (some ⟨l, 0, none⟩)] W fun e w' => e = .returned (.int .i64 1) ∧ w' = W := by
  have A := mk_mark h
  rw [ex_mark1] at A
  exact A
theorem works_size {w W : World} {l b : Nat} (h : Mk w W l b exC.2.1 exC.2.2) : Calls Try.prog 26 #[.pointer (some ⟨b, 0, none⟩), .int .i64 0] W fun e w' => e = .returned (.int .i64 16) ∧ w' = W := by
  have A := mk_size h.disk 0 (by decide)
  rw [ex_size] at A
  exact A
theorem works_page {w W : World} {l b : Nat} (h : Mk w W l b exC.2.1 exC.2.2) : Calls Try.prog 19 #[.pointer (some ⟨l, 0, none⟩), .int .i64 2, .int .i64 0] W fun e w' => e = .returned (.tuple #[.string (bs (pageOf 113)), .int .i64 0]) ∧ Mk w w' l b exC.2.1 exC.2.2 := by
  have A := mk_page h 2 0
  rw [ex_page] at A
  refine A.mono ?_
  rintro e w' ⟨rfl, hb⟩
  exact ⟨rfl, h.below hb⟩
theorem works_pages {w W : World} {l b : Nat} (h : Mk w W l b exC.2.1 exC.2.2) : Calls Try.prog 24 #[.pointer (some ⟨l, 0, none⟩)] W fun e w' => e = .returned (.int .i64 2) ∧ w' = W := by
  have A := mk_pages h
  rw [ex_pages] at A
  exact A
theorem works_number {w W : World} {l b : Nat} (h : Mk w W l b exC.2.1 exC.2.2) : Calls Try.prog 16 #[.pointer (some ⟨l, 0, none⟩)] W fun e w' => e = .returned (.int .u64 1) ∧ w' = W := by
  have A := mk_number h
  rw [ex_number] at A
  exact A
theorem pq (W : World) : Calls Try.prog 25 #[.int .u8 113] W fun e w' => e = .returned (.string (bs (pageOf 113))) ∧ Below W.heap.size W w' := lpage_any 113 W

set_option maxHeartbeats 2000000 in
set_option maxRecDepth 20000 in
theorem works_any (w : World) : Calls Try.prog 7 #[] w fun e w' => e = .returned (.bool true) ∧ Below w.heap.size w w' := by
  have hbb : (pageOf 113 == pageOf 113) = true := by simp
  go_enter Try.func7, Try.ntmps7
  go_upto_region 5 with (first
    | (go_at_call 10; refine (mk_new _).mono ?_; rintro e w1 ⟨b, rfl, hd1⟩; have Hd1 := hid hd1; clear hd1)
    | (go_at_call 11; refine (mk_open Hd1.out ex_open).mono ?_; rintro e w2 ⟨l, rfl, hm2⟩; have Hm2 := hid hm2; clear hm2 Hd1)
    | (go_at_call 25; refine (pq _).mono ?_; rintro e w3 ⟨rfl, hb3⟩; have Hm3 := hid (Hm2.out.below hb3); clear hb3)
    | (go_at_call 12; refine (works_append Hm3.out).mono ?_; rintro e w4 ⟨rfl, hm4⟩; have Hm4 := hid hm4; clear hm4 Hm3)
    | go_in)
  clear Hm2
  go_wp2_with (first
    | (go_at_call 11; refine (mk_open Hm4.out.disk ex_open1).mono ?_; rintro e w5 ⟨l2, rfl, hm5⟩; have Hm5 := hid hm5; clear hm5 Hm4)
    | (go_at_call 15; refine (works_mark Hm5.out).mono ?_; rintro e w6 ⟨rfl, hw⟩; obtain rfl := hw.symm)
    | (go_at_call 18; refine (works_check Hm5.out).mono ?_; rintro e w7 ⟨rfl, hm7⟩; have Hm7 := hid hm7; clear hm7 Hm5)
    | (go_at_call 26; refine (works_size Hm7.out).mono ?_; rintro e w8 ⟨rfl, hw⟩; obtain rfl := hw.symm)
    | (go_at_call 19; refine (works_page Hm7.out).mono ?_; rintro e w9 ⟨rfl, hm9⟩; have Hm9 := hid hm9; clear hm9 Hm7)
    | (go_at_call 25; refine (pq _).mono ?_; rintro e w10 ⟨rfl, hb10⟩; have Hm10 := hid (Hm9.out.below hb10); clear hb10 Hm9)
    | (go_at_call 24; refine (works_pages Hm10.out).mono ?_; rintro e w11 ⟨rfl, hw⟩; obtain rfl := hw.symm)
    | (go_at_call 16; refine (works_number Hm10.out).mono ?_; rintro e w12 ⟨rfl, hw⟩; obtain rfl := hw.symm)
    | go_in)
  go_ret
  exact ⟨rfl, Hm10.out.bel⟩
end Go.Proofs.Ytioafhkblmebmaa
