/- Law WalKnown: the document's examples. -/
import Derived.Test.YtioafhkblmebmaaWaP
namespace Go.Proofs.Ytioafhkblmebmaa
open Go.RowKit Go.Maps
set_option linter.unusedVariables false
set_option linter.unusedSimpArgs false

def k1 : Int × Lg × Dsk := lappendM 2 [⟨1, pageOf 97⟩, ⟨2, pageOf 98⟩] exG0 newM
def k2 : Int × Lg × Dsk := lappendM 1 [⟨1, pageOf 99⟩] k1.2.1 k1.2.2
def k3 : Int × Lg × Dsk := lcheckM k2.2.1 k2.2.2
theorem k1_small : k1.2.2.Small 100 := ⟨by decide +kernel, by decide +kernel, by decide +kernel⟩
theorem k2_small : k2.2.2.Small 200 := ⟨by decide +kernel, by decide +kernel, by decide +kernel⟩
theorem k1_ok : k1.1 = 0 := by decide +kernel
theorem k2_ok : k2.1 = 0 := by decide +kernel
theorem k3_ok : k3.1 = 0 := by decide +kernel
theorem append_refused {pages : Int} {x : List Img} {g : Lg} {d : Dsk} (ho : g.off = false) (hp : pages < 1 ∨ 256 < pages ∨ x.length = 0) : lappendM pages x g d = (2, g, d) := by
  unfold lappendM
  rw [ho, if_neg (by simp), if_pos hp]
theorem k2_off : k2.2.1.off = false := by decide +kernel
theorem f0Mark : (exG0.list.length : Int) = 0 := by decide +kernel
theorem f0Pages : exG0.head.pages = 0 := by decide +kernel
theorem f0Number : exG0.head.number = 0 := by decide +kernel
theorem f0P1_0 : pageM exG0 newM 1 0 = (pageOf 0, 0) := by decide +kernel
theorem f1Mark : (k1.2.1.list.length : Int) = 2 := by decide +kernel
theorem f1Pages : k1.2.1.head.pages = 2 := by decide +kernel
theorem f1Ops : k1.2.2.ops = 4 := by decide +kernel
theorem f1Size1 : (((k1.2.2.now 1).length : Nat) : Int) = 19 := by decide +kernel
theorem f2P1_2 : pageM k2.2.1 k2.2.2 1 2 = (pageOf 97, 0) := by decide +kernel
theorem f2P1_3 : pageM k2.2.1 k2.2.2 1 3 = (pageOf 99, 0) := by decide +kernel
theorem f2P2_3 : pageM k2.2.1 k2.2.2 2 3 = (pageOf 98, 0) := by decide +kernel
theorem f2P0_0 : pageM k2.2.1 k2.2.2 0 0 = ([], 5) := by decide +kernel
theorem f2P1_4 : pageM k2.2.1 k2.2.2 1 4 = ([], 5) := by decide +kernel
theorem f3Mark : (k3.2.1.list.length : Int) = 0 := by decide +kernel
theorem f3Pages : k3.2.1.head.pages = 1 := by decide +kernel
theorem f3Number : k3.2.1.head.number = 1 := by decide +kernel
theorem f3Size0 : (((k3.2.2.now 0).length : Nat) : Int) = 8 := by decide +kernel
theorem f3Size1 : (((k3.2.2.now 1).length : Nat) : Int) = 28 := by decide +kernel
theorem f3Loose : (k3.2.2.loose.length : Int) = 0 := by decide +kernel
attribute [local irreducible] k1 k2 k3 pageOf
theorem t0Mark {w W : World} {l b : Nat} (h : Mk w W l b exG0 newM) : Calls Try.prog 15 #[.pointer (some ⟨l, 0, none⟩)] W fun e w' => e = .returned (.int .i64 0) ∧ w' = W := by
  have A := mk_mark h
  rw [f0Mark] at A
  exact A
theorem t0Pages {w W : World} {l b : Nat} (h : Mk w W l b exG0 newM) : Calls Try.prog 24 #[.pointer (some ⟨l, 0, none⟩)] W fun e w' => e = .returned (.int .i64 0) ∧ w' = W := by
  have A := mk_pages h
  rw [f0Pages] at A
  exact A
theorem t0Number {w W : World} {l b : Nat} (h : Mk w W l b exG0 newM) : Calls Try.prog 16 #[.pointer (some ⟨l, 0, none⟩)] W fun e w' => e = .returned (.int .u64 0) ∧ w' = W := by
  have A := mk_number h
  rw [f0Number] at A
  exact A
theorem t0P1_0 {w W : World} {l b : Nat} (h : Mk w W l b exG0 newM) : Calls Try.prog 19 #[.pointer (some ⟨l, 0, none⟩), .int .i64 1, .int .i64 0] W fun e w' => e = .returned (.tuple #[.string (bs (pageOf 0)), .int .i64 0]) ∧ Mk w w' l b exG0 newM := by
  have A := mk_page h 1 0
  rw [f0P1_0] at A
  refine A.mono ?_
  rintro e w' ⟨rfl, hb⟩
  exact ⟨rfl, h.below hb⟩
theorem t1Mark {w W : World} {l b : Nat} (h : Mk w W l b k1.2.1 k1.2.2) : Calls Try.prog 15 #[.pointer (some ⟨l, 0, none⟩)] W fun e w' => e = .returned (.int .i64 2) ∧ w' = W := by
  have A := mk_mark h
  rw [f1Mark] at A
  exact A
theorem t1Pages {w W : World} {l b : Nat} (h : Mk w W l b k1.2.1 k1.2.2) : Calls Try.prog 24 #[.pointer (some ⟨l, 0, none⟩)] W fun e w' => e = .returned (.int .i64 2) ∧ w' = W := by
  have A := mk_pages h
  rw [f1Pages] at A
  exact A
theorem t1Ops {w W : World} {l b : Nat} (h : Mk w W l b k1.2.1 k1.2.2) : Calls Try.prog 17 #[.pointer (some ⟨b, 0, none⟩)] W fun e w' => e = .returned (.int .i64 4) ∧ w' = W := by
  have A := mk_ops h.disk
  rw [f1Ops] at A
  exact A
theorem t1Size1 {w W : World} {l b : Nat} (h : Mk w W l b k1.2.1 k1.2.2) : Calls Try.prog 26 #[.pointer (some ⟨b, 0, none⟩), .int .i64 1] W fun e w' => e = .returned (.int .i64 19) ∧ w' = W := by
  have A := mk_size h.disk 1 (by decide)
  rw [f1Size1] at A
  exact A
theorem t2P1_2 {w W : World} {l b : Nat} (h : Mk w W l b k2.2.1 k2.2.2) : Calls Try.prog 19 #[.pointer (some ⟨l, 0, none⟩), .int .i64 1, .int .i64 2] W fun e w' => e = .returned (.tuple #[.string (bs (pageOf 97)), .int .i64 0]) ∧ Mk w w' l b k2.2.1 k2.2.2 := by
  have A := mk_page h 1 2
  rw [f2P1_2] at A
  refine A.mono ?_
  rintro e w' ⟨rfl, hb⟩
  exact ⟨rfl, h.below hb⟩
theorem t2P1_3 {w W : World} {l b : Nat} (h : Mk w W l b k2.2.1 k2.2.2) : Calls Try.prog 19 #[.pointer (some ⟨l, 0, none⟩), .int .i64 1, .int .i64 3] W fun e w' => e = .returned (.tuple #[.string (bs (pageOf 99)), .int .i64 0]) ∧ Mk w w' l b k2.2.1 k2.2.2 := by
  have A := mk_page h 1 3
  rw [f2P1_3] at A
  refine A.mono ?_
  rintro e w' ⟨rfl, hb⟩
  exact ⟨rfl, h.below hb⟩
theorem t2P2_3 {w W : World} {l b : Nat} (h : Mk w W l b k2.2.1 k2.2.2) : Calls Try.prog 19 #[.pointer (some ⟨l, 0, none⟩), .int .i64 2, .int .i64 3] W fun e w' => e = .returned (.tuple #[.string (bs (pageOf 98)), .int .i64 0]) ∧ Mk w w' l b k2.2.1 k2.2.2 := by
  have A := mk_page h 2 3
  rw [f2P2_3] at A
  refine A.mono ?_
  rintro e w' ⟨rfl, hb⟩
  exact ⟨rfl, h.below hb⟩
theorem t2P0_0 {w W : World} {l b : Nat} (h : Mk w W l b k2.2.1 k2.2.2) : Calls Try.prog 19 #[.pointer (some ⟨l, 0, none⟩), .int .i64 0, .int .i64 0] W fun e w' => e = .returned (.tuple #[.string (bs ([])), .int .i64 5]) ∧ Mk w w' l b k2.2.1 k2.2.2 := by
  have A := mk_page h 0 0
  rw [f2P0_0] at A
  refine A.mono ?_
  rintro e w' ⟨rfl, hb⟩
  exact ⟨rfl, h.below hb⟩
theorem t2P1_4 {w W : World} {l b : Nat} (h : Mk w W l b k2.2.1 k2.2.2) : Calls Try.prog 19 #[.pointer (some ⟨l, 0, none⟩), .int .i64 1, .int .i64 4] W fun e w' => e = .returned (.tuple #[.string (bs ([])), .int .i64 5]) ∧ Mk w w' l b k2.2.1 k2.2.2 := by
  have A := mk_page h 1 4
  rw [f2P1_4] at A
  refine A.mono ?_
  rintro e w' ⟨rfl, hb⟩
  exact ⟨rfl, h.below hb⟩
theorem t3Mark {w W : World} {l b : Nat} (h : Mk w W l b k3.2.1 k3.2.2) : Calls Try.prog 15 #[.pointer (some ⟨l, 0, none⟩)] W fun e w' => e = .returned (.int .i64 0) ∧ w' = W := by
  have A := mk_mark h
  rw [f3Mark] at A
  exact A
theorem t3Pages {w W : World} {l b : Nat} (h : Mk w W l b k3.2.1 k3.2.2) : Calls Try.prog 24 #[.pointer (some ⟨l, 0, none⟩)] W fun e w' => e = .returned (.int .i64 1) ∧ w' = W := by
  have A := mk_pages h
  rw [f3Pages] at A
  exact A
theorem t3Number {w W : World} {l b : Nat} (h : Mk w W l b k3.2.1 k3.2.2) : Calls Try.prog 16 #[.pointer (some ⟨l, 0, none⟩)] W fun e w' => e = .returned (.int .u64 1) ∧ w' = W := by
  have A := mk_number h
  rw [f3Number] at A
  exact A
theorem t3Size0 {w W : World} {l b : Nat} (h : Mk w W l b k3.2.1 k3.2.2) : Calls Try.prog 26 #[.pointer (some ⟨b, 0, none⟩), .int .i64 0] W fun e w' => e = .returned (.int .i64 8) ∧ w' = W := by
  have A := mk_size h.disk 0 (by decide)
  rw [f3Size0] at A
  exact A
theorem t3Size1 {w W : World} {l b : Nat} (h : Mk w W l b k3.2.1 k3.2.2) : Calls Try.prog 26 #[.pointer (some ⟨b, 0, none⟩), .int .i64 1] W fun e w' => e = .returned (.int .i64 28) ∧ w' = W := by
  have A := mk_size h.disk 1 (by decide)
  rw [f3Size1] at A
  exact A
theorem t3Loose {w W : World} {l b : Nat} (h : Mk w W l b k3.2.1 k3.2.2) : Calls Try.prog 22 #[.pointer (some ⟨b, 0, none⟩)] W fun e w' => e = .returned (.int .i64 0) ∧ w' = W := by
  have A := mk_loose h.disk
  rw [f3Loose] at A
  exact A
theorem a1 {w W : World} {l b : Nat} (h : Mk w W l b exG0 newM) : Calls Try.prog 12 #[.pointer (some ⟨l, 0, none⟩), .int .i64 2, .slice (some ⟨W.heap.size, 0, none⟩) 2 2] (W.alloc (.cells #[.int .i64 1, .string (bs (pageOf 97)), .int .i64 2, .string (bs (pageOf 98))] 53)) fun e w' => e = .returned (.int .i64 0) ∧ Mk w w' l b k1.2.1 k1.2.2 := by
  have A := mk_append (h.below ((Below.refl _ _).alloc (Nat.le_refl _) (.cells ([(⟨1, pageOf 97⟩ : Img), ⟨2, pageOf 98⟩].flatMap imgCells).toArray 53))) 100 new_small (by decide) 2 _ [⟨1, pageOf 97⟩, ⟨2, pageOf 98⟩] (imgs_new W [⟨1, pageOf 97⟩, ⟨2, pageOf 98⟩]) (by decide)
  have e := k1_ok
  unfold k1 at e ⊢
  rw [e] at A
  exact A
theorem a2 {w W : World} {l b : Nat} (h : Mk w W l b k1.2.1 k1.2.2) : Calls Try.prog 12 #[.pointer (some ⟨l, 0, none⟩), .int .i64 1, .slice (some ⟨W.heap.size, 0, none⟩) 1 1] (W.alloc (.cells #[.int .i64 1, .string (bs (pageOf 99))] 53)) fun e w' => e = .returned (.int .i64 0) ∧ Mk w w' l b k2.2.1 k2.2.2 := by
  have A := mk_append (h.below ((Below.refl _ _).alloc (Nat.le_refl _) (.cells ([(⟨1, pageOf 99⟩ : Img)].flatMap imgCells).toArray 53))) 100 k1_small (by decide) 1 _ [⟨1, pageOf 99⟩] (imgs_new W [⟨1, pageOf 99⟩]) (by decide)
  have e := k2_ok
  unfold k2 at e ⊢
  rw [e] at A
  exact A
theorem a3 {w W : World} {l b : Nat} (h : Mk w W l b k2.2.1 k2.2.2) : Calls Try.prog 12 #[.pointer (some ⟨l, 0, none⟩), .int .i64 0, .slice (some ⟨W.heap.size, 0, none⟩) 1 1] (W.alloc (.cells #[.int .i64 1, .string (bs (pageOf 99))] 53)) fun e w' => e = .returned (.int .i64 2) ∧ Mk w w' l b k2.2.1 k2.2.2 := by
  have A := mk_append (h.below ((Below.refl _ _).alloc (Nat.le_refl _) (.cells ([(⟨1, pageOf 99⟩ : Img)].flatMap imgCells).toArray 53))) 200 k2_small (by decide) 0 _ [⟨1, pageOf 99⟩] (imgs_new W [⟨1, pageOf 99⟩]) (by decide)
  rw [append_refused k2_off (by decide)] at A
  exact A
theorem a4 {w W : World} {l b : Nat} (h : Mk w W l b k2.2.1 k2.2.2) : Calls Try.prog 12 #[.pointer (some ⟨l, 0, none⟩), .int .i64 1, .slice none 0 0] W fun e w' => e = .returned (.int .i64 2) ∧ Mk w w' l b k2.2.1 k2.2.2 := by
  have A := mk_append h 200 k2_small (by decide) 1 _ [] ⟨none, 0, rfl, fun k hk => absurd hk (by simp)⟩ (by decide)
  rw [append_refused k2_off (by decide)] at A
  exact A
theorem c3 {w W : World} {l b : Nat} (h : Mk w W l b k2.2.1 k2.2.2) : Calls Try.prog 18 #[.pointer (some ⟨l, 0, none⟩)] W fun e w' => e = .returned (.int .i64 0) ∧ Mk w w' l b k3.2.1 k3.2.2 := by
  have A := mk_check h 200 k2_small (by decide)
  have e := k3_ok
  unfold k3 at e ⊢
  rw [e] at A
  exact A
theorem pq0 (W : World) : Calls Try.prog 25 #[.int .u8 0] W fun e w' => e = .returned (.string (bs (pageOf 0))) ∧ Below W.heap.size W w' := lpage_any 0 W
theorem pq97 (W : World) : Calls Try.prog 25 #[.int .u8 97] W fun e w' => e = .returned (.string (bs (pageOf 97))) ∧ Below W.heap.size W w' := lpage_any 97 W
theorem pq98 (W : World) : Calls Try.prog 25 #[.int .u8 98] W fun e w' => e = .returned (.string (bs (pageOf 98))) ∧ Below W.heap.size W w' := lpage_any 98 W
theorem pq99 (W : World) : Calls Try.prog 25 #[.int .u8 99] W fun e w' => e = .returned (.string (bs (pageOf 99))) ∧ Below W.heap.size W w' := lpage_any 99 W
set_option maxHeartbeats 4000000 in
set_option maxRecDepth 20000 in
theorem walKnown_any (w : World) : Calls Try.prog 6 #[] w fun e w' => e = .returned (.bool true) ∧ Below w.heap.size w w' := by
  go_enter Try.func6, Try.ntmps6
  go_upto_region 5 with (first
    | (go_at_call 10; refine (mk_new _).mono ?_; rintro e w1 ⟨b, rfl, hd1⟩; have Hd1 := hid hd1; clear hd1)
    | (go_at_call 11; refine (mk_open Hd1.out ex_open).mono ?_; rintro e w2 ⟨l, rfl, hm⟩; have Hm := hid hm; clear hm Hd1)
    | (go_at_call 15; with_reducible refine (t0Mark Hm.out).mono ?_; rintro e wn ⟨rfl, hw⟩; obtain rfl := hw.symm)
    | (go_at_call 24; with_reducible refine (t0Pages Hm.out).mono ?_; rintro e wn ⟨rfl, hw⟩; obtain rfl := hw.symm)
    | (go_at_call 16; with_reducible refine (t0Number Hm.out).mono ?_; rintro e wn ⟨rfl, hw⟩; obtain rfl := hw.symm)
    | go_in)
  go_upto_region 8 with (first
    | (go_at_call 19; with_reducible refine (t0P1_0 Hm.out).mono ?_; rintro e wn ⟨rfl, hm⟩; replace Hm := hid hm)
    | (go_at_call 25; with_reducible refine (pq0 _).mono ?_; rintro e wn ⟨rfl, hb⟩; replace Hm := hid (Hm.out.below hb))
    | (go_at_call 25; with_reducible refine (pq97 _).mono ?_; rintro e wn ⟨rfl, hb⟩; replace Hm := hid (Hm.out.below hb))
    | (go_at_call 25; with_reducible refine (pq98 _).mono ?_; rintro e wn ⟨rfl, hb⟩; replace Hm := hid (Hm.out.below hb))
    | (go_at_call 25; with_reducible refine (pq99 _).mono ?_; rintro e wn ⟨rfl, hb⟩; replace Hm := hid (Hm.out.below hb))
    | (go_at_call 12; with_reducible refine (a1 Hm.out).mono ?_; rintro e wn ⟨rfl, hm⟩; replace Hm := hid hm)
    | (go_at_call 15; with_reducible refine (t1Mark Hm.out).mono ?_; rintro e wn ⟨rfl, hw⟩; obtain rfl := hw.symm)
    | (go_at_call 24; with_reducible refine (t1Pages Hm.out).mono ?_; rintro e wn ⟨rfl, hw⟩; obtain rfl := hw.symm)
    | (go_at_call 17; with_reducible refine (t1Ops Hm.out).mono ?_; rintro e wn ⟨rfl, hw⟩; obtain rfl := hw.symm)
    | (go_at_call 26; with_reducible refine (t1Size1 Hm.out).mono ?_; rintro e wn ⟨rfl, hw⟩; obtain rfl := hw.symm)
    | go_in)
  go_upto_region 10 with (first
    | (go_at_call 25; with_reducible refine (pq0 _).mono ?_; rintro e wn ⟨rfl, hb⟩; replace Hm := hid (Hm.out.below hb))
    | (go_at_call 25; with_reducible refine (pq97 _).mono ?_; rintro e wn ⟨rfl, hb⟩; replace Hm := hid (Hm.out.below hb))
    | (go_at_call 25; with_reducible refine (pq98 _).mono ?_; rintro e wn ⟨rfl, hb⟩; replace Hm := hid (Hm.out.below hb))
    | (go_at_call 25; with_reducible refine (pq99 _).mono ?_; rintro e wn ⟨rfl, hb⟩; replace Hm := hid (Hm.out.below hb))
    | (go_at_call 12; with_reducible refine (a2 Hm.out).mono ?_; rintro e wn ⟨rfl, hm⟩; replace Hm := hid hm)
    | go_in)
  go_upto_region 17 with (first
    | (go_at_call 19; with_reducible refine (t2P1_2 Hm.out).mono ?_; rintro e wn ⟨rfl, hm⟩; replace Hm := hid hm)
    | (go_at_call 19; with_reducible refine (t2P1_3 Hm.out).mono ?_; rintro e wn ⟨rfl, hm⟩; replace Hm := hid hm)
    | (go_at_call 19; with_reducible refine (t2P2_3 Hm.out).mono ?_; rintro e wn ⟨rfl, hm⟩; replace Hm := hid hm)
    | (go_at_call 19; with_reducible refine (t2P0_0 Hm.out).mono ?_; rintro e wn ⟨rfl, hm⟩; replace Hm := hid hm)
    | (go_at_call 19; with_reducible refine (t2P1_4 Hm.out).mono ?_; rintro e wn ⟨rfl, hm⟩; replace Hm := hid hm)
    | (go_at_call 25; with_reducible refine (pq0 _).mono ?_; rintro e wn ⟨rfl, hb⟩; replace Hm := hid (Hm.out.below hb))
    | (go_at_call 25; with_reducible refine (pq97 _).mono ?_; rintro e wn ⟨rfl, hb⟩; replace Hm := hid (Hm.out.below hb))
    | (go_at_call 25; with_reducible refine (pq98 _).mono ?_; rintro e wn ⟨rfl, hb⟩; replace Hm := hid (Hm.out.below hb))
    | (go_at_call 25; with_reducible refine (pq99 _).mono ?_; rintro e wn ⟨rfl, hb⟩; replace Hm := hid (Hm.out.below hb))
    | (go_at_call 12; with_reducible refine (a3 Hm.out).mono ?_; rintro e wn ⟨rfl, hm⟩; replace Hm := hid hm)
    | (go_at_call 12; with_reducible refine (a4 Hm.out).mono ?_; rintro e wn ⟨rfl, hm⟩; replace Hm := hid hm)
    | go_in)
  go_upto_region 19 with (first
    | (go_at_call 18; with_reducible refine (c3 Hm.out).mono ?_; rintro e wn ⟨rfl, hm⟩; replace Hm := hid hm)
    | (go_at_call 15; with_reducible refine (t3Mark Hm.out).mono ?_; rintro e wn ⟨rfl, hw⟩; obtain rfl := hw.symm)
    | (go_at_call 24; with_reducible refine (t3Pages Hm.out).mono ?_; rintro e wn ⟨rfl, hw⟩; obtain rfl := hw.symm)
    | (go_at_call 16; with_reducible refine (t3Number Hm.out).mono ?_; rintro e wn ⟨rfl, hw⟩; obtain rfl := hw.symm)
    | (go_at_call 26; with_reducible refine (t3Size0 Hm.out).mono ?_; rintro e wn ⟨rfl, hw⟩; obtain rfl := hw.symm)
    | (go_at_call 26; with_reducible refine (t3Size1 Hm.out).mono ?_; rintro e wn ⟨rfl, hw⟩; obtain rfl := hw.symm)
    | (go_at_call 22; with_reducible refine (t3Loose Hm.out).mono ?_; rintro e wn ⟨rfl, hw⟩; obtain rfl := hw.symm)
    | go_in)
  have Hb := hid Hm.out.bel
  clear Hm
  go_wp2_with (first
    | (go_at_call 19; refine (page_nil 1 0 _).mono ?_; rintro e wn ⟨rfl, hw⟩; obtain rfl := hw.symm)
    | (go_at_call 20; refine (frames_nil 0 0 _).mono ?_; rintro e wn ⟨rfl, hw⟩; obtain rfl := hw.symm)
    | (go_at_call 11; refine (lopen_nil _).mono ?_; rintro e wn ⟨rfl, hw⟩; obtain rfl := hw.symm)
    | (go_at_call 12; refine (lappend_nil _ 1 (.slice none 0 0)).mono ?_; rintro e wn ⟨rfl, hb⟩; replace Hb := hid (Hb.out.trans (hb.mono Hb.out.size)))
    | (go_at_call 18; refine (lcheck_nil _).mono ?_; rintro e wn ⟨rfl, hb⟩; replace Hb := hid (Hb.out.trans (hb.mono Hb.out.size)))
    | (go_at_call 15; refine (mark_nil _).mono ?_; rintro e wn ⟨rfl, hw⟩; obtain rfl := hw.symm)
    | (go_at_call 24; refine (pages_nil _).mono ?_; rintro e wn ⟨rfl, hw⟩; obtain rfl := hw.symm)
    | (go_at_call 16; refine (number_nil _).mono ?_; rintro e wn ⟨rfl, hw⟩; obtain rfl := hw.symm)
    | go_in)
  go_ret
  exact ⟨rfl, Hb.out⟩
end Go.Proofs.Ytioafhkblmebmaa
