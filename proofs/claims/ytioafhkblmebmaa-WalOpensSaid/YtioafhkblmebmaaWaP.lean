import Derived.Test.YtioafhkblmebmaaWaK
import Derived.Test.YtioafhkblmebmaaWaM
/- For the laws of a log: a page of one byte, images that are written out, no log's Frames; the models on examples. -/
namespace Go.Proofs.Ytioafhkblmebmaa
open Go.RowKit Go.Maps
set_option linter.unusedVariables false
set_option linter.unusedSimpArgs false

def pageOf (c : UInt8) : List UInt8 := List.replicate 512 c
theorem pageOf_length (c : UInt8) : (pageOf c).length = 512 := List.length_replicate
set_option maxRecDepth 20000 in
theorem lpage_any (c : UInt8) (w : World) : Calls Try.prog 25 #[.int .u8 (c.toNat : Int)] w fun e w' => e = .returned (.string (bs (pageOf c))) ∧ Below w.heap.size w w' := by
  have R := fun w => Try.strings_Repeat (bs [c]) 512 w (by omega) (by simp [bs_size])
  rw [show (bs [c]).data.toList = [c] from rfl, repeat_one] at R
  have R := hid R
  have hconv : (convert 55 9 (.slice (some ⟨w.heap.size, 0, none⟩) 1 1)).run Try.prog (w.alloc (.cells #[.int .u8 (c.toNat : Int)] 5)) = .ok (.string (bs [c])) (w.alloc (.cells #[.int .u8 (c.toNat : Int)] 5)) := by
    have h := run_convert_cells (P := Try.prog) (w.alloc (.cells #[.int .u8 (c.toNat : Int)] 5)) 55 9 5 Try.underlying55 Try.underlying5 Try.underlying9 w.heap.size 0 1 1 [(c.toNat : Int)] rfl (fun i hi => by
      obtain rfl : i = 0 := by omega
      exact (cell_of_block (heap_alloc_new w _) 0).trans rfl)
    simpa using h
  go_enter Try.func25, Try.ntmps25
  go_wp2_with (first | (go_at_call 51; refine (R.out _).mono ?_; rintro e w1 ⟨rfl, hb⟩) | go_in)
  go_ret
  exact ⟨rfl, then_below ((Below.refl _ _).alloc (Nat.le_refl _) _) hb⟩
set_option maxRecDepth 20000 in
theorem frames_nil (a z : Int) (w : World) : Calls Try.prog 20 #[.pointer none, .int .i64 a, .int .i64 z] w fun e w' => e = .returned (.tuple #[.slice none 0 0, .int .i64 1]) ∧ w' = w := by
  go_enter Try.func20, Try.ntmps20
  go_wp2_with fail
  go_ret2
  exact ⟨rfl, rfl⟩
def imgCells (x : Img) : List Value := [.int .i64 x.page, .string (bs x.data)]
theorem imgs_new (w : World) (l : List Img) : ImgsAt (w.alloc (.cells (l.flatMap imgCells).toArray 53)) (.slice (some ⟨w.heap.size, 0, none⟩) l.length l.length) l := by
  refine ⟨_, _, rfl, fun k hk => ⟨w.heap.size, rfl, by simp, ?_, ?_⟩⟩
  all_goals
    rw [cell_of_block (heap_alloc_new w _)]
    simp only [List.getElem?_toArray]
    induction l generalizing k with
    | nil => simp at hk
    | cons f r ih =>
      cases k with
      | zero => rfl
      | succ k =>
        have := ih k (by simpa using hk)
        have e : (f :: r).flatMap imgCells = imgCells f ++ r.flatMap imgCells := rfl
        rw [e, List.getElem?_append_right (by simp [imgCells]; omega)]
        have e2 : (imgCells f).length = 2 := rfl
        rw [e2]
        first
          | (rw [show (k + 1) * 2 - 2 = k * 2 by omega]; exact this)
          | (rw [show (k + 1) * 2 + 1 - 2 = k * 2 + 1 by omega]; exact this)
/-! ### The examples of works, on the models -/
def exG0 : Lg := ⟨⟨0, 0, 0⟩, false, [], startP 0, false, false⟩
theorem ex_open : lopenM newM = (some exG0, 0) := by
  unfold lopenM firstM newM
  simp [exG0]
def exQ : Int × Lg × Dsk := lappendM 2 [⟨2, pageOf 113⟩] exG0 newM
theorem ex_append : exQ.1 = 0 := by decide +kernel
theorem ex_mark : ((lopenM exQ.2.2).1.map fun g => g.list.length) = some 1 := by decide +kernel
end Go.Proofs.Ytioafhkblmebmaa
/- A disk, and a log, that a law made: the calls on them. -/
namespace Go.Proofs.Ytioafhkblmebmaa
open Go.RowKit Go.Maps
set_option linter.unusedVariables false
set_option linter.unusedSimpArgs false

/-- A disk that was made since w. -/
structure MkD (w W : World) (b : Nat) (d : Dsk) : Prop where
  ex : ∃ F, DiskAt W b F d ∧ ∀ k, F.own k ∨ F.sh k → w.heap.size ≤ k
  bel : Below w.heap.size w W
/-- A log that was made since w. -/
structure Mk (w W : World) (l b : Nat) (g : Lg) (d : Dsk) : Prop where
  ex : ∃ F G, LgAt W l b F G g d ∧ ∀ k, F.own k ∨ F.sh k ∨ G k → w.heap.size ≤ k
  bel : Below w.heap.size w W
section
variable {w W W' : World} {l b : Nat} {g g' : Lg} {d d' : Dsk}
theorem Mk.disk (h : Mk w W l b g d) : MkD w W b d := by
  obtain ⟨⟨F, G, h1, h2⟩, hb⟩ := h
  exact ⟨⟨F, h1.disk, fun k hk => h2 k (hk.elim .inl fun e => .inr (.inl e))⟩, hb⟩
theorem Mk.below (h : Mk w W l b g d) (hb : Below W.heap.size W W') : Mk w W' l b g d := by
  obtain ⟨⟨F, G, h1, h2⟩, hb1⟩ := h
  exact ⟨⟨F, G, h1.below hb, h2⟩, hb1.trans (hb.mono hb1.size)⟩
theorem MkD.below (h : MkD w W b d) (hb : Below W.heap.size W W') : MkD w W' b d := by
  obtain ⟨⟨F, h1, h2⟩, hb1⟩ := h
  exact ⟨⟨F, h1.below hb, h2⟩, hb1.trans (hb.mono hb1.size)⟩
theorem Mk.did {F : Foot} {G : Nat → Prop} (h2 : ∀ k, F.own k ∨ F.sh k ∨ G k → w.heap.size ≤ k) (hb1 : Below w.heap.size w W) (h : LgDid W l b F G g' d' W') : Mk w W' l b g' d' := by
  obtain ⟨F', G', h3, h4⟩ := h
  have hsz := hb1.size
  refine ⟨⟨F', G', h3, fun k hk => ?_⟩, h4.frm.os.trans hb1.os, h4.frm.tape.trans hb1.tape, h4.frm.output.trans hb1.output, Nat.le_trans hsz h4.frm.size, fun k hk => ?_⟩
  · rcases hk with hk | hk | hk
    · exact (h4.own k hk).elim (fun e => h2 k (.inl e)) (fun e => by omega)
    · exact (h4.sh k hk).elim (fun e => h2 k (.inr (.inl e))) (fun e => by omega)
    · exact (h4.gr k hk).elim (fun e => h2 k (.inr (.inr e))) (fun e => by omega)
  · rw [h4.frm.block k (by omega) (fun e => by have := h2 k (e.elim .inl fun e => .inr (.inr e)); omega)]
    exact hb1.block k hk
theorem mk_new (w : World) : Calls Try.prog 10 #[] w fun e w' => ∃ b, e = .returned (.pointer (some ⟨b, 0, none⟩)) ∧ MkD w w' b newM := by
  refine (new_any w).mono ?_
  rintro e w' ⟨b, F, rfl, h1, h2, h3, h4⟩
  exact ⟨b, rfl, ⟨F, h1, fun k hk => hk.elim (h3 k) (h4 k)⟩, h2⟩
theorem mk_open (h : MkD w W b d) (ho : lopenM d = (some g, 0)) : Calls Try.prog 11 #[.pointer (some ⟨b, 0, none⟩)] W fun e w' => ∃ l, e = .returned (.tuple #[.pointer (some ⟨l, 0, none⟩), .int .i64 0]) ∧ Mk w w' l b g d := by
  obtain ⟨⟨F, h1, h2⟩, hb⟩ := h
  refine (lopen_any h1).mono ?_
  intro e w' hg
  rw [ho] at hg
  obtain ⟨hb2, l, G, rfl, h3, h4⟩ := hg
  refine ⟨l, rfl, ⟨F, G, h3, fun k hk => ?_⟩, hb.trans (hb2.mono hb.size)⟩
  rcases hk with hk | hk | hk
  · exact h2 k (.inl hk)
  · exact h2 k (.inr hk)
  · exact Nat.le_trans hb.size (h4 k hk)
theorem mk_append (h : Mk w W l b g d) (N : Nat) (hsm : d.Small N) (hN : N + 1048576 ≤ 1099511527776) (pages : Int) (v : Value) (x : List Img) (hx : ImgsAt W v x) (hs : x.length ≤ 1099511627776) :
    Calls Try.prog 12 #[.pointer (some ⟨l, 0, none⟩), .int .i64 pages, v] W fun e w' => e = .returned (.int .i64 (lappendM pages x g d).1) ∧ Mk w w' l b (lappendM pages x g d).2.1 (lappendM pages x g d).2.2 := by
  obtain ⟨⟨F, G, h1, h2⟩, hb⟩ := h
  refine (lappend_any h1 N hsm hN pages v x hx hs).mono ?_
  rintro e w' ⟨rfl, h3⟩
  exact ⟨rfl, Mk.did h2 hb h3⟩
theorem mk_check (h : Mk w W l b g d) (N : Nat) (hsm : d.Small N) (hN : N + 16777216 ≤ 1099511527776) :
    Calls Try.prog 18 #[.pointer (some ⟨l, 0, none⟩)] W fun e w' => e = .returned (.int .i64 (lcheckM g d).1) ∧ Mk w w' l b (lcheckM g d).2.1 (lcheckM g d).2.2 := by
  obtain ⟨⟨F, G, h1, h2⟩, hb⟩ := h
  refine (lcheck_any h1 N hsm hN).mono ?_
  rintro e w' ⟨rfl, h3⟩
  exact ⟨rfl, Mk.did h2 hb h3⟩
theorem mk_page (h : Mk w W l b g d) (n mark : Int) : Calls Try.prog 19 #[.pointer (some ⟨l, 0, none⟩), .int .i64 n, .int .i64 mark] W fun e w' => e = .returned (.tuple #[.string (bs (pageM g d n mark).1), .int .i64 (pageM g d n mark).2]) ∧ Below W.heap.size W w' := by
  obtain ⟨⟨F, G, h1, -⟩, -⟩ := h
  exact page_any h1 n mark
theorem mk_mark (h : Mk w W l b g d) : Calls Try.prog 15 #[.pointer (some ⟨l, 0, none⟩)] W fun e w' => e = .returned (.int .i64 g.list.length) ∧ w' = W := by
  obtain ⟨⟨F, G, h1, -⟩, -⟩ := h
  exact mark_any h1
theorem mk_pages (h : Mk w W l b g d) : Calls Try.prog 24 #[.pointer (some ⟨l, 0, none⟩)] W fun e w' => e = .returned (.int .i64 g.head.pages) ∧ w' = W := by
  obtain ⟨⟨F, G, h1, -⟩, -⟩ := h
  exact pages_any h1
theorem mk_number (h : Mk w W l b g d) : Calls Try.prog 16 #[.pointer (some ⟨l, 0, none⟩)] W fun e w' => e = .returned (.int .u64 g.head.number) ∧ w' = W := by
  obtain ⟨⟨F, G, h1, -⟩, -⟩ := h
  exact number_any h1
theorem mk_size (h : MkD w W b d) (f : Nat) (hf : f < 8) : Calls Try.prog 26 #[.pointer (some ⟨b, 0, none⟩), .int .i64 (f : Int)] W fun e w' => e = .returned (.int .i64 ((d.now f).length : Nat)) ∧ w' = W := by
  obtain ⟨⟨F, h1, -⟩, -⟩ := h
  have := size_any h1 (f : Int)
  rwa [if_pos (by omega), Int.toNat_natCast] at this
theorem mk_ops (h : MkD w W b d) : Calls Try.prog 17 #[.pointer (some ⟨b, 0, none⟩)] W fun e w' => e = .returned (.int .i64 d.ops) ∧ w' = W := by
  obtain ⟨⟨F, h1, -⟩, -⟩ := h
  exact ops_any h1
theorem mk_loose (h : MkD w W b d) : Calls Try.prog 22 #[.pointer (some ⟨b, 0, none⟩)] W fun e w' => e = .returned (.int .i64 d.loose.length) ∧ w' = W := by
  obtain ⟨⟨F, h1, -⟩, -⟩ := h
  exact loose_any h1
end

/-! ### works -/
def exG1 : Lg := (lopenM exQ.2.2).1.getD exG0
def exC : Int × Lg × Dsk := lcheckM exG1 exQ.2.2
theorem ex_open1 : lopenM exQ.2.2 = (some exG1, 0) := by
  have h1 : (lopenM exQ.2.2).1.isSome = true := by decide +kernel
  have h2 : (lopenM exQ.2.2).2 = 0 := by decide +kernel
  obtain ⟨g, hg⟩ := Option.isSome_iff_exists.1 h1
  unfold exG1
  rw [hg, ← h2, ← hg]
  simp only [hg, Option.getD_some]
  rw [← hg]
theorem ex_mark1 : exG1.list.length = 1 := by decide +kernel
theorem ex_check : exC.1 = 0 := by decide +kernel
theorem ex_size : (exC.2.2.now 0).length = 16 := by decide +kernel
theorem ex_page : pageM exC.2.1 exC.2.2 2 0 = (pageOf 113, 0) := by decide +kernel
theorem ex_pages : exC.2.1.head.pages = 2 := by decide +kernel
theorem ex_number : exC.2.1.head.number = 1 := by decide +kernel
theorem ex_small : exQ.2.2.Small 100 := ⟨by decide +kernel, by decide +kernel, by decide +kernel⟩
theorem new_small : newM.Small 100 := ⟨by decide, by decide, by decide⟩
end Go.Proofs.Ytioafhkblmebmaa
/- The laws' works. -/
namespace Go.Proofs.Ytioafhkblmebmaa
open Go.RowKit Go.Maps
set_option linter.unusedVariables false
set_option linter.unusedSimpArgs false

attribute [local irreducible] exQ exC exG1 pageOf
theorem works_append {w W : World} {l b : Nat} (h : Mk w W l b exG0 newM) : Calls Try.prog 12 #[.pointer (some ⟨l, 0, none⟩), .int .i64 2, .slice (some ⟨W.heap.size, 0, none⟩) 1 1] (W.alloc (.cells #[.int .i64 2, .string (bs (pageOf 113))] 53)) fun e w' => e = .returned (.int .i64 0) ∧ Mk w w' l b exQ.2.1 exQ.2.2 := by
  have A := mk_append (h.below ((Below.refl _ _).alloc (Nat.le_refl _) (.cells ([(⟨2, pageOf 113⟩ : Img)].flatMap imgCells).toArray 53))) 100 new_small (by decide) 2 _ [⟨2, pageOf 113⟩] (imgs_new W [⟨2, pageOf 113⟩]) (by decide)
  have e := ex_append
  unfold exQ at e ⊢
  rw [e] at A
  exact A
theorem works_check {w W : World} {l b : Nat} (h : Mk w W l b exG1 exQ.2.2) : Calls Try.prog 18 #[.pointer (some ⟨l, 0, none⟩)] W fun e w' => e = .returned (.int .i64 0) ∧ Mk w w' l b exC.2.1 exC.2.2 := by
  have A := mk_check h 100 ex_small (by decide)
  have e := ex_check
  unfold exC at e ⊢
  rw [e] at A
  exact A
theorem works_mark {w W : World} {l b : Nat} (h : Mk w W l b exG1 exQ.2.2) : Calls Try.prog 15 #[.pointer (some ⟨l, 0, none⟩)] W fun e w' => e = .returned (.int .i64 1) ∧ w' = W := by
  have A := mk_mark h
  rw [ex_mark1] at A
  exact A
theorem works_size {w W : World} {l b : Nat} (h : Mk w W l b exC.2.1 exC.2.2) : Calls Try.prog 26 #[.pointer (some ⟨b, 0, none⟩), .int .i64 0] W fun e w' => e = .returned (.int .i64 16) ∧ w' = W := by
  have A := mk_size h.disk 0 (by decide)
  rw [ex_size] at A
  exact A
theorem works_page {w W : World} {l b : Nat} (h : Mk w W l b exC.2.1 exC.2.2) : Calls Try.prog 19 #[.pointer (some ⟨l, 0, none⟩), .int .i64 2, .int .i64 0] W fun e w' => e = .returned (.tuple #[.string (bs (pageOf 113)), .int .i64 0]) ∧ Mk w w' l b exC.2.1 exC.2.2 := by
  have A := mk_page h 2 0
  rw [ex_page] at A
  refine A.mono ?_
  rintro e w' ⟨rfl, hb⟩
  exact ⟨rfl, h.below hb⟩
theorem works_pages {w W : World} {l b : Nat} (h : Mk w W l b exC.2.1 exC.2.2) : Calls Try.prog 24 #[.pointer (some ⟨l, 0, none⟩)] W fun e w' => e = .returned (.int .i64 2) ∧ w' = W := by
  have A := mk_pages h
  rw [ex_pages] at A
  exact A
theorem works_number {w W : World} {l b : Nat} (h : Mk w W l b exC.2.1 exC.2.2) : Calls Try.prog 16 #[.pointer (some ⟨l, 0, none⟩)] W fun e w' => e = .returned (.int .u64 1) ∧ w' = W := by
  have A := mk_number h
  rw [ex_number] at A
  exact A
theorem pq (W : World) : Calls Try.prog 25 #[.int .u8 113] W fun e w' => e = .returned (.string (bs (pageOf 113))) ∧ Below W.heap.size W w' := lpage_any 113 W

set_option maxHeartbeats 2000000 in
set_option maxRecDepth 20000 in
theorem works_any (w : World) : Calls Try.prog 7 #[] w fun e w' => e = .returned (.bool true) ∧ Below w.heap.size w w' := by
  have hbb : (pageOf 113 == pageOf 113) = true := by simp
  go_enter Try.func7, Try.ntmps7
  go_upto_region 5 with (first
    | (go_at_call 10; refine (mk_new _).mono ?_; rintro e w1 ⟨b, rfl, hd1⟩; have Hd1 := hid hd1; clear hd1)
    | (go_at_call 11; refine (mk_open Hd1.out ex_open).mono ?_; rintro e w2 ⟨l, rfl, hm2⟩; have Hm2 := hid hm2; clear hm2 Hd1)
    | (go_at_call 25; refine (pq _).mono ?_; rintro e w3 ⟨rfl, hb3⟩; have Hm3 := hid (Hm2.out.below hb3); clear hb3)
    | (go_at_call 12; refine (works_append Hm3.out).mono ?_; rintro e w4 ⟨rfl, hm4⟩; have Hm4 := hid hm4; clear hm4 Hm3)
    | go_in)
  clear Hm2
  go_wp2_with (first
    | (go_at_call 11; refine (mk_open Hm4.out.disk ex_open1).mono ?_; rintro e w5 ⟨l2, rfl, hm5⟩; have Hm5 := hid hm5; clear hm5 Hm4)
    | (go_at_call 15; refine (works_mark Hm5.out).mono ?_; rintro e w6 ⟨rfl, hw⟩; obtain rfl := hw.symm)
    | (go_at_call 18; refine (works_check Hm5.out).mono ?_; rintro e w7 ⟨rfl, hm7⟩; have Hm7 := hid hm7; clear hm7 Hm5)
    | (go_at_call 26; refine (works_size Hm7.out).mono ?_; rintro e w8 ⟨rfl, hw⟩; obtain rfl := hw.symm)
    | (go_at_call 19; refine (works_page Hm7.out).mono ?_; rintro e w9 ⟨rfl, hm9⟩; have Hm9 := hid hm9; clear hm9 Hm7)
    | (go_at_call 25; refine (pq _).mono ?_; rintro e w10 ⟨rfl, hb10⟩; have Hm10 := hid (Hm9.out.below hb10); clear hb10 Hm9)
    | (go_at_call 24; refine (works_pages Hm10.out).mono ?_; rintro e w11 ⟨rfl, hw⟩; obtain rfl := hw.symm)
    | (go_at_call 16; refine (works_number Hm10.out).mono ?_; rintro e w12 ⟨rfl, hw⟩; obtain rfl := hw.symm)
    | go_in)
  go_ret
  exact ⟨rfl, Hm10.out.bel⟩
end Go.Proofs.Ytioafhkblmebmaa
