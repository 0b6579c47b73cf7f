/- The law SpaceKnown: the document's examples; no pager. -/
import Derived.Test.YtgjcamcboacijaaGreatSpM
import Derived.Test.YtgjcamcboacijaaGreatSpW
namespace Go.Proofs.YtgjcamcboacijaaGreat
open Go.RowKit Go.Maps
set_option linter.unusedVariables false
set_option linter.unusedSimpArgs false
set_option maxRecDepth 20000

section
variable {w W W' : World} {pb l b : Nat} {p p' : Pg} {g g' : Lg} {d d' : Dsk} {X X' : Nat → Prop}
def nW5 : Pg := (alloc1M sW4 exG0 newM 0).2.2
def nW6 : Pg := (alloc0M nW5 exG0 newM).2.2
def nW7 : Pg := (freeM nW6 exG0 newM 1).2
def nW8 : Pg := (freeM nW7 exG0 newM 5).2
def nW9 : Pg := (rootM nW8 exG0 newM 8 0).2
def nWa : Pg := (rootM nW9 exG0 newM 0 5).2
def nWb : Pg := (rootM nWa exG0 newM 7 4).2
def nWC : Int × Pg × Lg × Dsk := spCommitM nWb exG0 newM
def nWd : Pg := (alloc0M nWC.2.1 nWC.2.2.1 nWC.2.2.2).2.2
theorem sn_r5 : (readySM sW4 exG0 newM).2 = 0 := by decide +kernel
theorem sn_f5 : (readySM sW4 exG0 newM).1.free = 2 := by decide +kernel
theorem sn_c5 : (readySM sW4 exG0 newM).1.count = 1 := by decide +kernel
theorem sn_p5 : preadM sW4 exG0 newM 2 = (freePg 0, 0) := by decide +kernel
theorem sn_a5 : (alloc1M sW4 exG0 newM 0).1 = 2 := by decide +kernel
theorem sn_e5 : (alloc1M sW4 exG0 newM 0).2.1 = 0 := by decide +kernel
theorem sn_z6 : (readySM nW5 exG0 newM).1.free = 0 := by decide +kernel
theorem sn_a6 : (alloc0M nW5 exG0 newM).1 = 4 := by decide +kernel
theorem sn_e6 : (alloc0M nW5 exG0 newM).2.1 = 0 := by decide +kernel
theorem sn_7 : (freeM nW6 exG0 newM 1).1 = 5 := by decide +kernel
theorem sn_8 : (freeM nW7 exG0 newM 5).1 = 5 := by decide +kernel
theorem sn_9 : (rootM nW8 exG0 newM 8 0).1 = 2 := by decide +kernel
theorem sn_a : (rootM nW9 exG0 newM 0 5).1 = 2 := by decide +kernel
theorem sn_b : (rootM nWa exG0 newM 7 4).1 = 0 := by decide +kernel
theorem sn_C : nWC.1 = 0 := by decide +kernel
theorem sn_e : (readHM nWC.2.1 nWC.2.2.1 nWC.2.2.2).2 = 0 := by decide +kernel
theorem sn_f : (readHM nWC.2.1 nWC.2.2.1 nWC.2.2.2).1.free = 0 := by decide +kernel
theorem sn_c : (readHM nWC.2.1 nWC.2.2.1 nWC.2.2.2).1.count = 0 := by decide +kernel
theorem sn_k : (readHM nWC.2.1 nWC.2.2.1 nWC.2.2.2).1.commits = 1 := by decide +kernel
theorem sn_r : (readHM nWC.2.1 nWC.2.2.1 nWC.2.2.2).1.roots = [0, 0, 0, 0, 0, 0, 0, 4] := by decide +kernel
theorem sn_h : (readHM nWC.2.1 nWC.2.2.1 nWC.2.2.2).1 = ⟨0, 0, 1, [0, 0, 0, 0, 0, 0, 0, 4]⟩ := hdr_ext sn_f sn_c sn_k sn_r
theorem sn_zd : (readySM nWC.2.1 nWC.2.2.1 nWC.2.2.2).1.free = 0 := by decide +kernel
theorem sn_ed : (alloc0M nWC.2.1 nWC.2.2.1 nWC.2.2.2).2.1 = 9 := by decide +kernel
theorem sn_ad : (alloc0M nWC.2.1 nWC.2.2.1 nWC.2.2.2).1 = 0 := by decide +kernel
theorem sn_put : putH ⟨1, 0, 0, [0, 0, 0, 0, 0, 0, 0, 0]⟩ = ([], 2) := by decide +kernel
theorem sn_take : (takeH (zeros 512)).2 = 7 := by decide +kernel
attribute [local irreducible] sW1 sW2 sW3 sW4 exG0 nW5 nW6 nW7 nW8 nW9 nWa nWb nWC nWd
theorem sn_alloc5 (h : PgX w W pb l b sW4 exG0 newM X) : Calls Tryz.prog 15 #[.pointer (some ⟨pb, 0, none⟩)] W fun e w' => e = .returned (.tuple #[.int .i64 2, .int .i64 0]) ∧ PgX w w' pb l b nW5 exG0 newM X := by
  have A := alloc1_any h sn_r5 (by rw [sn_f5]; decide) (by rw [sn_c5]; decide) 0 (by decide) (by decide) (by rw [sn_f5]; exact sn_p5)
  rw [sn_a5, sn_e5] at A
  unfold nW5
  exact A.mono fun e w' hh => ⟨hh.1, hh.2.1⟩
theorem sn_alloc6 (h : PgX w W pb l b nW5 exG0 newM X) : Calls Tryz.prog 15 #[.pointer (some ⟨pb, 0, none⟩)] W fun e w' => e = .returned (.tuple #[.int .i64 4, .int .i64 0]) ∧ PgX w w' pb l b nW6 exG0 newM X := by
  have A := alloc0_any h sn_z6
  rw [sn_a6, sn_e6] at A
  unfold nW6
  exact A.mono fun e w' hh => ⟨hh.1, hh.2.1⟩
theorem sn_7c (h : PgX w W pb l b nW6 exG0 newM X) : Calls Tryz.prog 16 #[.pointer (some ⟨pb, 0, none⟩), .int .i64 1] W fun e w' => e = .returned (.int .i64 5) ∧ PgX w w' pb l b nW7 exG0 newM X := by
  have A := sfree_any h 1 (by unfold in64; decide)
  rw [sn_7] at A
  unfold nW7
  exact A.mono fun e w' hh => ⟨hh.1, hh.2.1⟩
theorem sn_8c (h : PgX w W pb l b nW7 exG0 newM X) : Calls Tryz.prog 16 #[.pointer (some ⟨pb, 0, none⟩), .int .i64 5] W fun e w' => e = .returned (.int .i64 5) ∧ PgX w w' pb l b nW8 exG0 newM X := by
  have A := sfree_any h 5 (by unfold in64; decide)
  rw [sn_8] at A
  unfold nW8
  exact A.mono fun e w' hh => ⟨hh.1, hh.2.1⟩
theorem sn_9c (h : PgX w W pb l b nW8 exG0 newM X) : Calls Tryz.prog 17 #[.pointer (some ⟨pb, 0, none⟩), .int .i64 8, .int .i64 0] W fun e w' => e = .returned (.int .i64 2) ∧ PgX w w' pb l b nW9 exG0 newM X := by
  have A := sroot_any h 8 0 (by unfold in64; decide) (by unfold in64; decide)
  rw [sn_9] at A
  unfold nW9
  exact A.mono fun e w' hh => ⟨hh.1, hh.2.1⟩
theorem sn_ac (h : PgX w W pb l b nW9 exG0 newM X) : Calls Tryz.prog 17 #[.pointer (some ⟨pb, 0, none⟩), .int .i64 0, .int .i64 5] W fun e w' => e = .returned (.int .i64 2) ∧ PgX w w' pb l b nWa exG0 newM X := by
  have A := sroot_any h 0 5 (by unfold in64; decide) (by unfold in64; decide)
  rw [sn_a] at A
  unfold nWa
  exact A.mono fun e w' hh => ⟨hh.1, hh.2.1⟩
theorem sn_bc (h : PgX w W pb l b nWa exG0 newM X) : Calls Tryz.prog 17 #[.pointer (some ⟨pb, 0, none⟩), .int .i64 7, .int .i64 4] W fun e w' => e = .returned (.int .i64 0) ∧ PgX w w' pb l b nWb exG0 newM X := by
  have A := sroot_any h 7 4 (by unfold in64; decide) (by unfold in64; decide)
  rw [sn_b] at A
  unfold nWb
  exact A.mono fun e w' hh => ⟨hh.1, hh.2.1⟩
theorem sn_commit (h : PgX w W pb l b nWb exG0 newM X) : Calls Tryz.prog 18 #[.pointer (some ⟨pb, 0, none⟩)] W fun e w' => e = .returned (.int .i64 0) ∧ PgX w w' pb l b nWC.2.1 nWC.2.2.1 nWC.2.2.2 X := by
  have A := scommit_any h 100 new_small (by decide)
  have e := sn_C
  unfold nWC at e ⊢
  rw [e] at A
  exact A.mono fun e w' hh => ⟨hh.1, hh.2.1⟩
theorem sn_read (h : PgX w W pb l b nWC.2.1 nWC.2.2.1 nWC.2.2.2 X) : Calls Tryz.prog 19 #[.pointer (some ⟨pb, 0, none⟩)] W fun e w' => e = .returned (.tuple #[hdrV ⟨0, 0, 1, [0, 0, 0, 0, 0, 0, 0, 4]⟩, .int .i64 0]) ∧ Below W.heap.size W w' := by
  have A := sread_any h
  rw [sn_h, sn_e] at A
  exact A
theorem sn_allocd (h : PgX w W pb l b nWC.2.1 nWC.2.2.1 nWC.2.2.2 X) : Calls Tryz.prog 15 #[.pointer (some ⟨pb, 0, none⟩)] W fun e w' => e = .returned (.tuple #[.int .i64 0, .int .i64 9]) ∧ PgX w w' pb l b nWd nWC.2.2.1 nWC.2.2.2 X ∧ ∀ k, X k → w'.heap[k]? = W.heap[k]? := by
  have A := alloc0_any h sn_zd
  rw [sn_ad, sn_ed] at A
  unfold nWd
  exact A
theorem sn_putc (W : World) : Calls Tryz.prog 8 #[hdrV ⟨1, 0, 0, [0, 0, 0, 0, 0, 0, 0, 0]⟩] W fun e w' => e = .returned (.tuple #[.string (bs []), .int .i64 2]) ∧ Below W.heap.size W w' := by
  have A := sput_any ⟨1, 0, 0, [0, 0, 0, 0, 0, 0, 0, 0]⟩ ⟨by unfold in64; decide, by unfold in64; decide, by decide, rfl, by intro n hn; simp at hn; subst hn; unfold in64; decide⟩ W
  rw [sn_put] at A
  exact A
theorem sn_takec (W : World) : Calls Tryz.prog 10 #[.string (bs (List.replicate 512 0))] W fun e w' => (∃ v, e = .returned (.tuple #[v, .int .i64 7])) ∧ Below W.heap.size W w' := by
  have A := stake_any (zeros 512) (by rw [zeros_length]; decide) W
  rw [sn_take] at A
  exact A.mono fun e w' hh => ⟨⟨_, hh.1⟩, hh.2⟩
set_option maxHeartbeats 8000000 in
set_option maxRecDepth 20000 in
theorem spaceKnown_any (w : World) : Calls Tryz.prog 4 #[] w fun e w' => e = .returned (.bool true) ∧ Below w.heap.size w w' := by
  have RD := fun (W1 : World) (pb l b : Nat) (X : Nat → Prop) (h : PgX w W1 pb l b nWC.2.1 nWC.2.2.1 nWC.2.2.2 X) => sn_read h
  have PT := sn_putc
  unfold hdrV hdrCells at RD PT
  simp only [List.map_cons, List.map_nil] at RD PT
  replace RD := hid RD
  replace PT := hid PT
  have RP := fun W => Tryz.strings_Repeat (bs [0]) 512 W (by omega) (by simp [bs_size])
  rw [show (bs [0]).data.toList = [0] from rfl, repeat_one] at RP
  have RP := hid RP
  have as0 := fun (W1 : World) => arr_same W1 0 0 0 0 0 0 0 4
  go_enter Tryz.func4, Tryz.ntmps4
  go_upto_region 9 with (first
    | (go_at_call 13; refine (mk_new _).mono ?_; rintro e w1 ⟨b, rfl, hd1⟩; have Hd1 := hid hd1; clear hd1)
    | (go_at_call 12; refine (px_fresh Hd1.out).mono ?_; rintro e w2 ⟨pb, l, rfl, hm2⟩; have Hm2 := hid hm2; clear hm2 Hd1)
    | (go_at_call 14; refine (sw_begin Hm2.out).mono ?_; rintro e w3 ⟨rfl, hm3⟩; have Hm3 := hid hm3; clear hm3 Hm2)
    | (go_at_call 15; refine (sw_alloc1 Hm3.out).mono ?_; rintro e w4 ⟨rfl, hm4⟩; have Hm4 := hid hm4; clear hm4 Hm3)
    | (go_at_call 15; refine (sw_alloc2 Hm4.out).mono ?_; rintro e w5 ⟨rfl, hm5⟩; have Hm5 := hid hm5; clear hm5 Hm4)
    | (go_at_call 16; refine (sw_free Hm5.out).mono ?_; rintro e w6 ⟨rfl, hm6⟩; have Hm6 := hid hm6; clear hm6 Hm5)
    | (go_at_call 15; refine (sn_alloc5 Hm6.out).mono ?_; rintro e w7 ⟨rfl, hm7⟩; have Hm7 := hid hm7; clear hm7 Hm6)
    | (go_at_call 15; refine (sn_alloc6 Hm7.out).mono ?_; rintro e w8 ⟨rfl, hm8⟩; have Hm8 := hid hm8; clear hm8 Hm7)
    | go_in)
  go_upto_region 12 with (first
    | (go_at_call 16; refine (sn_7c Hm8.out).mono ?_; rintro e w9 ⟨rfl, hm9⟩; have Hm9 := hid hm9; clear hm9 Hm8)
    | (go_at_call 16; refine (sn_8c Hm9.out).mono ?_; rintro e w10 ⟨rfl, hm10⟩; have Hm10 := hid hm10; clear hm10 Hm9)
    | (go_at_call 17; refine (sn_9c Hm10.out).mono ?_; rintro e w11 ⟨rfl, hm11⟩; have Hm11 := hid hm11; clear hm11 Hm10)
    | (go_at_call 17; refine (sn_ac Hm11.out).mono ?_; rintro e w12 ⟨rfl, hm12⟩; have Hm12 := hid hm12; clear hm12 Hm11)
    | (go_at_call 17; refine (sn_bc Hm12.out).mono ?_; rintro e w13 ⟨rfl, hm13⟩; have Hm13 := hid hm13; clear hm13 Hm12)
    | (go_at_call 18; refine (sn_commit Hm13.out).mono ?_; rintro e w14 ⟨rfl, hm14⟩; have Hm14 := hid hm14; clear hm14 Hm13)
    | (go_at_call 19; refine (RD.out _ _ _ _ _ Hm14.out).mono ?_; rintro e w15 ⟨rfl, hb15⟩; have HB15 := hid hb15; clear hb15)
    | go_in)
  have hy := heap_alloc_new w15 (.cells #[.int .i64 0, .int .i64 0, .int .u64 1, .int .i64 0, .int .i64 0, .int .i64 0, .int .i64 0, .int .i64 0, .int .i64 0, .int .i64 0, .int .i64 4] 25)
  have hb16 := HB15.out.alloc HB15.out.size (.cells #[.int .i64 0, .int .i64 0, .int .u64 1, .int .i64 0, .int .i64 0, .int .i64 0, .int .i64 0, .int .i64 0, .int .i64 0, .int .i64 0, .int .i64 4] 25)
  have hyb := HB15.out.size
  obtain ⟨yb, hyb2⟩ : ∃ yb, yb = w15.heap.size := ⟨_, rfl⟩
  obtain ⟨w16, hw16⟩ : ∃ w16, w16 = w15.alloc (.cells #[.int .i64 0, .int .i64 0, .int .u64 1, .int .i64 0, .int .i64 0, .int .i64 0, .int .i64 0, .int .i64 0, .int .i64 0, .int .i64 0, .int .i64 4] 25) := ⟨_, rfl⟩
  rw [← hyb2, ← hw16] at hy
  rw [← hw16] at hb16
  rw [← hyb2, ← hw16]
  have hx16 := px_add (X' := fun k => k = yb) Hm14.out hb16 (fun k hk => .inr (by omega)) (fun k hk => by rw [hk]; exact lt_of_block hy)
  have Hx16 := hid hx16
  have Hy := hid hy
  clear hx16 hy hb16 hw16 hyb2 hyb HB15 Hm14
  go_upto_region 15 with (first
    | (go_at_call 15; refine (sn_allocd Hx16.out).mono ?_; rintro e w17 ⟨rfl, hm17, hk17⟩; have Hm17 := hid hm17; obtain ⟨⟨y0, y1, y2⟩, ⟨y3, y4, y5, y6, y7, y8, y9, y10⟩, yf⟩ := cells11 ((hk17 yb rfl).trans Hy.out); clear hm17 hk17)
    | go_in)
  have hbel := Hm17.out.bel
  have Hbel := hid hbel
  clear hbel Hm17 Hx16
  go_wp2_with (first
    | (go_at_call 8; refine (PT.out _).mono ?_; rintro e w18 ⟨rfl, hb⟩; have HB18 := hid (then_below Hbel.out hb); clear hb)
    | (go_at_call 20; refine (RP.out _).mono ?_; rintro e w19 ⟨rfl, hb⟩; have HB19 := hid (then_below HB18.out hb); clear hb)
    | (go_at_call 10; refine (sn_takec _).mono ?_; rintro e w20 ⟨⟨tv, rfl⟩, hb⟩; have HB20 := hid (then_below HB19.out hb); clear hb)
    | (go_at_call 19; refine (sread_nil _).mono ?_; rintro e w21 ⟨rfl, hb⟩; have HB21 := hid ((then_below HB20.out hb).alloc (then_below HB20.out hb).size (.cells #[.int .i64 0, .int .i64 0, .int .u64 0, .int .i64 0, .int .i64 0, .int .i64 0, .int .i64 0, .int .i64 0, .int .i64 0, .int .i64 0, .int .i64 0] 25)); clear hb)
    | (go_at_call 15; refine (salloc_nil _).mono ?_; rintro e w22 ⟨rfl, hb⟩; have HB22 := hid (then_below HB21.out hb); clear hb)
    | (go_at_call 14; refine (sbegin_nil _).mono ?_; rintro e w23 ⟨rfl, hw⟩; obtain rfl := hw.symm)
    | (go_at_call 16; refine (sfree_nil _).mono ?_; rintro e w24 ⟨rfl, hb⟩; have HB24 := hid (then_below HB22.out hb); clear hb)
    | (go_at_call 17; refine (sroot_nil _).mono ?_; rintro e w25 ⟨rfl, hb⟩; have HB25 := hid (then_below HB24.out hb); clear hb)
    | (go_at_call 18; refine (scommit_nil _).mono ?_; rintro e w26 ⟨rfl, hb⟩; have HB26 := hid (then_below HB25.out hb); clear hb)
    | go_in)
  go_ret
  exact ⟨rfl, HB26.out⟩
end
end Go.Proofs.YtgjcamcboacijaaGreat
