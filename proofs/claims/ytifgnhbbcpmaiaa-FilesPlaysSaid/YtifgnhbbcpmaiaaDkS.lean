/- Law FilesKnown. Calls on a nil disk. -/
import Derived.Test.YtifgnhbbcpmaiaaDkR
namespace Go.Proofs.Ytifgnhbbcpmaiaa
open Go.RowKit Go.Maps
set_option linter.unusedVariables false
set_option linter.unusedSimpArgs false

theorem ready_nil (f : Int) (w : World) : Calls Try.prog 39 #[.pointer none, .int .i64 f] w fun e w' => e = .returned (.int .i64 1) ∧ w' = w := by
  go_enter Try.func39, Try.ntmps39
  go_wp2_with fail
  go_ret
  exact ⟨rfl, rfl⟩
theorem read_nil (w : World) : Calls Try.prog 22 #[.pointer none, .int .i64 0, .int .i64 0, .int .i64 0] w fun e w' => e = .returned (.tuple #[.string ⟨#[]⟩, .int .i64 1]) ∧ w' = w := by
  have R := hid (ready_nil 0)
  go_enter Try.func22, Try.ntmps22
  go_wp2_with (first | (go_at_call 39; refine (R.out _).mono ?_; rintro e w1 ⟨rfl, rfl⟩) | go_in)
  go_ret2
  exact ⟨rfl, rfl⟩
theorem write_nil (w : World) : Calls Try.prog 21 #[.pointer none, .int .i64 0, .int .i64 0, .string ⟨#[]⟩] w fun e w' => e = .returned (.int .i64 1) ∧ w' = w := by
  have R := hid (ready_nil 0)
  go_enter Try.func21, Try.ntmps21
  go_wp2_with (first | (go_at_call 39; refine (R.out _).mono ?_; rintro e w1 ⟨rfl, rfl⟩) | go_in)
  go_ret
  exact ⟨rfl, rfl⟩
theorem cut_nil (w : World) : Calls Try.prog 24 #[.pointer none, .int .i64 0, .int .i64 0] w fun e w' => e = .returned (.int .i64 1) ∧ w' = w := by
  have R := hid (ready_nil 0)
  go_enter Try.func24, Try.ntmps24
  go_wp2_with (first | (go_at_call 39; refine (R.out _).mono ?_; rintro e w1 ⟨rfl, rfl⟩) | go_in)
  go_ret
  exact ⟨rfl, rfl⟩
theorem sync_nil (w : World) : Calls Try.prog 14 #[.pointer none, .int .i64 0] w fun e w' => e = .returned (.int .i64 1) ∧ w' = w := by
  have R := hid (ready_nil 0)
  go_enter Try.func14, Try.ntmps14
  go_wp2_with (first | (go_at_call 39; refine (R.out _).mono ?_; rintro e w1 ⟨rfl, rfl⟩) | go_in)
  go_ret
  exact ⟨rfl, rfl⟩
theorem arm_nil (w : World) : Calls Try.prog 25 #[.pointer none, .int .i64 (-1), .int .i64 0] w fun e w' => e = .returned (.int .i64 1) ∧ w' = w := by
  go_enter Try.func25, Try.ntmps25
  go_wp2_with fail
  go_ret
  exact ⟨rfl, rfl⟩
theorem power_nil (w : World) : Calls Try.prog 27 #[.pointer none, .int .i64 (-1)] w fun e w' => e = .returned (.int .i64 1) ∧ w' = w := by
  go_enter Try.func27, Try.ntmps27
  go_wp2_with fail
  go_ret
  exact ⟨rfl, rfl⟩
theorem crash_none (w : World) : Calls Try.prog 17 #[.pointer none, .slice none 0 0] w fun e w' => e = .returned (.int .i64 1) ∧ w' = w := by
  go_enter Try.func17, Try.ntmps17
  go_wp2_with fail
  go_ret
  exact ⟨rfl, rfl⟩
theorem size_nil (w : World) : Calls Try.prog 16 #[.pointer none, .int .i64 0] w fun e w' => e = .returned (.int .i64 0) ∧ w' = w := by
  go_enter Try.func16, Try.ntmps16
  go_wp2_with fail
  go_ret
  exact ⟨rfl, rfl⟩
theorem ops_nil (w : World) : Calls Try.prog 26 #[.pointer none] w fun e w' => e = .returned (.int .i64 0) ∧ w' = w := by
  go_enter Try.func26, Try.ntmps26
  go_wp2_with fail
  go_ret
  exact ⟨rfl, rfl⟩
theorem loose_nil (w : World) : Calls Try.prog 18 #[.pointer none] w fun e w' => e = .returned (.int .i64 0) ∧ w' = w := by
  go_enter Try.func18, Try.ntmps18
  go_wp2_with fail
  go_ret
  exact ⟨rfl, rfl⟩
theorem on_nil (w : World) : Calls Try.prog 19 #[.pointer none] w fun e w' => e = .returned (.bool false) ∧ w' = w := by
  go_enter Try.func19, Try.ntmps19
  go_wp2_with fail
  go_ret
  exact ⟨rfl, rfl⟩
theorem copy_nil (w : World) : Calls Try.prog 28 #[.pointer none] w fun e w' => e = .returned (.pointer none) ∧ w' = w := by
  go_enter Try.func28, Try.ntmps28
  go_wp2_with fail
  go_ret
  exact ⟨rfl, rfl⟩

def bools (ks : List Bool) : Array Value := (ks.map Value.bool).toArray
theorem keep_new (w : World) (ks : List Bool) : KeepAt (w.alloc (.cells (bools ks) 4)) (.slice (some ⟨w.heap.size, 0, none⟩) ks.length ks.length) ks :=
  ⟨_, _, rfl, .inr ⟨_, 0, rfl, fun i b hi => by
    rw [cell_of_block (heap_alloc_new w _)]
    simp [bools, hi]⟩⟩
/-- A crash with a slice that was just made. -/
theorem crash_new {w : World} {b : Nat} {F : Foot} {d : Dsk} (h : DiskAt w b F d) (hs : d.Small 1099511627776) (ks : List Bool) (hk : ks.length ≤ 1099511627776) :
    Calls Try.prog 17 #[.pointer (some ⟨b, 0, none⟩), .slice (some ⟨w.heap.size, 0, none⟩) ks.length ks.length] (w.alloc (.cells (bools ks) 4)) fun e w' => e = .returned (.int .i64 0) ∧ Did (w.alloc (.cells (bools ks) 4)) b F (crashM d ks) w' := by
  refine crash_any (h.below ((Below.refl _ _).alloc (Nat.le_refl _) _)) _ ks (keep_new w ks) (fun g hg => ?_) hs hk
  unfold keepBlk at hg
  split at hg
  · cases hg
  · cases hg
    exact ⟨fun ho => absurd (h.olt _ ho) (Nat.lt_irrefl _), by simp⟩

def kn0 : Dsk := newM
theorem kn0_small : kn0.Small 1000 := ⟨by decide +kernel, by decide +kernel, by decide +kernel⟩
set_option maxRecDepth 100000 in
theorem knf1 : (writeM kn0 (0) (1) (sectorM 97)).1 = 0 := by decide +kernel
def kn1 : Dsk := (writeM kn0 (0) (1) (sectorM 97)).2
theorem kn1_small : kn1.Small 1000 := ⟨by decide +kernel, by decide +kernel, by decide +kernel⟩
set_option maxRecDepth 100000 in
theorem knf2 : ((kn1.now (Int.toNat 0)).length : Int) = 2 := by decide +kernel
set_option maxRecDepth 100000 in
theorem knf3 : (readM kn1 0 0 1).1 = sectorM 0 := by decide +kernel
set_option maxRecDepth 100000 in
theorem knf4 : (readM kn1 0 0 1).2 = 0 := by decide +kernel
set_option maxRecDepth 100000 in
theorem knf5 : (readM kn1 0 1 2).1 = [] := by decide +kernel
set_option maxRecDepth 100000 in
theorem knf6 : (readM kn1 0 1 2).2 = 5 := by decide +kernel
set_option maxRecDepth 100000 in
theorem knf7 : (writeM kn1 (0) (0) ((sectorM 97).take 63)).1 = 2 := by decide +kernel
def kn2 : Dsk := (writeM kn1 (0) (0) ((sectorM 97).take 63)).2
theorem kn2_small : kn2.Small 1000 := ⟨by decide +kernel, by decide +kernel, by decide +kernel⟩
set_option maxRecDepth 100000 in
theorem knf8 : (writeM kn2 (8) (0) (sectorM 97)).1 = 2 := by decide +kernel
def kn3 : Dsk := (writeM kn2 (8) (0) (sectorM 97)).2
theorem kn3_small : kn3.Small 1000 := ⟨by decide +kernel, by decide +kernel, by decide +kernel⟩
set_option maxRecDepth 100000 in
theorem knf9 : (cutM kn3 (0) (3)).1 = 5 := by decide +kernel
def kn4 : Dsk := (cutM kn3 (0) (3)).2
theorem kn4_small : kn4.Small 1000 := ⟨by decide +kernel, by decide +kernel, by decide +kernel⟩
set_option maxRecDepth 100000 in
theorem knf10 : (kn4.loose.length : Int) = 1 := by decide +kernel
def kn5 : Dsk := crashM kn4 [false]
theorem kn5_small : kn5.Small 1000 := ⟨by decide +kernel, by decide +kernel, by decide +kernel⟩
set_option maxRecDepth 100000 in
theorem knf11 : ((kn5.now (Int.toNat 0)).length : Int) = 0 := by decide +kernel
set_option maxRecDepth 100000 in
theorem knf12 : (writeM kn5 (1) (0) (sectorM 97 ++ sectorM 97)).1 = 0 := by decide +kernel
def kn6 : Dsk := (writeM kn5 (1) (0) (sectorM 97 ++ sectorM 97)).2
theorem kn6_small : kn6.Small 1000 := ⟨by decide +kernel, by decide +kernel, by decide +kernel⟩
def kn7 : Dsk := crashM kn6 [false, true]
theorem kn7_small : kn7.Small 1000 := ⟨by decide +kernel, by decide +kernel, by decide +kernel⟩
set_option maxRecDepth 100000 in
theorem knf13 : ((kn7.now (Int.toNat 1)).length : Int) = 2 := by decide +kernel
set_option maxRecDepth 100000 in
theorem knf14 : (readM kn7 1 0 2).1 = sectorM 0 ++ sectorM 97 := by decide +kernel
set_option maxRecDepth 100000 in
theorem knf15 : (readM kn7 1 0 2).2 = 0 := by decide +kernel
set_option maxRecDepth 100000 in
theorem knf16 : (armM kn7 (1) (31)).1 = 0 := by decide +kernel
def kn8 : Dsk := (armM kn7 (1) (31)).2
theorem kn8_small : kn8.Small 1000 := ⟨by decide +kernel, by decide +kernel, by decide +kernel⟩
set_option maxRecDepth 100000 in
theorem knf17 : (syncM kn8 (1)).1 = 0 := by decide +kernel
def kn9 : Dsk := (syncM kn8 (1)).2
theorem kn9_small : kn9.Small 1000 := ⟨by decide +kernel, by decide +kernel, by decide +kernel⟩
set_option maxRecDepth 100000 in
theorem knf18 : (syncM kn9 (1)).1 = 31 := by decide +kernel
def kn10 : Dsk := (syncM kn9 (1)).2
theorem kn10_small : kn10.Small 1000 := ⟨by decide +kernel, by decide +kernel, by decide +kernel⟩
set_option maxRecDepth 100000 in
theorem knf19 : (syncM kn10 (1)).1 = 0 := by decide +kernel
def kn11 : Dsk := (syncM kn10 (1)).2
theorem kn11_small : kn11.Small 1000 := ⟨by decide +kernel, by decide +kernel, by decide +kernel⟩
set_option maxRecDepth 100000 in
theorem knf20 : kn11.ops = 5 := by decide +kernel
set_option maxRecDepth 100000 in
theorem knf21 : (readM newM 0 0 0).1 = [] := by decide +kernel
set_option maxRecDepth 100000 in
theorem knf22 : (readM newM 0 0 0).2 = 0 := by decide +kernel
set_option maxRecDepth 100000 in
theorem knf23 : (powerM kn11 (0)).1 = 0 := by decide +kernel
def kn12 : Dsk := (powerM kn11 (0)).2
theorem kn12_small : kn12.Small 1000 := ⟨by decide +kernel, by decide +kernel, by decide +kernel⟩
set_option maxRecDepth 100000 in
theorem knf24 : (cutM kn12 (1) (0)).1 = 32 := by decide +kernel
def kn13 : Dsk := (cutM kn12 (1) (0)).2
theorem kn13_small : kn13.Small 1000 := ⟨by decide +kernel, by decide +kernel, by decide +kernel⟩
set_option maxRecDepth 100000 in
theorem knf25 : kn13.off = true := by decide +kernel
set_option maxRecDepth 100000 in
theorem knf26 : (readM kn13 1 0 1).1 = [] := by decide +kernel
set_option maxRecDepth 100000 in
theorem knf27 : (readM kn13 1 0 1).2 = 32 := by decide +kernel
def kn14 : Dsk := crashM kn13 []
theorem kn14_small : kn14.Small 1000 := ⟨by decide +kernel, by decide +kernel, by decide +kernel⟩
set_option maxRecDepth 100000 in
theorem knf28 : ((kn14.now (Int.toNat 1)).length : Int) = 2 := by decide +kernel
set_option maxRecDepth 100000 in
theorem knf29 : kn14.off = false := by decide +kernel
set_option maxHeartbeats 4000000 in
set_option maxRecDepth 20000 in
theorem known_any (w : World) : Calls Try.prog 6 #[] w fun e w' => e = .returned (.bool true) ∧ Below w.heap.size w w' := by
  have hl97 : (sectorM 97).length = 64 := rfl
  go_enter Try.func6, Try.ntmps6
  go_wp2_with (first
    | (go_at_call 12; refine (new_any w).mono ?_; rintro e w1 ⟨b, F, rfl, hd, hb, ho, -⟩; have M1 := hid (show Made _ _ _ _ kn0 from Made.new (Below.refl _ _) hd hb ho); clear hd hb ho)
    | (go_at_call 23; refine (sector_any 97 _).mono ?_; rintro e w2 ⟨rfl, hb⟩; have M2 := hid (M1.out.under hb); clear hb M1)
    | (go_at_call 21; have WR := write_any M2.out.disk (0) (1) (sectorM 97) (kn0_small.mono (by omega)) (by simp [sectorM]); rw [knf1] at WR; refine WR.mono ?_; clear WR; rintro e w3 ⟨rfl, hd⟩; obtain ⟨F3, hm⟩ := M2.out.did (d' := kn1) hd; have M3 := hid hm; clear hd hm M2)
    | (go_at_call 16; have SZ := size_any M3.out.disk 0; rw [if_pos (by omega), knf2] at SZ; refine SZ.mono ?_; clear SZ; rintro e w4 ⟨rfl, rfl⟩)
    | (go_at_call 22; have RD := read_any M3.out.disk 0 0 1 (by omega); rw [knf3, knf4] at RD; refine RD.mono ?_; clear RD; rintro e w5 ⟨rfl, hb⟩; have M5 := hid (M3.out.under hb); clear hb M3)
    | (go_at_call 22; have RD := read_any M5.out.disk 0 1 2 (by omega); rw [knf5, knf6] at RD; refine RD.mono ?_; clear RD; rintro e w6 ⟨rfl, hb⟩; have M6 := hid (M5.out.under hb); clear hb M5)
    | (go_at_call 23; refine (sector_any 0 _).mono ?_; rintro e w7 ⟨rfl, hb⟩; have M7 := hid (M6.out.under hb); clear hb M6)
    | (go_at_call 23; refine (sector_any 97 _).mono ?_; rintro e w8 ⟨rfl, hb⟩; have M8 := hid (M7.out.under hb); clear hb M7)
    | (go_at_call 21; have WR := write_any M8.out.disk (0) (0) ((sectorM 97).take 63) (kn1_small.mono (by omega)) (by simp [sectorM]); rw [knf7] at WR; refine WR.mono ?_; clear WR; rintro e w9 ⟨rfl, hd⟩; obtain ⟨F9, hm⟩ := M8.out.did (d' := kn2) hd; have M9 := hid hm; clear hd hm M8)
    | (go_at_call 23; refine (sector_any 97 _).mono ?_; rintro e w10 ⟨rfl, hb⟩; have M10 := hid (M9.out.under hb); clear hb M9)
    | (go_at_call 21; have WR := write_any M10.out.disk (8) (0) (sectorM 97) (kn2_small.mono (by omega)) (by simp [sectorM]); rw [knf8] at WR; refine WR.mono ?_; clear WR; rintro e w11 ⟨rfl, hd⟩; obtain ⟨F11, hm⟩ := M10.out.did (d' := kn3) hd; have M11 := hid hm; clear hd hm M10)
    | (go_at_call 24; have WR := cut_any M11.out.disk (0) (3) (kn3_small.mono (by omega)); rw [knf9] at WR; refine WR.mono ?_; clear WR; rintro e w12 ⟨rfl, hd⟩; obtain ⟨F12, hm⟩ := M11.out.did (d' := kn4) hd; have M12 := hid hm; clear hd hm M11)
    | (go_at_call 18; have SZ := loose_any M12.out.disk; rw [knf10] at SZ; refine SZ.mono ?_; clear SZ; rintro e w13 ⟨rfl, rfl⟩)
    | (go_at_call 17; refine (crash_new M12.out.disk (kn4_small.mono (by omega)) [false] (by simp)).mono ?_; rintro e w14 ⟨rfl, hd⟩; obtain ⟨F14, hm⟩ := (M12.out.under ((Below.refl _ _).alloc (Nat.le_refl _) (.cells (bools [false]) 4))).did (d' := kn5) hd; have M14 := hid hm; clear hd hm M12)
    | (go_at_call 16; have SZ := size_any M14.out.disk 0; rw [if_pos (by omega), knf11] at SZ; refine SZ.mono ?_; clear SZ; rintro e w15 ⟨rfl, rfl⟩)
    | (go_at_call 23; refine (sector_any 97 _).mono ?_; rintro e w16 ⟨rfl, hb⟩; have M16 := hid (M14.out.under hb); clear hb M14)
    | (go_at_call 23; refine (sector_any 97 _).mono ?_; rintro e w17 ⟨rfl, hb⟩; have M17 := hid (M16.out.under hb); clear hb M16)
    | (go_at_call 21; have WR := write_any M17.out.disk (1) (0) (sectorM 97 ++ sectorM 97) (kn5_small.mono (by omega)) (by simp [sectorM]); rw [knf12] at WR; refine WR.mono ?_; clear WR; rintro e w18 ⟨rfl, hd⟩; obtain ⟨F18, hm⟩ := M17.out.did (d' := kn6) hd; have M18 := hid hm; clear hd hm M17)
    | (go_at_call 17; refine (crash_new M18.out.disk (kn6_small.mono (by omega)) [false, true] (by simp)).mono ?_; rintro e w19 ⟨rfl, hd⟩; obtain ⟨F19, hm⟩ := (M18.out.under ((Below.refl _ _).alloc (Nat.le_refl _) (.cells (bools [false, true]) 4))).did (d' := kn7) hd; have M19 := hid hm; clear hd hm M18)
    | (go_at_call 16; have SZ := size_any M19.out.disk 1; rw [if_pos (by omega), knf13] at SZ; refine SZ.mono ?_; clear SZ; rintro e w20 ⟨rfl, rfl⟩)
    | (go_at_call 22; have RD := read_any M19.out.disk 1 0 2 (by omega); rw [knf14, knf15] at RD; refine RD.mono ?_; clear RD; rintro e w21 ⟨rfl, hb⟩; have M21 := hid (M19.out.under hb); clear hb M19)
    | (go_at_call 23; refine (sector_any 0 _).mono ?_; rintro e w22 ⟨rfl, hb⟩; have M22 := hid (M21.out.under hb); clear hb M21)
    | (go_at_call 23; refine (sector_any 97 _).mono ?_; rintro e w23 ⟨rfl, hb⟩; have M23 := hid (M22.out.under hb); clear hb M22)
    | (go_at_call 25; have WR := arm_any M23.out.disk (1) (31) (kn7_small.mono (by omega)); rw [knf16] at WR; refine WR.mono ?_; clear WR; rintro e w24 ⟨rfl, hd⟩; obtain ⟨F24, hm⟩ := M23.out.did (d' := kn8) hd; have M24 := hid hm; clear hd hm M23)
    | (go_at_call 14; have WR := sync_any M24.out.disk (1) (kn8_small.mono (by omega)); rw [knf17] at WR; refine WR.mono ?_; clear WR; rintro e w25 ⟨rfl, hd⟩; obtain ⟨F25, hm⟩ := M24.out.did (d' := kn9) hd; have M25 := hid hm; clear hd hm M24)
    | (go_at_call 14; have WR := sync_any M25.out.disk (1) (kn9_small.mono (by omega)); rw [knf18] at WR; refine WR.mono ?_; clear WR; rintro e w26 ⟨rfl, hd⟩; obtain ⟨F26, hm⟩ := M25.out.did (d' := kn10) hd; have M26 := hid hm; clear hd hm M25)
    | (go_at_call 14; have WR := sync_any M26.out.disk (1) (kn10_small.mono (by omega)); rw [knf19] at WR; refine WR.mono ?_; clear WR; rintro e w27 ⟨rfl, hd⟩; obtain ⟨F27, hm⟩ := M26.out.did (d' := kn11) hd; have M27 := hid hm; clear hd hm M26)
    | (go_at_call 26; have SZ := ops_any M27.out.disk; rw [knf20] at SZ; refine SZ.mono ?_; clear SZ; rintro e w28 ⟨rfl, rfl⟩)
    | (go_at_call 12; refine (new_any _).mono ?_; rintro e w29 ⟨b2, F2, rfl, hd, hb, -, -⟩; have M29 := hid (M27.out.under hb); have N29 := hid hd; clear hd hb M27)
    | (go_at_call 22; have RD := read_any N29.out 0 0 0 (by omega); rw [knf21, knf22] at RD; refine RD.mono ?_; clear RD; rintro e w30 ⟨rfl, hb⟩; have M30 := hid (M29.out.under hb); clear hb M29 N29)
    | (go_at_call 27; have WR := power_any M30.out.disk (0) (kn11_small.mono (by omega)); rw [knf23] at WR; refine WR.mono ?_; clear WR; rintro e w31 ⟨rfl, hd⟩; obtain ⟨F31, hm⟩ := M30.out.did (d' := kn12) hd; have M31 := hid hm; clear hd hm M30)
    | (go_at_call 24; have WR := cut_any M31.out.disk (1) (0) (kn12_small.mono (by omega)); rw [knf24] at WR; refine WR.mono ?_; clear WR; rintro e w32 ⟨rfl, hd⟩; obtain ⟨F32, hm⟩ := M31.out.did (d' := kn13) hd; have M32 := hid hm; clear hd hm M31)
    | (go_at_call 19; have SZ := on_any M32.out.disk; rw [knf25] at SZ; refine SZ.mono ?_; clear SZ; rintro e w33 ⟨rfl, rfl⟩)
    | (go_at_call 22; have RD := read_any M32.out.disk 1 0 1 (by omega); rw [knf26, knf27] at RD; refine RD.mono ?_; clear RD; rintro e w34 ⟨rfl, hb⟩; have M34 := hid (M32.out.under hb); clear hb M32)
    | (go_at_call 17; refine (crash_nil M34.out.disk (kn13_small.mono (by omega))).mono ?_; rintro e w35 ⟨rfl, hd⟩; obtain ⟨F35, hm⟩ := M34.out.did (d' := kn14) hd; have M35 := hid hm; clear hd hm M34)
    | (go_at_call 16; have SZ := size_any M35.out.disk 1; rw [if_pos (by omega), knf28] at SZ; refine SZ.mono ?_; clear SZ; rintro e w36 ⟨rfl, rfl⟩)
    | (go_at_call 19; have SZ := on_any M35.out.disk; rw [knf29] at SZ; refine SZ.mono ?_; clear SZ; rintro e w37 ⟨rfl, rfl⟩; have HBel := hid M35.out.below; clear M35)
    | (go_at_call 22; refine (read_nil _).mono ?_; rintro e w38 ⟨rfl, rfl⟩)
    | (go_at_call 21; refine (write_nil _).mono ?_; rintro e w39 ⟨rfl, rfl⟩)
    | (go_at_call 24; refine (cut_nil _).mono ?_; rintro e w40 ⟨rfl, rfl⟩)
    | (go_at_call 14; refine (sync_nil _).mono ?_; rintro e w41 ⟨rfl, rfl⟩)
    | (go_at_call 25; refine (arm_nil _).mono ?_; rintro e w42 ⟨rfl, rfl⟩)
    | (go_at_call 27; refine (power_nil _).mono ?_; rintro e w43 ⟨rfl, rfl⟩)
    | (go_at_call 17; refine (crash_none _).mono ?_; rintro e w44 ⟨rfl, rfl⟩)
    | (go_at_call 16; refine (size_nil _).mono ?_; rintro e w45 ⟨rfl, rfl⟩)
    | (go_at_call 26; refine (ops_nil _).mono ?_; rintro e w46 ⟨rfl, rfl⟩)
    | (go_at_call 18; refine (loose_nil _).mono ?_; rintro e w47 ⟨rfl, rfl⟩)
    | (go_at_call 19; refine (on_nil _).mono ?_; rintro e w48 ⟨rfl, rfl⟩)
    | (go_at_call 28; refine (copy_nil _).mono ?_; rintro e w49 ⟨rfl, rfl⟩)
    | go_in)
  go_ret
  exact ⟨rfl, HBel.out⟩
end Go.Proofs.Ytifgnhbbcpmaiaa
