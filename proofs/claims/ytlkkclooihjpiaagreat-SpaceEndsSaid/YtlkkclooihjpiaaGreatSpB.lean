import Derived.Test.YtlkkclooihjpiaaGreatPcA
set_option linter.unusedVariables false
set_option linter.unusedSimpArgs false
namespace Go.Proofs.YtlkkclooihjpiaaGreat
open Go.RowKit Go.Maps
set_option maxRecDepth 20000
structure Hdr where
 free : Int
 count : Int
 commits : Int
 roots : List Int
structure Hdr.Wf (h : Hdr) : Prop where
 free : in64 h.free
 count : in64 h.count
 commits : 0 ≤ h.commits ∧ h.commits < 18446744073709551616
 len : h.roots.length = 8
 roots : ∀ n ∈ h.roots, in64 n
def hdrCells (h : Hdr) : List Value := .int .i64 h.free :: .int .i64 h.count :: .int .u64 h.commits :: h.roots.map (.int .i64 ·)
def hdrV (h : Hdr) : Value := .agg (hdrCells h).toArray
def wordP : List UInt8 := [99, 102, 45, 112, 97, 103, 101, 115]
def pageB (n : Int) : Bool := decide (0 ≤ n) && decide (n ≤ 256)
theorem pageB_true {n : Int} : pageB n = true ↔ 0 ≤ n ∧ n ≤ 256 := by unfold pageB; simp
def hdrMayB (h : Hdr) : Bool := h.roots.all pageB && (pageB h.free && h.free != 1 && pageB h.count)
def hdrText (h : Hdr) : List UInt8 := wordP ++ four h.free ++ four h.count ++ eight h.commits ++ h.roots.flatMap four
def hdrPg (h : Hdr) : List UInt8 := hdrText h ++ zeros 456
def putH (h : Hdr) : List UInt8 × Int := if hdrMayB h then (hdrPg h, 0) else ([], 2)
def hdr0 : Hdr := ⟨0, 0, 0, [0, 0, 0, 0, 0, 0, 0, 0]⟩
def at4 (s : List UInt8) (o : Nat) : Int := num ((s.drop o).take 4)
def hdrOf (s : List UInt8) : Hdr := ⟨at4 s 8, at4 s 12, num ((s.drop 16).take 8), (List.range 8).map fun i => at4 s (24 + 4 * i)⟩
def takeH (s : List UInt8) : Hdr × Int := if s.length ≠ 512 then (hdr0, 7) else if putH (hdrOf s) = (s, 0) then (hdrOf s, 0) else (hdr0, 7)
theorem fours_length : ∀ l : List Int, (l.flatMap four).length = 4 * l.length
 | [] => rfl
 | x :: r => by
  have := fours_length r
  simp only [List.flatMap_cons, List.length_append, List.length_cons, this]
  show 4 + _ = _
  omega
theorem hdrText_length (h : Hdr) (hl : h.roots.length = 8) : (hdrText h).length = 56 := by
 unfold hdrText
 simp only [List.length_append, fours_length, hl]
 rfl
theorem hdrPg_length (h : Hdr) (hl : h.roots.length = 8) : (hdrPg h).length = 512 := by
 unfold hdrPg
 rw [List.length_append, hdrText_length h hl, zeros_length]
theorem hdrMay_all {h : Hdr} (hm : hdrMayB h = true) : (∀ n ∈ h.roots, 0 ≤ n ∧ n ≤ 256) ∧ (0 ≤ h.free ∧ h.free ≤ 256 ∧ h.free ≠ 1) ∧ 0 ≤ h.count ∧ h.count ≤ 256 := by
 unfold hdrMayB at hm
 simp only [Bool.and_eq_true, List.all_eq_true, pageB_true, bne_iff_ne, ne_eq] at hm
 exact ⟨hm.1, ⟨hm.2.1.1.1, hm.2.1.1.2, hm.2.1.2⟩, hm.2.2⟩
theorem hdr_ext {a b : Hdr} (h1 : a.free = b.free) (h2 : a.count = b.count) (h3 : a.commits = b.commits) (h4 : a.roots = b.roots) : a = b := by
 cases a
 cases b
 simp_all
theorem at4_range (s : List UInt8) (o : Nat) : 0 ≤ at4 s o ∧ at4 s o < 4294967296 := by
 unfold at4
 refine ⟨num_lo _, ?_⟩
 have h := num_hi ((s.drop o).take 4)
 have hl : ((s.drop o).take 4).length ≤ 4 := by rw [List.length_take]; omega
 have : (256 : Int) ^ ((s.drop o).take 4).length ≤ 256 ^ 4 := by
  match ((s.drop o).take 4).length, hl with
  | 0, _ => decide
  | 1, _ => decide
  | 2, _ => decide
  | 3, _ => decide
  | 4, _ => decide
 omega
theorem hdrOf_wf (s : List UInt8) : (hdrOf s).Wf := by
 refine ⟨?_, ?_, num8_lt _, by simp [hdrOf], ?_⟩
 ·have := at4_range s 8; exact ⟨by show _ ≤ at4 s 8; omega, by show at4 s 8 ≤ _; omega⟩
 ·have := at4_range s 12; exact ⟨by show _ ≤ at4 s 12; omega, by show at4 s 12 ≤ _; omega⟩
 ·intro n hn
  obtain ⟨i, -, rfl⟩ := List.mem_map.1 hn
  have := at4_range s (24 + 4 * i)
  exact ⟨by omega, by omega⟩
theorem hdr0_wf : hdr0.Wf := ⟨by unfold in64; decide, by unfold in64; decide, by decide, rfl, by intro n hn; simp [hdr0] at hn; subst hn; unfold in64; decide⟩
theorem takeH_wf (s : List UInt8) : (takeH s).1.Wf := by
 unfold takeH
 split
 ·exact hdr0_wf
 split
 ·exact hdrOf_wf s
 ·exact hdr0_wf
theorem takeH_may {s : List UInt8} (h : (takeH s).2 = 0) : s.length = 512 ∧ hdrMayB (takeH s).1 = true ∧ s = hdrPg (takeH s).1 ∧ (takeH s).1 = hdrOf s := by
 unfold takeH at h ⊢
 by_cases hl : s.length ≠ 512
 ·rw [if_pos hl] at h
  cases h
 rw [if_neg hl] at h ⊢
 by_cases hp : putH (hdrOf s) = (s, 0)
 ·rw [if_pos hp]
  have hp2 := hp
  unfold putH at hp2
  by_cases hm : hdrMayB (hdrOf s) = true
  ·rw [if_pos hm] at hp2
   exact ⟨by simpa using hl, hm, (Prod.mk.inj hp2).1.symm, rfl⟩
  ·rw [if_neg hm] at hp2
   cases hp2
 ·rw [if_neg hp] at h
  cases h
end Go.Proofs.YtlkkclooihjpiaaGreat
namespace Go.Proofs.YtlkkclooihjpiaaGreat
open Go.RowKit Go.Maps
set_option maxRecDepth 20000
theorem hdr_form {h : Hdr} (hl : h.roots.length = 8) : ∃ f c k r0 r1 r2 r3 r4 r5 r6 r7, h = ⟨f, c, k, [r0, r1, r2, r3, r4, r5, r6, r7]⟩ := by
 obtain ⟨f, c, k, l⟩ := h
 match l, hl with
 | [r0, r1, r2, r3, r4, r5, r6, r7], _ => exact ⟨f, c, k, r0, r1, r2, r3, r4, r5, r6, r7, rfl⟩
theorem spage_any (n : Int) (w : World) : Calls Tryz.prog 113 #[.int .i64 n] w fun e w' => e = .returned (.bool (pageB n)) ∧ w' = w := by
 unfold pageB
 by_cases h1 : 0 ≤ n
 ·have b1 : decide (0 ≤ n) = true := by simpa using h1
  go_enter Tryz.func113, Tryz.ntmps113
  go_wp2_with fail
  go_ret
  exact ⟨by simp [h1], rfl⟩
 ·have b1 : decide (0 ≤ n) = false := by simpa using h1
  go_enter Tryz.func113, Tryz.ntmps113
  go_wp2_with fail
  go_ret
  exact ⟨by simp [h1], rfl⟩
theorem cells11 {W : World} {b : Nat} {T : TypeId} {a0 a1 a2 a3 a4 a5 a6 a7 a8 a9 a10 : Value} (h : W.heap[b]? = some (.cells #[a0, a1, a2, a3, a4, a5, a6, a7, a8, a9, a10] T (0, 0))) :
  (W.cell? ⟨b, 0, none⟩ = some a0 ∧ W.cell? ⟨b, 1, none⟩ = some a1 ∧ W.cell? ⟨b, 2, none⟩ = some a2) ∧ (W.cell? ⟨b, 3, none⟩ = some a3 ∧ W.cell? ⟨b, 4, none⟩ = some a4 ∧ W.cell? ⟨b, 5, none⟩ = some a5 ∧ W.cell? ⟨b, 6, none⟩ = some a6 ∧ W.cell? ⟨b, 7, none⟩ = some a7 ∧ W.cell? ⟨b, 8, none⟩ = some a8 ∧ W.cell? ⟨b, 9, none⟩ = some a9 ∧ W.cell? ⟨b, 10, none⟩ = some a10) ∧ (∀ o, W.frozen? ⟨b, o, none⟩ = false) := by
 refine ⟨⟨?_, ?_, ?_⟩, ⟨?_, ?_, ?_, ?_, ?_, ?_, ?_, ?_⟩, fun o => by simp [World.frozen?, h]⟩ <;> simp [World.cell?, h]
set_option maxHeartbeats 4000000 in
set_option maxRecDepth 20000 in
theorem smay_any (h : Hdr) (hl : h.roots.length = 8) (w : World) : Calls Tryz.prog 83 #[hdrV h] w fun e w' => e = .returned (.bool (hdrMayB h)) ∧ Below w.heap.size w w' := by
 obtain ⟨f, c, k, r0, r1, r2, r3, r4, r5, r6, r7, rfl⟩ := hdr_form hl
 obtain ⟨M, hM⟩ : ∃ M, M = hdrMayB ⟨f, c, k, [r0, r1, r2, r3, r4, r5, r6, r7]⟩ := ⟨_, rfl⟩
 rw [← hM]
 have HM := hid hM
 unfold hdrV hdrCells
 simp only [List.map_cons, List.map_nil]
 have hbox := heap_alloc_new w (.cells #[.int .i64 f, .int .i64 c, .int .u64 k, .int .i64 r0, .int .i64 r1, .int .i64 r2, .int .i64 r3, .int .i64 r4, .int .i64 r5, .int .i64 r6, .int .i64 r7] 38)
 obtain ⟨⟨c0, c1, -⟩, -, -⟩ := cells11 hbox
 have C01 := hid (And.intro c0 c1)
 have hb := (Below.refl w.heap.size w).alloc (Nat.le_refl _) (.cells #[.int .i64 f, .int .i64 c, .int .u64 k, .int .i64 r0, .int .i64 r1, .int .i64 r2, .int .i64 r3, .int .i64 r4, .int .i64 r5, .int .i64 r6, .int .i64 r7] 38)
 have HB := hid hb
 clear hM hbox c0 c1 hb hl
 have ix0 : ∀ w, (Instr.index 36 (.agg #[.int .i64 r0, .int .i64 r1, .int .i64 r2, .int .i64 r3, .int .i64 r4, .int .i64 r5, .int .i64 r6, .int .i64 r7])  (.int .i64 0)).run Tryz.prog w = .ok (.int .i64 r0) w := fun _ => by kernel_rfl
 have ix1 : ∀ w, (Instr.index 36 (.agg #[.int .i64 r0, .int .i64 r1, .int .i64 r2, .int .i64 r3, .int .i64 r4, .int .i64 r5, .int .i64 r6, .int .i64 r7])  (.int .i64 1)).run Tryz.prog w = .ok (.int .i64 r1) w := fun _ => by kernel_rfl
 have ix2 : ∀ w, (Instr.index 36 (.agg #[.int .i64 r0, .int .i64 r1, .int .i64 r2, .int .i64 r3, .int .i64 r4, .int .i64 r5, .int .i64 r6, .int .i64 r7])  (.int .i64 2)).run Tryz.prog w = .ok (.int .i64 r2) w := fun _ => by kernel_rfl
 have ix3 : ∀ w, (Instr.index 36 (.agg #[.int .i64 r0, .int .i64 r1, .int .i64 r2, .int .i64 r3, .int .i64 r4, .int .i64 r5, .int .i64 r6, .int .i64 r7])  (.int .i64 3)).run Tryz.prog w = .ok (.int .i64 r3) w := fun _ => by kernel_rfl
 have ix4 : ∀ w, (Instr.index 36 (.agg #[.int .i64 r0, .int .i64 r1, .int .i64 r2, .int .i64 r3, .int .i64 r4, .int .i64 r5, .int .i64 r6, .int .i64 r7])  (.int .i64 4)).run Tryz.prog w = .ok (.int .i64 r4) w := fun _ => by kernel_rfl
 have ix5 : ∀ w, (Instr.index 36 (.agg #[.int .i64 r0, .int .i64 r1, .int .i64 r2, .int .i64 r3, .int .i64 r4, .int .i64 r5, .int .i64 r6, .int .i64 r7])  (.int .i64 5)).run Tryz.prog w = .ok (.int .i64 r5) w := fun _ => by kernel_rfl
 have ix6 : ∀ w, (Instr.index 36 (.agg #[.int .i64 r0, .int .i64 r1, .int .i64 r2, .int .i64 r3, .int .i64 r4, .int .i64 r5, .int .i64 r6, .int .i64 r7])  (.int .i64 6)).run Tryz.prog w = .ok (.int .i64 r6) w := fun _ => by kernel_rfl
 have ix7 : ∀ w, (Instr.index 36 (.agg #[.int .i64 r0, .int .i64 r1, .int .i64 r2, .int .i64 r3, .int .i64 r4, .int .i64 r5, .int .i64 r6, .int .i64 r7])  (.int .i64 7)).run Tryz.prog w = .ok (.int .i64 r7) w := fun _ => by kernel_rfl
 go_enter Tryz.func83, Tryz.ntmps83
 go_wp2_with fail
 go_loopw [7] (fun v7 wr => ∃ i : Nat, i ≤ 8 ∧ v7 = .int .i64 (i : Int) ∧ wr = w.alloc (.cells #[.int .i64 f, .int .i64 c, .int .u64 k, .int .i64 r0, .int .i64 r1, .int .i64 r2, .int .i64 r3, .int .i64 r4, .int .i64 r5, .int .i64 r6, .int .i64 r7] 38) ∧ (([r0, r1, r2, r3, r4, r5, r6, r7] : List Int).take i).all pageB = true) (fun v7 _ => 8 - (intOf v7).toNat)
 case atStart => exact ⟨0, by omega, rfl, rfl, rfl⟩
 case round =>
  obtain ⟨i, hi, rfl, rfl, hall⟩ := hrel
  have HA := hid hall
  clear hall
  by_cases hlt : i < 8
  ·have hi8 : i = 0 ∨ i = 1 ∨ i = 2 ∨ i = 3 ∨ i = 4 ∨ i = 5 ∨ i = 6 ∨ i = 7 := by omega
   clear hi hlt
   rcases hi8 with rfl | rfl | rfl | rfl | rfl | rfl | rfl | rfl
   ·cases hp : pageB r0
    ·have SP := hid (fun W => spage_any r0 W)
     have hf : M = false := by rw [HM.out]; simp [hdrMayB, hp]
     rw [hp] at SP
     have Hf := hid hf
     clear hp hf
     go_wp2_with (first | (go_at_call 113; refine (SP.out _).mono ?_; rintro e w2 ⟨rfl, hw⟩; obtain rfl := hw.symm) | go_in)
     go_ret
     rw [Hf.out]
     exact ⟨rfl, HB.out⟩
    ·have SP := hid (fun W => spage_any r0 W)
     rw [hp] at SP
     have Hp := hid hp
     clear hp
     go_wp2_with (first | (go_at_call 113; refine (SP.out _).mono ?_; rintro e w2 ⟨rfl, hw⟩; obtain rfl := hw.symm) | go_in)
     go_roundw
     case rel => exact ⟨1, by omega, by first | rfl | trivial, by first | rfl | trivial, by have := HA.out; have := Hp.out; simp_all⟩
     case measure => simp [intOf]
   ·cases hp : pageB r1
    ·have SP := hid (fun W => spage_any r1 W)
     have hf : M = false := by rw [HM.out]; simp [hdrMayB, hp]
     rw [hp] at SP
     have Hf := hid hf
     clear hp hf
     go_wp2_with (first | (go_at_call 113; refine (SP.out _).mono ?_; rintro e w2 ⟨rfl, hw⟩; obtain rfl := hw.symm) | go_in)
     go_ret
     rw [Hf.out]
     exact ⟨rfl, HB.out⟩
    ·have SP := hid (fun W => spage_any r1 W)
     rw [hp] at SP
     have Hp := hid hp
     clear hp
     go_wp2_with (first | (go_at_call 113; refine (SP.out _).mono ?_; rintro e w2 ⟨rfl, hw⟩; obtain rfl := hw.symm) | go_in)
     go_roundw
     case rel => exact ⟨2, by omega, by first | rfl | trivial, by first | rfl | trivial, by have := HA.out; have := Hp.out; simp_all⟩
     case measure => simp [intOf]
   ·cases hp : pageB r2
    ·have SP := hid (fun W => spage_any r2 W)
     have hf : M = false := by rw [HM.out]; simp [hdrMayB, hp]
     rw [hp] at SP
     have Hf := hid hf
     clear hp hf
     go_wp2_with (first | (go_at_call 113; refine (SP.out _).mono ?_; rintro e w2 ⟨rfl, hw⟩; obtain rfl := hw.symm) | go_in)
     go_ret
     rw [Hf.out]
     exact ⟨rfl, HB.out⟩
    ·have SP := hid (fun W => spage_any r2 W)
     rw [hp] at SP
     have Hp := hid hp
     clear hp
     go_wp2_with (first | (go_at_call 113; refine (SP.out _).mono ?_; rintro e w2 ⟨rfl, hw⟩; obtain rfl := hw.symm) | go_in)
     go_roundw
     case rel => exact ⟨3, by omega, by first | rfl | trivial, by first | rfl | trivial, by have := HA.out; have := Hp.out; simp_all⟩
     case measure => simp [intOf]
   ·cases hp : pageB r3
    ·have SP := hid (fun W => spage_any r3 W)
     have hf : M = false := by rw [HM.out]; simp [hdrMayB, hp]
     rw [hp] at SP
     have Hf := hid hf
     clear hp hf
     go_wp2_with (first | (go_at_call 113; refine (SP.out _).mono ?_; rintro e w2 ⟨rfl, hw⟩; obtain rfl := hw.symm) | go_in)
     go_ret
     rw [Hf.out]
     exact ⟨rfl, HB.out⟩
    ·have SP := hid (fun W => spage_any r3 W)
     rw [hp] at SP
     have Hp := hid hp
     clear hp
     go_wp2_with (first | (go_at_call 113; refine (SP.out _).mono ?_; rintro e w2 ⟨rfl, hw⟩; obtain rfl := hw.symm) | go_in)
     go_roundw
     case rel => exact ⟨4, by omega, by first | rfl | trivial, by first | rfl | trivial, by have := HA.out; have := Hp.out; simp_all⟩
     case measure => simp [intOf]
   ·cases hp : pageB r4
    ·have SP := hid (fun W => spage_any r4 W)
     have hf : M = false := by rw [HM.out]; simp [hdrMayB, hp]
     rw [hp] at SP
     have Hf := hid hf
     clear hp hf
     go_wp2_with (first | (go_at_call 113; refine (SP.out _).mono ?_; rintro e w2 ⟨rfl, hw⟩; obtain rfl := hw.symm) | go_in)
     go_ret
     rw [Hf.out]
     exact ⟨rfl, HB.out⟩
    ·have SP := hid (fun W => spage_any r4 W)
     rw [hp] at SP
     have Hp := hid hp
     clear hp
     go_wp2_with (first | (go_at_call 113; refine (SP.out _).mono ?_; rintro e w2 ⟨rfl, hw⟩; obtain rfl := hw.symm) | go_in)
     go_roundw
     case rel => exact ⟨5, by omega, by first | rfl | trivial, by first | rfl | trivial, by have := HA.out; have := Hp.out; simp_all⟩
     case measure => simp [intOf]
   ·cases hp : pageB r5
    ·have SP := hid (fun W => spage_any r5 W)
     have hf : M = false := by rw [HM.out]; simp [hdrMayB, hp]
     rw [hp] at SP
     have Hf := hid hf
     clear hp hf
     go_wp2_with (first | (go_at_call 113; refine (SP.out _).mono ?_; rintro e w2 ⟨rfl, hw⟩; obtain rfl := hw.symm) | go_in)
     go_ret
     rw [Hf.out]
     exact ⟨rfl, HB.out⟩
    ·have SP := hid (fun W => spage_any r5 W)
     rw [hp] at SP
     have Hp := hid hp
     clear hp
     go_wp2_with (first | (go_at_call 113; refine (SP.out _).mono ?_; rintro e w2 ⟨rfl, hw⟩; obtain rfl := hw.symm) | go_in)
     go_roundw
     case rel => exact ⟨6, by omega, by first | rfl | trivial, by first | rfl | trivial, by have := HA.out; have := Hp.out; simp_all⟩
     case measure => simp [intOf]
   ·cases hp : pageB r6
    ·have SP := hid (fun W => spage_any r6 W)
     have hf : M = false := by rw [HM.out]; simp [hdrMayB, hp]
     rw [hp] at SP
     have Hf := hid hf
     clear hp hf
     go_wp2_with (first | (go_at_call 113; refine (SP.out _).mono ?_; rintro e w2 ⟨rfl, hw⟩; obtain rfl := hw.symm) | go_in)
     go_ret
     rw [Hf.out]
     exact ⟨rfl, HB.out⟩
    ·have SP := hid (fun W => spage_any r6 W)
     rw [hp] at SP
     have Hp := hid hp
     clear hp
     go_wp2_with (first | (go_at_call 113; refine (SP.out _).mono ?_; rintro e w2 ⟨rfl, hw⟩; obtain rfl := hw.symm) | go_in)
     go_roundw
     case rel => exact ⟨7, by omega, by first | rfl | trivial, by first | rfl | trivial, by have := HA.out; have := Hp.out; simp_all⟩
     case measure => simp [intOf]
   ·cases hp : pageB r7
    ·have SP := hid (fun W => spage_any r7 W)
     have hf : M = false := by rw [HM.out]; simp [hdrMayB, hp]
     rw [hp] at SP
     have Hf := hid hf
     clear hp hf
     go_wp2_with (first | (go_at_call 113; refine (SP.out _).mono ?_; rintro e w2 ⟨rfl, hw⟩; obtain rfl := hw.symm) | go_in)
     go_ret
     rw [Hf.out]
     exact ⟨rfl, HB.out⟩
    ·have SP := hid (fun W => spage_any r7 W)
     rw [hp] at SP
     have Hp := hid hp
     clear hp
     go_wp2_with (first | (go_at_call 113; refine (SP.out _).mono ?_; rintro e w2 ⟨rfl, hw⟩; obtain rfl := hw.symm) | go_in)
     go_roundw
     case rel => exact ⟨8, by omega, by first | rfl | trivial, by first | rfl | trivial, by have := HA.out; have := Hp.out; simp_all⟩
     case measure => simp [intOf]
  ·obtain rfl : i = 8 := by omega
   obtain ⟨c0, c1⟩ := C01.out
   have hroots : ([r0, r1, r2, r3, r4, r5, r6, r7] : List Int).all pageB = true := HA.out
   have hMe : M = (pageB f && f != 1 && pageB c) := by rw [HM.out]; unfold hdrMayB; simp only; rw [hroots]; rfl
   have HMe := hid hMe
   have SF := fun W => spage_any f W
   have SC := fun W => spage_any c W
   obtain ⟨x, hx⟩ : ∃ x, x = pageB f := ⟨_, rfl⟩
   obtain ⟨y, hy⟩ : ∃ y, y = pageB c := ⟨_, rfl⟩
   obtain ⟨z, hz⟩ : ∃ z, z = (f != 1) := ⟨_, rfl⟩
   rw [← hx, ← hy, ← hz] at HMe
   rw [← hx] at SF
   rw [← hy] at SC
   replace SF := hid SF
   replace SC := hid SC
   have hz2 := hz.symm
   clear hx hy hz hMe hroots HA hi
   cases x <;> cases z <;> cases y
   all_goals (go_wp2_with (first
    | (go_at_call 113; with_reducible refine (SF.out _).mono ?_; rintro e w2 ⟨rfl, hw⟩; obtain rfl := hw.symm; clear SF)
    | (go_at_call 113; with_reducible refine (SC.out _).mono ?_; rintro e w2 ⟨rfl, hw⟩; obtain rfl := hw.symm; clear SC)
    | go_in))
   all_goals (go_ret; rw [HMe.out]; exact ⟨rfl, HB.out⟩)
set_option maxHeartbeats 4000000 in
set_option maxRecDepth 20000 in
theorem sput_no (h : Hdr) (hl : h.roots.length = 8) (hm : hdrMayB h = false) (w : World) : Calls Tryz.prog 62 #[hdrV h] w fun e w' => e = .returned (.tuple #[.string (bs []), .int .i64 2]) ∧ Below w.heap.size w w' := by
 have SM := fun W => smay_any h hl W
 rw [hm] at SM
 obtain ⟨f, c, k, r0, r1, r2, r3, r4, r5, r6, r7, rfl⟩ := hdr_form hl
 have hb := (Below.refl w.heap.size w).alloc (Nat.le_refl _) (.cells #[.int .i64 f, .int .i64 c, .int .u64 k, .int .i64 r0, .int .i64 r1, .int .i64 r2, .int .i64 r3, .int .i64 r4, .int .i64 r5, .int .i64 r6, .int .i64 r7] 38)
 have HB := hid hb
 unfold hdrV hdrCells at *
 simp only [List.map_cons, List.map_nil] at *
 replace SM := hid SM
 clear hb hm hl
 go_enter Tryz.func62, Tryz.ntmps62
 go_wp2_with (first | (go_at_call 83; refine (SM.out _).mono ?_; rintro e w1 ⟨rfl, hb1⟩; have HB1 := hid (then_below HB.out hb1); clear hb1) | go_in)
 go_ret2
 exact ⟨rfl, HB1.out⟩
set_option maxHeartbeats 8000000 in
set_option maxRecDepth 20000 in
theorem sput_yes (h : Hdr) (hw : h.Wf) (hm : hdrMayB h = true) (w : World) : Calls Tryz.prog 62 #[hdrV h] w fun e w' => e = .returned (.tuple #[.string (bs (hdrPg h)), .int .i64 0]) ∧ Below w.heap.size w w' := by
 have SM := fun W => smay_any h hw.len W
 rw [hm] at SM
 obtain ⟨hmr, hmf, hmc⟩ := hdrMay_all hm
 have hwk := hw.commits
 have RP := fun W => Tryz.strings_Repeat (bs [0]) 456 W (by omega) (by simp [bs_size])
 rw [show (bs [0]).data.toList = [0] from rfl, repeat_one] at RP
 obtain ⟨R0, hR0⟩ : ∃ R0, R0 = hdrPg h := ⟨_, rfl⟩
 rw [← hR0]
 have HR0 := hid hR0
 clear hR0
 obtain ⟨f, c, k, r0, r1, r2, r3, r4, r5, r6, r7, rfl⟩ := hdr_form hw.len
 have hbox := heap_alloc_new w (.cells #[.int .i64 f, .int .i64 c, .int .u64 k, .int .i64 r0, .int .i64 r1, .int .i64 r2, .int .i64 r3, .int .i64 r4, .int .i64 r5, .int .i64 r6, .int .i64 r7] 38)
 have hb := (Below.refl w.heap.size w).alloc (Nat.le_refl _) (.cells #[.int .i64 f, .int .i64 c, .int .u64 k, .int .i64 r0, .int .i64 r1, .int .i64 r2, .int .i64 r3, .int .i64 r4, .int .i64 r5, .int .i64 r6, .int .i64 r7] 38)
 have HB := hid hb
 have Hbox := hid hbox
 unfold hdrV hdrCells at *
 simp only [List.map_cons, List.map_nil] at *
 replace SM := hid SM
 replace RP := hid RP
 have F1 := hid (fun W => four_any f W hmf.1 (by omega))
 have F2 := hid (fun W => four_any c W hmc.1 (by omega))
 have E1 := hid (fun W => eight_any k W hwk.1 hwk.2)
 have u0 : IntKind.u32.wrap f = f := wraps_u32 f hmf.1 (by omega)
 have u1 : IntKind.u32.wrap c = c := wraps_u32 c hmc.1 (by omega)
 have b0 : 0 ≤ r0 ∧ r0 ≤ 256 := hmr r0 (by simp)
 have G0 := hid (fun W => four_any r0 W b0.1 (by omega))
 have v0 : IntKind.u32.wrap r0 = r0 := wraps_u32 r0 b0.1 (by omega)
 have b1 : 0 ≤ r1 ∧ r1 ≤ 256 := hmr r1 (by simp)
 have G1 := hid (fun W => four_any r1 W b1.1 (by omega))
 have v1 : IntKind.u32.wrap r1 = r1 := wraps_u32 r1 b1.1 (by omega)
 have b2 : 0 ≤ r2 ∧ r2 ≤ 256 := hmr r2 (by simp)
 have G2 := hid (fun W => four_any r2 W b2.1 (by omega))
 have v2 : IntKind.u32.wrap r2 = r2 := wraps_u32 r2 b2.1 (by omega)
 have b3 : 0 ≤ r3 ∧ r3 ≤ 256 := hmr r3 (by simp)
 have G3 := hid (fun W => four_any r3 W b3.1 (by omega))
 have v3 : IntKind.u32.wrap r3 = r3 := wraps_u32 r3 b3.1 (by omega)
 have b4 : 0 ≤ r4 ∧ r4 ≤ 256 := hmr r4 (by simp)
 have G4 := hid (fun W => four_any r4 W b4.1 (by omega))
 have v4 : IntKind.u32.wrap r4 = r4 := wraps_u32 r4 b4.1 (by omega)
 have b5 : 0 ≤ r5 ∧ r5 ≤ 256 := hmr r5 (by simp)
 have G5 := hid (fun W => four_any r5 W b5.1 (by omega))
 have v5 : IntKind.u32.wrap r5 = r5 := wraps_u32 r5 b5.1 (by omega)
 have b6 : 0 ≤ r6 ∧ r6 ≤ 256 := hmr r6 (by simp)
 have G6 := hid (fun W => four_any r6 W b6.1 (by omega))
 have v6 : IntKind.u32.wrap r6 = r6 := wraps_u32 r6 b6.1 (by omega)
 have b7 : 0 ≤ r7 ∧ r7 ≤ 256 := hmr r7 (by simp)
 have G7 := hid (fun W => four_any r7 W b7.1 (by omega))
 have v7 : IntKind.u32.wrap r7 = r7 := wraps_u32 r7 b7.1 (by omega)
 clear hbox hb hm hw hmr hmf hmc hwk b0 b1 b2 b3 b4 b5 b6 b7
 have ix0 : ∀ w, (Instr.index 36 (.agg #[.int .i64 r0, .int .i64 r1, .int .i64 r2, .int .i64 r3, .int .i64 r4, .int .i64 r5, .int .i64 r6, .int .i64 r7])  (.int .i64 0)).run Tryz.prog w = .ok (.int .i64 r0) w := fun _ => by kernel_rfl
 have ix1 : ∀ w, (Instr.index 36 (.agg #[.int .i64 r0, .int .i64 r1, .int .i64 r2, .int .i64 r3, .int .i64 r4, .int .i64 r5, .int .i64 r6, .int .i64 r7])  (.int .i64 1)).run Tryz.prog w = .ok (.int .i64 r1) w := fun _ => by kernel_rfl
 have ix2 : ∀ w, (Instr.index 36 (.agg #[.int .i64 r0, .int .i64 r1, .int .i64 r2, .int .i64 r3, .int .i64 r4, .int .i64 r5, .int .i64 r6, .int .i64 r7])  (.int .i64 2)).run Tryz.prog w = .ok (.int .i64 r2) w := fun _ => by kernel_rfl
 have ix3 : ∀ w, (Instr.index 36 (.agg #[.int .i64 r0, .int .i64 r1, .int .i64 r2, .int .i64 r3, .int .i64 r4, .int .i64 r5, .int .i64 r6, .int .i64 r7])  (.int .i64 3)).run Tryz.prog w = .ok (.int .i64 r3) w := fun _ => by kernel_rfl
 have ix4 : ∀ w, (Instr.index 36 (.agg #[.int .i64 r0, .int .i64 r1, .int .i64 r2, .int .i64 r3, .int .i64 r4, .int .i64 r5, .int .i64 r6, .int .i64 r7])  (.int .i64 4)).run Tryz.prog w = .ok (.int .i64 r4) w := fun _ => by kernel_rfl
 have ix5 : ∀ w, (Instr.index 36 (.agg #[.int .i64 r0, .int .i64 r1, .int .i64 r2, .int .i64 r3, .int .i64 r4, .int .i64 r5, .int .i64 r6, .int .i64 r7])  (.int .i64 5)).run Tryz.prog w = .ok (.int .i64 r5) w := fun _ => by kernel_rfl
 have ix6 : ∀ w, (Instr.index 36 (.agg #[.int .i64 r0, .int .i64 r1, .int .i64 r2, .int .i64 r3, .int .i64 r4, .int .i64 r5, .int .i64 r6, .int .i64 r7])  (.int .i64 6)).run Tryz.prog w = .ok (.int .i64 r6) w := fun _ => by kernel_rfl
 have ix7 : ∀ w, (Instr.index 36 (.agg #[.int .i64 r0, .int .i64 r1, .int .i64 r2, .int .i64 r3, .int .i64 r4, .int .i64 r5, .int .i64 r6, .int .i64 r7])  (.int .i64 7)).run Tryz.prog w = .ok (.int .i64 r7) w := fun _ => by kernel_rfl
 go_enter Tryz.func62, Tryz.ntmps62
 go_upto_region 3 with (first | (go_at_call 83; refine (SM.out _).mono ?_; rintro e w1 ⟨rfl, hb1⟩; have Hbx1 := hid ((hb1.block _ (lt_of_block Hbox.out)).trans Hbox.out); have HB1 := hid (then_below HB.out hb1); clear hb1 SM HB) | go_in)
 obtain ⟨⟨c0, c1, c2⟩, ⟨c3, c4, c5, c6, c7, c8, c9, c10⟩, cf⟩ := cells11 Hbx1.out
 have q0 := fun d os => cell_regrown c0 d os
 have q1 := fun d os => cell_regrown c1 d os
 have q2 := fun d os => cell_regrown c2 d os
 have l4 : ∀ n, (four n).length = 4 := fun n => rfl
 have l8 : (eight k).length = 8 := rfl
 have lw : wordP.length = 8 := rfl
 have ew : ByteArray.mk #[99, 102, 45, 112, 97, 103, 101, 115] = bs wordP := rfl
 clear c0 c1 c2 c3 c4 c5 c6 c7 c8 c9 c10 cf
 refine region_below (by kernel_rfl) (by kernel_rfl) ?_
 repeat (go_big_quiet_step ((first | (go_at_call 84; first | with_reducible exact Calls.regrown_of (F1.out _) | with_reducible exact Calls.regrown_of (F2.out _)) | (go_at_call 76; with_reducible exact Calls.regrown_of (E1.out _)))))
 refine wpQuiet_nil ?_
 intro w3 hb3
 have hbx3 := (hb3.block _ (lt_of_block Hbx1.out)).trans Hbx1.out
 have HB3 := hid (then_below HB1.out hb3)
 obtain ⟨-, ⟨c3, c4, c5, c6, c7, c8, c9, c10⟩, -⟩ := cells11 hbx3
 obtain ⟨T0, hT0⟩ : ∃ T0, T0 = wordP ++ four f ++ four c ++ eight k := ⟨_, rfl⟩
 have hT1 : wordP ++ (four f ++ (four c ++ eight k)) = T0 := by rw [hT0]; simp
 have HT0 := hid hT0
 have hTl : T0.length = 24 := by rw [hT0]; rfl
 have HTl := hid hTl
 try rw [hT1]
 clear hT1 hb3 q0 q1 q2 F1 F2 E1 u0 u1 l4 l8 lw ew hT0 hTl hbx3
 go_wp2_with fail
 go_loopw [4, 26] (fun v4 v26 wr => ∃ (i : Nat) (s : List UInt8), i ≤ 8 ∧ v26 = .int .i64 (i : Int) ∧ v4 = .string (bs s) ∧ s = T0 ++ (([r0, r1, r2, r3, r4, r5, r6, r7] : List Int).take i).flatMap four ∧ Below w.heap.size w wr) (fun _ v26 _ => 8 - (intOf v26).toNat)
 case atStart => exact ⟨0, T0, by omega, rfl, rfl, by simp, HB3.out⟩
 case round =>
  obtain ⟨i, s, hi, rfl, rfl, hs, hbw⟩ := hrel
  have HBw := hid hbw
  have Hs := hid hs
  have hsl : s.length = 24 + 4 * i := by
   rw [hs, List.length_append, HTl.out, fours_length, List.length_take]
   simp
   omega
  clear hs hbw
  by_cases hlt : i < 8
  ·have hi8 : i = 0 ∨ i = 1 ∨ i = 2 ∨ i = 3 ∨ i = 4 ∨ i = 5 ∨ i = 6 ∨ i = 7 := by omega
   have hcat : ¬ (9223372036854775807 < s.length + 4) := by omega
   have Hsl := hid hsl
   clear hi hlt hsl
   rcases hi8 with rfl | rfl | rfl | rfl | rfl | rfl | rfl | rfl
   ·have l4 : (four r0).length = 4 := rfl
    go_wp2_with (first | (go_at_call 84; refine (G0.out _).mono ?_; rintro e w4 ⟨rfl, hb4⟩; have HB4 := hid (then_below HBw.out hb4); clear hb4) | go_in)
    go_roundw
    case rel => exact ⟨1, s ++ four r0, by omega, by first | rfl | trivial, by first | rfl | trivial, by rw [Hs.out]; simp, HB4.out⟩
    case measure => simp [intOf]
   ·have l4 : (four r1).length = 4 := rfl
    go_wp2_with (first | (go_at_call 84; refine (G1.out _).mono ?_; rintro e w4 ⟨rfl, hb4⟩; have HB4 := hid (then_below HBw.out hb4); clear hb4) | go_in)
    go_roundw
    case rel => exact ⟨2, s ++ four r1, by omega, by first | rfl | trivial, by first | rfl | trivial, by rw [Hs.out]; simp, HB4.out⟩
    case measure => simp [intOf]
   ·have l4 : (four r2).length = 4 := rfl
    go_wp2_with (first | (go_at_call 84; refine (G2.out _).mono ?_; rintro e w4 ⟨rfl, hb4⟩; have HB4 := hid (then_below HBw.out hb4); clear hb4) | go_in)
    go_roundw
    case rel => exact ⟨3, s ++ four r2, by omega, by first | rfl | trivial, by first | rfl | trivial, by rw [Hs.out]; simp, HB4.out⟩
    case measure => simp [intOf]
   ·have l4 : (four r3).length = 4 := rfl
    go_wp2_with (first | (go_at_call 84; refine (G3.out _).mono ?_; rintro e w4 ⟨rfl, hb4⟩; have HB4 := hid (then_below HBw.out hb4); clear hb4) | go_in)
    go_roundw
    case rel => exact ⟨4, s ++ four r3, by omega, by first | rfl | trivial, by first | rfl | trivial, by rw [Hs.out]; simp, HB4.out⟩
    case measure => simp [intOf]
   ·have l4 : (four r4).length = 4 := rfl
    go_wp2_with (first | (go_at_call 84; refine (G4.out _).mono ?_; rintro e w4 ⟨rfl, hb4⟩; have HB4 := hid (then_below HBw.out hb4); clear hb4) | go_in)
    go_roundw
    case rel => exact ⟨5, s ++ four r4, by omega, by first | rfl | trivial, by first | rfl | trivial, by rw [Hs.out]; simp, HB4.out⟩
    case measure => simp [intOf]
   ·have l4 : (four r5).length = 4 := rfl
    go_wp2_with (first | (go_at_call 84; refine (G5.out _).mono ?_; rintro e w4 ⟨rfl, hb4⟩; have HB4 := hid (then_below HBw.out hb4); clear hb4) | go_in)
    go_roundw
    case rel => exact ⟨6, s ++ four r5, by omega, by first | rfl | trivial, by first | rfl | trivial, by rw [Hs.out]; simp, HB4.out⟩
    case measure => simp [intOf]
   ·have l4 : (four r6).length = 4 := rfl
    go_wp2_with (first | (go_at_call 84; refine (G6.out _).mono ?_; rintro e w4 ⟨rfl, hb4⟩; have HB4 := hid (then_below HBw.out hb4); clear hb4) | go_in)
    go_roundw
    case rel => exact ⟨7, s ++ four r6, by omega, by first | rfl | trivial, by first | rfl | trivial, by rw [Hs.out]; simp, HB4.out⟩
    case measure => simp [intOf]
   ·have l4 : (four r7).length = 4 := rfl
    go_wp2_with (first | (go_at_call 84; refine (G7.out _).mono ?_; rintro e w4 ⟨rfl, hb4⟩; have HB4 := hid (then_below HBw.out hb4); clear hb4) | go_in)
    go_roundw
    case rel => exact ⟨8, s ++ four r7, by omega, by first | rfl | trivial, by first | rfl | trivial, by rw [Hs.out]; simp, HB4.out⟩
    case measure => simp [intOf]
  ·obtain rfl : i = 8 := by omega
   have hsl2 : (s.length : Int) = 56 := by omega
   have hcat : ¬ (9223372036854775807 < s.length + 456) := by omega
   have lz : (List.replicate 456 (0 : UInt8)).length = 456 := by simp
   have hfin : R0 = s ++ List.replicate 456 0 := by
    rw [HR0.out, Hs.out, HT0.out]
    simp [hdrPg, hdrText, zeros]
   have Hfin := hid hfin
   clear hi hlt hsl hfin
   go_wp2_with (first | (go_at_call 63; refine (RP.out _).mono ?_; rintro e w4 ⟨rfl, hb4⟩; have HB4 := hid (then_below HBw.out hb4); clear hb4) | go_in)
   go_ret2
   rw [Hfin.out]
   exact ⟨rfl, HB4.out⟩
theorem sput_any (h : Hdr) (hw : h.Wf) (w : World) : Calls Tryz.prog 62 #[hdrV h] w fun e w' => e = .returned (.tuple #[.string (bs (putH h).1), .int .i64 (putH h).2]) ∧ Below w.heap.size w w' := by
 unfold putH
 cases hm : hdrMayB h
 ·exact sput_no h hw.len hm w
 ·exact sput_yes h hw hm w
end Go.Proofs.YtlkkclooihjpiaaGreat
