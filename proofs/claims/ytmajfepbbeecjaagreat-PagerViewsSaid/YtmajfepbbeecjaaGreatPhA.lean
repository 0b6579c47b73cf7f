import Derived.Test.YtmajfepbbeecjaaGreatPgA
import Derived.Test.YtmajfepbbeecjaaGreatPgO
/- No pager, no view. -/
namespace Go.Proofs.YtmajfepbbeecjaaGreat
open Go.RowKit Go.Maps
set_option linter.unusedVariables false
set_option linter.unusedSimpArgs false
set_option maxRecDepth 20000

section
variable (w : World) (n : Int) (s : ByteArray)
theorem pready_nil : Calls Tryz.prog 49 #[.pointer none] w fun e w' => e = .returned (.int .i64 1) ∧ w' = w := by
  go_enter Tryz.func49, Tryz.ntmps49
  go_wp2_with fail
  go_ret
  exact ⟨rfl, rfl⟩
theorem ppages_nil : Calls Tryz.prog 26 #[.pointer none] w fun e w' => e = .returned (.int .i64 0) ∧ w' = w := by
  go_enter Tryz.func26, Tryz.ntmps26
  go_wp2_with fail
  go_ret
  exact ⟨rfl, rfl⟩
theorem pread_nil : Calls Tryz.prog 29 #[.pointer none, .int .i64 n] w fun e w' => e = .returned (.tuple #[.string (bs []), .int .i64 1]) ∧ w' = w := by
  go_enter Tryz.func29, Tryz.ntmps29
  go_wp2_with fail
  go_ret2
  exact ⟨rfl, rfl⟩
theorem pview_nil : Calls Tryz.prog 21 #[.pointer none] w fun e w' => e = .returned (.tuple #[.pointer none, .int .i64 1]) ∧ w' = w := by
  go_enter Tryz.func21, Tryz.ntmps21
  go_wp2_with fail
  go_ret2
  exact ⟨rfl, rfl⟩
theorem pcheck_nil : Calls Tryz.prog 22 #[.pointer none] w fun e w' => e = .returned (.int .i64 1) ∧ w' = w := by
  go_enter Tryz.func22, Tryz.ntmps22
  go_wp2_with fail
  go_ret
  exact ⟨rfl, rfl⟩
theorem plog_nil : Calls Tryz.prog 31 #[.pointer none] w fun e w' => e = .returned (.pointer none) ∧ w' = w := by
  go_enter Tryz.func31, Tryz.ntmps31
  go_wp2_with fail
  go_ret
  exact ⟨rfl, rfl⟩
theorem pbegin_nil : Calls Tryz.prog 11 #[.pointer none] w fun e w' => e = .returned (.int .i64 1) ∧ w' = w := by
  have RD := hid (pready_nil w)
  go_enter Tryz.func11, Tryz.ntmps11
  go_wp2_with (first
    | (go_at_call 49; refine (RD.out).mono ?_; rintro e w1 ⟨rfl, hw⟩; obtain rfl := hw.symm)
    | go_in)
  go_ret
  exact ⟨rfl, rfl⟩
theorem pwrite_nil : Calls Tryz.prog 27 #[.pointer none, .int .i64 n, .string s] w fun e w' => e = .returned (.int .i64 1) ∧ w' = w := by
  have RD := hid (pready_nil w)
  go_enter Tryz.func27, Tryz.ntmps27
  go_wp2_with (first
    | (go_at_call 49; refine (RD.out).mono ?_; rintro e w1 ⟨rfl, hw⟩; obtain rfl := hw.symm)
    | go_in)
  go_ret
  exact ⟨rfl, rfl⟩
theorem presize_nil : Calls Tryz.prog 12 #[.pointer none, .int .i64 n] w fun e w' => e = .returned (.int .i64 1) ∧ w' = w := by
  have RD := hid (pready_nil w)
  go_enter Tryz.func12, Tryz.ntmps12
  go_wp2_with (first
    | (go_at_call 49; refine (RD.out).mono ?_; rintro e w1 ⟨rfl, hw⟩; obtain rfl := hw.symm)
    | go_in)
  go_ret
  exact ⟨rfl, rfl⟩
theorem psave_nil : Calls Tryz.prog 16 #[.pointer none] w fun e w' => e = .returned (.tuple #[.int .i64 0, .int .i64 1]) ∧ w' = w := by
  have RD := hid (pready_nil w)
  go_enter Tryz.func16, Tryz.ntmps16
  go_wp2_with (first
    | (go_at_call 49; refine (RD.out).mono ?_; rintro e w1 ⟨rfl, hw⟩; obtain rfl := hw.symm)
    | go_in)
  go_ret2
  exact ⟨rfl, rfl⟩
theorem pback_nil : Calls Tryz.prog 17 #[.pointer none, .int .i64 n] w fun e w' => e = .returned (.int .i64 1) ∧ w' = w := by
  have RD := hid (pready_nil w)
  go_enter Tryz.func17, Tryz.ntmps17
  go_wp2_with (first
    | (go_at_call 49; refine (RD.out).mono ?_; rintro e w1 ⟨rfl, hw⟩; obtain rfl := hw.symm)
    | go_in)
  go_ret
  exact ⟨rfl, rfl⟩
theorem prelease_nil : Calls Tryz.prog 30 #[.pointer none, .int .i64 n] w fun e w' => e = .returned (.int .i64 1) ∧ w' = w := by
  have RD := hid (pready_nil w)
  go_enter Tryz.func30, Tryz.ntmps30
  go_wp2_with (first
    | (go_at_call 49; refine (RD.out).mono ?_; rintro e w1 ⟨rfl, hw⟩; obtain rfl := hw.symm)
    | go_in)
  go_ret
  exact ⟨rfl, rfl⟩
theorem proll_nil : Calls Tryz.prog 19 #[.pointer none] w fun e w' => e = .returned (.int .i64 1) ∧ w' = w := by
  have RD := hid (pready_nil w)
  go_enter Tryz.func19, Tryz.ntmps19
  go_wp2_with (first
    | (go_at_call 49; refine (RD.out).mono ?_; rintro e w1 ⟨rfl, hw⟩; obtain rfl := hw.symm)
    | go_in)
  go_ret
  exact ⟨rfl, rfl⟩
theorem pcommit_nil : Calls Tryz.prog 14 #[.pointer none] w fun e w' => e = .returned (.int .i64 1) ∧ w' = w := by
  have RD := hid (pready_nil w)
  go_enter Tryz.func14, Tryz.ntmps14
  go_wp2_with (first
    | (go_at_call 49; refine (RD.out).mono ?_; rintro e w1 ⟨rfl, hw⟩; obtain rfl := hw.symm)
    | go_in)
  go_ret
  exact ⟨rfl, rfl⟩
theorem vread_nil : Calls Tryz.prog 23 #[.pointer none, .int .i64 n] w fun e w' => e = .returned (.tuple #[.string (bs []), .int .i64 1]) ∧ w' = w := by
  go_enter Tryz.func23, Tryz.ntmps23
  go_wp2_with fail
  go_ret2
  exact ⟨rfl, rfl⟩
theorem vpages_nil : Calls Tryz.prog 24 #[.pointer none] w fun e w' => e = .returned (.int .i64 0) ∧ w' = w := by
  go_enter Tryz.func24, Tryz.ntmps24
  go_wp2_with fail
  go_ret
  exact ⟨rfl, rfl⟩
theorem vclose_nil : Calls Tryz.prog 25 #[.pointer none] w fun e w' => e = .returned (.int .i64 1) ∧ w' = w := by
  go_enter Tryz.func25, Tryz.ntmps25
  go_wp2_with fail
  go_ret
  exact ⟨rfl, rfl⟩
end
/-! ### A view that is closed -/
section
variable {W : World} {vb pb : Nat}
theorem closed_read {a0 a1 a2 : Value} (h : W.heap[vb]? = some (.cells #[a0, a1, a2, .bool true] 124 (0, 0))) (n : Int) : Calls Tryz.prog 23 #[.pointer (some ⟨vb, 0, none⟩), .int .i64 n] W fun e w' => e = .returned (.tuple #[.string (bs []), .int .i64 9]) ∧ w' = W := by
  have v3 : W.cell? ⟨vb, 3, none⟩ = some (.bool true) := (cell_of_block h 3).trans rfl
  clear h
  go_enter Tryz.func23, Tryz.ntmps23
  go_wp2_with fail
  go_ret2
  exact ⟨rfl, rfl⟩
theorem closed_close {a0 a1 a2 : Value} (h : W.heap[vb]? = some (.cells #[a0, a1, a2, .bool true] 124 (0, 0))) : Calls Tryz.prog 25 #[.pointer (some ⟨vb, 0, none⟩)] W fun e w' => e = .returned (.int .i64 9) ∧ w' = W := by
  have v3 : W.cell? ⟨vb, 3, none⟩ = some (.bool true) := (cell_of_block h 3).trans rfl
  clear h
  go_enter Tryz.func25, Tryz.ntmps25
  go_wp2_with fail
  go_ret
  exact ⟨rfl, rfl⟩
end
end Go.Proofs.YtmajfepbbeecjaaGreat
/- The pager's laws: their scripts (Op) in memory; page, bytes, heavy. -/
namespace Go.Proofs.YtmajfepbbeecjaaGreat
open Go.RowKit Go.Maps
set_option linter.unusedVariables false
set_option linter.unusedSimpArgs false
set_option maxRecDepth 20000

structure POp where
  kind : Int
  n : Int
  x : UInt8
  short : Bool
  keep : List Bool
  ka : Option Addr
  kcap : Nat
def popCells (x : POp) : List Value := [.int .i64 x.kind, .int .i64 x.n, .int .u8 (x.x.toNat : Int), .bool x.short, .slice x.ka x.keep.length x.kcap]
/-- A script in memory, in blocks of B. -/
def OpsAt (w : World) (B : Nat → Prop) (v : Value) (l : List POp) : Prop :=
  ∃ ao cap, v = .slice ao l.length cap ∧ ∀ k (hk : k < l.length), ∃ q o, ao = some ⟨q, o, none⟩ ∧ q < w.heap.size ∧ B q ∧ ∀ j u, (popCells l[k])[j]? = some u → w.cell? ⟨q, o + k * 5 + j, none⟩ = some u
theorem OpsAt.keep {w w' : World} {B : Nat → Prop} {v : Value} {l : List POp} (h : OpsAt w B v l) (hB : ∀ k, k < w.heap.size → B k → w'.heap[k]? = w.heap[k]?) : OpsAt w' B v l := by
  obtain ⟨ao, cap, rfl, hc⟩ := h
  refine ⟨ao, cap, rfl, fun k hk => ?_⟩
  obtain ⟨q, o, rfl, hq, hb, hcell⟩ := hc k hk
  exact ⟨q, o, rfl, (Array.getElem?_eq_some_iff.1 ((hB q hq hb).trans (Array.getElem?_eq_getElem hq))).1, hb, fun j u hj => (World.cell?_of_block (a := ⟨q, o + k * 5 + j, none⟩) (hB q hq hb)).trans (hcell j u hj)⟩
theorem OpsAt.mono {w : World} {B B' : Nat → Prop} {v : Value} {l : List POp} (h : OpsAt w B v l) (hB : ∀ k, k < w.heap.size → B k → B' k) : OpsAt w B' v l := by
  obtain ⟨ao, cap, rfl, hc⟩ := h
  refine ⟨ao, cap, rfl, fun k hk => ?_⟩
  obtain ⟨q, o, rfl, hq, hb, hcell⟩ := hc k hk
  exact ⟨q, o, rfl, hq, hB q hq hb, hcell⟩
set_option maxRecDepth 20000 in
theorem lpage_any (c : UInt8) (w : World) : Calls Tryz.prog 28 #[.int .u8 (c.toNat : Int)] w fun e w' => e = .returned (.string (bs (pageOf c))) ∧ Below w.heap.size w w' := by
  have R := fun w => Tryz.strings_Repeat (bs [c]) 512 w (by omega) (by simp [bs_size])
  rw [show (bs [c]).data.toList = [c] from rfl, repeat_one] at R
  have R := hid R
  have hconv : (convert 52 9 (.slice (some ⟨w.heap.size, 0, none⟩) 1 1)).run Tryz.prog (w.alloc (.cells #[.int .u8 (c.toNat : Int)] 5)) = .ok (.string (bs [c])) (w.alloc (.cells #[.int .u8 (c.toNat : Int)] 5)) := by
    have h := run_convert_cells (P := Tryz.prog) (w.alloc (.cells #[.int .u8 (c.toNat : Int)] 5)) 52 9 5 Tryz.underlying52 Tryz.underlying5 Tryz.underlying9 w.heap.size 0 1 1 [(c.toNat : Int)] rfl (fun i hi => by
      obtain rfl : i = 0 := by omega
      exact (cell_of_block (heap_alloc_new w _) 0).trans rfl)
    simpa using h
  go_enter Tryz.func28, Tryz.ntmps28
  go_wp2_with (first | (go_at_call 51; refine (R.out _).mono ?_; rintro e w1 ⟨rfl, hb⟩) | go_in)
  go_ret
  exact ⟨rfl, then_below ((Below.refl _ _).alloc (Nat.le_refl _) _) hb⟩
def opBytes (x : POp) : List UInt8 := if x.short then (pageOf x.x).drop 1 else pageOf x.x
theorem opBytes_length (x : POp) : (opBytes x).length ≤ 512 := by
  unfold opBytes
  split
  · rw [List.length_drop, pageOf_length]; omega
  · rw [pageOf_length]; omega
set_option maxRecDepth 20000 in
theorem bytes_any (x : POp) (w : World) : Calls Tryz.prog 52 #[.agg (popCells x).toArray] w fun e w' => e = .returned (.string (bs (opBytes x))) ∧ Below w.heap.size w w' := by
  obtain ⟨kind, n, c, short, keep, ka, kcap⟩ := x
  have R := hid (lpage_any c (w.alloc (.cells (popCells ⟨kind, n, c, short, keep, ka, kcap⟩).toArray 43)))
  have hb0 := (Below.refl w.heap.size w).alloc (Nat.le_refl _) (.cells (popCells ⟨kind, n, c, short, keep, ka, kcap⟩).toArray 43)
  have hn0 := heap_alloc_new w (.cells (popCells ⟨kind, n, c, short, keep, ka, kcap⟩).toArray 43)
  unfold opBytes
  unfold popCells at *
  dsimp only
  obtain ⟨s, hs⟩ : ∃ s, s = pageOf c := ⟨_, rfl⟩
  have hsl : (1 : Int) ≤ (s.length : Int) := by rw [hs, pageOf_length]; decide
  have hsl2 : 1 ≤ s.length := by omega
  have hsl3 : s.length ≤ 9223372036854775807 := by rw [hs, pageOf_length]; decide
  rw [← hs] at R ⊢
  have R := hid R
  have Hb0 := hid hb0
  have Hn0 := hid hn0
  clear hb0 hn0 hs
  cases short with
  | true =>
    go_enter Tryz.func52, Tryz.ntmps52
    go_wp2_with (first
      | (go_at_call 28; refine (R.out.out).mono ?_; rintro e w1 ⟨rfl, hb⟩; have c3 : w1.cell? ⟨w.heap.size, 3, none⟩ = some (.bool true) := (hb.cell (p := ⟨w.heap.size, 3, none⟩) (lt_of_block Hn0.out)).trans ((cell_of_block Hn0.out 3).trans rfl); have Hb1 := hid (then_below Hb0.out hb); clear hb)
      | go_in)
    go_ret
    exact ⟨by simp; rw [List.take_of_length_le (by simp)], Hb1.out⟩
  | false =>
    go_enter Tryz.func52, Tryz.ntmps52
    go_wp2_with (first
      | (go_at_call 28; refine (R.out.out).mono ?_; rintro e w1 ⟨rfl, hb⟩; have c3 : w1.cell? ⟨w.heap.size, 3, none⟩ = some (.bool false) := (hb.cell (p := ⟨w.heap.size, 3, none⟩) (lt_of_block Hn0.out)).trans ((cell_of_block Hn0.out 3).trans rfl); have Hb1 := hid (then_below Hb0.out hb); clear hb)
      | go_in)
    go_ret
    exact ⟨by simp, Hb1.out⟩

/-- What heavy answers. -/
def HeavyGave (w : World) (l : List POp) (e : Ending) (w' : World) : Prop := ∃ r : Bool, e = .returned (.bool r) ∧ (r = false → l.length ≤ 120 ∧ ∀ x ∈ l, x.keep.length ≤ 8192) ∧ Below w.heap.size w w'
set_option maxHeartbeats 2000000 in
set_option maxRecDepth 20000 in
theorem heavy_any {B : Nat → Prop} (w : World) (v : Value) (l : List POp) (h : OpsAt w B v l) (hl : l.length ≤ 9223372036854775807) : Calls Tryz.prog 8 #[v] w (HeavyGave w l) := by
  obtain ⟨ao, cap, rfl, hc⟩ := h
  obtain ⟨n, hn⟩ : ∃ n, n = l.length := ⟨_, rfl⟩
  rw [← hn]
  have HC := hid hc
  have Hn := hid hn
  have Hl := hid hl
  have HB := hid (Below.refl w.heap.size w)
  clear hc hn hl
  go_enter Tryz.func8, Tryz.ntmps8
  go_wp2_with fail
  go_loopw [3, 8] (fun v3 v8 wr => ∃ (i : Nat) (s : Int), i ≤ n ∧ v8 = .int .i64 (i : Int) ∧ v3 = .int .i64 s ∧ 0 ≤ s ∧ s ≤ 4000 ∧ Below w.heap.size w wr ∧ ∀ k (hk : k < l.length), k < i → (l[k].keep.length ≤ 8192)) (fun _ v8 _ => n - (intOf v8).toNat)
  case atStart => exact ⟨0, 0, Nat.zero_le _, rfl, rfl, by decide, by decide, HB.out, fun k _ hk => by omega⟩
  case round =>
    obtain ⟨i, s, hi, rfl, rfl, hs0, hs1, hbw, hall⟩ := hrel
    have HA := hid hall
    have HBw := hid hbw
    clear hall
    by_cases hlt : i < n
    · have hil : i < l.length := by have := Hn.out; omega
      obtain ⟨q, o, rfl, hq, -, hcell⟩ := HC.out i hil
      obtain ⟨y, hy⟩ : ∃ y, y = l[i] := ⟨_, rfl⟩
      rw [← hy] at hcell
      have cc := fun j u hj => (hbw.cell (p := ⟨q, o + i * 5 + j, none⟩) hq).trans (hcell j u hj)
      have c0 := cc 0 _ rfl
      have c1 := cc 1 _ rfl
      have c2 := cc 2 _ rfl
      have c3 := cc 3 _ rfl
      have c4 := cc 4 _ rfl
      rw [Nat.add_zero] at c0
      have hi3 : (i : Int) < 9223372036854775807 := by have := Hl.out; omega
      obtain ⟨a, ha⟩ : ∃ a : Int, min (max y.n 0) 2000 = a := ⟨_, rfl⟩
      have ha2 : 0 ≤ a ∧ a ≤ 2000 := by omega
      have hw : IntKind.i64.wrap (s + a) = s + a := IntWalk.i64_in _ (by omega)
      have Hy := hid hy
      have Ha2 := hid (show 0 ≤ s ∧ s ≤ 4000 ∧ 0 ≤ a from ⟨hs0, hs1, ha2.1⟩)
      clear hy hcell cc hbw ha2 hs0 hs1
      obtain ⟨kl, hkl⟩ : ∃ kl : Int, ((y.keep.length : Nat) : Int) = kl := ⟨_, rfl⟩
      by_cases t3 : 8192 < kl
      · have b3 : decide (8192 < kl) = true := by simpa using t3
        clear t3
        by_cases t4 : y.kind = 2
        · have b4 : (y.kind == 2) = true := by simp [t4]
          clear t4
          by_cases t1 : 4000 < s + a
          · have b1 : decide (4000 < s + a) = true := by simpa using t1
            clear t1
            go_wp2_with fail
            go_ret
            exact ⟨true, rfl, (fun e => by cases e), HBw.out.alloc HBw.out.size _⟩
          · have b1 : decide (4000 < s + a) = false := by simpa using t1
            clear t1
            go_wp2_with fail
            go_ret
            exact ⟨true, rfl, (fun e => by cases e), HBw.out.alloc HBw.out.size _⟩
        · have b4 : (y.kind == 2) = false := by simp [t4]
          have b1 : decide (4000 < s) = false := by have := Ha2.out; simp; omega
          clear t4
          go_wp2_with fail
          go_ret
          exact ⟨true, rfl, (fun e => by cases e), HBw.out.alloc HBw.out.size _⟩
      have b3 : decide (8192 < kl) = false := by simpa using t3
      have HT := hid (show y.keep.length ≤ 8192 by omega)
      clear t3
      by_cases t4 : y.kind = 2
      · have b4 : (y.kind == 2) = true := by simp [t4]
        clear t4
        by_cases t1 : 4000 < s + a
        · have b1 : decide (4000 < s + a) = true := by simpa using t1
          clear t1
          go_wp2_with fail
          go_ret
          exact ⟨true, rfl, (fun e => by cases e), HBw.out.alloc HBw.out.size _⟩
        · have b1 : decide (4000 < s + a) = false := by simpa using t1
          have H1 := hid t1
          clear t1
          go_wp2_with fail
          go_roundw
          case rel => exact ⟨i + 1, s + a, hlt, by simp, rfl, by have := Ha2.out; omega, by have := H1.out; omega, HBw.out.alloc HBw.out.size _, fun k hk hk2 => by
            by_cases e : k = i
            · subst e
              rw [← Hy.out]
              exact HT.out
            · exact HA.out k hk (by omega)⟩
          case measure => (simp [intOf]) <;> omega
      · have b4 : (y.kind == 2) = false := by simp [t4]
        have b1 : decide (4000 < s) = false := by have := Ha2.out; simp; omega
        clear t4
        go_wp2_with fail
        go_roundw
        case rel => exact ⟨i + 1, s, hlt, by simp, rfl, Ha2.out.1, Ha2.out.2.1, HBw.out.alloc HBw.out.size _, fun k hk hk2 => by
          by_cases e : k = i
          · subst e
            rw [← Hy.out]
            exact HT.out
          · exact HA.out k hk (by omega)⟩
        case measure => (simp [intOf]) <;> omega
    · obtain rfl : n = i := by omega
      obtain ⟨r, hr⟩ : ∃ r : Bool, decide ((120 : Int) < (n : Int)) = r := ⟨_, rfl⟩
      have Hr := hid hr
      have Hall := hid (show r = false → l.length ≤ 120 ∧ ∀ x ∈ l, x.keep.length ≤ 8192 from fun e => by
        rw [e] at hr
        simp at hr
        refine ⟨by have := Hn.out; omega, fun x hx => ?_⟩
        obtain ⟨k, hk, rfl⟩ := List.getElem_of_mem hx
        exact HA.out k hk (by rw [Hn.out]; exact hk))
      clear hr
      by_cases t : 120 < n
      · have t2 : (120 : Int) < (n : Int) := by omega
        go_wp2_with fail
        go_ret
        exact ⟨true, rfl, (fun e => by cases e), HBw.out⟩
      · have t2 : ¬ (120 : Int) < (n : Int) := by omega
        go_wp2_with fail
        go_ret
        have er : r = false := by rw [← Hr.out]; simp; omega
        exact ⟨false, rfl, (fun _ => Hall.out er), HBw.out⟩
end Go.Proofs.YtmajfepbbeecjaaGreat
