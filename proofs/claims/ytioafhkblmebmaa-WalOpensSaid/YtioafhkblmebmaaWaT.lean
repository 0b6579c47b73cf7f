import Derived.Test.YtioafhkblmebmaaWaP
/- The laws' scripts (Op, Put) in memory; wide. -/
namespace Go.Proofs.Ytioafhkblmebmaa
open Go.RowKit Go.Maps
set_option linter.unusedVariables false
set_option linter.unusedSimpArgs false

structure PutM where
  page : Int
  x : UInt8
  short : Int
structure WOp where
  kind : Int
  pages : Int
  n : Int
  file : Int
  imgs : List PutM
  ia : Option Addr
  icap : Nat
  space : Bool
  keep : List Bool
  ka : Option Addr
  kcap : Nat
  s : List UInt8
def wopCells (x : WOp) : List Value := [.int .i64 x.kind, .int .i64 x.pages, .int .i64 x.n, .int .i64 x.file, .slice x.ia x.imgs.length x.icap, .bool x.space, .slice x.ka x.keep.length x.kcap, .string (bs x.s)]
/-- A script in memory. -/
def OpsAt (w : World) (v : Value) (l : List WOp) : Prop :=
  ∃ ao cap, v = .slice ao l.length cap ∧ ∀ k (hk : k < l.length), ∃ q o, ao = some ⟨q, o, none⟩ ∧ q < w.heap.size ∧ ∀ j u, (wopCells l[k])[j]? = some u → w.cell? ⟨q, o + k * 8 + j, none⟩ = some u
def wideB (x : WOp) : Bool := x.kind == 6 || decide (40 < x.pages)
def wideM (l : List WOp) : Bool := l.any wideB

set_option maxHeartbeats 2000000 in
set_option maxRecDepth 20000 in
theorem wide_any (w : World) (v : Value) (l : List WOp) (h : OpsAt w v l) (hl : l.length ≤ 9223372036854775807) : Calls Try.prog 9 #[v] w fun e w' => e = .returned (.bool (wideM l)) ∧ Below w.heap.size w w' := by
  obtain ⟨ao, cap, rfl, hc⟩ := h
  obtain ⟨n, hn⟩ : ∃ n, n = l.length := ⟨_, rfl⟩
  obtain ⟨M, hM⟩ : ∃ M, M = wideM l := ⟨_, rfl⟩
  rw [← hM, ← hn]
  have HC := hid hc
  have Hn := hid hn
  have HM := hid hM
  have Hl := hid hl
  have HB := hid (Below.refl w.heap.size w)
  clear hc hn hM hl
  go_enter Try.func9, Try.ntmps9
  go_wp2_with fail
  go_loopw [7] (fun v7 wr => ∃ i : Nat, i ≤ n ∧ v7 = .int .i64 (i : Int) ∧ Below w.heap.size w wr ∧ ∀ k (hk : k < l.length), k < i → wideB l[k] = false) (fun v7 _ => n - (intOf v7).toNat)
  case atStart => exact ⟨0, Nat.zero_le _, rfl, HB.out, fun k _ hk => by omega⟩
  case round =>
    obtain ⟨i, hi, rfl, hbw, hall⟩ := hrel
    have HA := hid hall
    have HBw := hid hbw
    clear hall
    by_cases hlt : i < n
    · have hil : i < l.length := by have := Hn.out; omega
      obtain ⟨q, o, rfl, hq, hcell⟩ := HC.out i hil
      obtain ⟨y, hy⟩ : ∃ y, y = l[i] := ⟨_, rfl⟩
      rw [← hy] at hcell
      have cc := fun j u hj => (hbw.cell (p := ⟨q, o + i * 8 + j, none⟩) hq).trans (hcell j u hj)
      have c0 := cc 0 _ rfl
      have c1 := cc 1 _ rfl
      have c2 := cc 2 _ rfl
      have c3 := cc 3 _ rfl
      have c4 := cc 4 _ rfl
      have c5 := cc 5 _ rfl
      have c6 := cc 6 _ rfl
      have c7 := cc 7 _ rfl
      rw [Nat.add_zero] at c0
      have hi3 : (i : Int) < 9223372036854775807 := by have := Hl.out; omega
      have Hy := hid hy
      clear hy hcell cc hbw
      have fin : ∀ b : Bool, wideB y = b → b = true → M = true := fun b hb e => by
        rw [HM.out]
        unfold wideM
        rw [List.any_eq_true]
        exact ⟨l[i], List.getElem_mem hil, by rw [← Hy.out, hb, e]⟩
      have Fin := hid fin
      clear fin
      by_cases hk : y.kind = 6
      · have k6 : (y.kind == 6) = true := by simp [hk]
        have hM := Fin.out true (by unfold wideB; rw [k6]; rfl) rfl
        have HM1 := hid hM
        clear hk hM
        go_wp2_with fail
        go_ret
        rw [HM1.out]
        exact ⟨rfl, HBw.out.alloc HBw.out.size _⟩
      · have k6 : (y.kind == 6) = false := by simp [hk]
        by_cases hp : 40 < y.pages
        · have p4 : decide (40 < y.pages) = true := by simpa using hp
          have hM := Fin.out true (by unfold wideB; rw [p4, k6]; rfl) rfl
          have HM1 := hid hM
          clear hk hM hp
          go_wp2_with fail
          go_ret
          rw [HM1.out]
          exact ⟨rfl, HBw.out.alloc HBw.out.size _⟩
        · have p4 : decide (40 < y.pages) = false := by simpa using hp
          have HN := hid (show wideB y = false by unfold wideB; rw [p4, k6]; rfl)
          clear hk hp
          go_wp2_with fail
          go_roundw
          case rel => exact ⟨i + 1, hlt, by simp, HBw.out.alloc HBw.out.size _, fun k hk hk2 => by
            by_cases e : k = i
            · subst e
              rw [← Hy.out]
              exact HN.out
            · exact HA.out k hk (by omega)⟩
          case measure => (simp [intOf]) <;> omega
    · obtain rfl : n = i := by omega
      have hM : M = false := by
        rw [HM.out]
        unfold wideM
        rw [List.any_eq_false]
        intro x hx
        obtain ⟨k, hk, rfl⟩ := List.getElem_of_mem hx
        rw [HA.out k hk (by rw [Hn.out]; exact hk)]
        simp
      have HM1 := hid hM
      clear hM
      go_wp2_with fail
      go_ret
      rw [HM1.out]
      exact ⟨rfl, HBw.out⟩
end Go.Proofs.Ytioafhkblmebmaa
/- The laws' heavy. -/
namespace Go.Proofs.Ytioafhkblmebmaa
open Go.RowKit Go.Maps
set_option linter.unusedVariables false
set_option linter.unusedSimpArgs false

/-- What heavy answers. -/
def HeavyGave (w : World) (l : List WOp) (e : Ending) (w' : World) : Prop := ∃ r : Bool, e = .returned (.bool r) ∧ (r = false → l.length ≤ 80 ∧ ∀ x ∈ l, x.imgs.length ≤ 300) ∧ Below w.heap.size w w'
set_option maxHeartbeats 2000000 in
set_option maxRecDepth 20000 in
theorem heavy_any (w : World) (v : Value) (l : List WOp) (h : OpsAt w v l) (hl : l.length ≤ 9223372036854775807) : Calls Try.prog 8 #[v] w (HeavyGave w l) := by
  obtain ⟨ao, cap, rfl, hc⟩ := h
  obtain ⟨n, hn⟩ : ∃ n, n = l.length := ⟨_, rfl⟩
  rw [← hn]
  have HC := hid hc
  have Hn := hid hn
  have Hl := hid hl
  have HB := hid (Below.refl w.heap.size w)
  clear hc hn hl
  go_enter Try.func8, Try.ntmps8
  go_wp2_with fail
  go_loopw [3, 8] (fun v3 v8 wr => ∃ (i : Nat) (s : Int), i ≤ n ∧ v8 = .int .i64 (i : Int) ∧ v3 = .int .i64 s ∧ 0 ≤ s ∧ s ≤ 300 ∧ Below w.heap.size w wr ∧ ∀ k (hk : k < l.length), k < i → (l[k].imgs.length ≤ 300)) (fun _ v8 _ => n - (intOf v8).toNat)
  case atStart => exact ⟨0, 0, Nat.zero_le _, rfl, rfl, by decide, by decide, HB.out, fun k _ hk => by omega⟩
  case round =>
    obtain ⟨i, s, hi, rfl, rfl, hs0, hs1, hbw, hall⟩ := hrel
    have HA := hid hall
    have HBw := hid hbw
    clear hall
    by_cases hlt : i < n
    · have hil : i < l.length := by have := Hn.out; omega
      obtain ⟨q, o, rfl, hq, hcell⟩ := HC.out i hil
      obtain ⟨y, hy⟩ : ∃ y, y = l[i] := ⟨_, rfl⟩
      rw [← hy] at hcell
      have cc := fun j u hj => (hbw.cell (p := ⟨q, o + i * 8 + j, none⟩) hq).trans (hcell j u hj)
      have c0 := cc 0 _ rfl
      have c1 := cc 1 _ rfl
      have c2 := cc 2 _ rfl
      have c3 := cc 3 _ rfl
      have c4 := cc 4 _ rfl
      have c5 := cc 5 _ rfl
      have c6 := cc 6 _ rfl
      have c7 := cc 7 _ rfl
      rw [Nat.add_zero] at c0
      have hi3 : (i : Int) < 9223372036854775807 := by have := Hl.out; omega
      obtain ⟨a, ha⟩ : ∃ a : Int, min ((y.imgs.length : Nat) : Int) 1024 = a := ⟨_, rfl⟩
      have ha2 : 0 ≤ a ∧ a ≤ 1024 ∧ (a ≤ 300 → y.imgs.length ≤ 300) := by omega
      have Ha2 := hid ha2
      have hw : IntKind.i64.wrap (s + a) = s + a := IntWalk.i64_in _ (by omega)
      have Hy := hid hy
      have Hs := hid hs0
      clear hy hcell cc hbw ha2 hs0
      obtain ⟨sl, hsl⟩ : ∃ sl : Int, ((y.s.length : Nat) : Int) = sl := ⟨_, rfl⟩
      obtain ⟨kl, hkl⟩ : ∃ kl : Int, ((y.keep.length : Nat) : Int) = kl := ⟨_, rfl⟩
      by_cases t1 : 300 < s + a
      · have b1 : decide (300 < s + a) = true := by simpa using t1
        clear t1
        go_wp2_with fail
        go_ret
        exact ⟨true, rfl, (fun e => by cases e), HBw.out.alloc HBw.out.size _⟩
      have b1 : decide (300 < s + a) = false := by simpa using t1
      by_cases t2 : 8192 < sl
      · have b2 : decide (8192 < sl) = true := by simpa using t2
        clear t1 t2
        go_wp2_with fail
        go_ret
        exact ⟨true, rfl, (fun e => by cases e), HBw.out.alloc HBw.out.size _⟩
      have b2 : decide (8192 < sl) = false := by simpa using t2
      by_cases t3 : 8192 < kl
      · have b3 : decide (8192 < kl) = true := by simpa using t3
        clear t1 t2 t3
        go_wp2_with fail
        go_ret
        exact ⟨true, rfl, (fun e => by cases e), HBw.out.alloc HBw.out.size _⟩
      have b3 : decide (8192 < kl) = false := by simpa using t3
      have HT := hid t1
      clear t2 t3
      by_cases t4 : y.kind = 6
      · have b4 : (y.kind == 6) = true := by simp [t4]
        by_cases t5 : 300 < y.n
        · have b5 : decide (300 < y.n) = true := by simpa using t5
          clear t1 t4 t5
          go_wp2_with fail
          go_ret
          exact ⟨true, rfl, (fun e => by cases e), HBw.out.alloc HBw.out.size _⟩
        · have b5 : decide (300 < y.n) = false := by simpa using t5
          clear t1 t4 t5
          go_wp2_with fail
          go_roundw
          case rel => exact ⟨i + 1, s + a, hlt, by simp, rfl, by have := Ha2.out; have := Hs.out; omega, by have := HT.out; omega, HBw.out.alloc HBw.out.size _, fun k hk hk2 => by
            by_cases e : k = i
            · subst e
              rw [← Hy.out]
              exact Ha2.out.2.2 (by have := HT.out; have := Hs.out; omega)
            · exact HA.out k hk (by omega)⟩
          case measure => (simp [intOf]) <;> omega
      · have b4 : (y.kind == 6) = false := by simp [t4]
        clear t1 t4
        go_wp2_with fail
        go_roundw
        case rel => exact ⟨i + 1, s + a, hlt, by simp, rfl, by have := Ha2.out; have := Hs.out; omega, by have := HT.out; omega, HBw.out.alloc HBw.out.size _, fun k hk hk2 => by
          by_cases e : k = i
          · subst e
            rw [← Hy.out]
            exact Ha2.out.2.2 (by have := HT.out; have := Hs.out; omega)
          · exact HA.out k hk (by omega)⟩
        case measure => (simp [intOf]) <;> omega
    · obtain rfl : n = i := by omega
      obtain ⟨r, hr⟩ : ∃ r : Bool, decide ((80 : Int) < (n : Int)) = r := ⟨_, rfl⟩
      have Hr := hid hr
      have Hall := hid (show r = false → l.length ≤ 80 ∧ ∀ x ∈ l, x.imgs.length ≤ 300 from fun e => by
        rw [e] at hr
        simp at hr
        refine ⟨by have := Hn.out; omega, fun x hx => ?_⟩
        obtain ⟨k, hk, rfl⟩ := List.getElem_of_mem hx
        exact HA.out k hk (by rw [Hn.out]; exact hk))
      clear hr
      by_cases t : 80 < n
      · have t2 : (80 : Int) < (n : Int) := by omega
        go_wp2_with fail
        go_ret
        exact ⟨true, rfl, (fun e => by cases e), HBw.out⟩
      · have t2 : ¬ (80 : Int) < (n : Int) := by omega
        go_wp2_with fail
        go_ret
        have er : r = false := by rw [← Hr.out]; simp; omega
        exact ⟨false, rfl, (fun _ => Hall.out er), HBw.out⟩
end Go.Proofs.Ytioafhkblmebmaa
