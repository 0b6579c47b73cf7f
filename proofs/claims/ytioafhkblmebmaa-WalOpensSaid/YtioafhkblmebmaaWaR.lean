/- The laws' state: what a log tells of its pages. -/
import Derived.Test.YtioafhkblmebmaaWaP
namespace Go.Proofs.Ytioafhkblmebmaa
open Go.RowKit Go.Maps
set_option linter.unusedVariables false
set_option linter.unusedSimpArgs false

/-- The pages from i + 1 on, c of them, behind what there is. -/
def stateN (g : Lg) (d : Dsk) : Nat → Nat → List UInt8 → Option (List UInt8)
  | 0, _, s => some s
  | c + 1, i, s => if (pageM g d ((i : Int) + 1) g.list.length).2 ≠ 0 then none else stateN g d c (i + 1) (s ++ (pageM g d ((i : Int) + 1) g.list.length).1)
theorem stateN_succ (g : Lg) (d : Dsk) (c i : Nat) (s : List UInt8) : stateN g d (c + 1) i s = if (pageM g d ((i : Int) + 1) g.list.length).2 ≠ 0 then none else stateN g d c (i + 1) (s ++ (pageM g d ((i : Int) + 1) g.list.length).1) := rfl
def stateHead (p : Int) : List UInt8 := [UInt8.ofNat (p / 256).toNat, UInt8.ofNat (p % 256).toNat]
def stateM (g : Lg) (d : Dsk) : Option (List UInt8) := stateN g d (min g.head.pages.toNat 40) 0 (stateHead g.head.pages)
def stateV (r : Option (List UInt8)) : Value := match r with
  | some s => .tuple #[.string (bs s), .bool true]
  | none => .tuple #[.string ⟨#[]⟩, .bool false]

theorem read_len {d : Dsk} (h : d.Ok) (a : Int) : (readM d 0 a 8).1.length ≤ 512 := by
  have e : ((0 : Int).toNat) = 0 := rfl
  have e8 : ((8 : Int).toNat) = 8 := rfl
  unfold readM
  split
  · simp
  split
  · simp
  · rename_i h1 h2
    rw [e] at h2
    have := flat_take (l := d.now 0) (h.ns 0 (by omega)) (a := a.toNat) (i := 8) (by omega)
    simp only [e, e8, this]
    omega
theorem page_len {g : Lg} {d : Dsk} (hg : g.Ok) (hd : d.Ok) (n mark : Int) : (pageM g d n mark).1.length ≤ 512 := by
  unfold pageM
  split
  · simp
  split
  · rename_i s hs
    obtain ⟨f, hf, rfl, -⟩ := lastAt_mem hs
    have := hg.data f hf
    unfold frOk at this
    simp only [Bool.and_eq_true, decide_eq_true_eq] at this
    exact Nat.le_of_eq this.2
  · split
    · exact Nat.le_of_eq List.length_replicate
    · exact read_len hd _
section
variable {w W W' : World} {l b : Nat} {g g' : Lg} {d d' : Dsk}
set_option maxHeartbeats 2000000 in
set_option maxRecDepth 20000 in
theorem state_any (h : Mk w W l b g d) : Calls Try.prog 14 #[.pointer (some ⟨l, 0, none⟩)] W fun e w' => e = .returned (stateV (stateM g d)) ∧ Mk w w' l b g d ∧ Below W.heap.size W w' := by
  obtain ⟨P, hP⟩ : ∃ P : Nat, g.head.pages = (P : Int) ∧ P ≤ 256 := by
    obtain ⟨⟨F, G, h1, -⟩, -⟩ := h
    have := h1.ok.pages
    exact ⟨g.head.pages.toNat, by omega, by omega⟩
  obtain ⟨hP, hP2⟩ := hP
  have PG : ∀ W, Mk w W l b g d → Calls Try.prog 24 #[.pointer (some ⟨l, 0, none⟩)] W fun e w' => e = .returned (.int .i64 (P : Int)) ∧ w' = W := fun W hm => by
    have := mk_pages hm
    rwa [hP] at this
  have PG := hid PG
  have hconv : (convert 55 9 (.slice (some ⟨W.heap.size, 0, none⟩) 2 2)).run Try.prog (W.alloc (.cells #[.int .u8 ((P : Int) / 256), .int .u8 ((P : Int) % 256)] 5)) = .ok (.string (bs (stateHead g.head.pages))) (W.alloc (.cells #[.int .u8 ((P : Int) / 256), .int .u8 ((P : Int) % 256)] 5)) := by
    have h := run_convert_cells (P := Try.prog) (W.alloc (.cells #[.int .u8 ((P : Int) / 256), .int .u8 ((P : Int) % 256)] 5)) 55 9 5 Try.underlying55 Try.underlying5 Try.underlying9 W.heap.size 0 2 2 [(P : Int) / 256, (P : Int) % 256] rfl (fun i hi => by
      rw [cell_of_block (heap_alloc_new W _)]
      match i, hi with
      | 0, _ => rfl
      | 1, _ => rfl)
    rw [hP]
    exact h
  have H1 := hid (h.below ((Below.refl _ _).alloc (Nat.le_refl _) (.cells #[.int .u8 ((P : Int) / 256), .int .u8 ((P : Int) % 256)] 5)))
  obtain ⟨S0, hS0⟩ : ∃ S0, S0 = stateHead g.head.pages := ⟨_, rfl⟩
  rw [← hS0] at hconv
  obtain ⟨q, hq⟩ : ∃ q, q = min P 40 := ⟨_, rfl⟩
  obtain ⟨M, hM⟩ : ∃ M, M = stateM g d := ⟨_, rfl⟩
  have hM2 : M = stateN g d q 0 S0 := by
    rw [hM, hq, hS0]
    unfold stateM
    rw [hP, Int.toNat_natCast]
  rw [← hM]
  have HM := hid hM2
  have Hq := hid hq
  have HP2 := hid hP2
  have hqi : min (P : Int) 40 = (q : Int) := by rw [hq]; omega
  have hS0l : S0.length = 2 := by rw [hS0]; rfl
  have HS0 := hid hS0l
  have H := hid h
  have HB1 := hid ((Below.refl _ W).alloc (Nat.le_refl _) (.cells #[.int .u8 ((P : Int) / 256), .int .u8 ((P : Int) % 256)] 5))
  clear h hM hM2 hq hS0 hS0l hP
  go_enter Try.func14, Try.ntmps14
  go_wp2_with (first
    | (go_at_call 24; refine (PG.out _ H.out).mono ?_; rintro e w1 ⟨rfl, hw⟩; obtain rfl := hw.symm)
    | go_in)
  go_loopw [4, 5] (fun v4 v5 wr => ∃ (i : Nat) (s : List UInt8), i ≤ q ∧ v4 = .string (bs s) ∧ v5 = .int .i64 ((i : Int) + 1) ∧ Mk w wr l b g d ∧ Below W.heap.size W wr ∧ s.length ≤ 2 + 512 * i ∧ M = stateN g d (q - i) i s) (fun _ v5 _ => q + 1 - (intOf v5).toNat)
  case atStart => exact ⟨0, S0, Nat.zero_le _, rfl, rfl, H1.out, HB1.out, by have := HS0.out; omega, HM.out⟩
  case round =>
    obtain ⟨i, s, hi, rfl, rfl, hm, hbw, hsl, hst⟩ := hrel
    have HBw := hid hbw
    clear hbw
    have Hm := hid hm
    have Hst := hid hst
    have MK := hid (mk_mark hm)
    have PA := mk_page hm ((i : Int) + 1) g.list.length
    obtain ⟨pg, hpg⟩ : ∃ pg, pg = pageM g d ((i : Int) + 1) g.list.length := ⟨_, rfl⟩
    rw [← hpg] at PA
    have PA := hid PA
    have Hpg := hid hpg
    clear hm hst hpg
    by_cases hlt : i < q
    · have hlt1 : i + 1 ≤ q := hlt
      obtain ⟨c, hc⟩ : ∃ c, q - i = c + 1 := ⟨q - i - 1, by omega⟩
      have hst := Hst.out
      rw [hc, stateN_succ, ← Hpg.out] at hst
      have hc2 : q - (i + 1) = c := by omega
      have hwi : IntKind.i64.wrap ((i : Int) + 1 + 1) = (i : Int) + 1 + 1 := IntWalk.i64_in _ (by have := Hq.out; omega)
      have hpl : pg.1.length ≤ 512 := by
        rw [Hpg.out]
        obtain ⟨⟨F, G, h1, -⟩, -⟩ := Hm.out
        exact page_len h1.ok h1.disk.ok _ _
      have hi39 : i < 40 := by have := Hq.out; omega
      by_cases hpe : pg.2 = 0
      · have hpe1 : (pg.2 != 0) = false := by simp [hpe]
        rw [if_neg (by simpa using hpe)] at hst
        replace hst := hid hst
        have hcat : ¬ (9223372036854775807 < s.length + pg.1.length) := by omega
        go_wp2_with (first
          | (go_at_call 24; refine (PG.out _ Hm.out).mono ?_; rintro e w1 ⟨rfl, hw⟩; obtain rfl := hw.symm)
          | (go_at_call 15; refine (MK.out).mono ?_; rintro e w1 ⟨rfl, hw⟩; obtain rfl := hw.symm)
          | (go_at_call 19; refine (PA.out).mono ?_; rintro e w2 ⟨rfl, hb2⟩; have Hm2 := hid (Hm.out.below hb2); have HBw2 := hid (HBw.out.trans (hb2.mono HBw.out.size)); clear hb2)
          | go_in)
        go_roundw
        case rel => exact ⟨i + 1, s ++ pg.1, hlt, rfl, by simp, Hm2.out, HBw2.out, by simp; omega, by rw [hc2]; exact hst.out⟩
        case measure => (simp [intOf]) <;> omega
      · have hpe1 : (pg.2 != 0) = true := by simp [hpe]
        rw [if_pos hpe] at hst
        replace hst := hid hst
        go_wp2_with (first
          | (go_at_call 24; refine (PG.out _ Hm.out).mono ?_; rintro e w1 ⟨rfl, hw⟩; obtain rfl := hw.symm)
          | (go_at_call 15; refine (MK.out).mono ?_; rintro e w1 ⟨rfl, hw⟩; obtain rfl := hw.symm)
          | (go_at_call 19; refine (PA.out).mono ?_; rintro e w2 ⟨rfl, hb2⟩; have Hm2 := hid (Hm.out.below hb2); have HBw2 := hid (HBw.out.trans (hb2.mono HBw.out.size)); clear hb2)
          | go_in)
        go_ret2
        rw [hst.out]
        exact ⟨rfl, Hm2.out, HBw2.out⟩
    · obtain rfl : q = i := by omega
      have hlt1 : ¬ (q + 1 ≤ q) := by omega
      have hst := Hst.out
      rw [Nat.sub_self] at hst
      have hst : M = some s := hst
      replace hst := hid hst
      go_wp2_with (first
        | (go_at_call 24; refine (PG.out _ Hm.out).mono ?_; rintro e w1 ⟨rfl, hw⟩; obtain rfl := hw.symm)
        | go_in)
      go_ret2
      rw [hst.out]
      exact ⟨rfl, Hm.out, HBw.out⟩
end
end Go.Proofs.Ytioafhkblmebmaa
