/- Law FilesKept, walked. -/
import Derived.Test.YtifgnhbbcpmaiaaDkU
import Derived.Test.YtifgnhbbcpmaiaaDkV
import Derived.Test.YtifgnhbbcpmaiaaDkY
import Derived.Laws.MakeOwn
namespace Go.Proofs.Ytifgnhbbcpmaiaa
open Go.RowKit Go.Maps
set_option linter.unusedVariables false
set_option linter.unusedSimpArgs false

/-- Of eight strings the first i are said. -/
def strs (A : Nat → List UInt8) (i : Nat) : List Value := (List.range 8).map fun j => if j < i then .string (bs (A j)) else .string ⟨#[]⟩
theorem strs_get (A : Nat → List UInt8) {i j : Nat} (hj : j < 8) : (strs A i).toArray[j]? = some (if j < i then .string (bs (A j)) else .string ⟨#[]⟩) := by
  simp [strs, hj]
theorem strs_set (A : Nat → List UInt8) {i : Nat} (hi : i < 8) : (strs A i).toArray.setIfInBounds i (.string (bs (A i))) = (strs A (i + 1)).toArray := by
  apply Array.ext_getElem?
  intro j
  by_cases hj : j < 8
  · rw [strs_get A hj, Array.getElem?_setIfInBounds, strs_get A hj]
    by_cases e : i = j
    · subst e; simp [strs, hj]
    · rw [if_neg e]
      by_cases h : j < i
      · rw [if_pos h, if_pos (by omega)]
      · rw [if_neg h, if_neg (by omega)]
  · rw [Array.getElem?_eq_none (by simp [strs]; omega), Array.getElem?_eq_none (by simp [strs]; omega)]
/-- Of n bools the first i are set. -/
def trues (n i : Nat) : List Value := (List.range n).map fun j => .bool (decide (j < i))
theorem trues_get {n i j : Nat} (hj : j < n) : (trues n i).toArray[j]? = some (.bool (decide (j < i))) := by simp [trues, hj]
theorem trues_set {n i : Nat} (hi : i < n) : (trues n i).toArray.setIfInBounds i (.bool true) = (trues n (i + 1)).toArray := by
  apply Array.ext_getElem?
  intro j
  by_cases hj : j < n
  · rw [trues_get hj, Array.getElem?_setIfInBounds, trues_get hj]
    by_cases e : i = j
    · subst e; simp [trues, hj]
    · rw [if_neg e]
      congr 2
      simp only [decide_eq_decide]
      omega
  · rw [Array.getElem?_eq_none (by simp [trues]; omega), Array.getElem?_eq_none (by simp [trues]; omega)]
theorem trues_keep {w : World} {g n : Nat} {T : TypeId} (h : w.heap[g]? = some (.cells (trues n n).toArray T (0, 0))) : KeepAt w (.slice (some ⟨g, 0, none⟩) (List.replicate n true).length n) (List.replicate n true) := by
  refine ⟨_, _, rfl, .inr ⟨g, 0, rfl, fun i b hi => ?_⟩⟩
  have hi2 : i < n := by
    have := (List.getElem?_eq_some_iff.1 hi).1
    simpa using this
  rw [List.getElem?_replicate, if_pos hi2] at hi
  cases hi
  rw [cell_of_block h, Nat.zero_add, trues_get hi2]
  simp [hi2]
theorem make_bools (w : World) (n : Nat) (hn : n ≤ 16777216) : (Instr.makeSlice 23 (.int .i64 (n : Int)) (.int .i64 (n : Int))).run Try.prog w = .ok (.slice (some ⟨w.heap.size, 0, none⟩) n n) (w.alloc (.cells (trues n 0).toArray 4)) := by
  obtain ⟨i, hi, hz, hs, hb⟩ := info_parts (P := Try.prog) (e := 4) (z := .bool false) (size := 1) (bytes := 1) (by kernel_rfl)
  have h := run_make (P := Try.prog) w 23 4 i _ Try.underlying23 hi hz .i64 .i64 (n : Int) (n : Int) (by omega) (Int.le_refl _) (by rw [hb]; omega) (by omega)
  rw [hs, Int.toNat_natCast, Nat.mul_one] at h
  have e : madeCells (Value.bool false).cells n = (trues n 0).toArray := by
    apply Array.ext_getElem?
    intro j
    by_cases hj : j < n
    · rw [trues_get hj]; simp [madeCells, hj, Value.cells, Nat.mod_one]
    · rw [Array.getElem?_eq_none (by simp [madeCells]; omega), Array.getElem?_eq_none (by simp [trues]; omega)]
  rw [h, e]

section
variable {w0 w w' : World} {b : Nat} {F F' : Foot} {d d' : Dsk}
theorem Made.set (h : Made w0 w b F d) {k o : Nat} (hk : ¬ F.own k ∧ ¬ F.sh k) (h0 : w0.heap.size ≤ k) (u : Value) : Made w0 (w.setCell ⟨k, o, none⟩ u) b F d :=
  ⟨h.disk.keep (fun j hj => Below.heap_setCell w ⟨k, o, none⟩ u j (fun e => by subst e; exact hj.elim hk.1 hk.2)) (by simp), ⟨h.below.os, h.below.tape, h.below.output, by simpa using h.below.size, fun j hj => (Below.heap_setCell w ⟨k, o, none⟩ u j (show j ≠ k by omega)).trans (h.below.block j hj)⟩, h.fresh⟩
theorem Made.did2 (h : Made w0 w b F d) (hd : Did w b F d' w') : ∃ F', Made w0 w' b F' d' ∧ ∀ k, k < w.heap.size → ¬ F.own k → w'.heap[k]? = w.heap[k]? ∧ ¬ F'.own k := by
  obtain ⟨F', h1, h2⟩ := hd
  exact ⟨F', ⟨h1, below_step h.below h.fresh h2, fun k hk => (h2.own k hk).elim (h.fresh k) (fun h3 => Nat.le_trans h.below.size h3)⟩, fun k hk ho => ⟨h2.frm.block k hk ho, fun h3 => (h2.own k h3).elim ho (fun h4 => by omega)⟩⟩
end

section
variable {v : Value} {l : List OpM}
set_option maxHeartbeats 4000000 in
set_option maxRecDepth 20000 in
theorem kept_any (w : World) (h : OpsAt (alive w) w v l) :
    Calls Try.prog 4 #[v] w fun e w' => e = .returned (.bool true) ∧ Below w.heap.size w w' := by
  have H := hid h
  clear h
  go_enter Try.func4, Try.ntmps4
  go_upto_region 7 with (first
    | (go_at_call 9; refine (works_any w).mono ?_; rintro e w1 ⟨rfl, hb⟩; have B1 := hid hb; clear hb)
    | (go_at_call 10; refine (heavy_any (H.out.move (all_lt (fun k hk => hk) B1.out)) (fun k hk => Nat.lt_of_lt_of_le hk B1.out.size)).mono ?_; rintro e wxB2 ⟨he, hb⟩; have B2 := hid (then_below B1.out hb); rcases bool_said he with rfl | ⟨rfl, hl⟩ <;> clear hb he B1)
    | (go_at_call 11; refine (far_any (H.out.move (all_lt (fun k hk => hk) B2.out)) (fun k hk => Nat.lt_of_lt_of_le hk B2.out.size) hl.len).mono ?_; rintro e wxB3 ⟨he, hb⟩; have B3 := hid (then_below B2.out hb); rcases bool_said he with rfl | ⟨rfl, -⟩ <;> clear hb he B2)
    | (go_at_call 12; refine (new_any wxB3).mono ?_; rintro e w4 ⟨b, F, rfl, hd, hb, ho, -⟩; have M4 := hid (Made.new B3.out hd hb ho); clear hd hb ho)
    | (go_at_call 13; refine (run_any M4.out.disk (H.out.move (all_lt (fun k hk => hk) M4.out.below)) (fun k hk => ⟨Nat.lt_of_lt_of_le hk M4.out.below.size, fun ho => absurd (M4.out.fresh k ho) (Nat.not_le.2 hk)⟩) hl.ok hl.len (newM_small.mono (by omega))).mono ?_; rintro e w5 ⟨rfl, hd⟩; obtain ⟨F5, hm⟩ := M4.out.did hd; have HSd := hid ((run_small l newM newM_small hl.ok).mono (M := 102400) (by have := hl.len; omega)); have HRd := hid (Rep.run l rep_new); obtain ⟨D, hD⟩ : ∃ D, D = runM newM l := ⟨_, rfl⟩; rw [← hD] at hm HSd HRd; have M5 := hid hm; clear hd hm hD M4)
    | go_in)
  all_goals first | (go_ret; first | exact ⟨rfl, B2.out⟩ | exact ⟨rfl, B3.out⟩) | skip
  by_cases hD : D.off = true
  · have HRc := hid (Rep.crash D [])
    have HSc := hid (show (crashM D []).Small 102400 from crash_small HSd.out)
    have hoc : (crashM D []).off = false := rfl
    go_upto_region 9 with (first
      | (go_at_call 19; have ON := on_any M5.out.disk; rw [hD] at ON; refine ON.mono ?_; rintro e w6 ⟨rfl, rfl⟩; clear ON)
      | (go_at_call 17; refine (crash_nil M5.out.disk (HSd.out.mono (by omega))).mono ?_; rintro e w7 ⟨rfl, hd⟩; obtain ⟨F7, hm⟩ := M5.out.did hd; have M7 := hid hm; clear hd hm M5)
      | go_in)
    obtain ⟨d1, hd1⟩ : ∃ d1, d1 = crashM D [] := ⟨_, rfl⟩
    rw [← hd1] at M7 HRc HSc hoc
    have Hoc := hid hoc
    clear hd1 hoc
    obtain ⟨A, hA⟩ : ∃ A : Nat → List UInt8, ∀ f : Nat, allM d1 (f : Int) = A f := ⟨fun f => allM d1 f, fun _ => rfl⟩
    have HAf := hid hA
    clear hA
    go_wp2_with fail
    obtain ⟨WB, hWB⟩ : ∃ WB, WB = w7.heap.size := ⟨_, rfl⟩
    have hw0 := heap_alloc_new w7 (.cells (strs A 0).toArray 38)
    have hM8 := M7.out.under ((Below.refl w7.heap.size w7).alloc (Nat.le_refl _) (.cells (strs A 0).toArray 38))
    have HWo := hid (show ¬ F7.own WB ∧ ¬ F7.sh WB from ⟨fun ho => by have := M7.out.disk.olt WB ho; omega, fun ho => by have := M7.out.disk.slt WB ho; omega⟩)
    have HW0 := hid (show w.heap.size ≤ WB from by have := M7.out.below.size; omega)
    rw [← hWB]
    rw [← hWB] at hw0
    have HwA := hid hw0
    have M8 := hid hM8
    clear hw0 hM8 hWB
    go_loopw [26] (fun v26 wr => ∃ i : Nat, v26 = .int .i64 (i : Int) ∧ i ≤ 8 ∧ Made w wr b F7 d1 ∧ wr.heap[WB]? = some (.cells (strs A i).toArray 38 (0, 0))) (fun v26 _ => 8 - (intOf v26).toNat)
    case atStart => exact ⟨0, rfl, by omega, M8.out, HwA.out⟩
    case round =>
      obtain ⟨i, rfl, hi8, hm, hblk⟩ := hrel
      have M9 := hid hm
      have Hblk := hid hblk
      clear hm hblk
      by_cases hlt : i < 8
      · have hlt2 : decide ((i : Int) < 8) = true := by simp; omega
        have hlt3 : (i : Int) < 8 := by omega
        go_wp2_with (first
          | (go_at_call 15; refine (all_any M9.out.disk (i : Int)).mono ?_; rintro e w10 ⟨rfl, hb⟩; rw [HAf.out]; have M10 := hid (M9.out.under hb); have Hblk2 := hid ((hb.block WB (lt_of_block Hblk.out)).trans Hblk.out); have c10 : w10.cell? ⟨WB, i, none⟩ = some (.string ⟨#[]⟩) := (by rw [cell_of_block Hblk2.out, strs_get A hlt]; simp); have f10 : w10.frozen? ⟨WB, i, none⟩ = false := free_of_block Hblk2.out i; clear hb M9)
          | go_in)
        go_roundw
        case rel =>
          refine ⟨i + 1, by simp, by omega, M10.out.set HWo.out HW0.out _, ?_⟩
          rw [← strs_set A hlt]
          exact heap_setCell_same Hblk2.out i _
        case measure => simp [intOf]; omega
      · obtain rfl : i = 8 := by omega
        obtain ⟨n, hn⟩ : ∃ n, n = d1.loose.length := ⟨_, rfl⟩
        have Hn := hid hn
        have hn1 : n ≤ 102400 := by have := HSc.out.loose; omega
        have hmk := make_bools wr n (by omega)
        have LS := hid (show Calls Try.prog 18 #[.pointer (some ⟨b, 0, none⟩)] wr fun e w' => e = .returned (.int .i64 (n : Int)) ∧ w' = wr by have h := loose_any M9.out.disk; rw [← hn] at h; exact h)
        clear hn hlt
        go_wp2_with (first
          | (go_at_call 18; refine (LS.out).mono ?_; rintro e w11 ⟨rfl, rfl⟩; clear LS)
          | go_in)
        have hk0 := heap_alloc_new w11 (.cells (trues n 0).toArray 4)
        have hM11 := M9.out.under ((Below.refl w11.heap.size w11).alloc (Nat.le_refl _) (.cells (trues n 0).toArray 4))
        have hW11 := (Below.heap_alloc w11 (.cells (trues n 0).toArray 4) WB (lt_of_block Hblk.out)).trans Hblk.out
        obtain ⟨KB, hKB⟩ : ∃ KB, KB = w11.heap.size := ⟨_, rfl⟩
        have HKo := hid (show ¬ F7.own KB ∧ ¬ F7.sh KB from ⟨fun ho => by have := M9.out.disk.olt KB ho; omega, fun ho => by have := M9.out.disk.slt KB ho; omega⟩)
        have HK0 := hid (show w.heap.size ≤ KB from by have := M9.out.below.size; omega)
        have HKW := hid (show WB ≠ KB from by have := lt_of_block Hblk.out; omega)
        rw [← hKB]
        rw [← hKB] at hk0
        have M11 := hid hM11
        have HW11 := hid hW11
        have Hk11 := hid hk0
        clear hk0 hM11 hW11 hKB hmk M9 Hblk
        go_loopw [40] (fun v40 w2 => ∃ j : Nat, v40 = .int .i64 (j : Int) ∧ j ≤ n ∧ Made w w2 b F7 d1 ∧ w2.heap[WB]? = some (.cells (strs A 8).toArray 38 (0, 0)) ∧ w2.heap[KB]? = some (.cells (trues n j).toArray 4 (0, 0))) (fun v40 _ => n - (intOf v40).toNat)
        case atStart => exact ⟨0, rfl, Nat.zero_le _, M11.out, HW11.out, Hk11.out⟩
        case round =>
          obtain ⟨j, rfl, hjn, hm, hbw, hbk⟩ := hrel
          have M12 := hid hm
          have Hbw := hid hbw
          have Hbk := hid hbk
          clear hm hbw hbk
          by_cases hlt : j < n
          · have hlt2 : decide ((j : Int) < (n : Int)) = true := by simp; omega
            have hlt3 : (j : Int) < (n : Int) := by omega
            have ck : wr.cell? ⟨KB, j, none⟩ = some (.bool false) := by (rw [cell_of_block Hbk.out, trues_get hlt]; simp)
            have fk : wr.frozen? ⟨KB, j, none⟩ = false := free_of_block Hbk.out j
            go_wp2_with fail
            go_roundw
            case rel =>
              refine ⟨j + 1, by simp, by omega, M12.out.set HKo.out HK0.out _, (Below.heap_setCell _ ⟨KB, j, none⟩ _ WB HKW.out).trans Hbw.out, ?_⟩
              rw [← trues_set hlt]
              exact heap_setCell_same Hbk.out j _
            case measure => simp [intOf]; omega
          · obtain rfl : j = n := by omega
            have hlt' : decide ((j : Int) < (j : Int)) = false := by simp
            go_wp2_with fail
            have HKeep := hid (trues_keep Hbk.out)
            have HKlt := hid (lt_of_block Hbk.out)
            have hrl : (List.replicate j true).length = j := by simp
            have HAcr := hid (show ∀ f, (crashM d1 (List.replicate j true)).now f = d1.now f from fun f => by rw [Hn.out]; exact crash_all HRc.out f)
            go_loopw [47, 6] (fun v47 v6 w3 => ∃ (r : Nat) (F8 : Foot) (d : Dsk) (ka : Option Addr) (kcap : Nat) (ks : List Bool), v47 = .int .i64 (r : Int) ∧ r ≤ 2 ∧ v6 = .slice ka ks.length kcap ∧ KeepAt w3 v6 ks ∧ (∀ g, keepBlk v6 ks = some g → ¬ F8.own g ∧ g < w3.heap.size) ∧ Made w w3 b F8 d ∧ (∀ f, (crashM d ks).now f = d1.now f) ∧ d.Small 102400 ∧ ks.length ≤ 102400 ∧ w3.heap[WB]? = some (.cells (strs A 8).toArray 38 (0, 0)) ∧ ¬ F8.own WB) (fun v47 _ _ => 2 - (intOf v47).toNat)
            case atStart =>
              refine ⟨0, F7, d1, some ⟨KB, 0, none⟩, j, List.replicate j true, rfl, by omega, by rw [hrl], ?_, fun g hg => ?_, M12.out, HAcr.out, HSc.out, by rw [hrl]; exact hn1, Hbw.out, HWo.out.1⟩
              · have h := HKeep.out; rw [hrl] at h; exact h
              · unfold keepBlk at hg
                split at hg
                · cases hg
                · cases hg
                  exact ⟨HKo.out.1, HKlt.out⟩
            case round =>
              obtain ⟨r, F8, d, ka, kcap, ks, rfl, hr2, rfl, hkeep, hkb, hm, hcn, hsm, hkl, hbw, hno⟩ := hrel
              have CR := hid (crash_any hm.disk _ ks hkeep hkb (hsm.mono (by omega)) (by omega))
              have M13 := hid hm
              have HC := hid hcn
              have HS := hid hsm
              have Hbw3 := hid hbw
              have Hno := hid hno
              clear hkeep hkb hm hcn hsm hkl hbw hno M12 Hbw Hbk HKeep HKlt M11 HW11 Hk11 hrl
              by_cases hlt : r < 2
              · have hlt2 : decide ((r : Int) < 2) = true := by simp; omega
                have HL0 := hid (show ((crashM d ks).loose.length : Int) = 0 from rfl)
                go_wp2_with (first
                  | (go_at_call 17; refine (CR.out).mono ?_; rintro e w14 ⟨rfl, hd⟩; obtain ⟨F14, hm, hkp⟩ := M13.out.did2 hd; have M14 := hid hm; have Hb14 := hid ((hkp WB (lt_of_block Hbw3.out) Hno.out).1.trans Hbw3.out); have Hno14 := hid (hkp WB (lt_of_block Hbw3.out) Hno.out).2; clear hd hm hkp CR M13)
                  | (go_at_call 18; refine (loose_any M14.out.disk).mono ?_; rintro e w15 ⟨rfl, rfl⟩; rw [HL0.out])
                  | go_in)
                go_loopw [58] (fun v58 w4 => ∃ q : Nat, v58 = .int .i64 (q : Int) ∧ q ≤ 8 ∧ Made w w4 b F14 (crashM d ks) ∧ w4.heap[WB]? = some (.cells (strs A 8).toArray 38 (0, 0))) (fun v58 _ => 8 - (intOf v58).toNat)
                case atStart => exact ⟨0, rfl, by omega, M14.out, Hb14.out⟩
                case round =>
                  obtain ⟨q, rfl, hq8, hm, hbw⟩ := hrel
                  have M16 := hid hm
                  have Hb16 := hid hbw
                  clear hm hbw M14 Hb14
                  by_cases hlt : q < 8
                  · have hlt2 : decide ((q : Int) < 8) = true := by simp; omega
                    have hlt3 : (q : Int) < 8 := by omega
                    have HQ := hid (show allM (crashM d ks) (q : Int) = A q from by rw [← HAf.out, allM_on hlt rfl, allM_on hlt Hoc.out, HC.out])
                    go_upto_region 28 with fail
                    refine wp_region_held_drew (S := fun W => Below wr.heap.size wr W) (by kernel_rfl) ((Below.refl _ _).drew) (fun hHeld => ?_)
                    refine held_take (v := ?pva0) 0 rfl (by kernel_rfl) (by kernel_rfl) (by kernel_rfl) (fun _ _ _ h => h) (by rfl) hHeld ?pya0 ?pra0
                    case pya0 => (intro W hSw; go_simp; with_reducible rfl)
                    simp only [Act.put, List.setIfInBounds_toArray, List.set_cons_zero, List.set_cons_succ]
                    refine held_take (v := ?pva1) 1 rfl (by kernel_rfl) (by kernel_rfl) (by kernel_rfl) (fun _ _ _ h => h) (by rfl) hHeld ?pya1 ?pra1
                    case pya1 => (intro W hSw; go_simp; with_reducible rfl)
                    simp only [Act.put, List.setIfInBounds_toArray, List.set_cons_zero, List.set_cons_succ]
                    refine held_take (v := ?pva3) 3 rfl (by kernel_rfl) (by kernel_rfl) (by kernel_rfl) (fun _ _ _ h => h) (by rfl) hHeld ?pya3 ?pra3
                    case pya3 => (intro W hSw; go_simp; with_reducible rfl)
                    simp only [Act.put, List.setIfInBounds_toArray, List.set_cons_zero, List.set_cons_succ]
                    refine held_take (v := ?pva4) 4 rfl (by kernel_rfl) (by kernel_rfl) (by kernel_rfl) (fun _ _ _ h => h) (by rfl) hHeld ?pya4 ?pra4
                    case pya4 => (intro W hSw; go_simp; with_reducible rfl)
                    simp only [Act.put, List.setIfInBounds_toArray, List.set_cons_zero, List.set_cons_succ]
                    refine held_take (v := .string (bs (A q))) 5 rfl (by kernel_rfl) (by kernel_rfl) (by kernel_rfl) (fun _ _ _ h => h) (by rfl) hHeld ?pya5 ?pra5
                    case pya5 => (intro W hSw; have yy : W.cell? ⟨WB, q, none⟩ = some (.string (bs (A q))) := (by rw [cell_of_block ((hSw.block WB (lt_of_block Hb16.out)).trans Hb16.out), strs_get A hlt, if_pos hlt]); go_simp)
                    simp only [Act.put, List.setIfInBounds_toArray, List.set_cons_zero, List.set_cons_succ]
                    refine held_one 2 (by kernel_rfl) rfl (fun K hK => ?_)
                    go_simp
                    refine (all_any (M16.out.disk.below (Below.refl _ _).drew) (q : Int)).mono ?_
                    rintro e w17 ⟨rfl, hb⟩
                    try dsimp only
                    rw [HQ.out]
                    have M17 := hid (M16.out.under (below_undrew hb))
                    have Hb17 := hid (((below_undrew hb).block WB (lt_of_block Hb16.out)).trans Hb16.out)
                    refine hK.out _ _ (below_undrew hb) (fun hHeld => ?_)
                    clear hK K hb
                    try simp only [Act.put, List.setIfInBounds_toArray, List.set_cons_zero, List.set_cons_succ]
                    refine held_take (v := ?pva6) 6 rfl (by kernel_rfl) (by kernel_rfl) (by kernel_rfl) (fun _ _ _ h => h) (by rfl) hHeld ?pya6 ?pra6
                    case pya6 => (intro W hSw; go_simp; with_reducible rfl)
                    simp only [Act.put, List.setIfInBounds_toArray, List.set_cons_zero, List.set_cons_succ]
                    refine wpAnyH_done (by kernel_rfl) ?_ _
                    clear hHeld
                    go_wp2_with fail
                    go_roundw
                    case rel => exact ⟨q + 1, by simp, by omega, M17.out, Hb17.out⟩
                    case measure => simp [intOf]; omega
                  · obtain rfl : q = 8 := by omega
                    go_wp2_with fail
                    go_roundw
                    case rel =>
                      refine ⟨r + 1, F14, crashM d ks, none, 0, [], by simp, by omega, rfl, ⟨none, 0, rfl, .inl rfl⟩, (fun g hg => by cases hg), M16.out, fun f => ?_, crash_small HS.out, by simp, Hb16.out, Hno14.out⟩
                      rw [crash_twice]
                      exact HC.out f
                    case measure => simp [intOf]; omega
              · obtain rfl : r = 2 := by omega
                go_wp2_with fail
                go_ret
                exact ⟨rfl, M13.out.below⟩
  · have hD' : D.off = false := by simpa using hD
    have HRc := HRd
    have HSc := HSd
    have Hoc := hid hD'
    go_upto_region 9 with (first
      | (go_at_call 19; have ON := on_any M5.out.disk; rw [hD'] at ON; refine ON.mono ?_; rintro e w7 ⟨rfl, rfl⟩; clear ON; have M7 := M5; clear M5)
      | go_in)
    obtain ⟨F7, d1, hM7, hHRc, hHSc, hHoc⟩ : ∃ (F7 : Foot) (d1 : Dsk), Hid (Made w w7 b F7 d1) ∧ Hid (Rep d1) ∧ Hid (d1.Small 102400) ∧ Hid (d1.off = false) := ⟨F5, D, M7, HRc, HSc, Hoc⟩
    clear M7 HRc HSc Hoc HRd HSd hD hD'
    have M7 := hM7
    have HRc := hHRc
    have HSc := hHSc
    have Hoc := hHoc
    clear hM7 hHRc hHSc hHoc
    obtain ⟨A, hA⟩ : ∃ A : Nat → List UInt8, ∀ f : Nat, allM d1 (f : Int) = A f := ⟨fun f => allM d1 f, fun _ => rfl⟩
    have HAf := hid hA
    clear hA
    go_wp2_with fail
    obtain ⟨WB, hWB⟩ : ∃ WB, WB = w7.heap.size := ⟨_, rfl⟩
    have hw0 := heap_alloc_new w7 (.cells (strs A 0).toArray 38)
    have hM8 := M7.out.under ((Below.refl w7.heap.size w7).alloc (Nat.le_refl _) (.cells (strs A 0).toArray 38))
    have HWo := hid (show ¬ F7.own WB ∧ ¬ F7.sh WB from ⟨fun ho => by have := M7.out.disk.olt WB ho; omega, fun ho => by have := M7.out.disk.slt WB ho; omega⟩)
    have HW0 := hid (show w.heap.size ≤ WB from by have := M7.out.below.size; omega)
    rw [← hWB]
    rw [← hWB] at hw0
    have HwA := hid hw0
    have M8 := hid hM8
    clear hw0 hM8 hWB
    go_loopw [26] (fun v26 wr => ∃ i : Nat, v26 = .int .i64 (i : Int) ∧ i ≤ 8 ∧ Made w wr b F7 d1 ∧ wr.heap[WB]? = some (.cells (strs A i).toArray 38 (0, 0))) (fun v26 _ => 8 - (intOf v26).toNat)
    case atStart => exact ⟨0, rfl, by omega, M8.out, HwA.out⟩
    case round =>
      obtain ⟨i, rfl, hi8, hm, hblk⟩ := hrel
      have M9 := hid hm
      have Hblk := hid hblk
      clear hm hblk
      by_cases hlt : i < 8
      · have hlt2 : decide ((i : Int) < 8) = true := by simp; omega
        have hlt3 : (i : Int) < 8 := by omega
        go_wp2_with (first
          | (go_at_call 15; refine (all_any M9.out.disk (i : Int)).mono ?_; rintro e w10 ⟨rfl, hb⟩; rw [HAf.out]; have M10 := hid (M9.out.under hb); have Hblk2 := hid ((hb.block WB (lt_of_block Hblk.out)).trans Hblk.out); have c10 : w10.cell? ⟨WB, i, none⟩ = some (.string ⟨#[]⟩) := (by rw [cell_of_block Hblk2.out, strs_get A hlt]; simp); have f10 : w10.frozen? ⟨WB, i, none⟩ = false := free_of_block Hblk2.out i; clear hb M9)
          | go_in)
        go_roundw
        case rel =>
          refine ⟨i + 1, by simp, by omega, M10.out.set HWo.out HW0.out _, ?_⟩
          rw [← strs_set A hlt]
          exact heap_setCell_same Hblk2.out i _
        case measure => simp [intOf]; omega
      · obtain rfl : i = 8 := by omega
        obtain ⟨n, hn⟩ : ∃ n, n = d1.loose.length := ⟨_, rfl⟩
        have Hn := hid hn
        have hn1 : n ≤ 102400 := by have := HSc.out.loose; omega
        have hmk := make_bools wr n (by omega)
        have LS := hid (show Calls Try.prog 18 #[.pointer (some ⟨b, 0, none⟩)] wr fun e w' => e = .returned (.int .i64 (n : Int)) ∧ w' = wr by have h := loose_any M9.out.disk; rw [← hn] at h; exact h)
        clear hn hlt
        go_wp2_with (first
          | (go_at_call 18; refine (LS.out).mono ?_; rintro e w11 ⟨rfl, rfl⟩; clear LS)
          | go_in)
        have hk0 := heap_alloc_new w11 (.cells (trues n 0).toArray 4)
        have hM11 := M9.out.under ((Below.refl w11.heap.size w11).alloc (Nat.le_refl _) (.cells (trues n 0).toArray 4))
        have hW11 := (Below.heap_alloc w11 (.cells (trues n 0).toArray 4) WB (lt_of_block Hblk.out)).trans Hblk.out
        obtain ⟨KB, hKB⟩ : ∃ KB, KB = w11.heap.size := ⟨_, rfl⟩
        have HKo := hid (show ¬ F7.own KB ∧ ¬ F7.sh KB from ⟨fun ho => by have := M9.out.disk.olt KB ho; omega, fun ho => by have := M9.out.disk.slt KB ho; omega⟩)
        have HK0 := hid (show w.heap.size ≤ KB from by have := M9.out.below.size; omega)
        have HKW := hid (show WB ≠ KB from by have := lt_of_block Hblk.out; omega)
        rw [← hKB]
        rw [← hKB] at hk0
        have M11 := hid hM11
        have HW11 := hid hW11
        have Hk11 := hid hk0
        clear hk0 hM11 hW11 hKB hmk M9 Hblk
        go_loopw [40] (fun v40 w2 => ∃ j : Nat, v40 = .int .i64 (j : Int) ∧ j ≤ n ∧ Made w w2 b F7 d1 ∧ w2.heap[WB]? = some (.cells (strs A 8).toArray 38 (0, 0)) ∧ w2.heap[KB]? = some (.cells (trues n j).toArray 4 (0, 0))) (fun v40 _ => n - (intOf v40).toNat)
        case atStart => exact ⟨0, rfl, Nat.zero_le _, M11.out, HW11.out, Hk11.out⟩
        case round =>
          obtain ⟨j, rfl, hjn, hm, hbw, hbk⟩ := hrel
          have M12 := hid hm
          have Hbw := hid hbw
          have Hbk := hid hbk
          clear hm hbw hbk
          by_cases hlt : j < n
          · have hlt2 : decide ((j : Int) < (n : Int)) = true := by simp; omega
            have hlt3 : (j : Int) < (n : Int) := by omega
            have ck : wr.cell? ⟨KB, j, none⟩ = some (.bool false) := by (rw [cell_of_block Hbk.out, trues_get hlt]; simp)
            have fk : wr.frozen? ⟨KB, j, none⟩ = false := free_of_block Hbk.out j
            go_wp2_with fail
            go_roundw
            case rel =>
              refine ⟨j + 1, by simp, by omega, M12.out.set HKo.out HK0.out _, (Below.heap_setCell _ ⟨KB, j, none⟩ _ WB HKW.out).trans Hbw.out, ?_⟩
              rw [← trues_set hlt]
              exact heap_setCell_same Hbk.out j _
            case measure => simp [intOf]; omega
          · obtain rfl : j = n := by omega
            have hlt' : decide ((j : Int) < (j : Int)) = false := by simp
            go_wp2_with fail
            have HKeep := hid (trues_keep Hbk.out)
            have HKlt := hid (lt_of_block Hbk.out)
            have hrl : (List.replicate j true).length = j := by simp
            have HAcr := hid (show ∀ f, (crashM d1 (List.replicate j true)).now f = d1.now f from fun f => by rw [Hn.out]; exact crash_all HRc.out f)
            go_loopw [47, 6] (fun v47 v6 w3 => ∃ (r : Nat) (F8 : Foot) (d : Dsk) (ka : Option Addr) (kcap : Nat) (ks : List Bool), v47 = .int .i64 (r : Int) ∧ r ≤ 2 ∧ v6 = .slice ka ks.length kcap ∧ KeepAt w3 v6 ks ∧ (∀ g, keepBlk v6 ks = some g → ¬ F8.own g ∧ g < w3.heap.size) ∧ Made w w3 b F8 d ∧ (∀ f, (crashM d ks).now f = d1.now f) ∧ d.Small 102400 ∧ ks.length ≤ 102400 ∧ w3.heap[WB]? = some (.cells (strs A 8).toArray 38 (0, 0)) ∧ ¬ F8.own WB) (fun v47 _ _ => 2 - (intOf v47).toNat)
            case atStart =>
              refine ⟨0, F7, d1, some ⟨KB, 0, none⟩, j, List.replicate j true, rfl, by omega, by rw [hrl], ?_, fun g hg => ?_, M12.out, HAcr.out, HSc.out, by rw [hrl]; exact hn1, Hbw.out, HWo.out.1⟩
              · have h := HKeep.out; rw [hrl] at h; exact h
              · unfold keepBlk at hg
                split at hg
                · cases hg
                · cases hg
                  exact ⟨HKo.out.1, HKlt.out⟩
            case round =>
              obtain ⟨r, F8, d, ka, kcap, ks, rfl, hr2, rfl, hkeep, hkb, hm, hcn, hsm, hkl, hbw, hno⟩ := hrel
              have CR := hid (crash_any hm.disk _ ks hkeep hkb (hsm.mono (by omega)) (by omega))
              have M13 := hid hm
              have HC := hid hcn
              have HS := hid hsm
              have Hbw3 := hid hbw
              have Hno := hid hno
              clear hkeep hkb hm hcn hsm hkl hbw hno M12 Hbw Hbk HKeep HKlt M11 HW11 Hk11 hrl
              by_cases hlt : r < 2
              · have hlt2 : decide ((r : Int) < 2) = true := by simp; omega
                have HL0 := hid (show ((crashM d ks).loose.length : Int) = 0 from rfl)
                go_wp2_with (first
                  | (go_at_call 17; refine (CR.out).mono ?_; rintro e w14 ⟨rfl, hd⟩; obtain ⟨F14, hm, hkp⟩ := M13.out.did2 hd; have M14 := hid hm; have Hb14 := hid ((hkp WB (lt_of_block Hbw3.out) Hno.out).1.trans Hbw3.out); have Hno14 := hid (hkp WB (lt_of_block Hbw3.out) Hno.out).2; clear hd hm hkp CR M13)
                  | (go_at_call 18; refine (loose_any M14.out.disk).mono ?_; rintro e w15 ⟨rfl, rfl⟩; rw [HL0.out])
                  | go_in)
                go_loopw [58] (fun v58 w4 => ∃ q : Nat, v58 = .int .i64 (q : Int) ∧ q ≤ 8 ∧ Made w w4 b F14 (crashM d ks) ∧ w4.heap[WB]? = some (.cells (strs A 8).toArray 38 (0, 0))) (fun v58 _ => 8 - (intOf v58).toNat)
                case atStart => exact ⟨0, rfl, by omega, M14.out, Hb14.out⟩
                case round =>
                  obtain ⟨q, rfl, hq8, hm, hbw⟩ := hrel
                  have M16 := hid hm
                  have Hb16 := hid hbw
                  clear hm hbw M14 Hb14
                  by_cases hlt : q < 8
                  · have hlt2 : decide ((q : Int) < 8) = true := by simp; omega
                    have hlt3 : (q : Int) < 8 := by omega
                    have HQ := hid (show allM (crashM d ks) (q : Int) = A q from by rw [← HAf.out, allM_on hlt rfl, allM_on hlt Hoc.out, HC.out])
                    go_upto_region 28 with fail
                    refine wp_region_held_drew (S := fun W => Below wr.heap.size wr W) (by kernel_rfl) ((Below.refl _ _).drew) (fun hHeld => ?_)
                    refine held_take (v := ?pvb0) 0 rfl (by kernel_rfl) (by kernel_rfl) (by kernel_rfl) (fun _ _ _ h => h) (by rfl) hHeld ?pyb0 ?prb0
                    case pyb0 => (intro W hSw; go_simp; with_reducible rfl)
                    simp only [Act.put, List.setIfInBounds_toArray, List.set_cons_zero, List.set_cons_succ]
                    refine held_take (v := ?pvb1) 1 rfl (by kernel_rfl) (by kernel_rfl) (by kernel_rfl) (fun _ _ _ h => h) (by rfl) hHeld ?pyb1 ?prb1
                    case pyb1 => (intro W hSw; go_simp; with_reducible rfl)
                    simp only [Act.put, List.setIfInBounds_toArray, List.set_cons_zero, List.set_cons_succ]
                    refine held_take (v := ?pvb3) 3 rfl (by kernel_rfl) (by kernel_rfl) (by kernel_rfl) (fun _ _ _ h => h) (by rfl) hHeld ?pyb3 ?prb3
                    case pyb3 => (intro W hSw; go_simp; with_reducible rfl)
                    simp only [Act.put, List.setIfInBounds_toArray, List.set_cons_zero, List.set_cons_succ]
                    refine held_take (v := ?pvb4) 4 rfl (by kernel_rfl) (by kernel_rfl) (by kernel_rfl) (fun _ _ _ h => h) (by rfl) hHeld ?pyb4 ?prb4
                    case pyb4 => (intro W hSw; go_simp; with_reducible rfl)
                    simp only [Act.put, List.setIfInBounds_toArray, List.set_cons_zero, List.set_cons_succ]
                    refine held_take (v := .string (bs (A q))) 5 rfl (by kernel_rfl) (by kernel_rfl) (by kernel_rfl) (fun _ _ _ h => h) (by rfl) hHeld ?pyb5 ?prb5
                    case pyb5 => (intro W hSw; have yy : W.cell? ⟨WB, q, none⟩ = some (.string (bs (A q))) := (by rw [cell_of_block ((hSw.block WB (lt_of_block Hb16.out)).trans Hb16.out), strs_get A hlt, if_pos hlt]); go_simp)
                    simp only [Act.put, List.setIfInBounds_toArray, List.set_cons_zero, List.set_cons_succ]
                    refine held_one 2 (by kernel_rfl) rfl (fun K hK => ?_)
                    go_simp
                    refine (all_any (M16.out.disk.below (Below.refl _ _).drew) (q : Int)).mono ?_
                    rintro e w17 ⟨rfl, hb⟩
                    try dsimp only
                    rw [HQ.out]
                    have M17 := hid (M16.out.under (below_undrew hb))
                    have Hb17 := hid (((below_undrew hb).block WB (lt_of_block Hb16.out)).trans Hb16.out)
                    refine hK.out _ _ (below_undrew hb) (fun hHeld => ?_)
                    clear hK K hb
                    try simp only [Act.put, List.setIfInBounds_toArray, List.set_cons_zero, List.set_cons_succ]
                    refine held_take (v := ?pvb6) 6 rfl (by kernel_rfl) (by kernel_rfl) (by kernel_rfl) (fun _ _ _ h => h) (by rfl) hHeld ?pyb6 ?prb6
                    case pyb6 => (intro W hSw; go_simp; with_reducible rfl)
                    simp only [Act.put, List.setIfInBounds_toArray, List.set_cons_zero, List.set_cons_succ]
                    refine wpAnyH_done (by kernel_rfl) ?_ _
                    clear hHeld
                    go_wp2_with fail
                    go_roundw
                    case rel => exact ⟨q + 1, by simp, by omega, M17.out, Hb17.out⟩
                    case measure => simp [intOf]; omega
                  · obtain rfl : q = 8 := by omega
                    go_wp2_with fail
                    go_roundw
                    case rel =>
                      refine ⟨r + 1, F14, crashM d ks, none, 0, [], by simp, by omega, rfl, ⟨none, 0, rfl, .inl rfl⟩, (fun g hg => by cases hg), M16.out, fun f => ?_, crash_small HS.out, by simp, Hb16.out, Hno14.out⟩
                      rw [crash_twice]
                      exact HC.out f
                    case measure => simp [intOf]; omega
              · obtain rfl : r = 2 := by omega
                go_wp2_with fail
                go_ret
                exact ⟨rfl, M13.out.below⟩
end
end Go.Proofs.Ytifgnhbbcpmaiaa
