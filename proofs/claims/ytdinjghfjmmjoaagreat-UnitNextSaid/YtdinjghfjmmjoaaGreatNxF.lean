/- References of units: Unit. -/
import Derived.Test.YtdinjghfjmmjoaaGreatNxE
set_option linter.unusedVariables false
set_option linter.unusedSimpArgs false
namespace Go.Proofs.YtdinjghfjmmjoaaGreat
open Go.RowKit Go.Maps
set_option maxRecDepth 20000
def IntsAt (W : World) (va : Value) (at' : List Int) : Prop := ∃ aoa capa, va = .slice aoa at'.length capa ∧ ∀ j (hj : j < at'.length), ∃ q o, aoa = some ⟨q, o, none⟩ ∧ q < W.heap.size ∧ W.cell? ⟨q, o + j, none⟩ = some (.int .i64 at'[j])
theorem unitI_take (L : List (List UInt8)) (at' : List Int) (i : Nat) (h : i < L.length) : unitI (L.take (i + 1)) at' = unitI (L.take i) at' ++ (if ((i : Int) + 1) ∈ at' then [⟨(i : Int) + 1, L[i]⟩] else []) := by
  unfold unitI
  rw [imgsOf_take L i h, List.filter_append]
  congr 1
  by_cases e : ((i : Int) + 1) ∈ at'
  · rw [if_pos e]; simp [e]
  · rw [if_neg e]; simp [e]
theorem unitI_len (L : List (List UInt8)) (at' : List Int) (i : Nat) : (unitI (L.take i) at').length ≤ i := by
  unfold unitI
  refine Nat.le_trans (List.length_filter_le _ _) ?_
  rw [imgsOf_length, List.length_take]
  omega
section
variable {w W W' : World} {L : List (List UInt8)} {at' : List Int}
set_option maxHeartbeats 8000000 in
set_option maxRecDepth 20000 in
theorem runit_any {base : Nat} {vs va : Value} (h : StrRow W base vs L) (ha : IntsAt W va at') (hl : L.length ≤ 256) (hal : at'.length ≤ 1000) (ep k : Int) :
    Calls Tryz.prog 23 #[vs, va, .int .u64 ep, .int .u64 k] W fun e w' => ∃ v, e = .returned (shipV ⟨1, ep, k, false, (L.length : Int), unitI L at'⟩ v) ∧ ImgRow w' W.heap.size v (unitI L at') ∧ Below W.heap.size W w' := by
  have hz := heap_alloc_new W (.cells #[.int .u8 0, .int .u64 0, .int .u64 0, .bool false, .int .i64 0, .slice none 0 0] 31)
  have hb := (Below.refl W.heap.size W).alloc (Nat.le_refl _) (.cells #[.int .u8 0, .int .u64 0, .int .u64 0, .bool false, .int .i64 0, .slice none 0 0] 31)
  obtain ⟨ao, cap, rfl, hc⟩ := h.shape
  obtain ⟨aoa, capa, rfl, hca⟩ := ha
  have hcell := fun (W2 : World) (hb2 : Below W.heap.size W W2) (i : Nat) (hi : i < L.length) => (show ∃ q, ao = some ⟨q, 0, none⟩ ∧ q < W.heap.size ∧ W2.cell? ⟨q, i, none⟩ = some (.string (bs L[i])) from by
    obtain ⟨q, e, c⟩ := hc i hi
    have hq := World.block_lt_of_cell? W ⟨q, i, none⟩ c
    exact ⟨q, e, hq, (hb2.cell (p := ⟨q, i, none⟩) hq).trans c⟩)
  have hcella := fun (W2 : World) (hb2 : Below W.heap.size W W2) (j : Nat) (hj : j < at'.length) => (show ∃ q o, aoa = some ⟨q, o, none⟩ ∧ W2.cell? ⟨q, o + j, none⟩ = some (.int .i64 at'[j]) from by
    obtain ⟨q, o, e, hq, c⟩ := hca j hj
    exact ⟨q, o, e, (hb2.cell (p := ⟨q, o + j, none⟩) hq).trans c⟩)
  obtain ⟨P, hP⟩ : ∃ P, P = L.length := ⟨_, rfl⟩
  obtain ⟨Q, hQ⟩ : ∃ Q, Q = at'.length := ⟨_, rfl⟩
  rw [← hP]
  try rw [← hQ]
  rw [← hP] at hl
  rw [← hQ] at hal
  have HC := hid hcell
  have HCA := hid hcella
  have Hz := hid hz
  have HB := hid hb
  have HP := hid hP
  have HQ := hid hQ
  clear h hc hca hcell hcella hz hb hP hQ
  go_enter Tryz.func23, Tryz.ntmps23
  go_wp2_with fail
  obtain ⟨w2, hw2⟩ : ∃ w2, w2 = W.alloc (.cells #[.int .u8 0, .int .u64 0, .int .u64 0, .bool false, .int .i64 0, .slice none 0 0] 31) := ⟨_, rfl⟩
  have hbx := heap_alloc_new w2 (.cells #[.int .u8 1, .int .u64 ep, .int .u64 k, .bool false, .int .i64 (P : Int), .slice none 0 0] 31)
  have hb3 := (Below.refl w2.heap.size w2).alloc (Nat.le_refl _) (.cells #[.int .u8 1, .int .u64 ep, .int .u64 k, .bool false, .int .i64 (P : Int), .slice none 0 0] 31)
  have hszw : w2.heap.size = W.heap.size + 1 := by simp [hw2]
  obtain ⟨M, hM⟩ : ∃ M, M = w2.heap.size := ⟨_, rfl⟩
  have HBW2 := hid (show Below W.heap.size W w2 by rw [hw2]; exact HB.out)
  have hzw2 := Hz.out
  rw [← hw2] at hzw2
  have HzW2 := hid hzw2
  obtain ⟨w3, hw3⟩ : ∃ w3, w3 = w2.alloc (.cells #[.int .u8 1, .int .u64 ep, .int .u64 k, .bool false, .int .i64 (P : Int), .slice none 0 0] 31) := ⟨_, rfl⟩
  rw [← hw2, ← hw3]
  rw [← hw3] at hbx hb3
  rw [← hM] at hbx
  have hM1 : W.heap.size + 1 = M := by omega
  try rw [hM1]
  have HM := hid hM
  have HB3 := hid hb3
  have HBX := hid hbx
  obtain ⟨i0, hi, hz0, hz1, hz2⟩ := info_parts (P := Tryz.prog) (e := 35) (z := .agg #[.int .i64 0, .string ⟨#[]⟩]) (size := 2) (bytes := 24) (by kernel_rfl)
  clear hbx hb3 hw3 hM hw2 hszw hM1
  go_loopw [10] (fun v10 wr => ∃ (i : Nat) (vi : Value), i ≤ P ∧ v10 = .int .i64 ((i : Int) + 1) ∧ wr.heap[M]? = some (.cells #[.int .u8 1, .int .u64 ep, .int .u64 k, .bool false, .int .i64 (P : Int), vi] 31 (0, 0)) ∧ ImgRow wr w2.heap.size vi (unitI (L.take i) at') ∧ Below w2.heap.size w2 wr) (fun v10 _ => P + 1 - (intOf v10).toNat)
  case atStart => exact ⟨0, .slice none 0 0, Nat.zero_le _, rfl, HBX.out, imgRow_nil _ _, HB3.out⟩
  case round =>
    obtain ⟨i, vi, hi1, rfl, hMr, hrow, hbw⟩ := hrel
    obtain ⟨wo, hwo⟩ : ∃ wo, wo = wr := ⟨_, rfl⟩
    subst hwo
    have HBw := hid hbw
    have Hrow := hid hrow
    have HMr := hid hMr
    have hbW : Below W.heap.size W wo := HBW2.out.trans (hbw.mono HBW2.out.size)
    have HBW := hid hbW
    have hneM : vi.ownBlock ≠ some M := row_type hrow hMr (by decide)
    have HneM := hid hneM
    have hMl := lt_of_block hMr
    by_cases hlt : i < P
    · have hwi : IntKind.i64.wrap ((i : Int) + 1 + 1) = (i : Int) + 1 + 1 := IntWalk.i64_in _ (by omega)
      have hlti : (i : Int) + 1 ≤ (P : Int) := by omega
      clear hrow hbw hMr hbW hneM
      go_wp2_with fail
      go_loopw [11] (fun v11 wr2 => ∃ j : Nat, j ≤ Q ∧ v11 = .int .i64 (j : Int) ∧ wr2 = wo ∧ ∀ x ∈ at'.take j, x ≠ (i : Int) + 1) (fun v11 _ => Q - (intOf v11).toNat)
      case atStart => exact ⟨0, Nat.zero_le _, rfl, rfl, fun x hx => by simp at hx⟩
      case round =>
        obtain ⟨j, hj1, rfl, hw', hno⟩ := hrel
        obtain rfl := hw'.symm
        have Hno := hid hno
        clear hno
        have hbW := HBW.out
        by_cases hjq : j < Q
        · have hjL : j < at'.length := by have := HQ.out; omega
          obtain ⟨qa, oa, rfl, ca⟩ := HCA.out _ hbW j hjL
          have htk := hid (List.take_succ_eq_append_getElem hjL)
          have hmem := hid (List.getElem_mem hjL)
          obtain ⟨x, hx⟩ : ∃ x, x = at'[j] := ⟨_, rfl⟩
          rw [← hx] at ca htk hmem
          have hjqi : (j : Int) < (Q : Int) := by omega
          have hwj : IntKind.i64.wrap ((j : Int) + 1) = (j : Int) + 1 := IntWalk.i64_in _ (by omega)
          by_cases hxe : x = (i : Int) + 1
          · subst hxe
            have bx : ((i : Int) + 1 == (i : Int) + 1) = true := by simp
            have hiL : i < L.length := by have := HP.out; omega
            obtain ⟨q, rfl, hq, cq⟩ := HC.out _ hbW i hiL
            obtain ⟨s, hs⟩ : ∃ s, s = L[i] := ⟨_, rfl⟩
            rw [← hs] at cq
            have Hs := hid hs
            have hws : IntKind.i64.wrap (i : Int) = (i : Int) := IntWalk.i64_in _ (by omega)
            have hlti2 : (i : Int) < (P : Int) := by omega
            have Hmem := hmem
            obtain ⟨-, -, -, -, -, n5, nf⟩ := cells6 HMr.out
            clear hbW hx hs htk
            go_upto_region 9 with fail
            have hS : wo.cell? ⟨M, 5, none⟩ = some vi ∧ wo.cell? ⟨q, i, none⟩ = some (.string (bs s)) := ⟨n5, cq⟩
            obtain ⟨ao2, cap2, hvi, -⟩ := Hrow.out.get
            subst hvi
            have HTL := hid (unitI_len L at' i)
            have HS := hid hS
            clear n5 nf cq
            refine wp_region_last 12 (fun Wx => Wx.cell? ⟨M, 5, none⟩ = some (.slice ao2 (unitI (L.take i) at').length cap2) ∧ Wx.cell? ⟨q, i, none⟩ = some (.string (bs s))) (by kernel_rfl) hS (fun hHeld => ?_)
            clear hS
            refine last_take (v := ?bv0) 0 rfl (by kernel_rfl) (by kernel_rfl) (by kernel_rfl) (by kernel_rfl) (fun _ _ _ h => h) (by rfl) hHeld ?by0 ?br0
            case by0 => (intro W hSw; obtain ⟨y0, y1⟩ := hSw; go_simp; with_reducible rfl)
            simp only [Act.put, List.setIfInBounds_toArray, List.set_cons_zero, List.set_cons_succ]
            refine last_take (v := ?bv1) 1 rfl (by kernel_rfl) (by kernel_rfl) (by kernel_rfl) (by kernel_rfl) (fun _ _ _ h => h) (by rfl) hHeld ?by1 ?br1
            case by1 => (intro W hSw; obtain ⟨y0, y1⟩ := hSw; go_simp; with_reducible rfl)
            simp only [Act.put, List.setIfInBounds_toArray, List.set_cons_zero, List.set_cons_succ]
            refine last_take (v := ?bv2) 2 rfl (by kernel_rfl) (by kernel_rfl) (by kernel_rfl) (by kernel_rfl) (fun _ _ _ h => h) (by rfl) hHeld ?by2 ?br2
            case by2 => (intro W hSw; obtain ⟨y0, y1⟩ := hSw; go_simp; with_reducible rfl)
            simp only [Act.put, List.setIfInBounds_toArray, List.set_cons_zero, List.set_cons_succ]
            refine last_take (v := ?bv3) 3 rfl (by kernel_rfl) (by kernel_rfl) (by kernel_rfl) (by kernel_rfl) (fun _ _ _ h => h) (by rfl) hHeld ?by3 ?br3
            case by3 => (intro W hSw; obtain ⟨y0, y1⟩ := hSw; go_simp; with_reducible rfl)
            simp only [Act.put, List.setIfInBounds_toArray, List.set_cons_zero, List.set_cons_succ]
            refine last_take (v := ?bv4) 4 rfl (by kernel_rfl) (by kernel_rfl) (by kernel_rfl) (by kernel_rfl) (fun _ _ _ h => h) (by rfl) hHeld ?by4 ?br4
            case by4 => (intro W hSw; obtain ⟨y0, y1⟩ := hSw; go_simp; with_reducible rfl)
            simp only [Act.put, List.setIfInBounds_toArray, List.set_cons_zero, List.set_cons_succ]
            refine last_take (v := ?bv5) 5 rfl (by kernel_rfl) (by kernel_rfl) (by kernel_rfl) (by kernel_rfl) (fun _ _ _ h => h) (by rfl) hHeld ?by5 ?br5
            case by5 => (intro W hSw; obtain ⟨y0, y1⟩ := hSw; go_simp; with_reducible rfl)
            simp only [Act.put, List.setIfInBounds_toArray, List.set_cons_zero, List.set_cons_succ]
            refine last_take (v := ?bv6) 6 rfl (by kernel_rfl) (by kernel_rfl) (by kernel_rfl) (by kernel_rfl) (fun _ _ _ h => h) (by rfl) hHeld ?by6 ?br6
            case by6 => (intro W hSw; obtain ⟨y0, y1⟩ := hSw; go_simp; with_reducible rfl)
            simp only [Act.put, List.setIfInBounds_toArray, List.set_cons_zero, List.set_cons_succ]
            refine last_take (v := ?bv7) 7 rfl (by kernel_rfl) (by kernel_rfl) (by kernel_rfl) (by kernel_rfl) (fun _ _ _ h => h) (by rfl) hHeld ?by7 ?br7
            case by7 => (intro W hSw; obtain ⟨y0, y1⟩ := hSw; go_simp; with_reducible rfl)
            simp only [Act.put, List.setIfInBounds_toArray, List.set_cons_zero, List.set_cons_succ]
            refine last_take (v := ?bv8) 8 rfl (by kernel_rfl) (by kernel_rfl) (by kernel_rfl) (by kernel_rfl) (fun _ _ _ h => h) (by rfl) hHeld ?by8 ?br8
            case by8 => (intro W hSw; obtain ⟨y0, y1⟩ := hSw; go_simp; with_reducible rfl)
            simp only [Act.put, List.setIfInBounds_toArray, List.set_cons_zero, List.set_cons_succ]
            refine last_one 9 (by kernel_rfl) rfl (fun K hK => ?_)
            go_simp
            have hn5 := heap_alloc_new wo.drew (.cells #[.int .i64 ((i : Int) + 1), .string (bs s)] 35)
            have hb5 : Below wo.heap.size wo (wo.drew.alloc (.cells #[.int .i64 ((i : Int) + 1), .string (bs s)] 35)) := ((Below.refl _ wo).drew).alloc (Nat.le_refl _) _
            have hs5 : (wo.drew.alloc (.cells #[.int .i64 ((i : Int) + 1), .string (bs s)] 35)).heap.size = wo.heap.size + 1 := by simp
            have hw5e : (wo.alloc (.cells #[.int .i64 ((i : Int) + 1), .string (bs s)] 35)).drew = wo.drew.alloc (.cells #[.int .i64 ((i : Int) + 1), .string (bs s)] 35) := rfl
            obtain ⟨w5, hw5⟩ : ∃ w5, w5 = (wo.alloc (.cells #[.int .i64 ((i : Int) + 1), .string (bs s)] 35)).drew := ⟨_, rfl⟩
            rw [← hw5e, ← hw5] at hn5 hb5 hs5
            try rw [← hw5]
            have hS5 : w5.cell? ⟨M, 5, none⟩ = some (.slice ao2 (unitI (L.take i) at').length cap2) ∧ w5.cell? ⟨q, i, none⟩ = some (.string (bs s)) := ⟨(hb5.cell (p := ⟨M, 5, none⟩) hMl).trans HS.out.1, (hb5.cell (p := ⟨q, i, none⟩) (Nat.lt_of_lt_of_le hq HBW.out.size)).trans HS.out.2⟩
            have hrow5 : ImgRow w5 w2.heap.size (.slice ao2 (unitI (L.take i) at').length cap2) (unitI (L.take i) at') := Hrow.out.below hb5
            have HB5 := hid hb5
            have HM5 := hid ((hb5.block M hMl).trans HMr.out)
            clear hw5 hw5e hb5
            refine hK.out _ _ (fun _ => hS5) (fun hHeld => ?_)
            have hHeld := hHeld (by decide)
            clear hK K
            try simp only [Act.put, List.setIfInBounds_toArray, List.set_cons_zero, List.set_cons_succ]
            refine last_one 10 (by kernel_rfl) rfl (fun K hK => ?_)
            refine step_append_lies _ (by rfl) _ _ 29 (by rfl) w2.heap.size 35 i0 _ 2 24 Tryz.underlying29 hi hz0 hz1 hz2 rfl (by omega) (.slice ao2 (unitI (L.take i) at').length cap2) (unitI (L.take i) at').length (imgsV (unitI (L.take i) at')) (by rfl) hrow5 ⟨wo.heap.size, 0, none⟩ 1 1 (imgCells ⟨(i : Int) + 1, s⟩) (by rfl) (by rfl) (World.news_of_block (w := w5) (cs := #[.int .i64 ((i : Int) + 1), .string (bs s)]) (t := 35) (fr := (0, 0)) hn5) (imgCells_one _) (by omega) (by unfold maxLen; have := HTL.out; omega) (by have := HTL.out; omega) (by have := HBw.out.size; omega) (wo.heap.size + 1) hs5 ?_
            intro gq cq w7 hown7 hgrow7 hat7 hlt7
            have hM7 := (hgrow7.block M (Nat.lt_of_lt_of_le hMl HB5.out.size) (fun e => HneM.out e.symm)).trans HM5.out
            have hqo : (Value.slice ao2 (unitI (L.take i) at').length cap2).ownBlock ≠ some q := fun e => by
              have h1 := (row_base Hrow.out e).1
              have h2 := HBW2.out.size
              omega
            have hS7 : w7.cell? ⟨M, 5, none⟩ = some (.slice ao2 (unitI (L.take i) at').length cap2) ∧ w7.cell? ⟨q, i, none⟩ = some (.string (bs s)) := ⟨(cell_of_block hM7 5).trans rfl, (World.cell?_of_block (a := ⟨q, i, none⟩) (hgrow7.block q (Nat.lt_of_lt_of_le (Nat.lt_of_lt_of_le hq HBW.out.size) HB5.out.size) (fun e => hqo e.symm))).trans hS5.2⟩
            have HM7 := hid hM7
            have Hown7 := hid hown7
            have Hgrow7 := hid hgrow7
            have f7 := free_of_block hM7 5
            have m75 := hS7.1
            clear hM7 hown7 hgrow7 hat7 hlt7 hqo hS5 hrow5 hn5 hs5
            refine hK.out _ _ (fun _ => hS7) (fun hHeld => ?_)
            have hHeld := hHeld (by decide)
            clear hK K
            try simp only [Act.put, List.setIfInBounds_toArray, List.set_cons_zero, List.set_cons_succ]
            refine last_take (v := ?cv11) 11 rfl (by kernel_rfl) (by kernel_rfl) (by kernel_rfl) (by kernel_rfl) (fun _ _ _ h => h) (by rfl) hHeld ?cy11 ?cr11
            case cy11 => (intro W hSw; obtain ⟨y0, y1⟩ := hSw; go_simp; with_reducible rfl)
            simp only [Act.put, List.setIfInBounds_toArray, List.set_cons_zero, List.set_cons_succ]
            clear hS7
            refine last_one 12 (by kernel_rfl) rfl (fun K hK => ?_)
            go_simp
            refine hK.out _ _ (fun e => absurd rfl e) (fun _ => ?_)
            clear hK K hHeld
            try simp only [Act.put, List.setIfInBounds_toArray, List.set_cons_zero, List.set_cons_succ]
            refine wpAnyL_done (by kernel_rfl) ?_ _
            clear f7 m75
            go_wp2_with fail
            go_roundw
            case rel =>
              refine ⟨i + 1, _, hlt, by simp, (heap_setCell_same HM7.out 5 _).trans rfl, ?_, ?_⟩
              · have hn7 := row_type Hown7.out HM7.out (by decide)
                have := row_keep (w' := w7.setCell ⟨M, 5, none⟩ (.slice (some ⟨gq, 0, none⟩) ((unitI (L.take i) at').length + 1) cq)) Hown7.out (fun x hx => Below.heap_setCell _ ⟨M, 5, none⟩ _ x (fun e => hn7 (by rw [hx]; exact congrArg some e)))
                unfold ImgRow
                rw [unitI_take L at' i (by have := HP.out; omega), if_pos Hmem.out, imgsV_snoc, List.length_append, ← Hs.out]
                exact this
              · exact (((HBw.out.trans (HB5.out.mono HBw.out.size))).grown Hgrow7.out (by have h1 := HBw.out.size; have h2 := HB5.out.size; omega) (fun j hj => (row_base Hrow.out hj).1)).setCell (Nat.le_of_eq HM.out.symm) _
            case measure => (simp [intOf]) <;> omega
          · have bx : (x == (i : Int) + 1) = false := by simpa using hxe
            have Hxe := hid hxe
            clear hbW hx hxe
            go_wp2_with fail
            go_roundw
            case rel => exact ⟨j + 1, hjq, by simp, by first | trivial | rfl, fun y hy => by
              rw [htk.out] at hy
              rcases List.mem_append.1 hy with h1 | h1
              · exact Hno.out y h1
              · rw [List.mem_singleton.1 h1]; exact Hxe.out⟩
            case measure => (simp [intOf]) <;> omega
        · obtain rfl : Q = j := by omega
          have hgo : ¬ ((Q : Int) < (Q : Int)) := by omega
          have hnm : ¬ ((i : Int) + 1) ∈ at' := fun e => Hno.out _ (by rw [HQ.out, List.take_length]; exact e) rfl
          have Hnm := hid hnm
          clear hbW hnm
          go_wp2_with fail
          go_roundw
          case rel =>
            refine ⟨i + 1, vi, hlt, by simp, HMr.out, ?_, HBw.out⟩
            rw [unitI_take L at' i (by have := HP.out; omega), if_neg Hnm.out, List.append_nil]
            exact Hrow.out
          case measure => (simp [intOf]) <;> omega
    · obtain rfl : P = i := by omega
      have hzr := (HBw.out.block W.heap.size (lt_of_block HzW2.out)).trans HzW2.out
      obtain ⟨z0, z1, z2, z3, z4, z5, zf⟩ := cells6 hzr
      have hzl := lt_of_block hzr
      have hvz : vi.ownBlock ≠ some W.heap.size := fun e => by
        have h1 := (row_base hrow e).1
        have h2 := lt_of_block HzW2.out
        omega
      have hlist : L.take P = L := by rw [HP.out]; exact List.take_length
      rw [hlist] at hrow
      obtain ⟨ao2, cap2, rfl, -⟩ := hrow.get
      have HrowL := hid hrow
      have Hvz := hid hvz
      obtain ⟨n0, n1, n2, n3, n4, n5, nf⟩ := cells6 hMr
      clear hrow hbw hMr hbW hneM hlist hzr hvz
      have hgo : ¬ ((P : Int) + 1 ≤ (P : Int)) := by omega
      go_wp2_with fail
      refine bodyPost_ret (v := shipV ⟨1, ep, k, false, (P : Int), unitI L at'⟩ (.slice ao2 (unitI L at').length cap2)) (by simp [results, Tryz.results23, go_sem, shipV, z0, z1, z2, z3, z4, z5, zf]) rfl ?_
      have hle : W.heap.size ≤ w2.heap.size := HBW2.out.size
      refine ⟨_, rfl, ?_, ?_⟩
      · have hf := six_set wo W.heap.size (.int .u8 1) (.int .u64 ep) (.int .u64 k) (.bool false) (.int .i64 (P : Int)) (.slice ao2 (unitI L at').length cap2) (fun j => j = W.heap.size) wo (Frm.refl _ _) (.inl rfl)
        exact row_lower (row_keep HrowL.out (fun x hx => hf.block x (row_base HrowL.out hx).2 (fun e => Hvz.out (by rw [hx, e])))) hle
      · iterate 6 refine Below.setCell ?_ (by exact Nat.le_refl _) _
        exact HBW.out
end
end Go.Proofs.YtdinjghfjmmjoaaGreat
