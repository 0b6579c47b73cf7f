import Derived.Test.YtdinjghfjmmjoaaGreatSpY
import Derived.Test.YtdinjghfjmmjoaaGreatUsC
import Derived.Test.YtdinjghfjmmjoaaGreatUnF
import Derived.Test.YtdinjghfjmmjoaaGreatDbB
import Derived.Test.YtdinjghfjmmjoaaGreatLast
import Derived.Deep.AppendLies
set_option linter.unusedVariables false
set_option linter.unusedSimpArgs false
namespace Go.Proofs.YtdinjghfjmmjoaaGreat
open Go.RowKit Go.Maps
set_option maxRecDepth 20000
theorem good_commits {L : List (List UInt8)} (h : Good L) : L = [] ∨ ∃ s M hd, L = s :: M ∧ takeH s = (hd, 0) ∧ commL L = hd.commits ∧ s.length = 512 ∧ hd.Wf := by
  rcases h with rfl | ⟨h, M, rfl, hh⟩
  · exact .inl rfl
  · refine .inr ⟨hdrPg h, M, h, rfl, takeH_put hh.may hh.wf, ?_, hdrPg_length _ hh.wf.len, hh.wf⟩
    show (takeH (hdrPg h)).1.commits = _
    rw [takeH_put hh.may hh.wf]
section
variable {w W W' : World}
set_option maxHeartbeats 2000000 in
set_option maxRecDepth 20000 in
theorem rcommits_cons {base : Nat} {v : Value} {s : List UInt8} {M : List (List UInt8)} (h : StrRow W base v (s :: M)) (hs : s.length ≤ 9223372036854775807) (hl : M.length ≤ 1000) :
    Calls Tryz.prog 26 #[v] W fun e w' => e = .returned (.tuple #[.int .u64 (takeH s).1.commits, .bool ((takeH s).2 == 0)]) ∧ Below W.heap.size W w' := by
  obtain ⟨ao, cap, rfl, hc⟩ := h.shape
  obtain ⟨q, rfl, c0⟩ := hc 0 (by simp)
  simp only [List.getElem_cons_zero] at c0
  have TK := rtake_any s hs W
  have hwf2 := (takeH_wf s).len
  obtain ⟨Q2, hQ2⟩ : ∃ Q2, Q2 = takeH s := ⟨_, rfl⟩
  rw [← hQ2] at TK hwf2 ⊢
  obtain ⟨H2, E2⟩ := Q2
  obtain ⟨f, c, kk, r0, r1, r2, r3, r4, r5, r6, r7, rfl⟩ := hdr_form hwf2
  unfold hdrV hdrCells at TK
  simp only [List.map_cons, List.map_nil] at TK
  have TK := hid TK
  obtain ⟨n, hn⟩ : ∃ n, n = (s :: M).length := ⟨_, rfl⟩
  have hn1 : 0 < n := by rw [hn]; simp
  have hn2 : n ≤ 1001 := by rw [hn]; simpa using hl
  have bn : ((n : Int) == 0) = false := by simp; omega
  rw [← hn]
  clear h hc hwf2 hQ2 hn
  go_enter Tryz.func26, Tryz.ntmps26
  go_wp2_with (first
    | (go_at_call 49; refine (TK.out).mono ?_; rintro e w1 ⟨rfl, hb1⟩; have HB1 := hid hb1; clear hb1)
    | go_in)
  go_ret2
  exact ⟨rfl, HB1.out.alloc HB1.out.size _⟩
set_option maxRecDepth 20000 in
theorem rcommits_nil {base : Nat} {v : Value} (h : StrRow W base v []) : Calls Tryz.prog 26 #[v] W fun e w' => e = .returned (.tuple #[.int .u64 0, .bool true]) ∧ Below W.heap.size W w' := by
  obtain ⟨ao, cap, rfl, -⟩ := h.shape
  clear h
  go_enter Tryz.func26, Tryz.ntmps26
  go_wp2_with fail
  go_ret2
  exact ⟨rfl, Below.refl _ _⟩
theorem rcommits_any {base : Nat} {v : Value} {L : List (List UInt8)} (h : StrRow W base v L) (hg : Good L) (hl : L.length ≤ 1000) : Calls Tryz.prog 26 #[v] W fun e w' => e = .returned (.tuple #[.int .u64 (commL L), .bool true]) ∧ Below W.heap.size W w' := by
  rcases good_commits hg with rfl | ⟨s, M, hd, rfl, h1, h2, h3, -⟩
  · exact rcommits_nil h
  · have := rcommits_cons h (by omega) (by simp at hl; omega)
    rw [h1] at this
    rw [h2]
    exact this
theorem imgsOf_take (L : List (List UInt8)) (i : Nat) (h : i < L.length) : imgsOf (L.take (i + 1)) = imgsOf (L.take i) ++ [⟨(i : Int) + 1, L[i]⟩] := by
  unfold imgsOf
  rw [List.take_succ_eq_append_getElem h, List.mapIdx_append, List.length_take, Nat.min_eq_left (by omega)]
  simp
theorem imgsOf_takeLen (L : List (List UInt8)) (i : Nat) (h : i ≤ L.length) : (imgsOf (L.take i)).length = i := by rw [imgsOf_length, List.length_take]; omega
set_option maxHeartbeats 8000000 in
set_option maxRecDepth 20000 in
theorem rfull_any {base : Nat} {vs : Value} {L : List (List UInt8)} (h : StrRow W base vs L) (hg : Good L) (hl : L.length ≤ 256) (ep : Int) :
    Calls Tryz.prog 22 #[vs, .int .u64 ep] W fun e w' => ∃ v, e = .returned (shipV ⟨1, ep, commL L, true, (L.length : Int), imgsOf L⟩ v) ∧ ImgRow w' W.heap.size v (imgsOf L) ∧ Below W.heap.size W w' := by
  have hz := heap_alloc_new W (.cells #[.int .u8 0, .int .u64 0, .int .u64 0, .bool false, .int .i64 0, .slice none 0 0] 31)
  have hb := (Below.refl W.heap.size W).alloc (Nat.le_refl _) (.cells #[.int .u8 0, .int .u64 0, .int .u64 0, .bool false, .int .i64 0, .slice none 0 0] 31)
  have h1 : StrRow (W.alloc (.cells #[.int .u8 0, .int .u64 0, .int .u64 0, .bool false, .int .i64 0, .slice none 0 0] 31)) base vs L := row_keep h (fun x hx => hb.block x (row_base h hx).2)
  have CM := rcommits_any h1 hg (by omega)
  obtain ⟨ao, cap, rfl, hc⟩ := h.shape
  have hcell := fun (W2 : World) (hb2 : Below W.heap.size W W2) (i : Nat) (hi : i < L.length) => (show ∃ q, ao = some ⟨q, 0, none⟩ ∧ q < W.heap.size ∧ W2.cell? ⟨q, i, none⟩ = some (.string (bs L[i])) from by
    obtain ⟨q, e, c⟩ := hc i hi
    have hq := World.block_lt_of_cell? W ⟨q, i, none⟩ c
    exact ⟨q, e, hq, (hb2.cell (p := ⟨q, i, none⟩) hq).trans c⟩)
  obtain ⟨k, hk⟩ : ∃ k, k = commL L := ⟨_, rfl⟩
  obtain ⟨P, hP⟩ : ∃ P, P = L.length := ⟨_, rfl⟩
  rw [← hk] at CM
  rw [← hk, ← hP]
  rw [← hP] at CM hl
  have CM := hid CM
  have HC := hid hcell
  have Hz := hid hz
  have HB := hid hb
  have HP := hid hP
  clear h h1 hc hcell hz hb hk hP hg
  go_enter Tryz.func22, Tryz.ntmps22
  go_wp2_with (first
    | (go_at_call 26; refine (CM.out).mono ?_; rintro e w2 ⟨rfl, hb2⟩; have HB2 := hid hb2; clear hb2)
    | go_in)
  have hbx := heap_alloc_new w2 (.cells #[.int .u8 1, .int .u64 ep, .int .u64 k, .bool true, .int .i64 (P : Int), .slice none 0 0] 31)
  have hb3 := (Below.refl w2.heap.size w2).alloc (Nat.le_refl _) (.cells #[.int .u8 1, .int .u64 ep, .int .u64 k, .bool true, .int .i64 (P : Int), .slice none 0 0] 31)
  obtain ⟨M, hM⟩ : ∃ M, M = w2.heap.size := ⟨_, rfl⟩
  obtain ⟨w3, hw3⟩ : ∃ w3, w3 = w2.alloc (.cells #[.int .u8 1, .int .u64 ep, .int .u64 k, .bool true, .int .i64 (P : Int), .slice none 0 0] 31) := ⟨_, rfl⟩
  rw [← hw3] at hbx hb3 ⊢
  rw [← hM] at hbx ⊢
  have HM := hid hM
  have HB3 := hid hb3
  have HBX := hid hbx
  obtain ⟨i0, hi, hz0, hz1, hz2⟩ := info_parts (P := Tryz.prog) (e := 35) (z := .agg #[.int .i64 0, .string ⟨#[]⟩]) (size := 2) (bytes := 24) (by kernel_rfl)
  clear hbx hb3 hw3 hM CM
  go_loopw [8] (fun v8 wr => ∃ (i : Nat) (vi : Value), i ≤ P ∧ v8 = .int .i64 (i : Int) ∧ wr.heap[M]? = some (.cells #[.int .u8 1, .int .u64 ep, .int .u64 k, .bool true, .int .i64 (P : Int), vi] 31 (0, 0)) ∧ ImgRow wr w2.heap.size vi (imgsOf (L.take i)) ∧ Below w2.heap.size w2 wr) (fun v8 _ => P - (intOf v8).toNat)
  case atStart => exact ⟨0, .slice none 0 0, Nat.zero_le _, rfl, HBX.out, imgRow_nil _ _, HB3.out⟩
  case round =>
    obtain ⟨i, vi, hi1, rfl, hMr, hrow, hbw⟩ := hrel
    have HBw := hid hbw
    have Hrow := hid hrow
    have HMr := hid hMr
    have hbW : Below W.heap.size W wr := HB.out.trans ((HB2.out.trans (hbw.mono HB2.out.size)).mono HB.out.size)
    have HBW := hid hbW
    have hneM : vi.ownBlock ≠ some M := row_type hrow hMr (by decide)
    have HneM := hid hneM
    have hMl := lt_of_block hMr
    obtain ⟨n0, n1, n2, n3, n4, n5, nf⟩ := cells6 hMr
    by_cases hlt : i < P
    · have hiL : i < L.length := by have := HP.out; omega
      obtain ⟨q, rfl, hq, cq⟩ := HC.out wr hbW i hiL
      have hwi : IntKind.i64.wrap ((i : Int) + 1) = (i : Int) + 1 := IntWalk.i64_in _ (by omega)
      have hlti : (i : Int) < (P : Int) := by omega
      obtain ⟨s, hs⟩ : ∃ s, s = L[i] := ⟨_, rfl⟩
      rw [← hs] at cq
      have Hs := hid hs
      clear hrow hbw hMr hbW hneM n0 n1 n2 n3 n4 hs
      go_upto_region 6 with fail
      have hS : wr.cell? ⟨M, 5, none⟩ = some vi ∧ wr.cell? ⟨q, i, none⟩ = some (.string (bs s)) := ⟨n5, cq⟩
      obtain ⟨ao2, cap2, hvi, -⟩ := Hrow.out.get
      subst hvi
      have HTL := hid (imgsOf_takeLen L i (by have := HP.out; omega))
      have HS := hid hS
      clear n5 nf cq
      refine wp_region_last 12 (fun Wx => Wx.cell? ⟨M, 5, none⟩ = some (.slice ao2 (imgsOf (L.take i)).length cap2) ∧ Wx.cell? ⟨q, i, none⟩ = some (.string (bs s))) (by kernel_rfl) hS (fun hHeld => ?_)
      clear hS
      refine last_take (v := ?bv0) 0 rfl (by kernel_rfl) (by kernel_rfl) (by kernel_rfl) (by kernel_rfl) (fun _ _ _ h => h) (by rfl) hHeld ?by0 ?br0
      case by0 => (intro W hSw; obtain ⟨y0, y1⟩ := hSw; go_simp; with_reducible rfl)
      simp only [Act.put, List.setIfInBounds_toArray, List.set_cons_zero, List.set_cons_succ]
      refine last_take (v := ?bv1) 1 rfl (by kernel_rfl) (by kernel_rfl) (by kernel_rfl) (by kernel_rfl) (fun _ _ _ h => h) (by rfl) hHeld ?by1 ?br1
      case by1 => (intro W hSw; obtain ⟨y0, y1⟩ := hSw; go_simp; with_reducible rfl)
      simp only [Act.put, List.setIfInBounds_toArray, List.set_cons_zero, List.set_cons_succ]
      refine last_take (v := ?bv2) 2 rfl (by kernel_rfl) (by kernel_rfl) (by kernel_rfl) (by kernel_rfl) (fun _ _ _ h => h) (by rfl) hHeld ?by2 ?br2
      case by2 => (intro W hSw; obtain ⟨y0, y1⟩ := hSw; go_simp; with_reducible rfl)
      simp only [Act.put, List.setIfInBounds_toArray, List.set_cons_zero, List.set_cons_succ]
      refine last_take (v := ?bv3) 3 rfl (by kernel_rfl) (by kernel_rfl) (by kernel_rfl) (by kernel_rfl) (fun _ _ _ h => h) (by rfl) hHeld ?by3 ?br3
      case by3 => (intro W hSw; obtain ⟨y0, y1⟩ := hSw; go_simp; with_reducible rfl)
      simp only [Act.put, List.setIfInBounds_toArray, List.set_cons_zero, List.set_cons_succ]
      refine last_take (v := ?bv4) 4 rfl (by kernel_rfl) (by kernel_rfl) (by kernel_rfl) (by kernel_rfl) (fun _ _ _ h => h) (by rfl) hHeld ?by4 ?br4
      case by4 => (intro W hSw; obtain ⟨y0, y1⟩ := hSw; go_simp; with_reducible rfl)
      simp only [Act.put, List.setIfInBounds_toArray, List.set_cons_zero, List.set_cons_succ]
      refine last_take (v := ?bv5) 5 rfl (by kernel_rfl) (by kernel_rfl) (by kernel_rfl) (by kernel_rfl) (fun _ _ _ h => h) (by rfl) hHeld ?by5 ?br5
      case by5 => (intro W hSw; obtain ⟨y0, y1⟩ := hSw; go_simp; with_reducible rfl)
      simp only [Act.put, List.setIfInBounds_toArray, List.set_cons_zero, List.set_cons_succ]
      refine last_take (v := ?bv6) 6 rfl (by kernel_rfl) (by kernel_rfl) (by kernel_rfl) (by kernel_rfl) (fun _ _ _ h => h) (by rfl) hHeld ?by6 ?br6
      case by6 => (intro W hSw; obtain ⟨y0, y1⟩ := hSw; go_simp; with_reducible rfl)
      simp only [Act.put, List.setIfInBounds_toArray, List.set_cons_zero, List.set_cons_succ]
      refine last_take (v := ?bv7) 7 rfl (by kernel_rfl) (by kernel_rfl) (by kernel_rfl) (by kernel_rfl) (fun _ _ _ h => h) (by rfl) hHeld ?by7 ?br7
      case by7 => (intro W hSw; obtain ⟨y0, y1⟩ := hSw; go_simp; with_reducible rfl)
      simp only [Act.put, List.setIfInBounds_toArray, List.set_cons_zero, List.set_cons_succ]
      refine last_take (v := ?bv8) 8 rfl (by kernel_rfl) (by kernel_rfl) (by kernel_rfl) (by kernel_rfl) (fun _ _ _ h => h) (by rfl) hHeld ?by8 ?br8
      case by8 => (intro W hSw; obtain ⟨y0, y1⟩ := hSw; go_simp; with_reducible rfl)
      simp only [Act.put, List.setIfInBounds_toArray, List.set_cons_zero, List.set_cons_succ]
      refine last_one 9 (by kernel_rfl) rfl (fun K hK => ?_)
      go_simp
      have hn5 := heap_alloc_new wr.drew (.cells #[.int .i64 ((i : Int) + 1), .string (bs s)] 35)
      have hb5 : Below wr.heap.size wr (wr.drew.alloc (.cells #[.int .i64 ((i : Int) + 1), .string (bs s)] 35)) := ((Below.refl _ wr).drew).alloc (Nat.le_refl _) _
      have hs5 : (wr.drew.alloc (.cells #[.int .i64 ((i : Int) + 1), .string (bs s)] 35)).heap.size = wr.heap.size + 1 := by simp
      have hw5e : (wr.alloc (.cells #[.int .i64 ((i : Int) + 1), .string (bs s)] 35)).drew = wr.drew.alloc (.cells #[.int .i64 ((i : Int) + 1), .string (bs s)] 35) := rfl
      obtain ⟨w5, hw5⟩ : ∃ w5, w5 = (wr.alloc (.cells #[.int .i64 ((i : Int) + 1), .string (bs s)] 35)).drew := ⟨_, rfl⟩
      rw [← hw5e, ← hw5] at hn5 hb5 hs5
      try rw [← hw5]
      have hS5 : w5.cell? ⟨M, 5, none⟩ = some (.slice ao2 (imgsOf (L.take i)).length cap2) ∧ w5.cell? ⟨q, i, none⟩ = some (.string (bs s)) := ⟨(hb5.cell (p := ⟨M, 5, none⟩) hMl).trans HS.out.1, (hb5.cell (p := ⟨q, i, none⟩) (Nat.lt_of_lt_of_le hq HBW.out.size)).trans HS.out.2⟩
      have hrow5 : ImgRow w5 w2.heap.size (.slice ao2 (imgsOf (L.take i)).length cap2) (imgsOf (L.take i)) := Hrow.out.below hb5
      have HB5 := hid hb5
      have HM5 := hid ((hb5.block M hMl).trans HMr.out)
      clear hw5 hw5e hb5
      refine hK.out _ _ (fun _ => hS5) (fun hHeld => ?_)
      have hHeld := hHeld (by decide)
      clear hK K
      try simp only [Act.put, List.setIfInBounds_toArray, List.set_cons_zero, List.set_cons_succ]
      refine last_one 10 (by kernel_rfl) rfl (fun K hK => ?_)
      refine step_append_lies _ (by rfl) _ _ 29 (by rfl) w2.heap.size 35 i0 _ 2 24 Tryz.underlying29 hi hz0 hz1 hz2 rfl (by omega) (.slice ao2 (imgsOf (L.take i)).length cap2) (imgsOf (L.take i)).length (imgsV (imgsOf (L.take i))) (by rfl) hrow5 ⟨wr.heap.size, 0, none⟩ 1 1 (imgCells ⟨(i : Int) + 1, s⟩) (by rfl) (by rfl) (World.news_of_block (w := w5) (cs := #[.int .i64 ((i : Int) + 1), .string (bs s)]) (t := 35) (fr := (0, 0)) hn5) (imgCells_one _) (by omega) (by unfold maxLen; rw [HTL.out]; omega) (by rw [HTL.out]; omega) (by have := HBw.out.size; omega) (wr.heap.size + 1) hs5 ?_
      intro gq cq w7 hown7 hgrow7 hat7 hlt7
      have hM7 := (hgrow7.block M (Nat.lt_of_lt_of_le hMl HB5.out.size) (fun e => HneM.out e.symm)).trans HM5.out
      have hqo : (Value.slice ao2 (imgsOf (L.take i)).length cap2).ownBlock ≠ some q := fun e => by
        have h1 := (row_base Hrow.out e).1
        have h2 := (HB.out.trans (HB2.out.mono HB.out.size)).size
        omega
      have hS7 : w7.cell? ⟨M, 5, none⟩ = some (.slice ao2 (imgsOf (L.take i)).length cap2) ∧ w7.cell? ⟨q, i, none⟩ = some (.string (bs s)) := ⟨(cell_of_block hM7 5).trans rfl, (World.cell?_of_block (a := ⟨q, i, none⟩) (hgrow7.block q (Nat.lt_of_lt_of_le (Nat.lt_of_lt_of_le hq HBW.out.size) HB5.out.size) (fun e => hqo e.symm))).trans hS5.2⟩
      have HM7 := hid hM7
      have Hown7 := hid hown7
      have Hgrow7 := hid hgrow7
      have f7 := free_of_block hM7 5
      have m75 := hS7.1
      clear hM7 hown7 hgrow7 hat7 hlt7 hqo hS5 hrow5 hn5 hs5
      refine hK.out _ _ (fun _ => hS7) (fun hHeld => ?_)
      have hHeld := hHeld (by decide)
      clear hK K
      try simp only [Act.put, List.setIfInBounds_toArray, List.set_cons_zero, List.set_cons_succ]
      refine last_take (v := ?cv11) 11 rfl (by kernel_rfl) (by kernel_rfl) (by kernel_rfl) (by kernel_rfl) (fun _ _ _ h => h) (by rfl) hHeld ?cy11 ?cr11
      case cy11 => (intro W hSw; obtain ⟨y0, y1⟩ := hSw; go_simp; with_reducible rfl)
      simp only [Act.put, List.setIfInBounds_toArray, List.set_cons_zero, List.set_cons_succ]
      clear hS7
      refine last_one 12 (by kernel_rfl) rfl (fun K hK => ?_)
      go_simp
      refine hK.out _ _ (fun e => absurd rfl e) (fun _ => ?_)
      clear hK K hHeld
      try simp only [Act.put, List.setIfInBounds_toArray, List.set_cons_zero, List.set_cons_succ]
      refine wpAnyL_done (by kernel_rfl) ?_ _
      clear f7 m75
      go_wp2_with fail
      go_roundw
      case rel =>
        refine ⟨i + 1, _, hlt, by simp, (heap_setCell_same HM7.out 5 _).trans rfl, ?_, ?_⟩
        · have hn7 := row_type Hown7.out HM7.out (by decide)
          have := row_keep (w' := w7.setCell ⟨M, 5, none⟩ (.slice (some ⟨gq, 0, none⟩) ((imgsOf (L.take i)).length + 1) cq)) Hown7.out (fun x hx => Below.heap_setCell _ ⟨M, 5, none⟩ _ x (fun e => hn7 (by rw [hx]; exact congrArg some e)))
          unfold ImgRow
          rw [imgsOf_take L i hiL, imgsV_snoc, List.length_append, ← Hs.out]
          exact this
        · exact (((HBw.out.trans (HB5.out.mono HBw.out.size))).grown Hgrow7.out (by have h1 := HBw.out.size; have h2 := HB5.out.size; omega) (fun j hj => (row_base Hrow.out hj).1)).setCell (Nat.le_of_eq HM.out.symm) _
      case measure => (simp [intOf]) <;> omega
    · obtain rfl : P = i := by omega
      have hzr := (HBw.out.block W.heap.size (Nat.lt_of_lt_of_le (lt_of_block Hz.out) HB2.out.size)).trans ((HB2.out.block W.heap.size (lt_of_block Hz.out)).trans Hz.out)
      obtain ⟨z0, z1, z2, z3, z4, z5, zf⟩ := cells6 hzr
      have hzl := lt_of_block hzr
      have hvz : vi.ownBlock ≠ some W.heap.size := fun e => by
        have h1 := (row_base hrow e).1
        have h2 := Nat.lt_of_lt_of_le (lt_of_block Hz.out) HB2.out.size
        omega
      have hlist : L.take P = L := by rw [HP.out]; exact List.take_length
      rw [hlist] at hrow
      obtain ⟨ao2, cap2, rfl, -⟩ := hrow.get
      have HrowL := hid hrow
      have Hvz := hid hvz
      clear hrow hbw hMr hbW hneM hlist hzr hvz
      have hgo : ¬ ((P : Int) < (P : Int)) := by omega
      go_wp2_with fail
      refine bodyPost_ret (v := shipV ⟨1, ep, k, true, (P : Int), imgsOf L⟩ (.slice ao2 (imgsOf L).length cap2)) (by simp [results, Tryz.results22, go_sem, shipV, z0, z1, z2, z3, z4, z5, zf]) rfl ?_
      have hle : W.heap.size ≤ w2.heap.size := (HB.out.trans (HB2.out.mono HB.out.size)).size
      refine ⟨_, rfl, ?_, ?_⟩
      · have hf := six_set wr W.heap.size (.int .u8 1) (.int .u64 ep) (.int .u64 k) (.bool true) (.int .i64 (P : Int)) (.slice ao2 (imgsOf L).length cap2) (fun j => j = W.heap.size) wr (Frm.refl _ _) (.inl rfl)
        exact row_lower (row_keep HrowL.out (fun x hx => hf.block x (row_base HrowL.out hx).2 (fun e => Hvz.out (by rw [hx, e])))) hle
      · iterate 6 refine Below.setCell ?_ (by exact Nat.le_refl _) _
        exact HBW.out
end
end Go.Proofs.YtdinjghfjmmjoaaGreat
namespace Go.Proofs.YtdinjghfjmmjoaaGreat
open Go.RowKit Go.Maps
set_option maxRecDepth 20000
section
variable {w W W' : World} {m : Sh} {v vs : Value} {L : List (List UInt8)} {base : Nat}
end
end Go.Proofs.YtdinjghfjmmjoaaGreat
