/- The law ReplicaTrails: its walk. -/
import Derived.Test.YtcpejlmnplkbaaaGreatRnP
import Derived.Deep.CutBlock
namespace Go.Proofs.YtcpejlmnplkbaaaGreat
open Go.RowKit Go.Maps
set_option linter.unusedVariables false
set_option linter.unusedSimpArgs false
set_option maxRecDepth 20000

/-- Strings in memory. -/
structure StrsIn (w : World) (v : Value) (l : List (List UInt8)) : Prop where
  at' : ∃ ao cap, v = .slice ao l.length cap ∧ ∀ k (hk : k < l.length), ∃ q o, ao = some ⟨q, o, none⟩ ∧ q < w.heap.size ∧ w.cell? ⟨q, o + k, none⟩ = some (.string (bs l[k]))
  len : l.length ≤ 9223372036854775807
  big : ∀ x ∈ l, x.length ≤ 9223372036854775807
theorem post_lit2 {W : World} {base q : Nat} {s : List UInt8} (hq : W.heap[q]? = some (.cells #[.int .i64 0, .string (bs s)] 46 (0, 0))) (hb : base ≤ q) : PostRow W base (.slice (some ⟨q, 0, none⟩) 1 1) [(0, s)] :=
  ⟨rfl, .inr ⟨q, 1, _, rfl, hb, hq, Nat.le_refl _, by decide, rfl, rfl⟩⟩
set_option maxHeartbeats 16000000 in
set_option maxRecDepth 20000 in
theorem rtrails_any (w : World) (v : Value) (lst : List (List UInt8)) (h : StrsIn w v lst) : Calls Tryz.prog 5 #[v] w fun e w' => e = .returned (.bool true) ∧ Below w.heap.size w w' := by
  obtain ⟨ao, cap, rfl, hc⟩ := h.at'
  have hlen := h.len
  have hbig := h.big
  obtain ⟨n, hn⟩ : ∃ n, n = lst.length := ⟨_, rfl⟩
  rw [← hn] at hlen ⊢
  have WK := hid (rworks_any w)
  have HC := hid hc
  have Hn := hid hn
  have HBig := hid hbig
  clear h hc hn hbig
  by_cases h40 : 40 < n
  · have b1 : decide (40 < n) = true := by simpa using h40
    go_enter Tryz.func5, Tryz.ntmps5
    go_wp2_with (first
      | (go_at_call 7; refine (WK.out).mono ?_; rintro e w1 ⟨rfl, hb1⟩; have HB1 := hid hb1; clear hb1)
      | go_in)
    go_ret
    exact ⟨rfl, HB1.out⟩
  have b1 : decide (40 < n) = false := by simpa using h40
  have hn40 : n ≤ 40 := by omega
  clear h40
  go_enter Tryz.func5, Tryz.ntmps5
  go_upto_region 10 with (first
    | (go_at_call 7; refine (WK.out).mono ?_; rintro e w1 ⟨rfl, hb1⟩; have HB1 := hid hb1; clear hb1)
    | (go_at_call 12; refine (fresh_any w1).mono ?_; rintro e w2 ⟨pb, l, b, rfl, hp2⟩; have HP2 := hid hp2; clear hp2)
    | (go_at_call 13; refine (trail_any pb _).mono ?_; rintro e w3 ⟨rfl, hw3⟩; have HW3 := hid hw3; clear hw3)
    | go_in)
  have hp2 := HP2.out.to (X' := fun _ => False) (fun k hk => hk.elim)
  have hT3 : w3.heap[w2.heap.size]? = some (tlObj pb 0) := by rw [HW3.out]; exact heap_alloc_new _ _
  have hb3 : Below w2.heap.size w2 w3 := by rw [HW3.out]; exact (Below.refl _ _).alloc (Nat.le_refl _) _
  have hb4 := (Below.refl w3.heap.size w3).alloc (Nat.le_refl _) (.cells #[.slice none 0 0, .int .u64 0] 61)
  have hR4 : (w3.alloc (.cells #[.slice none 0 0, .int .u64 0] 61)).heap[w3.heap.size]? = some (rtObj (.slice none 0 0) 0) := heap_alloc_new _ _
  have hT4 := (hb4.block _ (lt_of_block hT3)).trans hT3
  have h24 : Below w2.heap.size w2 (w3.alloc (.cells #[.slice none 0 0, .int .u64 0] 61)) := hb3.trans (hb4.mono hb3.size)
  have hTl := lt_of_block hT3
  have hTl4 := lt_of_block hT4
  have hRl4 := lt_of_block hR4
  have hS0 : ∃ X, RS w1 (w3.alloc (.cells #[.slice none 0 0, .int .u64 0] 61)) w2.heap.size w3.heap.size ⟨pb, l, b, p0, exG0, newM⟩ [] 0 (.slice none 0 0) 100 X :=
    ⟨fun k => k = w2.heap.size ∨ k = w3.heap.size, px_add hp2 h24 (fun y hy => .inr (hy.elim (fun e => by rw [e]; exact Nat.le_refl _) (fun e => by rw [e]; exact hb3.size))) (fun y hy => hy.elim (fun e => by rw [e]; exact hTl4) (fun e => by rw [e]; exact hRl4)), rfl, db0, .inl rfl, hT4, hR4, strRow_nil _ _, .inl rfl, .inr rfl, (fun k hk => by cases hk), HP2.out.bel.size, Nat.le_trans HP2.out.bel.size hb3.size, by omega, ⟨by decide, by decide⟩, new_small⟩
  obtain ⟨X0, hS0⟩ := hS0
  obtain ⟨T, hT⟩ : ∃ T, T = w2.heap.size := ⟨_, rfl⟩
  obtain ⟨R, hR⟩ : ∃ R, R = w3.heap.size := ⟨_, rfl⟩
  obtain ⟨w4, hw4⟩ : ∃ w4, w4 = w3.alloc (.cells #[.slice none 0 0, .int .u64 0] 61) := ⟨_, rfl⟩
  rw [← hw4, ← hT, ← hR] at hS0
  rw [← hw4, ← hT, ← hR]
  have S0 := hid hS0
  clear hp2 hT3 hb3 hb4 hR4 hT4 h24 hTl hTl4 hRl4 hS0 hT hR hw4 HP2 HW3 WK
  go_loopw [33] (fun v33 wr => ∃ (i : Nat) (c : PgD) (L : List (List UInt8)) (ep : Int) (vs : Value) (X : Nat → Prop), i ≤ n ∧ v33 = .int .i64 (i : Int) ∧ c.pb = pb ∧ RS w1 wr T R c L ep vs (100 + 8519680 * i) X) (fun v33 _ => n - (intOf v33).toNat)
  case atStart => exact ⟨0, _, _, _, _, _, Nat.zero_le _, rfl, rfl, S0.out⟩
  case round =>
    obtain ⟨i, c, L, ep, vs, X, hi, rfl, hpb, hst⟩ := hrel
    have HSt := hid hst
    have HBw := hid (HB1.out.trans (hst.px.bel.mono HB1.out.size))
    have Hpb := hid hpb
    clear hst hpb
    by_cases hlt : i < n
    · have hil : i < lst.length := by have := Hn.out; omega
      obtain ⟨q, o, hao, hq, hc0⟩ := HC.out i hil
      subst hao
      have hsl := HBig.out lst[i] (List.getElem_mem hil)
      have c0 := (HBw.out.cell (p := ⟨q, o + i, none⟩) hq).trans hc0
      obtain ⟨s, hx⟩ : ∃ s, s = lst[i] := ⟨_, rfl⟩
      rw [← hx] at c0 hsl
      have hi9 : (i : Int) < 9223372036854775807 := by omega
      have hiN : (i : Int) < (n : Int) := by omega
      have hw : IntKind.i64.wrap ((i : Int) + 1) = (i : Int) + 1 := IntWalk.i64_in _ (by omega)
      obtain ⟨sz, hsz⟩ : ∃ sz : Int, ((s.length : Nat) : Int) = sz := ⟨_, rfl⟩
      have Hsz := hid hsz
      clear hc0 hx hsl
      go_upto_region 12 with fail
      by_cases h8 : 16384 < sz
      · have b5 : decide (16384 < sz) = true := by simpa using h8
        clear h8
        go_wp2_with fail
        go_ret
        exact ⟨rfl, HBw.out⟩
      have b5 : decide (16384 < sz) = false := by simpa using h8
      have hs8 : s.length ≤ 1099511627776 := by have := Hsz.out; omega
      have GT := HSt.out.get s hs8 (by omega)
      obtain ⟨Q, hQ⟩ : ∃ Q, Q = rtgetM ep L s := ⟨_, rfl⟩
      rw [← hQ] at GT
      obtain ⟨is, er, ep2, L2⟩ := Q
      dsimp only at GT
      have GT := hid GT
      have HI := hid (And.intro hi hlt)
      have Hw := hid hw
      clear h8 hs8 hQ hi hlt hi9 hiN hw
      go_upto_region 17 with (first
        | (go_at_call 18; refine (GT.out).mono ?_; rintro e w5 ⟨pv, rfl, hr5, g5⟩; obtain ⟨aop, capp, rfl, -⟩ := hr5.shape; have G5 := hid g5; clear hr5 g5 GT)
        | (go_at_call 21; refine (G5.out).mono ?_; rintro e w6 ⟨rfl, c', vs', X', hs6, hp6, hpb6⟩; have S6 := hid hs6; have P6 := hid hp6; have HPb6 := hid (hpb6.trans Hpb.out); clear hs6 hp6 hpb6 G5)
        | go_in)
      obtain ⟨ol, hol⟩ : ∃ ol, ol = outR ⟨is, er, ep2, L2⟩ := ⟨_, rfl⟩
      have hp6 := P6.out
      rw [← hol] at hp6 ⊢
      obtain ⟨nol, hnol⟩ : ∃ nol, nol = ol.length := ⟨_, rfl⟩
      rw [← hnol] at hp6 ⊢
      have hol1 : ol.length ≤ 1000 := by rw [hol]; unfold outR; split <;> simp
      have HOl := hid hol
      have HOl1 := hid hol1
      have P6b := hid hp6
      clear hp6 hol hnol hol1 P6
      cases is
      · go_upto_region 19 with fail
        obtain ⟨w8, hw8⟩ : ∃ w8, w8 = w6 := ⟨_, rfl⟩
        rw [← hw8]
        have S8 : Hid (RS w1 w8 T R c' L2 ep2 vs' (100 + 8519680 * i + 8519680) X') := hid (by rw [hw8]; exact S6.out)
        have P8 : Hid (PostRow w8 w1.heap.size (.slice aop nol capp) ol) := hid (by rw [hw8]; exact P6b.out)
        have W8 : Hid (PostRow w8 w1.heap.size (.slice none 0 0) ol) := hid (by rw [HOl.out]; exact World.ownsRow_nil _ _ _ _)
        clear hw8
        have ST := S8.out.state
        rw [HPb6.out] at ST
        have ST := hid ST
        go_upto_region 20 with (first
          | (go_at_call 23; refine (ST.out).mono ?_; rintro e w9 ⟨vst, rfl, hst9, hb9⟩; obtain ⟨aos, caps, rfl, -⟩ := hst9.shape; have Q9 := hid hst9; have S9 := hid (S8.out.below hb9); have P9 := hid (row_keep P8.out (fun y hy => hb9.block y (row_base P8.out hy).2)); have W9 := hid (row_keep W8.out (fun y hy => hb9.block y (row_base W8.out hy).2)); clear hst9 hb9)
          | go_in)
        obtain ⟨aov, capv, rfl, -⟩ := S9.out.row.shape
        obtain ⟨x0, x1, -⟩ := rt_cells S9.out.hr
        have hee : (er != er) = false := by simp
        clear S8 P8 W8 ST S6 P6b
        refine wp_region_held_drew (S := fun W2 => W2.cell? ⟨R, 0, none⟩ = some (.slice aov L2.length capv) ∧ W2.cell? ⟨R, 1, none⟩ = some (.int .u64 ep2)) (by kernel_rfl) ⟨x0, x1⟩ (fun hHeld => ?_)
        clear x0 x1
        refine ht 0 hHeld ?_
        refine ht 1 hHeld ?_
        refine ht 2 hHeld ?_
        refine ht 3 hHeld ?_
        refine ht 4 hHeld ?_
        refine ht 5 hHeld ?_
        refine held_one 6 (by kernel_rfl) rfl (fun K hK => ?_)
        go_simp
        refine (posts_equal (w := w9.drew) P9.out W9.out HOl1.out).mono ?_
        rintro e w10 ⟨rfl, hb10⟩
        have hb10 : Below w9.heap.size w9 w10 := (Below.refl w9.heap.size w9).drew.trans hb10
        have S10 := hid (S9.out.below hb10)
        have Q10 := hid (row_keep Q9.out (fun y hy => hb10.block y (row_base Q9.out hy).2))
        clear hb10 S9 Q9 P9 W9
        try dsimp only
        refine hK.out _ _ (⟨(rt_cells S10.out.hr).1, (rt_cells S10.out.hr).2.1⟩) (fun hHeld => ?_)
        clear hK K
        try simp only [Act.put, zl0, zl1, zl2]
        refine ht 7 hHeld ?_
        refine ht 8 hHeld ?_
        refine ht 9 hHeld ?_
        refine ht 10 hHeld ?_
        refine ht 12 hHeld ?_
        refine ht 13 hHeld ?_
        refine ht 14 hHeld ?_
        refine ht 15 hHeld ?_
        refine held_one 11 (by kernel_rfl) rfl (fun K hK => ?_)
        go_simp
        refine (S10.out.epoch).mono ?_
        rintro e w11 ⟨rfl, hw11⟩
        subst hw11
        try dsimp only
        refine hK.out _ _ (⟨(rt_cells S10.out.hr).1, (rt_cells S10.out.hr).2.1⟩) (fun hHeld => ?_)
        clear hK K
        try simp only [Act.put, zl0, zl1, zl2]
        refine ht 16 hHeld ?_
        refine ht 17 hHeld ?_
        refine ht 18 hHeld ?_
        refine ht 19 hHeld ?_
        refine ht 20 hHeld ?_
        refine ht 21 hHeld ?_
        refine ht 22 hHeld ?_
        refine ht 23 hHeld ?_
        refine ht 24 hHeld ?_
        refine ht 25 hHeld ?_
        refine ht 26 hHeld ?_
        refine ht 27 hHeld ?_
        refine held_one 28 (by kernel_rfl) rfl (fun K hK => ?_)
        go_simp
        refine (same_eq Q10.out S10.out.row (by have := S10.out.db.many; omega)).mono ?_
        rintro e w12 ⟨rfl, hb12⟩
        have S12 := hid (S10.out.below hb12)
        clear hb12 S10 Q10
        try dsimp only
        refine hK.out _ _ (⟨(rt_cells S12.out.hr).1, (rt_cells S12.out.hr).2.1⟩) (fun hHeld => ?_)
        clear hK K
        try simp only [Act.put, zl0, zl1, zl2]
        refine ht 29 hHeld ?_
        refine ht 30 hHeld ?_
        refine ht 31 hHeld ?_
        refine ht 32 hHeld ?_
        refine ht 34 hHeld ?_
        refine held_one 33 (by kernel_rfl) rfl (fun K hK => ?_)
        go_simp
        refine (S12.out.tick).mono ?_
        rintro e w13 ⟨pv2, rfl, hr13, X13, hs13⟩
        obtain ⟨ao13, cap13, rfl, -⟩ := hr13.shape
        have S13 := hid hs13
        have R13 := hid hr13
        clear hr13 hs13 S12
        try dsimp only
        refine hK.out _ _ (⟨(rt_cells S13.out.hr).1, (rt_cells S13.out.hr).2.1⟩) (fun hHeld => ?_)
        clear hK K
        try simp only [Act.put, zl0, zl1, zl2]
        refine held_one 35 (by kernel_rfl) rfl (fun K hK => ?_)
        go_simp
        refine (S13.out.ack).mono ?_
        rintro e w14 ⟨rfl, hb14⟩
        have S14 := hid (S13.out.below hb14)
        have R14 := hid (row_keep R13.out (fun y hy => hb14.block y (row_base R13.out hy).2))
        clear hb14 S13 R13
        try dsimp only
        refine hK.out _ _ (⟨(rt_cells S14.out.hr).1, (rt_cells S14.out.hr).2.1⟩) (fun hHeld => ?_)
        clear hK K
        try simp only [Act.put, zl0, zl1, zl2]
        refine ht 36 hHeld ?_
        refine held_one 37 (by kernel_rfl) rfl (fun K hK => ?_)
        go_simp
        have hb15 := (Below.refl w14.heap.size w14).alloc (Nat.le_refl _) (.cells #[.int .i64 0, .string (bs (putL (ackSh ep2 (commL L2))))] 46)
        have S15 := hid (S14.out.below hb15)
        have R15 := hid (row_keep R14.out (fun y hy => hb15.block y (row_base R14.out hy).2))
        have L15 := hid (post_lit w14 0 (Nat.zero_le _) 0 (putL (ackSh ep2 (commL L2))))
        clear hb15 S14 R14
        refine hK.out _ _ (⟨(rt_cells S15.out.hr).1, (rt_cells S15.out.hr).2.1⟩) (fun hHeld => ?_)
        clear hK K
        try simp only [Act.put, zl0, zl1, zl2]
        refine held_one 38 (by kernel_rfl) rfl (fun K hK => ?_)
        go_simp
        refine (posts_equal R15.out L15.out (by simp)).mono ?_
        rintro e w16 ⟨rfl, hb16⟩
        have S16 := hid (S15.out.below hb16)
        clear hb16 S15 R15 L15
        try dsimp only
        refine hK.out _ _ (⟨(rt_cells S16.out.hr).1, (rt_cells S16.out.hr).2.1⟩) (fun hHeld => ?_)
        clear hK K
        try simp only [Act.put, zl0, zl1, zl2]
        refine ht 39 hHeld ?_
        refine ht 40 hHeld ?_
        clear hHeld
        refine wpAnyH_done (by kernel_rfl) ?_ _
        have hw := Hw.out
        go_wp2_with fail
        go_roundw
        case rel => exact ⟨i + 1, c', L2, ep2, _, X13, by have := HI.out; omega, by simp, HPb6.out, by rw [show 100 + 8519680 * (i + 1) = 100 + 8519680 * i + 8519680 by omega]; exact S16.out⟩
        case measure => (have := HI.out; (simp [intOf]) <;> omega)
      · go_upto_region 19 with (first
          | (go_at_call 22; refine (S6.out.ack).mono ?_; rintro e w7 ⟨rfl, hb7⟩; have HB7 := hid hb7; clear hb7)
          | go_in)
        have hbx : Below w6.heap.size w6 (w7.alloc (.cells #[.int .i64 0, .string (bs (putL (ackSh ep2 (commL L2))))] 46)) := HB7.out.alloc HB7.out.size _
        have hlx := S6.out.px.bel.size
        have hls := HB7.out.size
        have W8 : PostRow (w7.alloc (.cells #[.int .i64 0, .string (bs (putL (ackSh ep2 (commL L2))))] 46)) w1.heap.size (.slice (some ⟨w7.heap.size, 0, none⟩) 1 1) ol := by rw [HOl.out]; exact post_lit w7 w1.heap.size (by omega) 0 _
        obtain ⟨w8, hw8⟩ : ∃ w8, w8 = w7.alloc (.cells #[.int .i64 0, .string (bs (putL (ackSh ep2 (commL L2))))] 46) := ⟨_, rfl⟩
        rw [← hw8] at hbx W8 ⊢
        have S8 : Hid (RS w1 w8 T R c' L2 ep2 vs' (100 + 8519680 * i + 8519680) X') := hid (S6.out.below hbx)
        have P8 : Hid (PostRow w8 w1.heap.size (.slice aop nol capp) ol) := hid (row_keep P6b.out (fun y hy => hbx.block y (row_base P6b.out hy).2))
        have W8 := hid W8
        clear hbx hlx hls hw8 HB7
        have ST := S8.out.state
        rw [HPb6.out] at ST
        have ST := hid ST
        go_upto_region 20 with (first
          | (go_at_call 23; refine (ST.out).mono ?_; rintro e w9 ⟨vst, rfl, hst9, hb9⟩; obtain ⟨aos, caps, rfl, -⟩ := hst9.shape; have Q9 := hid hst9; have S9 := hid (S8.out.below hb9); have P9 := hid (row_keep P8.out (fun y hy => hb9.block y (row_base P8.out hy).2)); have W9 := hid (row_keep W8.out (fun y hy => hb9.block y (row_base W8.out hy).2)); clear hst9 hb9)
          | go_in)
        obtain ⟨aov, capv, rfl, -⟩ := S9.out.row.shape
        obtain ⟨x0, x1, -⟩ := rt_cells S9.out.hr
        have hee : (er != er) = false := by simp
        clear S8 P8 W8 ST S6 P6b
        refine wp_region_held_drew (S := fun W2 => W2.cell? ⟨R, 0, none⟩ = some (.slice aov L2.length capv) ∧ W2.cell? ⟨R, 1, none⟩ = some (.int .u64 ep2)) (by kernel_rfl) ⟨x0, x1⟩ (fun hHeld => ?_)
        clear x0 x1
        refine ht 0 hHeld ?_
        refine ht 1 hHeld ?_
        refine ht 2 hHeld ?_
        refine ht 3 hHeld ?_
        refine ht 4 hHeld ?_
        refine ht 5 hHeld ?_
        refine held_one 6 (by kernel_rfl) rfl (fun K hK => ?_)
        go_simp
        refine (posts_equal (w := w9.drew) P9.out W9.out HOl1.out).mono ?_
        rintro e w10 ⟨rfl, hb10⟩
        have hb10 : Below w9.heap.size w9 w10 := (Below.refl w9.heap.size w9).drew.trans hb10
        have S10 := hid (S9.out.below hb10)
        have Q10 := hid (row_keep Q9.out (fun y hy => hb10.block y (row_base Q9.out hy).2))
        clear hb10 S9 Q9 P9 W9
        try dsimp only
        refine hK.out _ _ (⟨(rt_cells S10.out.hr).1, (rt_cells S10.out.hr).2.1⟩) (fun hHeld => ?_)
        clear hK K
        try simp only [Act.put, zl0, zl1, zl2]
        refine ht 7 hHeld ?_
        refine ht 8 hHeld ?_
        refine ht 9 hHeld ?_
        refine ht 10 hHeld ?_
        refine ht 12 hHeld ?_
        refine ht 13 hHeld ?_
        refine ht 14 hHeld ?_
        refine ht 15 hHeld ?_
        refine held_one 11 (by kernel_rfl) rfl (fun K hK => ?_)
        go_simp
        refine (S10.out.epoch).mono ?_
        rintro e w11 ⟨rfl, hw11⟩
        subst hw11
        try dsimp only
        refine hK.out _ _ (⟨(rt_cells S10.out.hr).1, (rt_cells S10.out.hr).2.1⟩) (fun hHeld => ?_)
        clear hK K
        try simp only [Act.put, zl0, zl1, zl2]
        refine ht 16 hHeld ?_
        refine ht 17 hHeld ?_
        refine ht 18 hHeld ?_
        refine ht 19 hHeld ?_
        refine ht 20 hHeld ?_
        refine ht 21 hHeld ?_
        refine ht 22 hHeld ?_
        refine ht 23 hHeld ?_
        refine ht 24 hHeld ?_
        refine ht 25 hHeld ?_
        refine ht 26 hHeld ?_
        refine ht 27 hHeld ?_
        refine held_one 28 (by kernel_rfl) rfl (fun K hK => ?_)
        go_simp
        refine (same_eq Q10.out S10.out.row (by have := S10.out.db.many; omega)).mono ?_
        rintro e w12 ⟨rfl, hb12⟩
        have S12 := hid (S10.out.below hb12)
        clear hb12 S10 Q10
        try dsimp only
        refine hK.out _ _ (⟨(rt_cells S12.out.hr).1, (rt_cells S12.out.hr).2.1⟩) (fun hHeld => ?_)
        clear hK K
        try simp only [Act.put, zl0, zl1, zl2]
        refine ht 29 hHeld ?_
        refine ht 30 hHeld ?_
        refine ht 31 hHeld ?_
        refine ht 32 hHeld ?_
        refine ht 34 hHeld ?_
        refine held_one 33 (by kernel_rfl) rfl (fun K hK => ?_)
        go_simp
        refine (S12.out.tick).mono ?_
        rintro e w13 ⟨pv2, rfl, hr13, X13, hs13⟩
        obtain ⟨ao13, cap13, rfl, -⟩ := hr13.shape
        have S13 := hid hs13
        have R13 := hid hr13
        clear hr13 hs13 S12
        try dsimp only
        refine hK.out _ _ (⟨(rt_cells S13.out.hr).1, (rt_cells S13.out.hr).2.1⟩) (fun hHeld => ?_)
        clear hK K
        try simp only [Act.put, zl0, zl1, zl2]
        refine held_one 35 (by kernel_rfl) rfl (fun K hK => ?_)
        go_simp
        refine (S13.out.ack).mono ?_
        rintro e w14 ⟨rfl, hb14⟩
        have S14 := hid (S13.out.below hb14)
        have R14 := hid (row_keep R13.out (fun y hy => hb14.block y (row_base R13.out hy).2))
        clear hb14 S13 R13
        try dsimp only
        refine hK.out _ _ (⟨(rt_cells S14.out.hr).1, (rt_cells S14.out.hr).2.1⟩) (fun hHeld => ?_)
        clear hK K
        try simp only [Act.put, zl0, zl1, zl2]
        refine ht 36 hHeld ?_
        refine held_one 37 (by kernel_rfl) rfl (fun K hK => ?_)
        go_simp
        have hb15 := (Below.refl w14.heap.size w14).alloc (Nat.le_refl _) (.cells #[.int .i64 0, .string (bs (putL (ackSh ep2 (commL L2))))] 46)
        have S15 := hid (S14.out.below hb15)
        have R15 := hid (row_keep R14.out (fun y hy => hb15.block y (row_base R14.out hy).2))
        have L15 := hid (post_lit w14 0 (Nat.zero_le _) 0 (putL (ackSh ep2 (commL L2))))
        clear hb15 S14 R14
        refine hK.out _ _ (⟨(rt_cells S15.out.hr).1, (rt_cells S15.out.hr).2.1⟩) (fun hHeld => ?_)
        clear hK K
        try simp only [Act.put, zl0, zl1, zl2]
        refine held_one 38 (by kernel_rfl) rfl (fun K hK => ?_)
        go_simp
        refine (posts_equal R15.out L15.out (by simp)).mono ?_
        rintro e w16 ⟨rfl, hb16⟩
        have S16 := hid (S15.out.below hb16)
        clear hb16 S15 R15 L15
        try dsimp only
        refine hK.out _ _ (⟨(rt_cells S16.out.hr).1, (rt_cells S16.out.hr).2.1⟩) (fun hHeld => ?_)
        clear hK K
        try simp only [Act.put, zl0, zl1, zl2]
        refine ht 39 hHeld ?_
        refine ht 40 hHeld ?_
        clear hHeld
        refine wpAnyH_done (by kernel_rfl) ?_ _
        have hw := Hw.out
        go_wp2_with fail
        go_roundw
        case rel => exact ⟨i + 1, c', L2, ep2, _, X13, by have := HI.out; omega, by simp, HPb6.out, by rw [show 100 + 8519680 * (i + 1) = 100 + 8519680 * i + 8519680 by omega]; exact S16.out⟩
        case measure => (have := HI.out; (simp [intOf]) <;> omega)
    · obtain rfl : n = i := by omega
      have hgo : ¬ n < n := Nat.lt_irrefl n
      go_wp2_with fail
      go_ret
      exact ⟨rfl, HBw.out⟩
end Go.Proofs.YtcpejlmnplkbaaaGreat
