/- ship.Take, where the sum fits. -/
import Derived.Test.YtdgpdfigipplpaaShipC
namespace Go.Proofs.Ytdgpdfigipplpaa
open Go.RowKit
set_option linter.unusedVariables false
set_option linter.unusedSimpArgs false

set_option maxHeartbeats 4000000 in
theorem take_main (s : List UInt8) (w : World) (h : 56 ≤ s.length) (h2 : s.length % 8 = 0) (hs : s.length ≤ 1099511627776) (hyes : s.take 8 = textOf (sumAdd (0, 0) (s.drop 8))) :
    Calls Try.prog 12 #[.string (bs s)] w fun e w' => ∃ v, e = .returned (.tuple #[shipV (takeM s).1 v, .int .i64 (takeM s).2]) ∧ ImgsAt w' v (takeM s).1.imgs ∧ Below w.heap.size w w' := by
  have h1 : decide ((s.length : Int) < 56) = false := by simp; omega
  have h3 : ((s.length : Int) % 8 != 0) = false := by simp; omega
  have h4 : (s.take 8 == textOf (sumAdd (0, 0) (s.drop 8))) = true := by simpa using hyes
  obtain ⟨⟨q0, q1⟩, q2, q3⟩ := sumAdd_bd (0, 0) (s.drop 8) (by decide) (by decide)
  have h5 : (8 : Nat) ≤ s.length := by omega
  have Hyes := hid hyes
  have H2 := hid h2
  have T := hid (fun (k : Nat) (hk : k ≤ 48) (b : Nat) (W : World) (hb : W.heap[b]? = some (.cells #[.string (bs (s.drop k))] 9 (0, 0))) =>
    takeOne (s.drop k) b W (by simp; omega) (by simp; omega) hb)
  clear hyes h2
  go_enter Try.func12, Try.ntmps12
  go_wp2_with fail
  refine region_below (by kernel_rfl) (by kernel_rfl) ?_
  repeat (go_big_quiet_step ((first | (go_at_call 24; exact Calls.regrown_of (of_any _ _ (by simp; omega))) | (go_at_call 23; exact Calls.regrown_of (text_any _ _ q0 q1 q2 q3)))))
  refine wpQuiet_nil ?_
  intro w1 hb1
  have hbw : Below w.heap.size w w1 := ((Below.refl _ _).alloc (Nat.le_refl _) _).trans (hb1.mono (by simp))
  have hR1 := (hb1.block w.heap.size (by simp)).trans (heap_alloc_new _ _)
  have HR1 := hid hR1
  have hsz1 := hb1.size
  simp at hsz1
  clear hb1 hR1 q0 q1 q2 q3
  obtain ⟨n0, hn0⟩ : ∃ n, n = num ((s.drop 8).take 8) := ⟨_, rfl⟩
  obtain ⟨n1, hn1⟩ : ∃ n, n = num ((s.drop 16).take 8) := ⟨_, rfl⟩
  obtain ⟨n2, hn2⟩ : ∃ n, n = num ((s.drop 24).take 8) := ⟨_, rfl⟩
  obtain ⟨n3, hn3⟩ : ∃ n, n = num ((s.drop 32).take 8) := ⟨_, rfl⟩
  obtain ⟨n4, hn4⟩ : ∃ n, n = num ((s.drop 40).take 8) := ⟨_, rfl⟩
  obtain ⟨n5, hn5⟩ : ∃ n, n = num ((s.drop 48).take 8) := ⟨_, rfl⟩
  have T0 := T.out 8 (by omega)
  have T1 := T.out 16 (by omega)
  have T2 := T.out 24 (by omega)
  have T3 := T.out 32 (by omega)
  have T4 := T.out 40 (by omega)
  have T5 := T.out 48 (by omega)
  rw [List.drop_drop] at T0 T1 T2 T3 T4 T5
  rw [← hn0] at T0
  rw [← hn1] at T1
  rw [← hn2] at T2
  rw [← hn3] at T3
  rw [← hn4] at T4
  rw [← hn5] at T5
  have b0 := num8_lt (s.drop 8)
  have b1 := num8_lt (s.drop 16)
  have b2 := num8_lt (s.drop 24)
  have b3 := num8_lt (s.drop 32)
  have b4 := num8_lt (s.drop 40)
  have b5 := num8_lt (s.drop 48)
  rw [← hn0] at b0
  rw [← hn1] at b1
  rw [← hn2] at b2
  rw [← hn3] at b3
  rw [← hn4] at b4
  rw [← hn5] at b5
  have HT0 := hid T0
  have HT1 := hid T1
  have HT2 := hid T2
  have HT3 := hid T3
  have HT4 := hid T4
  have HT5 := hid T5
  have HN := hid (And.intro hn0 (And.intro hn1 (And.intro hn2 (And.intro hn3 (And.intro hn4 hn5)))))
  have a4 := and40 n4 b4.1 b4.2
  clear T0 T1 T2 T3 T4 T5 hn0 hn1 hn2 hn3 hn4 hn5 T
  go_wp2_with fail
  refine (HT0.out _ _ (heap_alloc_new _ _)).mono ?_
  rintro e w2 ⟨rfl, hf2, hb2⟩
  have F2 := hid ((Frm.refl (fun k => k = w1.heap.size) w1).alloc (.cells #[.string (bs (s.drop 8))] 9) |>.trans hf2)
  have HB2 := hid hb2
  clear hf2 hb2
  go_wp2_with fail
  refine (HT1.out _ _ HB2.out).mono ?_
  rintro e w3 ⟨rfl, hf3, hb3⟩
  have F3 := hid (F2.out.trans hf3)
  have HB3 := hid hb3
  clear hf3 hb3 F2 HB2
  go_wp2_with fail
  refine (HT2.out _ _ HB3.out).mono ?_
  rintro e w4 ⟨rfl, hf4, hb4⟩
  have F4 := hid (F3.out.trans hf4)
  have HB4 := hid hb4
  clear hf4 hb4 F3 HB3
  go_wp2_with fail
  refine (HT3.out _ _ HB4.out).mono ?_
  rintro e w5 ⟨rfl, hf5, hb5⟩
  have F5 := hid (F4.out.trans hf5)
  have HB5 := hid hb5
  clear hf5 hb5 F4 HB4
  go_wp2_with fail
  refine (HT4.out _ _ HB5.out).mono ?_
  rintro e w6 ⟨rfl, hf6, hb6⟩
  have F6 := hid (F5.out.trans hf6)
  have HB6 := hid hb6
  clear hf6 hb6 F5 HB5
  go_wp2_with fail
  refine (HT5.out _ _ (heap_alloc_old HB6.out)).mono ?_
  rintro e w7 ⟨rfl, hf7, hb7⟩
  obtain ⟨m0, hm0⟩ : ∃ m0 : Sh, m0 = ⟨n0 % 256, n1, n2, n3 == 1, n4 % 1099511627776, []⟩ := ⟨_, rfl⟩
  have hM : w7.heap[w6.heap.size]? = some (.cells #[.int .u8 m0.kind, .int .u64 m0.epoch, .int .u64 m0.k, .bool m0.full, .int .i64 m0.pages, .slice none 0 0] 28 (0, 0)) := by
    rw [hf7.block w6.heap.size (by simp) (by have := lt_of_block HB6.out; omega), hm0]
    exact heap_alloc_new _ _
  have hLM : w1.heap.size < w6.heap.size := lt_of_block HB6.out
  have F7 := (F6.out.alloc (.cells #[.int .u8 (n0 % 256), .int .u64 n1, .int .u64 n2, .bool (n3 == 1), .int .i64 (n4 % 1099511627776), .slice none 0 0] 28)).trans hf7
  have hR7 : w7.heap[w.heap.size]? = some (.cells #[.int .u8 0, .int .u64 0, .int .u64 0, .bool false, .int .i64 0, .slice none 0 0] 28 (0, 0)) := by
    rw [F7.block w.heap.size (by omega) (by omega)]
    exact HR1.out
  have hbw7 : Below w.heap.size w w7 := hbw.trans ⟨F7.os, F7.tape, F7.output, F7.size, fun k hk => F7.block k (by omega) (by omega)⟩
  have start : TakeRel s m0 n5 w.heap.size w1.heap.size w6.heap.size w (.int .u64 ((0 : Nat) : Int)) w7 :=
    ⟨0, .slice none 0 0, [], s.drop 56, rfl, rfl, hb7, hM, hR7, World.ownsRow_nil _ _ _ _, by simp, hbw7, by simp⟩
  have Hm0 := hid hm0
  clear hf7 hb7 hM F7 hR7 hbw7 F6 HB6 HR1 HT0 HT1 HT2 HT3 HT4 HT5 a4 hm0
  go_wp2_with fail
  obtain ⟨i0, hi, hz0, hz1, hz2⟩ := info_parts (P := Try.prog) (e := 51) (z := .agg #[.int .i64 0, .string (bs [])]) (size := 2) (bytes := 24) (by kernel_rfl)
  go_loopw [9] (fun v9 wr => TakeRel s m0 n5 w.heap.size w1.heap.size w6.heap.size w v9 wr) (fun v9 _ => s.length - (intOf v9).toNat)
  case atStart => exact start
  case round =>
    clear start
    obtain ⟨j, v, l1, lf, rfl, hl1, hL, hM, hR, hown, hpar, hbwr, hlen⟩ := hrel
    have L0 := cell_of_block hL 0
    have Lf := free_of_block hL 0
    simp at L0
    obtain ⟨m0c, m1c, m2c, m3c, m4c, m5c, mf⟩ := cells6 hM
    have HL := hid hL
    have HM := hid hM
    have HR := hid hR
    have Hpar := hid hpar
    have Hl1 := hid hl1
    clear hL hM hR hpar hl1
    by_cases gj : (j : Int) < n5
    · by_cases gl : 520 ≤ lf.length
      · have gl' : decide ((520 : Int) ≤ (lf.length : Int)) = true := by simp; omega
        obtain ⟨pg, hpg⟩ : ∃ n, n = num (lf.take 8) := ⟨_, rfl⟩
        have bp := num8_lt lf
        rw [← hpg] at bp
        have ap := and40 pg bp.1 bp.2
        have T1 := takeOne lf w1.heap.size wr (by omega) (by omega) HL.out
        rw [← hpg] at T1
        have HT := hid T1
        have Hpg := hid hpg
        clear T1 hpg
        go_wp2_with fail
        refine HT.out.mono ?_
        rintro e w8 ⟨rfl, hf8, hb8⟩
        have hM8 := (hf8.block w6.heap.size (lt_of_block HM.out) (by omega)).trans HM.out
        have hR8 := (hf8.block w.heap.size (lt_of_block HR.out) (by omega)).trans HR.out
        have hown8 : w8.ownsRow w.heap.size 51 2 v j (imgCells l1) := hown.kept (row := some w1.heap.size) ⟨hf8.os, hf8.tape, hf8.output, hf8.size, fun k hk hne => hf8.block k hk (fun e => hne (by rw [e]))⟩ (.inr (Lib.ownBlock_ne2 hown HL.out (by decide)))
        have hbw8 : Below w.heap.size w w8 := hbwr.trans ⟨hf8.os, hf8.tape, hf8.output, hf8.size, fun k hk => hf8.block k (by have := hbwr.size; omega) (by omega)⟩
        have hsz8 := hbw8.size
        clear hf8 L0 Lf m0c m1c m2c m3c m4c m5c mf HT HL HM HR hown hbwr
        have L0 := cell_of_block hb8 0
        simp at L0
        obtain ⟨m0c, m1c, m2c, m3c, m4c, m5c, mf⟩ := cells6 hM8
        have HL8 := hid hb8
        have HM8 := hid hM8
        have HR8 := hid hR8
        clear hb8 hM8 hR8 m0c m1c m2c m3c m4c
        have l8 : (512 : Int) ≤ ((lf.length - 8 : Nat) : Int) := by omega
        have lM := lt_of_block HM8.out
        have lL := lt_of_block HL8.out
        have hjm : j + 1 ≤ maxLen := by unfold maxLen; omega
        have hjb : (j + 1) * 24 ≤ 140737488355328 := by omega
        have hvM : some w6.heap.size ≠ v.ownBlock := Ne.symm (Lib.ownBlock_ne2 hown8 HM8.out (by decide))
        have hvL : some w1.heap.size ≠ v.ownBlock := Ne.symm (Lib.ownBlock_ne2 hown8 HL8.out (by decide))
        have hvR : some w.heap.size ≠ v.ownBlock := Ne.symm (Lib.ownBlock_ne2 hown8 HR8.out (by decide))
        have HV := hid (And.intro hvM (And.intro hvL hvR))
        clear hvM hvL hvR
        go_wp2_with fail
        go_region_law ((refine step_append_lies _ (by rfl) _ _ 26 (by rfl) w.heap.size 51 i0 _ 2 24 Try.underlying26 hi hz0 hz1 hz2 rfl (by omega) v j (imgCells l1) (by rfl) ((hown8.alloc _).drew) ⟨w8.heap.size, 0, none⟩ 1 1 [.int .i64 (pg % 1099511627776), .string (bs ((lf.drop 8).take 512))] (by rfl) (by rfl) (World.news_of_block (cs := #[.int .i64 (pg % 1099511627776), .string (bs ((lf.drop 8).take 512))]) (t := 51) (fr := (0, 0)) (heap_alloc_new w8 _)) (imgOne _ _) (by omega) hjm hjb (by simp; omega) (w8.heap.size + 1) (by simp) ?_; intro gg cap w9 hown9 hgrow hat hlt; have hM9 := (hgrow.block w6.heap.size (by simp; omega) HV.out.1).trans (heap_alloc_old HM8.out); obtain ⟨x0, x1, x2, x3, x4, x5, xf⟩ := cells6 hM9; clear x0 x1 x2 x3 x4; have HM9 := hid hM9; clear hM9; have hL9 := (hgrow.block w1.heap.size (by simp; omega) HV.out.2.1).trans (heap_alloc_old HL8.out); have y0 := cell_of_block hL9 0; have yf := free_of_block hL9 0; simp at y0; have HL9 := hid hL9; clear hL9; have hR9 := (hgrow.block w.heap.size (by simp; have := lt_of_block HR8.out; omega) HV.out.2.2).trans (heap_alloc_old HR8.out); have HR9 := hid hR9; clear hR9; have hB9 := (hbw8.alloc hsz8 (.cells #[.int .i64 (pg % 1099511627776), .string (bs ((lf.drop 8).take 512))] 51)).drew.grown hgrow (by simp; omega) (fun k hk => (hown8.lt k hk).1)))
        all_goals
          clear L0 m5c mf x5 hgrow
          have l9 : (512 : Int) ≤ ((lf.length - 8 : Nat) : Int) := l8
          go_wp2_with fail
          refine ⟨?_, by simp [intOf]; omega⟩
          have hRL : w.heap.size < w1.heap.size := by omega
          exact take_step hLM hRL (by omega) Hl1.out gj gl hlen Hpg.out Hpar.out HL9.out HM9.out HR9.out hown9 hB9
      · have gl' : decide ((520 : Int) ≤ (lf.length : Int)) = false := by simp; omega
        have hall : l1 = parseAll n5 (s.drop 56) := by rw [← Hpar.out, parseAll_stop _ _ (by omega), List.append_nil]
        have hmm : (⟨m0.kind, m0.epoch, m0.k, m0.full, m0.pages, l1⟩ : Sh) = parseSh s := by
          obtain ⟨a0, a1, a2, a3, a4, a5⟩ := HN.out
          rw [Hm0.out]
          simp only [parseSh]
          rw [← a0, ← a1, ← a2, ← a3, ← a4, ← a5, ← hall]
        have hsmall : ∀ x ∈ l1, x.2.length ≤ 9223372036854775807 := fun x hx => by
          rw [hall] at hx
          have := parseAll_small _ _ x hx
          omega
        have himgs : ImgsAt wr v l1 := own_imgs (by rw [Hl1.out]; exact hown)
        have hjs : l1.length ≤ 9223372036854775807 := by rw [Hl1.out]; omega
        obtain ⟨ao, cap, rfl⟩ := imgs_shape himgs
        have hwf : Wf ⟨m0.kind, m0.epoch, m0.k, m0.full, m0.pages, l1⟩ := by
          rw [Hm0.out]
          exact ⟨⟨by simp only; omega, by simp only; omega⟩, b1, b2⟩
        have hbx : ∀ w', Below wr.heap.size wr w' → Below w.heap.size w w' := fun w' h => hbwr.trans (h.mono hbwr.size)
        have Hmm := hid hmm
        have Himgs := hid himgs
        have Hsmall := hid hsmall
        have Hbx := hid hbx
        have Hjs := hid hjs
        have Hall := hid hall
        clear hall hmm himgs hsmall hbx hjs hbwr hown hlen Lf
        cases hmay : mayB ⟨m0.kind, m0.epoch, m0.k, m0.full, m0.pages, l1⟩
        · have hno := put_no ⟨m0.kind, m0.epoch, m0.k, m0.full, m0.pages, l1⟩ _ wr Himgs.out Hjs.out Hsmall.out hmay
          have hres : takeM s = (zeroSh, 7) := by
            rw [Hmm.out] at hmay
            unfold takeM
            rw [if_neg (by have := H2.out; omega), if_neg (by rw [Hyes.out]; simp), if_neg (by rw [hmay]; simp)]
          have Hres := hid hres
          have Hno := hid hno
          unfold shipV at Hno
          clear hno hres hmay
          go_wp2_with fail
          refine Hno.out.mono ?_
          rintro e w8 ⟨rfl, hb8⟩
          have HR8 := hid ((hb8.block w.heap.size (lt_of_block HR.out)).trans HR.out)
          obtain ⟨r0, r1, r2, r3, r4, r5, rf⟩ := cells6 HR8.out
          have HB8 := hid (Hbx.out w8 hb8)
          clear m0c m1c m2c m3c m4c m5c mf hb8
          go_wp2_with fail
          refine bodyPost_ret (v := .tuple #[zeroV, .int .i64 7]) (by simp [results, Try.results12, go_sem, zeroV, r0, r1, r2, r3, r4, r5, rf]) rfl ⟨.slice none 0 0, by rw [Hres.out]; rfl, by rw [Hres.out]; exact .inl ⟨⟨_, _, rfl⟩, rfl⟩, ?_⟩
          iterate 6 refine Below.setCell ?_ (by simp) _
          exact HB8.out
        · have hyes2 := put_yes ⟨m0.kind, m0.epoch, m0.k, m0.full, m0.pages, l1⟩ _ wr Himgs.out hmay hwf
          by_cases heq : putL ⟨m0.kind, m0.epoch, m0.k, m0.full, m0.pages, l1⟩ = s
          · have hres : takeM s = (⟨m0.kind, m0.epoch, m0.k, m0.full, m0.pages, l1⟩, 0) := by
              rw [Hmm.out] at hmay heq
              rw [Hmm.out]
              unfold takeM
              rw [if_neg (by have := H2.out; omega), if_neg (by rw [Hyes.out]; simp), if_pos ⟨hmay, heq⟩]
            rw [heq] at hyes2
            have heqb : (s == s) = true := by simp
            have Hres := hid hres
            have Hyes2 := hid hyes2
            unfold shipV at Hyes2
            clear hyes2 hres hmay heq
            go_wp2_with fail
            refine Hyes2.out.mono ?_
            rintro e w8 ⟨rfl, hb8⟩
            have HR8 := hid ((hb8.block w.heap.size (lt_of_block HR.out)).trans HR.out)
            obtain ⟨r0, r1, r2, r3, r4, r5, rf⟩ := cells6 HR8.out
            have hM8 := (hb8.block w6.heap.size (lt_of_block HM.out)).trans HM.out
            have HI8 := hid (imgs_kept Himgs.out hb8)
            have HB8 := hid (Hbx.out w8 hb8)
            clear m0c m1c m2c m3c m4c m5c mf
            obtain ⟨m0c, m1c, m2c, m3c, m4c, m5c, mf⟩ := cells6 hM8
            clear hb8 hM8
            go_wp2_with fail
            refine bodyPost_ret (v := .tuple #[shipV ⟨m0.kind, m0.epoch, m0.k, m0.full, m0.pages, l1⟩ (.slice ao l1.length cap), .int .i64 0]) (by simp [results, Try.results12, go_sem, shipV, r0, r1, r2, r3, r4, r5, rf]) rfl ⟨.slice ao l1.length cap, by rw [Hres.out], ?_, ?_⟩
            · rw [Hres.out]
              refine imgs_result HI8.out HR8.out (fun k hk => ?_)
              iterate 6 rw [Below.heap_setCell _ _ _ k (by simpa using hk)]
            · iterate 6 refine Below.setCell ?_ (by simp) _
              exact HB8.out
          · have hres : takeM s = (zeroSh, 7) := by
              rw [Hmm.out] at heq
              unfold takeM
              rw [if_neg (by have := H2.out; omega), if_neg (by rw [Hyes.out]; simp), if_neg (by simp [heq])]
            obtain ⟨t, ht⟩ : ∃ t, t = putL ⟨m0.kind, m0.epoch, m0.k, m0.full, m0.pages, l1⟩ := ⟨_, rfl⟩
            rw [← ht] at hyes2 heq
            have heqb : (t == s) = false := by simpa using heq
            have Hres := hid hres
            have Hyes2 := hid hyes2
            unfold shipV at Hyes2
            clear hyes2 hres hmay heq ht
            go_wp2_with fail
            refine Hyes2.out.mono ?_
            rintro e w8 ⟨rfl, hb8⟩
            have HR8 := hid ((hb8.block w.heap.size (lt_of_block HR.out)).trans HR.out)
            obtain ⟨r0, r1, r2, r3, r4, r5, rf⟩ := cells6 HR8.out
            have HB8 := hid (Hbx.out w8 hb8)
            clear m0c m1c m2c m3c m4c m5c mf hb8
            go_wp2_with fail
            refine bodyPost_ret (v := .tuple #[zeroV, .int .i64 7]) (by simp [results, Try.results12, go_sem, zeroV, r0, r1, r2, r3, r4, r5, rf]) rfl ⟨.slice none 0 0, by rw [Hres.out]; rfl, by rw [Hres.out]; exact .inl ⟨⟨_, _, rfl⟩, rfl⟩, ?_⟩
            iterate 6 refine Below.setCell ?_ (by simp) _
            exact HB8.out
    · have gj' : decide ((j : Int) < n5) = false := by simpa using gj
      have hall : l1 = parseAll n5 (s.drop 56) := by rw [← Hpar.out, parseAll_stop _ _ (by omega), List.append_nil]
      have hmm : (⟨m0.kind, m0.epoch, m0.k, m0.full, m0.pages, l1⟩ : Sh) = parseSh s := by
        obtain ⟨a0, a1, a2, a3, a4, a5⟩ := HN.out
        rw [Hm0.out]
        simp only [parseSh]
        rw [← a0, ← a1, ← a2, ← a3, ← a4, ← a5, ← hall]
      have hsmall : ∀ x ∈ l1, x.2.length ≤ 9223372036854775807 := fun x hx => by
        rw [hall] at hx
        have := parseAll_small _ _ x hx
        omega
      have himgs : ImgsAt wr v l1 := own_imgs (by rw [Hl1.out]; exact hown)
      have hjs : l1.length ≤ 9223372036854775807 := by rw [Hl1.out]; omega
      obtain ⟨ao, cap, rfl⟩ := imgs_shape himgs
      have hwf : Wf ⟨m0.kind, m0.epoch, m0.k, m0.full, m0.pages, l1⟩ := by
        rw [Hm0.out]
        exact ⟨⟨by simp only; omega, by simp only; omega⟩, b1, b2⟩
      have hbx : ∀ w', Below wr.heap.size wr w' → Below w.heap.size w w' := fun w' h => hbwr.trans (h.mono hbwr.size)
      have Hmm := hid hmm
      have Himgs := hid himgs
      have Hsmall := hid hsmall
      have Hbx := hid hbx
      have Hjs := hid hjs
      have Hall := hid hall
      clear hall hmm himgs hsmall hbx hjs hbwr hown hlen Lf
      cases hmay : mayB ⟨m0.kind, m0.epoch, m0.k, m0.full, m0.pages, l1⟩
      · have hno := put_no ⟨m0.kind, m0.epoch, m0.k, m0.full, m0.pages, l1⟩ _ wr Himgs.out Hjs.out Hsmall.out hmay
        have hres : takeM s = (zeroSh, 7) := by
          rw [Hmm.out] at hmay
          unfold takeM
          rw [if_neg (by have := H2.out; omega), if_neg (by rw [Hyes.out]; simp), if_neg (by rw [hmay]; simp)]
        have Hres := hid hres
        have Hno := hid hno
        unfold shipV at Hno
        clear hno hres hmay
        go_wp2_with fail
        refine Hno.out.mono ?_
        rintro e w8 ⟨rfl, hb8⟩
        have HR8 := hid ((hb8.block w.heap.size (lt_of_block HR.out)).trans HR.out)
        obtain ⟨r0, r1, r2, r3, r4, r5, rf⟩ := cells6 HR8.out
        have HB8 := hid (Hbx.out w8 hb8)
        clear m0c m1c m2c m3c m4c m5c mf hb8
        go_wp2_with fail
        refine bodyPost_ret (v := .tuple #[zeroV, .int .i64 7]) (by simp [results, Try.results12, go_sem, zeroV, r0, r1, r2, r3, r4, r5, rf]) rfl ⟨.slice none 0 0, by rw [Hres.out]; rfl, by rw [Hres.out]; exact .inl ⟨⟨_, _, rfl⟩, rfl⟩, ?_⟩
        iterate 6 refine Below.setCell ?_ (by simp) _
        exact HB8.out
      · have hyes2 := put_yes ⟨m0.kind, m0.epoch, m0.k, m0.full, m0.pages, l1⟩ _ wr Himgs.out hmay hwf
        by_cases heq : putL ⟨m0.kind, m0.epoch, m0.k, m0.full, m0.pages, l1⟩ = s
        · have hres : takeM s = (⟨m0.kind, m0.epoch, m0.k, m0.full, m0.pages, l1⟩, 0) := by
            rw [Hmm.out] at hmay heq
            rw [Hmm.out]
            unfold takeM
            rw [if_neg (by have := H2.out; omega), if_neg (by rw [Hyes.out]; simp), if_pos ⟨hmay, heq⟩]
          rw [heq] at hyes2
          have heqb : (s == s) = true := by simp
          have Hres := hid hres
          have Hyes2 := hid hyes2
          unfold shipV at Hyes2
          clear hyes2 hres hmay heq
          go_wp2_with fail
          refine Hyes2.out.mono ?_
          rintro e w8 ⟨rfl, hb8⟩
          have HR8 := hid ((hb8.block w.heap.size (lt_of_block HR.out)).trans HR.out)
          obtain ⟨r0, r1, r2, r3, r4, r5, rf⟩ := cells6 HR8.out
          have hM8 := (hb8.block w6.heap.size (lt_of_block HM.out)).trans HM.out
          have HI8 := hid (imgs_kept Himgs.out hb8)
          have HB8 := hid (Hbx.out w8 hb8)
          clear m0c m1c m2c m3c m4c m5c mf
          obtain ⟨m0c, m1c, m2c, m3c, m4c, m5c, mf⟩ := cells6 hM8
          clear hb8 hM8
          go_wp2_with fail
          refine bodyPost_ret (v := .tuple #[shipV ⟨m0.kind, m0.epoch, m0.k, m0.full, m0.pages, l1⟩ (.slice ao l1.length cap), .int .i64 0]) (by simp [results, Try.results12, go_sem, shipV, r0, r1, r2, r3, r4, r5, rf]) rfl ⟨.slice ao l1.length cap, by rw [Hres.out], ?_, ?_⟩
          · rw [Hres.out]
            refine imgs_result HI8.out HR8.out (fun k hk => ?_)
            iterate 6 rw [Below.heap_setCell _ _ _ k (by simpa using hk)]
          · iterate 6 refine Below.setCell ?_ (by simp) _
            exact HB8.out
        · have hres : takeM s = (zeroSh, 7) := by
            rw [Hmm.out] at heq
            unfold takeM
            rw [if_neg (by have := H2.out; omega), if_neg (by rw [Hyes.out]; simp), if_neg (by simp [heq])]
          obtain ⟨t, ht⟩ : ∃ t, t = putL ⟨m0.kind, m0.epoch, m0.k, m0.full, m0.pages, l1⟩ := ⟨_, rfl⟩
          rw [← ht] at hyes2 heq
          have heqb : (t == s) = false := by simpa using heq
          have Hres := hid hres
          have Hyes2 := hid hyes2
          unfold shipV at Hyes2
          clear hyes2 hres hmay heq ht
          go_wp2_with fail
          refine Hyes2.out.mono ?_
          rintro e w8 ⟨rfl, hb8⟩
          have HR8 := hid ((hb8.block w.heap.size (lt_of_block HR.out)).trans HR.out)
          obtain ⟨r0, r1, r2, r3, r4, r5, rf⟩ := cells6 HR8.out
          have HB8 := hid (Hbx.out w8 hb8)
          clear m0c m1c m2c m3c m4c m5c mf hb8
          go_wp2_with fail
          refine bodyPost_ret (v := .tuple #[zeroV, .int .i64 7]) (by simp [results, Try.results12, go_sem, zeroV, r0, r1, r2, r3, r4, r5, rf]) rfl ⟨.slice none 0 0, by rw [Hres.out]; rfl, by rw [Hres.out]; exact .inl ⟨⟨_, _, rfl⟩, rfl⟩, ?_⟩
          iterate 6 refine Below.setCell ?_ (by simp) _
          exact HB8.out
end Go.Proofs.Ytdgpdfigipplpaa
