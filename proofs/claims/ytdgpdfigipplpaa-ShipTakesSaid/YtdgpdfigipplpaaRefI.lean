/- counterfoilref26.Take, walked: it answers takeM. -/
import Derived.Test.YtdgpdfigipplpaaRefH
import Derived.Test.YtdgpdfigipplpaaShipH
import Derived.Test.YtdgpdfigipplpaaRegion
import Derived.Deep.DeepCutAuto
namespace Go.Proofs.Ytdgpdfigipplpaa
open Go.RowKit
set_option linter.unusedVariables false
set_option linter.unusedSimpArgs false

set_option maxHeartbeats 400000 in
/-- 'Value' of any text: the world is left alone. -/
theorem value_same (l : List UInt8) (w : World) (hl : l.length ≤ 9223372036854775807) :
    Calls Try.prog 35 #[.string (bs l)] w fun e w' => e = .returned (.int .u64 (num l % 18446744073709551616)) ∧ w' = w := by
  go_enter Try.func35, Try.ntmps35
  go_wp2_with fail
  go_loopw [3, 4] (fun v3 v4 wr => ValueRel l w v3 v4 wr) (fun _ v4 _ => l.length - (intOf v4).toNat)
  case atStart => exact ⟨0, Nat.zero_le _, rfl, by simp [num_nil], rfl⟩
  case round =>
    obtain ⟨k, hk, rfl, rfl, rfl⟩ := hrel
    by_cases hlt : k < l.length
    · have hstep : num (l.take (k + 1)) % 18446744073709551616 = ((256 * (num (l.take k) % 18446744073709551616)) % 18446744073709551616 + (l[k].toNat : Int)) % 18446744073709551616 := by
        rw [List.take_succ_eq_append_getElem hlt, num_snoc]; omega
      have hlo := u8_lo l[k]
      have hhi := u8_hi l[k]
      have Hstep := hid hstep
      clear hstep
      obtain ⟨q, hq⟩ : ∃ q, q = num (l.take k) % 18446744073709551616 := ⟨_, rfl⟩
      have hq0 : 0 ≤ q := by omega
      have hq1 : q < 18446744073709551616 := by omega
      rw [← hq] at Hstep ⊢
      clear hq
      go_wp2_with fail
      refine ⟨⟨k + 1, by omega, by go_num, ?_, rfl⟩, by simp [intOf]; omega⟩
      rw [Hstep.out, IntKind.wrap_u64, IntKind.wrap_u64]
    · go_wp2_with fail
      go_ret
      obtain rfl : k = l.length := by omega
      exact ⟨by simp, rfl⟩

theorem value_eight (s : List UInt8) (k : Nat) (w : World) (hk : k + 8 ≤ s.length) :
    Calls Try.prog 35 #[.string (bs ((s.drop k).take 8))] w fun e w' => e = .returned (.int .u64 (num ((s.drop k).take 8))) ∧ w' = w := by
  have h := value_same ((s.drop k).take 8) w (by simp; omega)
  have b := num8_lt (s.drop k)
  have e : num ((s.drop k).take 8) % 18446744073709551616 = num ((s.drop k).take 8) := by omega
  rwa [e] at h

set_option maxHeartbeats 800000 in
theorem small_same (s : List UInt8) (k : Nat) (w : World) (hs : s.length ≤ 1099511627776) (hk : k + 8 ≤ s.length) :
    Calls Try.prog 34 #[.string (bs s), .int .i64 k] w fun e w' => e = .returned (.int .i64 (smallN (num ((s.drop k).take 8)))) ∧ w' = w := by
  have hv := fun W => value_eight s k W hk
  have b := num8_lt (s.drop k)
  obtain ⟨n, hn⟩ : ∃ n, n = num ((s.drop k).take 8) := ⟨_, rfl⟩
  simp only [← hn] at hv b ⊢
  obtain ⟨n0, n1⟩ := b
  have Hv := hid hv
  have f1 : k + 8 ≤ s.length := hk
  have f2 : k ≤ k + 8 := by omega
  have f3 : (k : Int) + 8 ≤ (s.length : Int) := by omega
  have f4 : ((k : Int) + 8).toNat = k + 8 := by omega
  have f5 : (0 : Int) ≤ (k : Int) + 8 := by omega
  have f6 : (k : Int) ≤ (k : Int) + 8 := by omega
  have f7 : k + 8 - k = 8 := by omega
  have hw8 : IntKind.i64.wrap ((k : Int) + 8) = (k : Int) + 8 := IntWalk.i64_in _ (by omega)
  clear hv hn
  by_cases hb : 1000000 < n
  · have hb' : decide (1000000 < n) = true := by simpa using hb
    have hfin : smallN n = 1000000 := if_pos hb
    have Hfin := hid hfin
    clear hfin hb
    go_enter Try.func34, Try.ntmps34
    go_wp2_with fail
    refine (Hv.out _).mono ?_
    rintro e w1 ⟨rfl, rfl⟩
    go_wp2_with fail
    go_ret
    rw [Hfin.out]
    exact ⟨rfl, rfl⟩
  · have hb' : decide (1000000 < n) = false := by simpa using hb
    have hfin : smallN n = n := if_neg hb
    have hw : IntKind.i64.wrap n = n := IntWalk.i64_in _ (by omega)
    have Hfin := hid hfin
    clear hfin
    go_enter Try.func34, Try.ntmps34
    go_wp2_with fail
    refine (Hv.out _).mono ?_
    rintro e w1 ⟨rfl, rfl⟩
    go_wp2_with fail
    go_ret
    rw [Hfin.out]
    exact ⟨rfl, rfl⟩

theorem small_at (s : List UInt8) (z : Int) (k : Nat) (w : World) (hz : z = (k : Int)) (hs : s.length ≤ 1099511627776) (hk : k + 8 ≤ s.length) :
    Calls Try.prog 34 #[.string (bs s), .int .i64 z] w fun e w' => e = .returned (.int .i64 (smallN (num ((s.drop k).take 8)))) ∧ Below w.heap.size w w' := by
  subst hz
  exact (small_same s k w hs hk).mono fun e w' ⟨h1, h2⟩ => ⟨h1, by rw [h2]; exact Below.refl _ _⟩
theorem value_at (s : List UInt8) (k : Nat) (w : World) (hk : k + 8 ≤ s.length) :
    Calls Try.prog 35 #[.string (bs ((s.drop k).take 8))] w fun e w' => e = .returned (.int .u64 (num ((s.drop k).take 8))) ∧ Below w.heap.size w w' :=
  (value_eight s k w hk).mono fun e w' ⟨h1, h2⟩ => ⟨h1, by rw [h2]; exact Below.refl _ _⟩

set_option maxHeartbeats 400000 in
theorem refTake_short (s : List UInt8) (w : World) (h : s.length < 56) :
    Calls Try.prog 18 #[.string (bs s)] w fun e w' => e = .returned (.tuple #[zeroV, .int .i64 7]) ∧ Below w.heap.size w w' := by
  have h1 : decide ((s.length : Int) < 56) = true := by simp; omega
  go_enter Try.func18, Try.ntmps18
  go_wp2_with fail
  refine bodyPost_ret (v := .tuple #[zeroV, .int .i64 7]) (by simp [results, Try.results18, go_sem, zeroV]) rfl ⟨rfl, ?_⟩
  repeat (first | exact (Below.refl _ _).alloc (Nat.le_refl _) _ | refine Below.setCell ?_ (by simp) _)

set_option maxHeartbeats 400000 in
theorem refTake_odd (s : List UInt8) (w : World) (h : 56 ≤ s.length) (h2 : s.length % 8 ≠ 0) (hs : s.length ≤ 1099511627776) :
    Calls Try.prog 18 #[.string (bs s)] w fun e w' => e = .returned (.tuple #[zeroV, .int .i64 7]) ∧ Below w.heap.size w w' := by
  have h1 : decide ((s.length : Int) < 56) = false := by simp; omega
  have h3 : ((s.length : Int) % 8 != 0) = true := by simp; omega
  go_enter Try.func18, Try.ntmps18
  go_wp2_with fail
  refine bodyPost_ret (v := .tuple #[zeroV, .int .i64 7]) (by simp [results, Try.results18, go_sem, zeroV]) rfl ⟨rfl, ?_⟩
  repeat (first | exact (Below.refl _ _).alloc (Nat.le_refl _) _ | refine Below.setCell ?_ (by simp) _)

set_option maxHeartbeats 400000 in
theorem refTake_sum (s : List UInt8) (w : World) (h : 56 ≤ s.length) (h2 : s.length % 8 = 0) (hs : s.length ≤ 1099511627776) (hno : ¬ s.take 8 = textOf (sumAdd (0, 0) (s.drop 8))) :
    Calls Try.prog 18 #[.string (bs s)] w fun e w' => e = .returned (.tuple #[zeroV, .int .i64 40]) ∧ Below w.heap.size w w' := by
  have h1 : decide ((s.length : Int) < 56) = false := by simp; omega
  have h3 : ((s.length : Int) % 8 != 0) = false := by simp; omega
  have h4 : (s.take 8 == textOf (sumAdd (0, 0) (s.drop 8))) = false := by simpa using hno
  obtain ⟨⟨q0, q1⟩, q2, q3⟩ := sumAdd_bd (0, 0) (s.drop 8) (by decide) (by decide)
  have h5 : (8 : Nat) ≤ s.length := by omega
  have A := fun W => refAdd_any (s.drop 8) (0, 0) W (by simp; omega)
  have T := fun W => refText_any (sumAdd (0, 0) (s.drop 8)) W q0 q1 q2 q3
  clear hno h2 q0 q1 q2 q3
  go_enter Try.func18, Try.ntmps18
  go_wp2_with fail
  refine region_below (by kernel_rfl) (by kernel_rfl) ?_
  repeat (go_big_quiet_step ((first | (go_at_call 32; exact Calls.regrown_of (A _)) | (go_at_call 31; exact Calls.regrown_of (T _)))))
  refine wpQuiet_nil ?_
  intro w1 hb1
  have hbw : Below w.heap.size w w1 := ((Below.refl _ _).alloc (Nat.le_refl _) _).trans (hb1.mono (by simp))
  obtain ⟨r0, r1, r2, r3, r4, r5, rf⟩ := cells6 ((hb1.block w.heap.size (by simp)).trans (heap_alloc_new _ _))
  clear hb1 A T
  go_wp2_with fail
  refine bodyPost_ret (v := .tuple #[zeroV, .int .i64 40]) (by simp [results, Try.results18, go_sem, zeroV, r0, r1, r2, r3, r4, r5, rf]) rfl ⟨rfl, ?_⟩
  iterate 6 refine Below.setCell ?_ (by simp) _
  exact hbw

theorem heap_set6 {w : World} {M : Nat} {T : TypeId} {a0 a1 a2 a3 a4 a5 : Value} (h : w.heap[M]? = some (.cells #[a0, a1, a2, a3, a4, a5] T (0, 0))) (b0 b1 b2 b3 b4 b5 : Value) :
    ((((((w.setCell ⟨M, 0, none⟩ b0).setCell ⟨M, 1, none⟩ b1).setCell ⟨M, 2, none⟩ b2).setCell ⟨M, 3, none⟩ b3).setCell ⟨M, 4, none⟩ b4).setCell ⟨M, 5, none⟩ b5).heap[M]? = some (.cells #[b0, b1, b2, b3, b4, b5] T (0, 0)) := by
  rw [heap_setCell_same (heap_setCell_same (heap_setCell_same (heap_setCell_same (heap_setCell_same (heap_setCell_same h 0 b0) 1 b1) 2 b2) 3 b3) 4 b4) 5 b5]
  rfl
theorem heap_set6_ne {w : World} {M k : Nat} (hk : k ≠ M) (b0 b1 b2 b3 b4 b5 : Value) :
    ((((((w.setCell ⟨M, 0, none⟩ b0).setCell ⟨M, 1, none⟩ b1).setCell ⟨M, 2, none⟩ b2).setCell ⟨M, 3, none⟩ b3).setCell ⟨M, 4, none⟩ b4).setCell ⟨M, 5, none⟩ b5).heap[k]? = w.heap[k]? := by
  repeat rw [Below.heap_setCell _ ⟨M, _, none⟩ _ k hk]

def RTakeRel (s : List UInt8) (m0 : Sh) (R M : Nat) (w : World) (v5 : Value) (wr : World) : Prop :=
  ∃ (j a : Nat) (v : Value) (l1 : List Img), v5 = .int .i64 a ∧ a = 56 + 520 * j ∧ a ≤ s.length ∧ l1.length = j ∧
    wr.heap[M]? = some (.cells #[.int .u8 m0.kind, .int .u64 m0.epoch, .int .u64 m0.k, .bool m0.full, .int .i64 m0.pages, v] 28 (0, 0)) ∧
    wr.heap[R]? = some (.cells #[.int .u8 0, .int .u64 0, .int .u64 0, .bool false, .int .i64 0, .slice none 0 0] 28 (0, 0)) ∧
    wr.ownsRow w.heap.size 51 2 v j (imgCells l1) ∧
    l1 ++ parseR (s.drop a) = parseR (s.drop 56) ∧ Below w.heap.size w wr

theorem rtake_step {s : List UInt8} {m0 : Sh} {pg : Int} {R M gg cap j a : Nat} {w w9 : World} {l1 : List Img}
    (hRM : R < M) (hl1 : l1.length = j) (ha : a = 56 + 520 * j) (gl : a + 520 ≤ s.length)
    (hgo : parseR (s.drop a) = (pg, (s.drop (a + 8)).take 512) :: parseR (s.drop (a + 520)))
    (hpar : l1 ++ parseR (s.drop a) = parseR (s.drop 56)) {v : Value}
    (hM : w9.heap[M]? = some (.cells #[.int .u8 m0.kind, .int .u64 m0.epoch, .int .u64 m0.k, .bool m0.full, .int .i64 m0.pages, v] 28 (0, 0)))
    (hR : w9.heap[R]? = some (.cells #[.int .u8 0, .int .u64 0, .int .u64 0, .bool false, .int .i64 0, .slice none 0 0] 28 (0, 0)))
    (hown : w9.ownsRow w.heap.size 51 2 (.slice (some ⟨gg, 0, none⟩) (j + 1) cap) (j + 1) (imgCells l1 ++ [.int .i64 pg, .string (bs ((s.drop (a + 8)).take 512))]))
    (hB : Below w.heap.size w w9) (hwM : w.heap.size ≤ M := by omega) :
    RTakeRel s m0 R M w (.int .i64 ((a : Int) + 8 + 512)) (w9.setCell ⟨M, 5, none⟩ (.slice (some ⟨gg, 0, none⟩) (j + 1) cap)) := by
  have neM := Lib.ownBlock_ne2 hown hM (by decide)
  refine ⟨j + 1, a + 520, .slice (some ⟨gg, 0, none⟩) (j + 1) cap, l1 ++ [(pg, (s.drop (a + 8)).take 512)], by congr 1, by omega, gl, by simp [hl1], ?_, ?_, ?_, ?_, ?_⟩
  · rw [heap_setCell_same hM 5 _]
    rfl
  · rw [Below.heap_setCell _ ⟨M, 5, none⟩ _ R (by simp; omega), hR]
  · rw [imgCells_snoc]
    exact hown.kept (grown_set (a := ⟨M, 5, none⟩) _) (.inr neM)
  · rw [← hpar, hgo, List.append_assoc]
    rfl
  · exact hB.setCell (p := ⟨M, 5, none⟩) hwM _

set_option maxHeartbeats 4000000 in
set_option maxRecDepth 100000 in
theorem refTake_main (s : List UInt8) (w : World) (h : 56 ≤ s.length) (h2 : s.length % 8 = 0) (hs : s.length ≤ 1099511627776) (hyes : s.take 8 = textOf (sumAdd (0, 0) (s.drop 8))) :
    Calls Try.prog 18 #[.string (bs s)] w fun e w' => ∃ v, e = .returned (.tuple #[shipV (takeM s).1 v, .int .i64 (takeM s).2]) ∧ ImgsAt w' v (takeM s).1.imgs ∧ Below w.heap.size w w' := by
  have Hlaw := hid (ref_take s h h2 hyes)
  have h1 : decide ((s.length : Int) < 56) = false := by simp; omega
  have h3 : ((s.length : Int) % 8 != 0) = false := by simp; omega
  have h4 : (s.take 8 == textOf (sumAdd (0, 0) (s.drop 8))) = true := by simpa using hyes
  obtain ⟨⟨q0, q1⟩, q2, q3⟩ := sumAdd_bd (0, 0) (s.drop 8) (by decide) (by decide)
  have h5 : (8 : Nat) ≤ s.length := by omega
  have A := fun W => refAdd_any (s.drop 8) (0, 0) W (by simp; omega)
  have T := fun W => refText_any (sumAdd (0, 0) (s.drop 8)) W q0 q1 q2 q3
  clear hyes h2 q0 q1 q2 q3
  go_enter Try.func18, Try.ntmps18
  go_wp2_with fail
  refine region_below (by kernel_rfl) (by kernel_rfl) ?_
  repeat (go_big_quiet_step ((first | (go_at_call 32; exact Calls.regrown_of (A _)) | (go_at_call 31; exact Calls.regrown_of (T _)))))
  refine wpQuiet_nil ?_
  intro w1 hb1
  have hbw : Below w.heap.size w w1 := ((Below.refl _ _).alloc (Nat.le_refl _) _).trans (hb1.mono (by simp))
  have HR1 := hid ((hb1.block w.heap.size (by simp)).trans (heap_alloc_new _ _))
  have hsz1 : w.heap.size < w1.heap.size := lt_of_block HR1.out
  clear hb1 A T h1 h3 h4
  have y1 := fun W => small_at s 8 8 W rfl hs (by omega)
  have y2 := fun W => value_at s 16 W (by omega)
  have y3 := fun W => value_at s 24 W (by omega)
  have y4 := fun W => small_at s 32 32 W rfl hs (by omega)
  have y5 := fun W => small_at s 40 40 W rfl hs (by omega)
  have hR : refSh s = ⟨minN (smallN (num ((s.drop 8).take 8))) 255, num ((s.drop 16).take 8), num ((s.drop 24).take 8), smallN (num ((s.drop 32).take 8)) == 1, smallN (num ((s.drop 40).take 8)), parseR (s.drop 56)⟩ := rfl
  have b1 := smallN_bd _ (num_lo ((s.drop 8).take 8))
  have b5 := smallN_bd _ (num_lo ((s.drop 40).take 8))
  obtain ⟨n1, hn1⟩ : ∃ n, n = smallN (num ((s.drop 8).take 8)) := ⟨_, rfl⟩
  obtain ⟨n2, hn2⟩ : ∃ n, n = num ((s.drop 16).take 8) := ⟨_, rfl⟩
  obtain ⟨n3, hn3⟩ : ∃ n, n = num ((s.drop 24).take 8) := ⟨_, rfl⟩
  obtain ⟨n4, hn4⟩ : ∃ n, n = smallN (num ((s.drop 32).take 8)) := ⟨_, rfl⟩
  obtain ⟨n5, hn5⟩ : ∃ n, n = smallN (num ((s.drop 40).take 8)) := ⟨_, rfl⟩
  simp only [← hn1] at y1 hR b1
  simp only [← hn2] at y2 hR
  simp only [← hn3] at y3 hR
  simp only [← hn4] at y4 hR
  simp only [← hn5] at y5 hR b5
  have HRS := hid hR
  have Y1 := hid y1
  have Y2 := hid y2
  have Y3 := hid y3
  have Y4 := hid y4
  have Y5 := hid y5
  clear hR y1 y2 y3 y4 y5 hn1 hn2 hn3 hn4 hn5
  have s24 : (24 : Nat) ≤ s.length := by omega
  have s32 : (32 : Nat) ≤ s.length := by omega
  have s24' : (24 : Int) ≤ (s.length : Int) := by omega
  have s32' : (32 : Int) ≤ (s.length : Int) := by omega
  go_upto_region 5 with fail
  refine region_alloc_tail 16 _ (.cells #[.int .u8 0, .int .u64 0, .int .u64 0, .bool false, .int .i64 0, .slice none 0 0] 28) ?af (by kernel_rfl) (by kernel_rfl) (by kernel_rfl) rfl (fun _ _ => by kernel_rfl) ?_ ?_
  rotate_left
  · intro W hW
    simp only [List.take_succ_cons, List.take_zero]
    repeat (go_big_quiet_step ((first
      | (go_at_call 34; first | with_reducible exact Calls.regrown_of (Y1.out _) | with_reducible exact Calls.regrown_of (Y4.out _) | with_reducible exact Calls.regrown_of (Y5.out _))
      | (go_at_call 35; first | with_reducible exact Calls.regrown_of (Y2.out _) | with_reducible exact Calls.regrown_of (Y3.out _)))))
    refine wpQuiet_nil ?_
    exact rfl
  · intro M w2 hb2 hk2 hM
    simp only [List.drop_succ_cons, List.drop_zero]
    obtain ⟨m0c, m1c, m2c, m3c, m4c, m5c, mf⟩ := cells6 hM
    have HM := hid hM
    clear hM
    go_wp2_with fail
    clear m0c m1c m2c m3c m4c m5c mf Y1 Y2 Y3 Y4 Y5 s24 s32 s24' s32'
    obtain ⟨i0, hi, hz0, hz1, hz2⟩ := info_parts (P := Try.prog) (e := 51) (z := .agg #[.int .i64 0, .string (bs [])]) (size := 2) (bytes := 24) (by kernel_rfl)
    go_loopw [5] (fun v5 wr => RTakeRel s ⟨minN n1 255, n2, n3, n4 == 1, n5, []⟩ w.heap.size M w v5 wr) (fun v5 _ => s.length + 1 - (intOf v5).toNat)
    case atStart =>
      refine ⟨0, 56, .slice none 0 0, [], rfl, rfl, h, rfl, heap_set6 HM.out _ _ _ _ _ _, ?_, World.ownsRow_nil _ _ _ _, by simp, ?_⟩
      · rw [heap_set6_ne (by omega), hb2.block _ hsz1]
        exact HR1.out
      · iterate 6 refine Below.setCell ?_ (by simp; omega) _
        exact hbw.trans (hb2.mono hbw.size)
    case round =>
      obtain ⟨j, a, v, l1, rfl, ha, hal, hl1, hM, hR, hown, hpar, hbwr⟩ := hrel
      obtain ⟨m0c, m1c, m2c, m3c, m4c, m5c, mf⟩ := cells6 hM
      have HM := hid hM
      have HR := hid hR
      have Hpar := hid hpar
      have Hl1 := hid hl1
      have Ha := hid ha
      clear hM hR hpar hl1 ha
      have hMl := lt_of_block HM.out
      by_cases gl : a + 520 ≤ s.length
      · have Y := fun W => small_same s a W hs (by omega)
        have hgo : parseR (s.drop a) = (smallN (num ((s.drop a).take 8)), (s.drop (a + 8)).take 512) :: parseR (s.drop (a + 520)) := by
          rw [parseR_go _ (by simp; omega), List.drop_drop, List.drop_drop]
        obtain ⟨pg, hpg⟩ : ∃ n, n = smallN (num ((s.drop a).take 8)) := ⟨_, rfl⟩
        simp only [← hpg] at Y hgo
        have Hgo := hid hgo
        have HY := hid Y
        clear hpg hgo Y
        have f1 : (a : Int) + 8 + 512 ≤ (s.length : Int) := by omega
        have f2 : (0 : Int) ≤ (a : Int) + 8 := by omega
        have f3 : (a : Int) + 8 ≤ (a : Int) + 8 + 512 := by omega
        have f4 : ((a : Int) + 8).toNat = a + 8 := by omega
        have f5 : ((a : Int) + 8 + 512).toNat = a + 8 + 512 := by omega
        have f6 : IntKind.i64.wrap ((a : Int) + 8) = (a : Int) + 8 := IntWalk.i64_in _ (by omega)
        have f7 : IntKind.i64.wrap ((a : Int) + 8 + 512) = (a : Int) + 8 + 512 := IntWalk.i64_in _ (by omega)
        have f8 : a + 8 + 512 - (a + 8) = 512 := by omega
        have f9 : (0 : Int) ≤ (a : Int) + 8 + 512 := by omega
        have f10 : a + 8 ≤ a + 8 + 512 := by omega
        have f11 : a + 8 + 512 ≤ s.length := by omega
        have hjm : j + 1 ≤ maxLen := by unfold maxLen; have := Ha.out; omega
        have hjb : (j + 1) * 24 ≤ 140737488355328 := by have := Ha.out; omega
        have hvM : some M ≠ v.ownBlock := Ne.symm (Lib.ownBlock_ne2 hown HM.out (by decide))
        have hvR : some w.heap.size ≠ v.ownBlock := Ne.symm (Lib.ownBlock_ne2 hown HR.out (by decide))
        have HV := hid (And.intro hvM hvR)
        clear hvM hvR m0c m1c m2c m3c m4c
        go_upto_region 9 with fail
        go_region_law ((first
          | (refine step_append_lies _ (by rfl) _ _ 26 (by rfl) w.heap.size 51 i0 _ 2 24 Try.underlying26 hi hz0 hz1 hz2 rfl (by omega) v j (imgCells l1) (by rfl) ((hown.alloc _).drew) ⟨wr.heap.size, 0, none⟩ 1 1 [.int .i64 pg, .string (bs ((s.drop (a + 8)).take 512))] (by rfl) (by rfl) (World.news_of_block (cs := #[.int .i64 pg, .string (bs ((s.drop (a + 8)).take 512))]) (t := 51) (fr := (0, 0)) (heap_alloc_new wr _)) (imgOne _ _) (by omega) hjm hjb (by simp; have := hbwr.size; omega) (wr.heap.size + 1) (by simp) ?_; intro gg cap w9 hown9 hgrow hat hlt; have hM9 := (hgrow.block M (by simp; omega) HV.out.1).trans (heap_alloc_old HM.out); obtain ⟨x0, x1, x2, x3, x4, x5, xf⟩ := cells6 hM9; clear x0 x1 x2 x3 x4; have HM9 := hid hM9; clear hM9; have hR9 := (hgrow.block w.heap.size (by simp; have := lt_of_block HR.out; omega) HV.out.2).trans (heap_alloc_old HR.out); have HR9 := hid hR9; clear hR9; have hB9 := (hbwr.alloc hbwr.size (.cells #[.int .i64 pg, .string (bs ((s.drop (a + 8)).take 512))] 51)).drew.grown hgrow (by simp; have := hbwr.size; omega) (fun k hk => (hown.lt k hk).1))
          | (go_simp; go_at_call 34; with_reducible refine (HY.out _).mono ?_; rintro e w4 ⟨rfl, rfl⟩)))
        all_goals
          clear m5c mf x5 hgrow f1 f2 f3 f4 f5 f6 f7 f8 f9 f10
          go_wp2_with fail
          refine ⟨rtake_step (by omega) Hl1.out Ha.out gl Hgo.out Hpar.out HM9.out HR9.out hown9 hB9, ?_⟩
          have hz : ((a : Int) + 8 + 512).toNat = a + 520 := by omega
          simp only [intOf, hz, Int.toNat_natCast]
          omega
      · have gl' : decide ((a : Int) + 8 + 512 ≤ (s.length : Int)) = false := by simp; omega
        have hall : l1 = parseR (s.drop 56) := by rw [← Hpar.out, parseR_stop _ (by simp; omega), List.append_nil]
        have hmm : (⟨minN n1 255, n2, n3, n4 == 1, n5, l1⟩ : Sh) = refSh s := by rw [HRS.out, ← hall]
        have hsmall : ∀ x ∈ l1, x.2.length ≤ 9223372036854775807 := fun x hx => by
          rw [hall] at hx
          have := parseR_small _ _ (Nat.le_refl _) x hx
          omega
        have himgs : ImgsAt wr v l1 := own_imgs (by rw [Hl1.out]; exact hown)
        have hjs : l1.length ≤ 9223372036854775807 := by rw [Hl1.out]; have := Ha.out; omega
        obtain ⟨ao, cap, rfl⟩ := imgs_shape himgs
        have hwf : Wf ⟨minN n1 255, n2, n3, n4 == 1, n5, l1⟩ := by rw [hmm]; exact ref_wf s
        have hbx : ∀ w', Below wr.heap.size wr w' → Below w.heap.size w w' := fun w' h => hbwr.trans (h.mono hbwr.size)
        have Hmm := hid hmm
        have Himgs := hid himgs
        have Hsmall := hid hsmall
        have Hbx := hid hbx
        have Hjs := hid hjs
        have Hwf := hid hwf
        clear hall hmm himgs hsmall hbx hjs hbwr hown hwf
        have hwlt := lt_of_block HR.out
        cases hmay : mayB ⟨minN n1 255, n2, n3, n4 == 1, n5, l1⟩
        · have hno := refPut_no ⟨minN n1 255, n2, n3, n4 == 1, n5, l1⟩ _ wr Himgs.out Hjs.out Hsmall.out Hwf.out.2.2.1 hmay
          have hres : takeM s = (zeroSh, 7) := by
            rw [Hmm.out] at hmay
            rw [Hlaw.out, if_neg (by rw [hmay]; simp)]
          have Hres := hid hres
          have Hno := hid hno
          unfold shipV at Hno
          clear hno hres hmay
          go_wp2_with fail
          refine Hno.out.mono ?_
          rintro e w8 ⟨rfl, hb8⟩
          have HR8 := hid ((hb8.block w.heap.size (lt_of_block HR.out)).trans HR.out)
          obtain ⟨r0, r1, r2, r3, r4, r5, rf⟩ := cells6 HR8.out
          have HB8 := hid (Hbx.out w8 hb8)
          clear m0c m1c m2c m3c m4c m5c mf hb8
          go_wp2_with fail
          refine bodyPost_ret (v := .tuple #[zeroV, .int .i64 7]) (by simp [results, Try.results18, go_sem, zeroV, r0, r1, r2, r3, r4, r5, rf]) rfl ⟨.slice none 0 0, by rw [Hres.out]; rfl, by rw [Hres.out]; exact .inl ⟨⟨_, _, rfl⟩, rfl⟩, ?_⟩
          iterate 6 refine Below.setCell ?_ (by simp) _
          exact HB8.out
        · have hyes2 := refPut_yes ⟨minN n1 255, n2, n3, n4 == 1, n5, l1⟩ _ wr Himgs.out hmay Hwf.out
          by_cases heq : putL ⟨minN n1 255, n2, n3, n4 == 1, n5, l1⟩ = s
          · have hres : takeM s = (⟨minN n1 255, n2, n3, n4 == 1, n5, l1⟩, 0) := by
              rw [Hmm.out] at hmay heq
              rw [Hmm.out, Hlaw.out, if_pos ⟨hmay, heq⟩]
            rw [heq] at hyes2
            have heqb : (s == s) = true := by simp
            have Hres := hid hres
            have Hyes2 := hid hyes2
            unfold shipV at Hyes2
            clear hyes2 hres hmay heq
            go_wp2_with fail
            refine Hyes2.out.mono ?_
            rintro e w8 ⟨rfl, hb8⟩
            have HR8 := hid ((hb8.block w.heap.size (lt_of_block HR.out)).trans HR.out)
            obtain ⟨r0, r1, r2, r3, r4, r5, rf⟩ := cells6 HR8.out
            have hM8 := (hb8.block M (lt_of_block HM.out)).trans HM.out
            have HI8 := hid (imgs_kept Himgs.out hb8)
            have HB8 := hid (Hbx.out w8 hb8)
            clear m0c m1c m2c m3c m4c m5c mf
            obtain ⟨m0c, m1c, m2c, m3c, m4c, m5c, mf⟩ := cells6 hM8
            clear hb8 hM8
            go_wp2_with fail
            refine bodyPost_ret (v := .tuple #[shipV ⟨minN n1 255, n2, n3, n4 == 1, n5, l1⟩ (.slice ao l1.length cap), .int .i64 0]) (by simp [results, Try.results18, go_sem, shipV, r0, r1, r2, r3, r4, r5, rf]) rfl ⟨.slice ao l1.length cap, by rw [Hres.out], ?_, ?_⟩
            · rw [Hres.out]
              refine imgs_result HI8.out HR8.out (fun k hk => ?_)
              iterate 6 rw [Below.heap_setCell _ _ _ k (by simpa using hk)]
            · iterate 6 refine Below.setCell ?_ (by simp) _
              exact HB8.out
          · have hres : takeM s = (zeroSh, 7) := by
              rw [Hmm.out] at heq
              rw [Hlaw.out, if_neg (by simp [heq])]
            obtain ⟨t, ht⟩ : ∃ t, t = putL ⟨minN n1 255, n2, n3, n4 == 1, n5, l1⟩ := ⟨_, rfl⟩
            rw [← ht] at hyes2 heq
            have heqb : (t == s) = false := by simpa using heq
            have Hres := hid hres
            have Hyes2 := hid hyes2
            unfold shipV at Hyes2
            clear hyes2 hres hmay heq ht
            go_wp2_with fail
            refine Hyes2.out.mono ?_
            rintro e w8 ⟨rfl, hb8⟩
            have HR8 := hid ((hb8.block w.heap.size (lt_of_block HR.out)).trans HR.out)
            obtain ⟨r0, r1, r2, r3, r4, r5, rf⟩ := cells6 HR8.out
            have HB8 := hid (Hbx.out w8 hb8)
            clear m0c m1c m2c m3c m4c m5c mf hb8
            go_wp2_with fail
            refine bodyPost_ret (v := .tuple #[zeroV, .int .i64 7]) (by simp [results, Try.results18, go_sem, zeroV, r0, r1, r2, r3, r4, r5, rf]) rfl ⟨.slice none 0 0, by rw [Hres.out]; rfl, by rw [Hres.out]; exact .inl ⟨⟨_, _, rfl⟩, rfl⟩, ?_⟩
            iterate 6 refine Below.setCell ?_ (by simp) _
            exact HB8.out
theorem refTake_any (s : List UInt8) (w : World) (hs : s.length ≤ 1099511627776) :
    Calls Try.prog 18 #[.string (bs s)] w fun e w' => ∃ v, e = .returned (.tuple #[shipV (takeM s).1 v, .int .i64 (takeM s).2]) ∧ ImgsAt w' v (takeM s).1.imgs ∧ Below w.heap.size w w' := by
  by_cases h1 : s.length < 56
  · have e : takeM s = (zeroSh, 7) := by unfold takeM; rw [if_pos (.inl h1)]
    rw [e]
    exact (refTake_short s w h1).mono fun _ _ ⟨he, hb⟩ => ⟨.slice none 0 0, he, .inl ⟨⟨_, _, rfl⟩, rfl⟩, hb⟩
  · by_cases h2 : s.length % 8 ≠ 0
    · have e : takeM s = (zeroSh, 7) := by unfold takeM; rw [if_pos (.inr h2)]
      rw [e]
      exact (refTake_odd s w (by omega) h2 hs).mono fun _ _ ⟨he, hb⟩ => ⟨.slice none 0 0, he, .inl ⟨⟨_, _, rfl⟩, rfl⟩, hb⟩
    · have h2' : s.length % 8 = 0 := by omega
      by_cases h3 : s.take 8 = textOf (sumAdd (0, 0) (s.drop 8))
      · exact refTake_main s w (by omega) h2' hs h3
      · have e : takeM s = (zeroSh, 40) := by unfold takeM; rw [if_neg (by omega), if_pos h3]
        rw [e]
        exact (refTake_sum s w (by omega) h2' hs h3).mono fun _ _ ⟨he, hb⟩ => ⟨.slice none 0 0, he, .inl ⟨⟨_, _, rfl⟩, rfl⟩, hb⟩
end Go.Proofs.Ytdgpdfigipplpaa
