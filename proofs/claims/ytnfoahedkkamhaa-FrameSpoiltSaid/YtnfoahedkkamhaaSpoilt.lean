/- The law FrameSpoilt, walked. (Printed by wip/mkspoilt.py.) -/
import Derived.Test.YtnfoahedkkamhaaFBack
namespace Go.Proofs.Ytnfoahedkkamhaa
open Go.RowKit
set_option linter.unusedVariables false
set_option linter.unusedSimpArgs false

/-- One block put in the place of another. -/
theorem oneBlock_splice (s c : List UInt8) (k : Nat) (h8 : k % 8 = 0) (hk : k + 8 ≤ s.length) (hc : c.length = 8) : OneBlock (k / 8) s (s.take k ++ (c ++ s.drop (k + 8))) := by
  refine ⟨by simp; omega, fun i hi => ?_⟩
  by_cases h1 : i < k
  · rw [List.getElem?_append_left (by simp; omega)]
    simp [List.getElem?_take, h1]
  · have hkl : (s.take k).length = k := by simp; omega
    rw [List.getElem?_append_right (by omega), hkl, List.getElem?_append_right (by omega), hc, List.getElem?_drop]
    congr 1
    omega

/-- Four blocks that lie side by side. -/
def Four (b : Nat) (o1 o2 o3 o4 : Obj) (W : World) : Prop := W.heap[b]? = some o1 ∧ W.heap[b + 1]? = some o2 ∧ W.heap[b + 1 + 1]? = some o3 ∧ W.heap[b + 1 + 1 + 1]? = some o4
theorem Four.kept {b : Nat} {o1 o2 o3 o4 : Obj} {W W' : World} (h : Four b o1 o2 o3 o4 W) (hb : Below W.heap.size W W') : Four b o1 o2 o3 o4 W' :=
  ⟨(hb.block _ (lt_of_block h.1)).trans h.1, (hb.block _ (lt_of_block h.2.1)).trans h.2.1, (hb.block _ (lt_of_block h.2.2.1)).trans h.2.2.1, (hb.block _ (lt_of_block h.2.2.2)).trans h.2.2.2⟩
theorem Four.lt {b : Nat} {o1 o2 o3 o4 : Obj} {W : World} (h : Four b o1 o2 o3 o4 W) : b + 1 + 1 + 1 < W.heap.size := lt_of_block h.2.2.2
theorem four_new (w : World) (a b c d : Obj) : Four w.heap.size a b c d ((((w.alloc a).alloc b).alloc c).alloc d) := by
  have h := three_new (w.alloc a) b c d
  have e : (w.alloc a).heap.size = w.heap.size + 1 := by simp
  rw [e] at h
  exact ⟨heap_alloc_old (heap_alloc_old (heap_alloc_old (heap_alloc_new w a))), h.1, h.2.1, h.2.2⟩
theorem below_four (w : World) (a b c d : Obj) : Below w.heap.size w ((((w.alloc a).alloc b).alloc c).alloc d) := (below_three w a b c).alloc (by simp; omega) d

theorem conv_block (b0 b1 b2 b3 b4 b5 b6 b7 : UInt8) (T : TypeId) (B : Nat) (W : World) (h : W.heap[B]? = some (.cells #[.int .u8 (b0.toNat : Int), .int .u8 (b1.toNat : Int), .int .u8 (b2.toNat : Int), .int .u8 (b3.toNat : Int), .int .u8 (b4.toNat : Int), .int .u8 (b5.toNat : Int), .int .u8 (b6.toNat : Int), .int .u8 (b7.toNat : Int)] T (0, 0))) :
    (convert 52 9 (.slice (some ⟨B, 0, none⟩) 8 8)).run Try.prog W = .ok (.string (bs [b0, b1, b2, b3, b4, b5, b6, b7])) W := by
  have kd := run_convert_cells (P := Try.prog) W 52 9 5 Try.underlying52 Try.underlying5 Try.underlying9 B 0 8 8 [(b0.toNat : Int), (b1.toNat : Int), (b2.toNat : Int), (b3.toNat : Int), (b4.toNat : Int), (b5.toNat : Int), (b6.toNat : Int), (b7.toNat : Int)] rfl
    (by intro i hi; match i, hi with | 0, _ => simpa using cell_of_block h 0 | 1, _ => simpa using cell_of_block h 1 | 2, _ => simpa using cell_of_block h 2 | 3, _ => simpa using cell_of_block h 3 | 4, _ => simpa using cell_of_block h 4 | 5, _ => simpa using cell_of_block h 5 | 6, _ => simpa using cell_of_block h 6 | 7, _ => simpa using cell_of_block h 7)
  have e1 : ([(b0.toNat : Int), (b1.toNat : Int), (b2.toNat : Int), (b3.toNat : Int), (b4.toNat : Int), (b5.toNat : Int), (b6.toNat : Int), (b7.toNat : Int)].map fun n => UInt8.ofNat n.toNat) = [b0, b1, b2, b3, b4, b5, b6, b7] := by simp
  rwa [e1] at kd

set_option maxHeartbeats 4000000 in
set_option maxRecDepth 100000 in
theorem spoilt_any (p : Int × Int) (h : Hd) (f : Fr) (a : Int) (b0 b1 b2 b3 b4 b5 b6 b7 : UInt8) (w : World) (hp : PairWf p) (hw : HdWf h) (hfl : f.data.length ≤ 9223372036854775807) (ha0 : -9223372036854775808 ≤ a) (ha1 : a ≤ 9223372036854775807) :
    Calls Try.prog 8 #[pairV p, hdV h, frV f, .int .i64 a, .agg #[.int .u8 (b0.toNat : Int), .int .u8 (b1.toNat : Int), .int .u8 (b2.toNat : Int), .int .u8 (b3.toNat : Int), .int .u8 (b4.toNat : Int), .int .u8 (b5.toNat : Int), .int .u8 (b6.toNat : Int), .int .u8 (b7.toNat : Int)]] w fun e w' => e = .returned (.bool true) ∧ Below w.heap.size w w' := by
  have P := fun W => putFr_any p h.number f W hp hw.1 hw.2 hfl
  have PH := fun W => putHead_any h W hw
  have T := fun (t : List UInt8) (ht : t.length ≤ 1099511627776) W => takeFr_any p h.number t W hp hw.1 hw.2 ht
  have TH := fun (t : List UInt8) (ht : t.length ≤ 1099511627776) W => takeHead_any t W ht
  have lawF := fun (hok : frOk f = true) (n : Nat) (t : List UInt8) (ho : OneBlock n (frL p h.number f) t) => tkFr_block p h.number f n t hok hp ho
  have lawH := fun (hm : hdMay h = true) (n : Nat) (t : List UInt8) (ho : OneBlock n (hdL h) t) => tkHd_block h n t hm hw ho
  have lenF := fun (hok : frOk f = true) => frL_length p h.number f (frOk_facts hok).2.1
  have lenH := hdL_length h
  have KD := conv_block b0 b1 b2 b3 b4 b5 b6 b7 51
  by_cases hbig : f.data.length ≤ 8192 ∧ ¬ a < 0
  · obtain ⟨hb1, hneg⟩ := hbig
    obtain ⟨n, rfl⟩ : ∃ n : Nat, a = n := ⟨a.toNat, by omega⟩
    have hneg' : decide ((n : Int) < 0) = false := by simp
    clear hneg ha0 ha1
    obtain ⟨c, hc⟩ : ∃ c : List UInt8, c = [b0, b1, b2, b3, b4, b5, b6, b7] := ⟨_, rfl⟩
    have hcl : c.length = 8 := by rw [hc]; rfl
    simp only [← hc] at KD
    clear hc
    have okc : (if frOk f then (frL p h.number f, frQ p h.number f, (0 : Int)) else ([], (0, 0), 2)) = ((putFr p h.number f).s, (putFr p h.number f).q, (putFr p h.number f).e) := by unfold putFr; split <;> rfl
    have hdc : hdR h = if hdMay h then (hdL h, 0) else ([], 2) := rfl
    obtain ⟨ok, hok⟩ : ∃ b, b = frOk f := ⟨_, rfl⟩
    obtain ⟨hm, hhm⟩ : ∃ b, b = hdMay h := ⟨_, rfl⟩
    rw [← hok] at okc lawF lenF
    rw [← hhm] at hdc lawH
    rw [hdc] at PH
    obtain ⟨A, hA⟩ : ∃ A, A = putFr p h.number f := ⟨_, rfl⟩
    simp only [← hA] at P okc
    obtain ⟨F, hF⟩ : ∃ F, F = frL p h.number f := ⟨_, rfl⟩
    obtain ⟨G, hG⟩ : ∃ G, G = hdL h := ⟨_, rfl⟩
    simp only [← hF] at okc lawF lenF
    simp only [← hG] at hdc lawH lenH PH
    have HP := hid P
    have HPH := hid PH
    have HT := hid T
    have HTH := hid TH
    have HlawF := hid lawF
    have HlawH := hid lawH
    have HlenF := hid lenF
    have HlenH := hid lenH
    have HKD := hid KD
    have Hok := hid okc
    clear P PH T TH lawF lawH lenF lenH KD hok hhm hA hF hG hp hw hfl okc hdc
    obtain ⟨num, fra, pag⟩ := h
    obtain ⟨page, commit, data⟩ := f
    obtain ⟨As, Aq, Ae⟩ := A
    have l1 : decide ((8192 : Int) < (data.length : Int)) = false := by simp; simp only at hb1; omega
    clear hb1
    unfold pairV hdV frV at *
    simp only at HP HPH HT HTH HlawF Hok
    go_enter Try.func8, Try.ntmps8
    go_wp2_with fail
    refine (works_any _).mono ?_
    rintro e w1 ⟨rfl, hb⟩
    have H1 := hid ((four_new w _ _ _ _).kept hb)
    have hbw := (below_four w _ _ _ _).trans (hb.mono (by simp; omega))
    obtain ⟨a0, a1, af⟩ := cells2 H1.out.1
    obtain ⟨d0, d1, d2, df⟩ := cells3 H1.out.2.1
    obtain ⟨c0, c1, c2, cf⟩ := cells3 H1.out.2.2.1
    clear hb
    go_wp2_with fail
    refine (HP.out _).mono ?_
    rintro e w2 ⟨rfl, hb2⟩
    have hb2' := hb2.trans ((Below.refl _ _).alloc (Nat.le_refl _) (.cells #[.int .u32 Aq.1, .int .u32 Aq.2] 33) |>.mono hb2.size)
    clear a0 a1 af d0 d1 d2 df c0 c1 c2 cf
    have H2 := hid (H1.out.kept hb2')
    have hbw2 := hbw.trans (hb2'.mono hbw.size)
    clear H1 hb2 hb2' HP
    have lt2 := H2.out.lt
    obtain ⟨w3, hw3⟩ : ∃ x, x = w2.alloc (.cells #[.int .u32 Aq.1, .int .u32 Aq.2] 33) := ⟨_, rfl⟩
    go_upto_if 38 with (fail)
    rw [← hw3] at H2 hbw2 lt2 ⊢
    clear hw3
    go_cut [11] (fun s11 wx => ∃ wy, wy = wx ∧ Four w.heap.size (.cells #[.int .u32 p.1, .int .u32 p.2] 33) (.cells #[.int .u64 num, .int .i64 fra, .int .i64 pag] 27) (.cells #[.int .i64 page, .int .i64 commit, .string (bs data)] 37) (.cells #[.int .u8 (b0.toNat : Int), .int .u8 (b1.toNat : Int), .int .u8 (b2.toNat : Int), .int .u8 (b3.toNat : Int), .int .u8 (b4.toNat : Int), .int .u8 (b5.toNat : Int), .int .u8 (b6.toNat : Int), .int .u8 (b7.toNat : Int)] 51) wy ∧ Below w.heap.size w wy)
    case first =>
      cases ok
      · have h := Hok.out
        simp only [Bool.false_eq_true, if_false, Prod.mk.injEq] at h
        obtain ⟨_, _, rfl⟩ := h
        go_wp2_with fail
        go_meet
        exact ⟨_, rfl, H2.out, hbw2⟩
      · have h := Hok.out
        simp only [if_true, Prod.mk.injEq] at h
        obtain ⟨rfl, rfl, rfl⟩ := h
        obtain ⟨k, hk⟩ : ∃ k : Nat, k = n % (F.length / 8) * 8 := ⟨_, rfl⟩
        have hsl : 64 ≤ F.length ∧ F.length ≤ 576 ∧ F.length % 8 = 0 := by have := HlenF.out rfl; omega
        obtain ⟨hs1, hs2, hs3⟩ := hsl
        have hkI : (n : Int) % ((F.length : Int) / 8) * 8 = (k : Int) := by rw [hk]; simp
        have hd8 : ((F.length : Int) / 8 == 0) = false := by rw [beq_eq_false_iff_ne]; omega
        have hk8 : k % 8 = 0 := by omega
        have hkl : k + 8 ≤ F.length := by
          have : n % (F.length / 8) < F.length / 8 := Nat.mod_lt _ (by omega)
          omega
        have ho := oneBlock_splice F c k hk8 hkl hcl
        obtain ⟨t, ht⟩ : ∃ t, t = F.take k ++ (c ++ F.drop (k + 8)) := ⟨_, rfl⟩
        have htl : t.length ≤ 1099511627776 := by rw [ht]; simp; omega
        rw [← ht] at ho
        have hlaw := HlawF.out rfl (k / 8) t ho
        obtain ⟨b, hb1, hb2⟩ := bool_of_iff hlaw
        rw [← int_beq] at hb1
        have hb2 : (F == t) = b := by rw [← hb2]; rw [Bool.eq_iff_iff]; simp
        have ecat : F.take k ++ (c ++ F.drop (k + 8)) = t := ht.symm
        have kd := HKD.out (w.heap.size + 1 + 1 + 1) w3.drew H2.out.2.2.2
        clear hlaw ho ht hk
        have hw8 : IntKind.i64.wrap ((k : Int) + 8) = (k : Int) + 8 := IntWalk.i64_in _ (by omega)
        have hn8 : ((k : Int) + 8).toNat = k + 8 := by omega
        have f7 : k ≤ F.length := by omega
        have f9 : (k : Int) + 8 ≤ (F.length : Int) := by omega
        have g1 : ¬ (9223372036854775807 < k + 8) := by omega
        have f3 : (0 : Int) ≤ (k : Int) + 8 := by omega
        have g2 : ¬ (9223372036854775807 < k + 8 + (F.length - (k + 8))) := by omega
        have g3 : ¬ (9223372036854775807 < k + (8 + (F.length - (k + 8)))) := by omega
        have g4 : ¬ (9223372036854775807 < F.length) := by omega
        go_wp2_with fail
        refine region_tail 11 (fun W => W = w3.drew) (by kernel_rfl) (by kernel_rfl) rfl ?_
        rintro W rfl
        simp only [List.take_succ_cons, List.take_zero, List.drop_succ_cons, List.drop_zero]
        repeat still_step
        refine wpStill_nil ?_
        obtain ⟨a0, a1, af⟩ := cells2 (show Four _ _ _ _ _ w3.drew from H2.out).1
        obtain ⟨d0, d1, d2, df⟩ := cells3 (show Four _ _ _ _ _ w3.drew from H2.out).2.1
        have TT := fun W => HT.out t htl W
        obtain ⟨K, hK⟩ : ∃ K, K = tkFr p num t := ⟨_, rfl⟩
        simp only [← hK] at TT hb1
        obtain ⟨Kf, Kq, Ke⟩ := K
        simp only at TT hb1
        have HTT := hid TT
        clear TT hK ecat kd
        go_wp2_with fail
        refine (HTT.out _).mono ?_
        rintro e w4 ⟨rfl, hb4⟩
        have H4 := (show Four _ _ _ _ _ w3.drew from H2.out).kept hb4
        have hbw4 := hbw2.drew.trans (hb4.mono hbw2.size)
        clear a0 a1 af d0 d1 d2 df HTT hb4
        cases b
        all_goals
          go_wp2_with fail
          go_meet
          exact ⟨_, rfl, H4, hbw4⟩
    case rest =>
      obtain ⟨wx, rfl, H5, hbw5⟩ := hcut
      clear HT HlawF HlenF Hok H2 hbw2
      have H5 := hid H5
      have lt5 := H5.out.lt
      obtain ⟨d0, d1, d2, df⟩ := cells3 H5.out.2.1
      cases hm
      · simp only [Bool.false_eq_true, if_false] at HPH
        go_wp2_with fail
        refine (HPH.out _).mono ?_
        rintro e w6 ⟨rfl, hb6⟩
        go_wp2_with fail
        go_ret
        exact ⟨rfl, hbw5.trans (hb6.mono hbw5.size)⟩
      · simp only [if_true] at HPH
        go_wp2_with fail
        refine (HPH.out _).mono ?_
        rintro e w6 ⟨rfl, hb6⟩
        have H6 := hid (H5.out.kept hb6)
        have hbw6 := hbw5.trans (hb6.mono hbw5.size)
        clear d0 d1 d2 df hb6 H5 HPH
        obtain ⟨k, hk⟩ : ∃ k : Nat, k = n % (G.length / 8) * 8 := ⟨_, rfl⟩
        have hsl : 64 ≤ G.length ∧ G.length ≤ 576 ∧ G.length % 8 = 0 := by have := HlenH.out; omega
        obtain ⟨hs1, hs2, hs3⟩ := hsl
        have hkI : (n : Int) % ((G.length : Int) / 8) * 8 = (k : Int) := by rw [hk]; simp
        have hd8 : ((G.length : Int) / 8 == 0) = false := by rw [beq_eq_false_iff_ne]; omega
        have hk8 : k % 8 = 0 := by omega
        have hkl : k + 8 ≤ G.length := by
          have : n % (G.length / 8) < G.length / 8 := Nat.mod_lt _ (by omega)
          omega
        have ho := oneBlock_splice G c k hk8 hkl hcl
        obtain ⟨t, ht⟩ : ∃ t, t = G.take k ++ (c ++ G.drop (k + 8)) := ⟨_, rfl⟩
        have htl : t.length ≤ 1099511627776 := by rw [ht]; simp; omega
        rw [← ht] at ho
        have hlaw := HlawH.out (by first | rfl | trivial) (k / 8) t ho
        obtain ⟨b, hb1, hb2⟩ := bool_of_iff hlaw
        rw [← int_beq] at hb1
        have hb2 : (G == t) = b := by rw [← hb2]; rw [Bool.eq_iff_iff]; simp
        have ecat : G.take k ++ (c ++ G.drop (k + 8)) = t := ht.symm
        have kd := HKD.out (w.heap.size + 1 + 1 + 1) w6.drew H6.out.2.2.2
        clear hlaw ho ht hk
        have hw8 : IntKind.i64.wrap ((k : Int) + 8) = (k : Int) + 8 := IntWalk.i64_in _ (by omega)
        have hn8 : ((k : Int) + 8).toNat = k + 8 := by omega
        have f7 : k ≤ G.length := by omega
        have f9 : (k : Int) + 8 ≤ (G.length : Int) := by omega
        have g1 : ¬ (9223372036854775807 < k + 8) := by omega
        have f3 : (0 : Int) ≤ (k : Int) + 8 := by omega
        have g2 : ¬ (9223372036854775807 < k + 8 + (G.length - (k + 8))) := by omega
        have g3 : ¬ (9223372036854775807 < k + (8 + (G.length - (k + 8)))) := by omega
        have g4 : ¬ (9223372036854775807 < G.length) := by omega
        go_wp2_with fail
        refine region_tail 11 (fun W => W = w6.drew) (by kernel_rfl) (by kernel_rfl) rfl ?_
        rintro W rfl
        simp only [List.take_succ_cons, List.take_zero, List.drop_succ_cons, List.drop_zero]
        repeat still_step
        refine wpStill_nil ?_
        have TT := fun W => HTH.out t htl W
        obtain ⟨K, hK⟩ : ∃ K, K = tkHd t := ⟨_, rfl⟩
        simp only [← hK] at TT hb1
        obtain ⟨⟨Kn, Kf, Kp⟩, Ke⟩ := K
        simp only at TT hb1
        have HTT := hid TT
        clear TT hK ecat kd
        go_wp2_with fail
        refine (HTT.out _).mono ?_
        rintro e w7 ⟨rfl, hb7⟩
        have hbw7 := hbw6.drew.trans (hb7.mono hbw6.size)
        cases b
        all_goals
          go_wp2_with fail
          go_ret
          exact ⟨rfl, hbw7⟩
  · clear P PH T TH lawF lawH lenF lenH KD
    obtain ⟨num, fra, pag⟩ := h
    obtain ⟨page, commit, data⟩ := f
    unfold pairV hdV frV
    simp only at hbig
    by_cases h1 : data.length ≤ 8192
    · have l1 : decide ((8192 : Int) < (data.length : Int)) = false := by simp; omega
      have l2 : decide (a < 0) = true := by simp; omega
      clear hbig
      go_enter Try.func8, Try.ntmps8
      go_wp2_with fail
      refine (works_any _).mono ?_
      rintro e w1 ⟨rfl, hb⟩
      have H1 := (four_new w _ _ _ _).kept hb
      have hbw := (below_four w _ _ _ _).trans (hb.mono (by simp; omega))
      obtain ⟨c0, c1, c2, cf⟩ := cells3 H1.2.2.1
      clear hb H1
      go_wp2_with fail
      go_ret
      exact ⟨rfl, hbw⟩
    · have l1 : decide ((8192 : Int) < (data.length : Int)) = true := by simp; omega
      clear hbig
      go_enter Try.func8, Try.ntmps8
      go_wp2_with fail
      refine (works_any _).mono ?_
      rintro e w1 ⟨rfl, hb⟩
      have H1 := (four_new w _ _ _ _).kept hb
      have hbw := (below_four w _ _ _ _).trans (hb.mono (by simp; omega))
      obtain ⟨c0, c1, c2, cf⟩ := cells3 H1.2.2.1
      clear hb H1
      go_wp2_with fail
      go_ret
      exact ⟨rfl, hbw⟩
end Go.Proofs.Ytnfoahedkkamhaa
