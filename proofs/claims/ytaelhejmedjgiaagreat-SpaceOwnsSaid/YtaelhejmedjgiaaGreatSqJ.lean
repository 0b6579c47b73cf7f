/- The law SpaceOwns: its walk. -/
import Derived.Test.YtaelhejmedjgiaaGreatSqI
import Derived.Deep.CutBlock
set_option linter.unusedVariables false
set_option linter.unusedSimpArgs false
namespace Go.Proofs.YtaelhejmedjgiaaGreat
open Go.RowKit Go.Maps
set_option maxRecDepth 20000
def IntsAt (w : World) (B : Nat) (v : Value) (l : List Int) : Prop :=
 ∃ ao cap, v = .slice ao l.length cap ∧ ∀ k (hk : k < l.length), ∃ q o, ao = some ⟨q, o, none⟩ ∧ q < B ∧ q < w.heap.size ∧ w.cell? ⟨q, o + k, none⟩ = some (.int .i64 l[k])
structure IntsIn (w : World) (v : Value) (l : List Int) : Prop where
 at' : IntsAt w w.heap.size v l
 len : l.length ≤ 9223372036854775807
 wf : ∀ n ∈ l, in64 n
structure OwRead (w w' : World) (pb l b : Nat) (p : Pg) (g : Lg) (d : Dsk) (v : Value) (O P : List Nat) (N : Nat) (X : Nat → Prop) (c z : Nat) : Prop where
 st : OwSt w w' pb l b p g d v O P N X
 pg : ppagesM p g = ((c + z + 1 : Nat) : Int)
 few : c ≤ 255
theorem OwSt.read {w W : World} {pb l b N : Nat} {p : Pg} {g : Lg} {d : Dsk} {X : Nat → Prop} {O P : List Nat} {v : Value} (h : OwSt w W pb l b p g d v O P N X) {z : Nat} (hz : z = P.length) : Calls Tryz.prog 13 #[.pointer (some ⟨pb, 0, none⟩)] W fun e w' => ∃ (f c : Nat) (k r0 r1 r2 r3 r4 r5 r6 r7 : Int),
  e = .returned (.tuple #[.agg #[.int .i64 (f : Int), .int .i64 (c : Int), .int .u64 k, .int .i64 r0, .int .i64 r1, .int .i64 r2, .int .i64 r3, .int .i64 r4, .int .i64 r5, .int .i64 r6, .int .i64 r7], .int .i64 0]) ∧ OwRead w w' pb l b p g d v O P N X c z := by
 obtain ⟨f, c, k, r, h1, h2, h3, h4⟩ := owt_sums h.ow
 obtain ⟨r0, r1, r2, r3, r4, r5, r6, r7, rfl⟩ : ∃ r0 r1 r2 r3 r4 r5 r6 r7, r = [r0, r1, r2, r3, r4, r5, r6, r7] := by
  match r, h2 with
  | [r0, r1, r2, r3, r4, r5, r6, r7], _ => exact ⟨r0, r1, r2, r3, r4, r5, r6, r7, rfl⟩
 have A := sread_any h.px
 rw [h1] at A
 refine A.mono ?_
 rintro e w' ⟨rfl, hb⟩
 exact ⟨f, c, k, r0, r1, r2, r3, r4, r5, r6, r7, rfl, h.below hb, by rw [hz]; exact h3, h4⟩
theorem OwRead.pages {w W W2 : World} {pb l b N c z : Nat} {p : Pg} {g : Lg} {d : Dsk} {X : Nat → Prop} {O P : List Nat} {v : Value} (h : OwRead w W pb l b p g d v O P N X c z) (hb : Below W.heap.size W W2) : Calls Tryz.prog 14 #[.pointer (some ⟨pb, 0, none⟩)] W2 fun e w' => e = .returned (.int .i64 ((c : Int) + (z : Int) + 1)) ∧ w' = W2 := by
 have A := px_pages (h.st.px.below hb)
 rw [h.pg] at A
 have e : ((c + z + 1 : Nat) : Int) = (c : Int) + (z : Int) + 1 := by omega
 rwa [e] at A
theorem OwSt.more {w W : World} {pb l b N M : Nat} {p : Pg} {g : Lg} {d : Dsk} {X : Nat → Prop} {O P : List Nat} {v : Value} (h : OwSt w W pb l b p g d v O P N X) (hM : N ≤ M) : OwSt w W pb l b p g d v O P M X := ⟨h.px, h.ow, h.row, h.own, h.sm.mono hM⟩
theorem below_drew {n : Nat} {w w' : World} (h : Below n w w') : Below n w w'.drew := ⟨h.os, h.tape, h.output, h.size, h.block⟩
theorem below_drewN {n : Nat} {w w' : World} (h : Below n w w') (k : Nat) : Below n w (w'.drewN k) := ⟨h.os, h.tape, h.output, h.size, h.block⟩
set_option maxHeartbeats 16000000 in
set_option maxRecDepth 20000 in
theorem spaceOwns_any (w : World) (v : Value) (lst : List Int) (h : IntsIn w v lst) : Calls Tryz.prog 3 #[v] w fun e w' => e = .returned (.bool true) ∧ Below w.heap.size w w' := by
 obtain ⟨ao, cap, rfl, hc⟩ := h.at'
 have hlen := h.len
 have hwf := h.wf
 obtain ⟨n, hn⟩ : ∃ n, n = lst.length := ⟨_, rfl⟩
 rw [← hn] at hlen ⊢
 have WK := hid (sworks_any w)
 have HC := hid hc
 have Hn := hid hn
 have HWf := hid hwf
 clear h hc hn hwf
 by_cases h150 : 150 < n
 ·have b1 : decide (150 < n) = true := by simpa using h150
  go_enter Tryz.func3, Tryz.ntmps3
  go_wp2_with (first
   | (go_at_call 5; refine (WK.out).mono ?_; rintro e w1 ⟨rfl, hb1⟩; have HB1 := hid hb1; clear hb1)
   | go_in)
  go_ret
  exact ⟨rfl, HB1.out⟩
 have b1 : decide (150 < n) = false := by simpa using h150
 have hn150 : n ≤ 150 := by omega
 clear h150
 go_enter Tryz.func3, Tryz.ntmps3
 go_wp2_with (first
  | (go_at_call 5; refine (WK.out).mono ?_; rintro e w1 ⟨rfl, hb1⟩; have HB1 := hid hb1; clear hb1)
  | (go_at_call 6; refine (mk_new _).mono ?_; rintro e w2 ⟨db, rfl, hd2⟩; have HD2 := hid hd2; clear hd2)
  | (go_at_call 7; refine (px_fresh HD2.out).mono ?_; rintro e w3 ⟨pb, l, rfl, hp3⟩; have HP3 := hid hp3; clear hp3)
  | (go_at_call 8; refine (owc_begin HP3.out rfl rfl owc_new).mono ?_; rintro e w4 ⟨p4, rfl, hp4, ho4, -⟩; have HP4 := hid hp4; have HO4 := hid ho4; clear hp4 ho4)
  | go_in)
 have h0 : OwSt w1 w4 pb l db p4 exG0 newM (.slice none 0 0) [] [] 100 (fun _ => False) := ⟨HP4.out.to (fun k hk => hk.elim), HO4.out, .inl (World.ownsRow_nil _ _ _ _), (fun k hk => by cases hk), new_small⟩
 have H0 := hid h0
 clear h0 HP3 HP4 HO4 HD2 WK
 go_loopw [4, 6, 36] (fun v4 v6 v36 wr => ∃ (i pb l : Nat) (p : Pg) (g : Lg) (d : Dsk) (O : List Nat) (X : Nat → Prop), i ≤ n ∧ v36 = .int .i64 (i : Int) ∧ v4 = .pointer (some ⟨pb, 0, none⟩) ∧ O.length ≤ i ∧ OwSt w1 wr pb l db p g d v6 O O (100 + 8519680 * i) X) (fun _ _ v36 _ => n - (intOf v36).toNat)
 case atStart => exact ⟨0, pb, l, p4, _, _, [], _, Nat.zero_le _, rfl, rfl, Nat.le_refl _, H0.out⟩
 case round =>
  obtain ⟨i, pb, l, p, g, d, O, X, hi, rfl, rfl, hO, hst⟩ := hrel
  obtain ⟨aoO, capO, rfl, hle, hmax, hcell⟩ := hst.row.get
  have hbw : Below w.heap.size w wr := HB1.out.trans (hst.px.bel.mono HB1.out.size)
  have HSt := hid hst
  have HBw := hid hbw
  have HO := hid hO
  have HCell := hid hcell
  by_cases hlt : i < n
  ·have hil : i < lst.length := by have := Hn.out; omega
   obtain ⟨q, o, hao, -, hq, hcell2⟩ := HC.out i hil
   subst hao
   have c0 := (hbw.cell (p := ⟨q, o + i, none⟩) hq).trans hcell2
   obtain ⟨k, hk⟩ : ∃ k, k = lst[i] := ⟨_, rfl⟩
   rw [← hk] at c0
   have hi9 : (i : Int) < 9223372036854775807 := by omega
   have hiN : (i : Int) < (n : Int) := by omega
   have hw : IntKind.i64.wrap ((i : Int) + 1) = (i : Int) + 1 := IntWalk.i64_in _ (by omega)
   obtain ⟨z, hz⟩ : ∃ z, z = O.length := ⟨_, rfl⟩
   rw [← hz] at hle
   have HZ := hid hz
   have hz150 : z ≤ 150 := by omega
   rw [← hz]
   clear hst hbw hO hcell hcell2 hk hz
   go_upto_region 13 with fail
   go_cut [47] (fun v47 wx => ∃ cb : Bool, v47 = .bool cb ∧ (cb = true ↔ k < 0 ∨ z = 0) ∧ wx = wr)
   case first =>
    by_cases hk0 : k < 0
    ·have b2 : decide (k < 0) = true := by simpa using hk0
     have HB4 := hid (show k < 0 ∨ z = 0 by omega)
     go_wp2_with fail
     go_meet
     exact ⟨_, rfl, by have := HB4.out; simpa using this, rfl⟩
    ·have b2 : decide (k < 0) = false := by simpa using hk0
     by_cases hz0 : z = 0
     ·have b3 : ((z : Int) == 0) = true := by simp [hz0]
      have HB4 := hid (show k < 0 ∨ z = 0 by omega)
      clear hz0
      go_wp2_with fail
      go_meet
      exact ⟨_, rfl, by have := HB4.out; simpa using this, rfl⟩
     ·have b3 : ((z : Int) == 0) = false := by simp; omega
      have HB4 := hid (show ¬ (k < 0 ∨ z = 0) by omega)
      go_wp2_with fail
      go_meet
      exact ⟨_, rfl, by have := HB4.out; simpa using this, rfl⟩
   case rest =>
    obtain ⟨cb, rfl, hcb, hwc⟩ := hcut
    subst hwc
    have HCB := hid hcb
    clear hcb
    go_upto_if 47 with fail
    go_cut [6] (fun v6 wx => ∃ (p : Pg) (O' : List Nat) (X' : Nat → Prop), O'.length ≤ i + 1 ∧ OwSt w1 wx pb l db p g d v6 O' O' (100 + 8519680 * i) X')
    case first =>
     cases cb
     ·as_aux_lemma =>
       have hF : ¬ k < 0 ∧ 0 < z := by have := HCB.out; simp at this; omega
       have b3 : ((z : Int) == 0) = false := by simp; omega
       obtain ⟨ix, hix, hixz⟩ : ∃ ix : Nat, Int.tmod k (z : Int) = (ix : Int) ∧ ix < z := by
        have h1 := Int.tmod_lt_of_pos k (b := (z : Int)) (by omega)
        have h2 : 0 ≤ Int.tmod k (z : Int) := Int.tmod_nonneg _ (by omega)
        exact ⟨(Int.tmod k (z : Int)).toNat, by omega, by omega⟩
       have hixl : ix < O.length := by have := HZ.out; omega
       obtain ⟨gO, e6, hgO, hc6⟩ := HCell.out ix hixl
       subst e6
       have FR := HSt.out.free hixl
       obtain ⟨y, hy⟩ : ∃ y, y = O[ix] := ⟨_, rfl⟩
       rw [← hy] at FR hc6
       have FR := hid FR
       have hw1 : IntKind.i64.wrap ((ix : Int) + 1) = (ix : Int) + 1 := IntWalk.i64_in _ (by omega)
       have hz5 := hid HSt.out.px.bel.size
       clear hF hy
       clear hi hlt hi9 hiN
       go_upto_region 27 with (first
        | (go_at_call 10; refine (FR.out).mono ?_; rintro e w5 ⟨p5, rfl, h5⟩; have H5 := hid h5; clear h5)
        | go_in)
       have HR5 := hid (show ∀ W' : World, W'.heap = w5.heap → OwnI W' w1.heap.size (.slice (some ⟨gO, 0, none⟩) z capO) O from fun W' e => by rw [HZ.out]; exact H5.out.row.keep (fun y hy => by rw [e]))
       have hz6 := hid H5.out.px.bel.size
       have hixc : ix ≤ capO := by omega
       have hix1 : ix + 1 ≤ z := by omega
       have hix2 : ix + 1 ≤ capO := by omega
       have hiy0 : (0 : Int) ≤ (ix : Int) + 1 := by omega
       have hiy1 : (ix : Int) + 1 ≤ (z : Int) := by omega
       have hOl : O.length ≤ 900 := by have := HZ.out; omega
       obtain ⟨A, hA, hA2⟩ : ∃ A : Addr, (if capO = ix + 1 then some (⟨gO, 0, none⟩ : Addr) else some ⟨gO, ix + 1, none⟩) = some A ∧ (A = ⟨gO, ix + 1, none⟩ ∨ z - (ix + 1) = 0) := by
        by_cases hcc : capO = ix + 1
        ·exact ⟨_, by rw [if_pos hcc], .inr (by omega)⟩
        ·exact ⟨_, by rw [if_neg hcc], .inl rfl⟩
       have HA2 := hid hA2
       have HIX := hid hixl
       clear hA2 hixl
       refine wp_region_held_drew (S := fun _ => True) (by kernel_rfl) trivial (fun hHeld => ?_)
       refine held_take (v := ?cv0) 0 rfl (by kernel_rfl) (by kernel_rfl) (by kernel_rfl) (fun _ _ _ h => h) (by rfl) hHeld ?cy0 ?cr0
       case cy0 => (intro W hSw; go_simp; with_reducible rfl)
       simp only [Act.put, List.setIfInBounds_toArray, List.set_cons_zero, List.set_cons_succ]
       refine held_take (v := ?cv1) 1 rfl (by kernel_rfl) (by kernel_rfl) (by kernel_rfl) (fun _ _ _ h => h) (by rfl) hHeld ?cy1 ?cr1
       case cy1 => (intro W hSw; go_simp; with_reducible rfl)
       simp only [Act.put, List.setIfInBounds_toArray, List.set_cons_zero, List.set_cons_succ]
       refine held_take (v := ?cv2) 2 rfl (by kernel_rfl) (by kernel_rfl) (by kernel_rfl) (fun _ _ _ h => h) (by rfl) hHeld ?cy2 ?cr2
       case cy2 => (intro W hSw; go_simp; with_reducible rfl)
       simp only [Act.put, List.setIfInBounds_toArray, List.set_cons_zero, List.set_cons_succ]
       refine held_take (v := ?cv4) 4 rfl (by kernel_rfl) (by kernel_rfl) (by kernel_rfl) (fun _ _ _ h => h) (by rfl) hHeld ?cy4 ?cr4
       case cy4 => (intro W hSw; go_simp; with_reducible rfl)
       simp only [Act.put, List.setIfInBounds_toArray, List.set_cons_zero, List.set_cons_succ]
       refine held_take (v := ?cv5) 5 rfl (by kernel_rfl) (by kernel_rfl) (by kernel_rfl) (fun _ _ _ h => h) (by rfl) hHeld ?cy5 ?cr5
       case cy5 => (intro W hSw; go_simp; with_reducible rfl)
       simp only [Act.put, List.setIfInBounds_toArray, List.set_cons_zero, List.set_cons_succ]
       refine held_take (v := ?cv6) 6 rfl (by kernel_rfl) (by kernel_rfl) (by kernel_rfl) (fun _ _ _ h => h) (by rfl) hHeld ?cy6 ?cr6
       case cy6 => (intro W hSw; go_simp; with_reducible rfl)
       simp only [Act.put, List.setIfInBounds_toArray, List.set_cons_zero, List.set_cons_succ]
       refine held_take (v := ?cv3) 3 rfl (by kernel_rfl) (by kernel_rfl) (by kernel_rfl) (fun _ _ _ h => h) (by rfl) hHeld ?cy3 ?cr3
       case cy3 => (intro W hSw; go_simp; with_reducible rfl)
       simp only [Act.put, List.setIfInBounds_toArray, List.set_cons_zero, List.set_cons_succ]
       refine held_take (v := ?cv7) 7 rfl (by kernel_rfl) (by kernel_rfl) (by kernel_rfl) (fun _ _ _ h => h) (by rfl) hHeld ?cy7 ?cr7
       case cy7 => (intro W hSw; go_simp; with_reducible rfl)
       simp only [Act.put, List.setIfInBounds_toArray, List.set_cons_zero, List.set_cons_succ]
       refine held_one 8 (by kernel_rfl) rfl (fun K hK => ?_)
       refine step_own_cut (by rfl) _ _ 22 (by rfl) Tryz.underlying22 (base := w1.heap.size) (g := gO) (cap := capO) (i := ix) (xs := O) (by have := HR5.out _ rfl; rw [HZ.out] at this; exact this) HIX.out (by rfl) A (z - (ix + 1)) (capO - (ix + 1)) (by rfl) (by rw [HZ.out]) HA2.out hOl (by have := hz6.out; simpa using this) ?_
       intro v7' w10 hown hgrow hat
       have HOwn10 := hid hown
       have HGrow10 := hid hgrow
       have HAt10 := hid hat
       clear hown hgrow hat
       refine hK.out _ _ (trivial) (fun hHeld => ?_)
       clear hK K
       try simp only [Act.put, List.setIfInBounds_toArray, List.set_cons_zero, List.set_cons_succ]
       refine held_take (v := ?dv9) 9 rfl (by kernel_rfl) (by kernel_rfl) (by kernel_rfl) (fun _ _ _ h => h) (by rfl) hHeld ?dy9 ?dr9
       case dy9 => (intro W hSw; go_simp; with_reducible rfl)
       simp only [Act.put, List.setIfInBounds_toArray, List.set_cons_zero, List.set_cons_succ]
       clear hHeld
       refine wpAnyH_done (by kernel_rfl) ?_ _
       go_wp2_with fail
       go_meet
       have hzz := HZ.out
       subst hzz
       obtain ⟨X', h9⟩ := (H5.out.below (below_drew (Below.refl _ w5))).turn HGrow10.out HOwn10.out HAt10.out
       exact ⟨p5, O.eraseIdx ix, X', Nat.le_trans (List.eraseIdx_sublist _ _).length_le (by have := HO.out; omega), h9⟩
     ·as_aux_lemma =>
       have AL := hid (HSt.out.alloc (by rw [← HZ.out]; omega))
       clear hi hlt hi9 hiN
       go_wp2_with (first
        | (go_at_call 9; refine (AL.out).mono ?_; rintro e w5 ⟨m, p5, rfl, ⟨hm2, hm3, hmO⟩, h5⟩; have H5 := hid h5; have HMO := hid hmO; have c2 : ¬ m < 2 := (by omega); have c3 : decide ((m : Int) < 2) = false := (by simp; omega); clear h5 hmO)
        | go_in)
       go_loopw [61] (fun v61 wq => ∃ j : Nat, j ≤ z ∧ v61 = .int .i64 (j : Int) ∧ wq = w5) (fun v61 _ => z - (intOf v61).toNat)
       case atStart => exact ⟨0, Nat.zero_le _, rfl, by simp⟩
       case round =>
        obtain ⟨j, hj, rfl, rfl⟩ := hrel
        by_cases hjz : j < z
        ·have hjl : j < O.length := by have := HZ.out; omega
         obtain ⟨ao5, cap5, e5, -, -, hc5⟩ := H5.out.row.get
         obtain ⟨g5, e6, -, hc6⟩ := hc5 j hjl
         injection e5 with e5 _ _
         rw [← e5] at e6
         subst e6
         obtain ⟨y, hy⟩ : ∃ y, y = O[j] := ⟨_, rfl⟩
         rw [← hy] at hc6
         have hym : y ≠ m := fun e => HMO.out (by rw [← e, hy]; exact List.getElem_mem hjl)
         have c4 : ((y : Int) == (m : Int)) = false := by simp; omega
         have c5 : (y == m) = false := by simpa using hym
         have hj9 : (j : Int) < 9223372036854775807 := by omega
         have hjN : (j : Int) < (z : Int) := by omega
         have hwj : IntKind.i64.wrap ((j : Int) + 1) = (j : Int) + 1 := IntWalk.i64_in _ (by omega)
         clear hc5 e5 hy
         go_wp2_with fail
         go_roundw
         case rel => exact ⟨j + 1, hjz, by simp, by simp⟩
         case measure => (simp [intOf]) <;> omega
        ·obtain rfl : z = j := by omega
         have hgo2 : ¬ z < z := Nat.lt_irrefl z
         have H6 := hid (show ∀ obj, OwnI (wr.alloc obj) w1.heap.size (.slice aoO z capO) O from fun obj => by rw [HZ.out]; exact (H5.out.below ((Below.refl _ wr).alloc (Nat.le_refl _) obj)).row)
         have hz5 := H5.out.px.bel.size
         have hOl : O.length ≤ 900 := by have := HZ.out; omega
         go_wp2_with (first
          | (at_builtin; refine wpList_own_push rfl _ _ 22 rfl Tryz.underlying22 (base := w1.heap.size) (v := .slice aoO z capO) (xs := O) rfl (H6.out _) ⟨wr.heap.size, 0, none⟩ 1 m rfl (cell_one_new _ _ _ 0 _ rfl) hOl (by simp; omega) ?_; intro v7' w10 hown hgrow hat; have HOwn10 := hid hown; have HGrow10 := hid hgrow; have HAt10 := hid hat; clear hown hgrow hat)
          | go_in)
         go_meet
         have hzz := HZ.out
         subst hzz
         obtain ⟨X', h9⟩ := (H5.out.below ((Below.refl _ _).alloc (Nat.le_refl _) _)).turn HGrow10.out HOwn10.out HAt10.out
         exact ⟨p5, O ++ [m], X', by rw [List.length_append, List.length_singleton]; have := HO.out; omega, h9⟩
    case rest =>
     obtain ⟨p', O', X', hO', hst'⟩ := hcut
     obtain ⟨ao', cap', rfl, hle', -, -⟩ := hst'.row.get
     have HS' := hid hst'
     have HO' := hid hO'
     obtain ⟨z', hz'⟩ : ∃ z', z' = O'.length := ⟨_, rfl⟩
     have hz2 : z' ≤ 151 := by omega
     rw [← hz'] at hle'
     rw [← hz']
     have HZ' := hid hz'
     obtain ⟨r, hr, hr7⟩ : ∃ r : Nat, Int.tmod (i : Int) 7 = (r : Int) ∧ r < 7 := ⟨i % 7, rfl, Nat.mod_lt _ (by decide)⟩
     have hcm : 100 + 8519680 * (i + 1) = 100 + 8519680 * i + 8519680 := by omega
     have Hcm := hid hcm
     have hNN : 100 + 8519680 * i + 33554432 ≤ 1099511527776 := by omega
     clear hst' hO' HSt HCell HO HZ hz150 hle hmax c0 hcm hz'
     have Hw := hid hw
     have Hlt := hid hlt
     clear hw hi hlt hi9 hiN
     by_cases h6 : r = 6
     case' pos =>
      subst h6
      have CM := hid (HS'.out.commit hNN)
      go_upto_region 34 with (first
       | (go_at_call 11; refine (CM.out).mono ?_; rintro e w6 ⟨rfl, h6⟩; have H6 := hid h6; clear h6)
       | (go_at_call 12; refine (H6.out).mono ?_; rintro e w7 ⟨rfl, h7⟩; have H7 := hid h7; clear h7)
       | (go_at_call 7; refine (H7.out).mono ?_; rintro e w8 ⟨pb2, l2, rfl, h8⟩; have H8 := hid h8; clear h8)
       | (go_at_call 8; refine (H8.out).mono ?_; rintro e w9 ⟨p9, g9, d9, rfl, h9⟩; have H9 := hid h9; clear h9)
       | go_in)
      have HS9 := H9.out
      rw [← Hcm.out] at HS9
      have HS9 := hid HS9
     case' neg =>
      have c6 : ((r : Int) == 6) = false := by simp; omega
      go_upto_region 34 with fail
      have HS9 := hid (HS'.out.more (M := 100 + 8519680 * (i + 1)) (by omega))
     all_goals
      have RD := hid (HS9.out.read HZ'.out)
      go_upto_region 35 with (first
       | (go_at_call 13; refine (RD.out).mono ?_; rintro e wr2 ⟨f, c, kk, r0, r1, r2, r3, r4, r5, r6, r7, rfl, h10⟩; have H10 := hid h10; clear h10)
       | go_in)
      obtain ⟨hb, hhb⟩ : ∃ hb, hb = wr2.heap.size := ⟨_, rfl⟩
      obtain ⟨wh, hwh⟩ : ∃ wh, wh = wr2.alloc (.cells #[.int .i64 (f : Int), .int .i64 (c : Int), .int .u64 kk, .int .i64 r0, .int .i64 r1, .int .i64 r2, .int .i64 r3, .int .i64 r4, .int .i64 r5, .int .i64 r6, .int .i64 r7] 38) := ⟨_, rfl⟩
      rw [← hwh, ← hhb]
      have hbh : Below wr2.heap.size wr2 wh := by rw [hwh]; exact (Below.refl _ wr2).alloc (Nat.le_refl _) _
      have x1 : wh.cell? ⟨hb, 1, none⟩ = some (.int .i64 (c : Int)) := by rw [hwh, hhb]; exact (cell_of_block (heap_alloc_new wr2 _) 1).trans rfl
      have HST := hid (H10.out.st.below hbh)
      have PG := hid (fun nq => H10.out.pages (W2 := wh.drewN nq) (below_drewN hbh nq))
      have hc5 := H10.out.few
      have hw2 : IntKind.i64.wrap ((c : Int) + (z' : Int)) = (c : Int) + (z' : Int) := IntWalk.i64_in _ (by omega)
      have hw3 : IntKind.i64.wrap ((c : Int) + (z' : Int) + 1) = (c : Int) + (z' : Int) + 1 := IntWalk.i64_in _ (by omega)
      clear hwh hhb hbh hc5 H10
      go_quiet (first
       | (go_at_call 14; refine Calls.quiet_of_same (PG.out _)))
      have hw := Hw.out
      go_wp2_with fail
      go_roundw
      case rel =>
       have hzz := HZ'.out
       subst hzz
       exact ⟨i + 1, _, _, _, _, _, O', X', Hlt.out, by simp, rfl, HO'.out, HST.out.below (below_drewN (Below.refl _ wh) _)⟩
      case measure => (have hlt := Hlt.out; (simp [intOf]) <;> omega)
  ·obtain rfl : n = i := by omega
   have hgo : ¬ n < n := Nat.lt_irrefl n
   clear hst
   go_wp2_with fail
   go_ret
   exact ⟨rfl, HBw.out⟩
end Go.Proofs.YtaelhejmedjgiaaGreat
