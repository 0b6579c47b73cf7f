/- The law WalLays. -/
import Derived.Test.YtioafhkblmebmaaWaV
import Derived.Test.YtioafhkblmebmaaWaW
import Derived.Test.YtioafhkblmebmaaWaT
import Derived.Test.YtioafhkblmebmaaWbA
namespace Go.Proofs.Ytioafhkblmebmaa
open Go.RowKit Go.Maps
set_option linter.unusedVariables false
set_option linter.unusedSimpArgs false

theorem OpsAt.below {w w' : World} {v : Value} {l : List WOp} (h : OpsAt w v l) (hb : Below w.heap.size w w') : OpsAt w' v l := by
  obtain ⟨ao, cap, rfl, hc⟩ := h
  refine ⟨ao, cap, rfl, fun k hk => ?_⟩
  obtain ⟨q, o, h1, h2, h3⟩ := hc k hk
  exact ⟨q, o, h1, Nat.lt_of_lt_of_le h2 hb.size, fun j u hj => (hb.cell (p := ⟨q, _, none⟩) h2).trans (h3 j u hj)⟩
/-- A script, with its rows of images. -/
structure ScriptAt (w : World) (v : Value) (l : List WOp) : Prop where
  ops : OpsAt w v l
  len : l.length ≤ 9223372036854775807
  puts : ∀ x ∈ l, PutsIn w x.ia x.imgs
theorem ScriptAt.below {w w' : World} {v : Value} {l : List WOp} (h : ScriptAt w v l) (hb : Below w.heap.size w w') : ScriptAt w' v l :=
  ⟨h.ops.below hb, h.len, fun x hx => (h.puts x hx).below hb⟩
theorem exG0_calm : LgCalm exG0 newM := ⟨new_calm, rfl, rfl, by decide, by decide⟩
theorem Mk.keepBel {w W : World} {l b : Nat} {g : Lg} {d : Dsk} (h : Mk w W l b g d) : Below w.heap.size w W := h.bel
theorem Mk.okLg {w W : World} {l b : Nat} {g : Lg} {d : Dsk} (h : Mk w W l b g d) : g.Ok := by
  obtain ⟨⟨F, G, h1, -⟩, -⟩ := h
  exact h1.ok
theorem OpsAt.get {w : World} {ao : Option Addr} {n cap : Nat} {l : List WOp} (h : OpsAt w (.slice ao n cap) l) {k : Nat} (hk : k < l.length) : ∃ q o, ao = some ⟨q, o, none⟩ ∧ q < w.heap.size ∧ ∀ j u, (wopCells l[k])[j]? = some u → w.cell? ⟨q, o + k * 8 + j, none⟩ = some u := by
  obtain ⟨ao', cap', e, hc⟩ := h
  injection e with e1 e2 e3
  subst e1
  exact hc k hk
attribute [local irreducible] exG0

set_option maxHeartbeats 4000000 in
set_option maxRecDepth 20000 in
theorem lays_any (w : World) (v : Value) (l : List WOp) (h : ScriptAt w v l) : Calls Try.prog 3 #[v] w fun e w' => e = .returned (.bool true) ∧ Below w.heap.size w w' := by
  have HS := hid h
  obtain ⟨ao, cap, rfl, hc⟩ := h.ops
  clear hc h
  obtain ⟨n, hn⟩ : ∃ n, n = l.length := ⟨_, rfl⟩
  obtain ⟨q, hq⟩ : ∃ q, q = wideM l := ⟨_, rfl⟩
  have WD := fun W hs hl => wide_any W (.slice ao l.length cap) l hs hl
  rw [← hq] at WD
  have WD := hid WD
  have Hn := hid hn
  rw [← hn] at HS WD ⊢
  clear hn hq
  go_enter Try.func3, Try.ntmps3
  go_upto_region 9 with (first
    | (go_at_call 7; refine (works_any _).mono ?_; rintro e w1 ⟨rfl, hb1⟩; have Hb1 := hid hb1; have HS1 := hid (HS.out.below hb1); clear hb1 HS)
    | (go_at_call 8; refine (heavy_any _ _ l HS1.out.ops HS1.out.len).mono ?_; rintro e w2 ⟨r, rfl, hr, hb2⟩; have Hr := hid hr; have Hb2 := hid (Hb1.out.trans (hb2.mono Hb1.out.size)); have HS2 := hid (HS1.out.below hb2); clear hb2 HS1 hr)
    | (go_at_call 9; refine (WD.out _ HS2.out.ops (by rw [Hn.out]; exact HS2.out.len)).mono ?_; rintro e w3 ⟨rfl, hb3⟩; have Hb3 := hid (Hb2.out.trans (hb3.mono Hb2.out.size)); have HS3 := hid (HS2.out.below hb3); clear hb3 HS2)
    | (go_at_call 10; refine (mk_new _).mono ?_; rintro e w4 ⟨b, rfl, hd4⟩; have Hd4 := hid hd4; clear hd4)
    | (go_at_call 11; refine (mk_open Hd4.out ex_open).mono ?_; rintro e w5 ⟨lb, rfl, hm5⟩; have Hm5 := hid hm5; clear hm5)
    | go_in)
  · go_ret
    exact ⟨rfl, Hb2.out⟩
  · go_ret
    exact ⟨rfl, Hb3.out⟩
  have HL := hid (Hr.out (Bool.eq_false_iff.2 (by assumption)))
  clear Hr Hb1 Hb2 WD
  go_wp2_with fail
  go_loopw [32] (fun v32 wr => ∃ (i : Nat) (g : Lg) (d : Dsk), i ≤ n ∧ v32 = .int .i64 (i : Int) ∧ Mk w3 wr lb b g d ∧ LgCalm g d ∧ d.Small (100 + 8388608 * i)) (fun v32 _ => n - (intOf v32).toNat)
  case atStart => exact ⟨0, exG0, newM, Nat.zero_le _, rfl, Hm5.out, by have := exG0_calm; exact this, new_small⟩
  case round =>
    obtain ⟨i, g, d, hi, rfl, hm, hcalm, hsm⟩ := hrel
    have H0 := hid hm
    have HC := hid hcalm
    have Hsm := hid hsm
    have hn80 : n ≤ 80 := by have := HL.out.1; have := Hn.out; omega
    have hi3 : (i : Int) < 81 := by omega
    by_cases hlt : i < n
    · have hil : i < l.length := by have := Hn.out; omega
      obtain ⟨q1, o, hao, hq1, hcell⟩ := HS3.out.ops.get hil
      subst hao
      obtain ⟨y, hy⟩ : ∃ y, y = l[i] := ⟨_, rfl⟩
      have hyl : y ∈ l := by rw [hy]; exact List.getElem_mem hil
      rw [← hy] at hcell
      have cc := fun j u hj => (hm.bel.cell (p := ⟨q1, o + i * 8 + j, none⟩) hq1).trans (hcell j u hj)
      have c0 := cc 0 _ rfl
      have c1 := cc 1 _ rfl
      have c2 := cc 2 _ rfl
      have c3 := cc 3 _ rfl
      have c4 := cc 4 _ rfl
      have c5 := cc 5 _ rfl
      have c6 := cc 6 _ rfl
      have c7 := cc 7 _ rfl
      rw [Nat.add_zero] at c0
      have HPy := hid (show PutsIn wr y.ia y.imgs from (HS3.out.puts y hyl).below (hm.bel))
      have hyi : y.imgs.length ≤ 300 := HL.out.2 y hyl
      clear hy hyl hcell cc hm hcalm hsm
      by_cases hk : y.kind = 0
      · have k0 : (y.kind == 0) = true := by simp [hk]
        clear hk
        go_upto_region 13 with fail
        have hbox : (wr.alloc (.cells (wopCells y).toArray 34)).heap[wr.heap.size]? = some (.cells (wopCells y).toArray 34 (0, 0)) := heap_alloc_new wr _
        have hb1 : Below wr.heap.size wr (wr.alloc (.cells (wopCells y).toArray 34)) := (Below.refl _ wr).alloc (Nat.le_refl _) _
        change Code.wp _ _ _ _ (wr.alloc (.cells (wopCells y).toArray 34))
        obtain ⟨w6, hw6⟩ : ∃ w6, w6 = wr.alloc (.cells (wopCells y).toArray 34) := ⟨_, rfl⟩
        rw [← hw6] at hbox hb1 ⊢
        have HPy6 := hid (HPy.out.below hb1.drew)
        have H6 := hid (show MkX w3 w6.drew lb b g d (fun k => k = wr.heap.size) from H0.out.x.add hb1.drew (fun k hk => .inr (Nat.le_of_eq hk.symm)) (fun k hk => by rw [hk]; exact lt_of_block (w := w6.drew) hbox))
        have Hbox := hid hbox
        have hbd : ∀ j, w6.drew.cell? ⟨wr.heap.size, j, none⟩ = (wopCells y)[j]? := fun j => (cell_of_block (w := w6.drew) hbox j).trans (by simp)
        clear hw6 hbox hb1 c0 c1 c2 c3 c4 c5 c6 c7 HPy H0
        refine wp_region_held_drew (S := fun W => W.cell? ⟨wr.heap.size, 0, none⟩ = some (.int .i64 y.kind) ∧ W.cell? ⟨wr.heap.size, 1, none⟩ = some (.int .i64 y.pages) ∧ W.cell? ⟨wr.heap.size, 2, none⟩ = some (.int .i64 y.n) ∧ W.cell? ⟨wr.heap.size, 3, none⟩ = some (.int .i64 y.file) ∧ W.cell? ⟨wr.heap.size, 4, none⟩ = some (.slice y.ia y.imgs.length y.icap) ∧ W.cell? ⟨wr.heap.size, 5, none⟩ = some (.bool y.space) ∧ W.cell? ⟨wr.heap.size, 6, none⟩ = some (.slice y.ka y.keep.length y.kcap) ∧ W.cell? ⟨wr.heap.size, 7, none⟩ = some (.string (bs y.s))) (by kernel_rfl) ⟨hbd 0, hbd 1, hbd 2, hbd 3, hbd 4, hbd 5, hbd 6, hbd 7⟩ (fun hHeld => ?_)
        clear hbd
        refine held_take (v := ?pv0) 0 rfl (by kernel_rfl) (by kernel_rfl) (by kernel_rfl) (fun _ _ _ h => h) (by rfl) hHeld ?py0 ?pr0
        case py0 => (intro W hSw; obtain ⟨y0, y1, y2, y3, y4, y5, y6, y7⟩ := hSw; go_simp; with_reducible rfl)
        simp only [Act.put, List.setIfInBounds_toArray, List.set_cons_zero, List.set_cons_succ]
        refine held_take (v := ?pv1) 1 rfl (by kernel_rfl) (by kernel_rfl) (by kernel_rfl) (fun _ _ _ h => h) (by rfl) hHeld ?py1 ?pr1
        case py1 => (intro W hSw; obtain ⟨y0, y1, y2, y3, y4, y5, y6, y7⟩ := hSw; go_simp; with_reducible rfl)
        simp only [Act.put, List.setIfInBounds_toArray, List.set_cons_zero, List.set_cons_succ]
        refine held_take (v := ?pv2) 2 rfl (by kernel_rfl) (by kernel_rfl) (by kernel_rfl) (fun _ _ _ h => h) (by rfl) hHeld ?py2 ?pr2
        case py2 => (intro W hSw; obtain ⟨y0, y1, y2, y3, y4, y5, y6, y7⟩ := hSw; go_simp; with_reducible rfl)
        simp only [Act.put, List.setIfInBounds_toArray, List.set_cons_zero, List.set_cons_succ]
        refine held_take (v := ?pv3) 3 rfl (by kernel_rfl) (by kernel_rfl) (by kernel_rfl) (fun _ _ _ h => h) (by rfl) hHeld ?py3 ?pr3
        case py3 => (intro W hSw; obtain ⟨y0, y1, y2, y3, y4, y5, y6, y7⟩ := hSw; go_simp; with_reducible rfl)
        simp only [Act.put, List.setIfInBounds_toArray, List.set_cons_zero, List.set_cons_succ]
        refine held_one 4 (by kernel_rfl) rfl (fun K hK => ?_)
        go_simp
        refine (images_any _ y HPy6.out (by omega)).mono ?_
        rintro e w7 ⟨v7, rfl, hv7, hb7⟩
        have H7 := hid (H6.out.below hb7)
        have HV7 := hid hv7
        have hbx7 := (hb7.block _ (lt_of_block (w := w6.drew) Hbox.out)).trans Hbox.out
        have hbd7 : ∀ j, w7.cell? ⟨wr.heap.size, j, none⟩ = (wopCells y)[j]? := fun j => (cell_of_block hbx7 j).trans (by simp)
        have Hbx7 := hid hbx7
        clear hv7 hb7 hbx7 H6 HPy6
        try dsimp only
        refine hK.out _ _ (⟨hbd7 0, hbd7 1, hbd7 2, hbd7 3, hbd7 4, hbd7 5, hbd7 6, hbd7 7⟩) (fun hHeld => ?_)
        clear hK K
        try simp only [Act.put, List.setIfInBounds_toArray, List.set_cons_zero, List.set_cons_succ]
        clear hbd7
        refine held_one 5 (by kernel_rfl) rfl (fun K hK => ?_)
        go_simp
        refine (mkx_append H7.out _ Hsm.out (by omega) y.pages v7 _ HV7.out.at (by simp; omega)).mono ?_
        rintro e w8 ⟨rfl, hm8, hx8⟩
        have H8 := hid hm8.mk'
        have hbd8 : ∀ j, w8.cell? ⟨wr.heap.size, j, none⟩ = (wopCells y)[j]? := fun j => (cell_of_block ((hx8 _ rfl).trans Hbx7.out) j).trans (by simp)
        clear hm8 H7 HV7 hx8
        try dsimp only
        refine hK.out _ _ (⟨hbd8 0, hbd8 1, hbd8 2, hbd8 3, hbd8 4, hbd8 5, hbd8 6, hbd8 7⟩) (fun hHeld => ?_)
        clear hK K
        try simp only [Act.put, List.setIfInBounds_toArray, List.set_cons_zero, List.set_cons_succ]
        clear hbd8 hHeld
        refine wpAnyH_done (by kernel_rfl) ?_ _
        go_wp2_with fail
        go_roundw
        case rel => exact ⟨i + 1, _, _, hlt, by simp, H8.out, app_calm HC.out _ _, app_small _ _ _ _ _ _ (by omega) Hsm.out⟩
        case measure => (simp [intOf]) <;> omega
      · have k0 : (y.kind == 0) = false := by simp [hk]
        clear hk HPy
        have HB0 := hid (H0.out.below ((Below.refl _ wr).alloc (Nat.le_refl _) (.cells (wopCells y).toArray 34)))
        obtain ⟨hck0, hck⟩ := check_calm HC.out H0.out.okLg
        obtain ⟨g2, hg2⟩ : ∃ g2, g2 = (lcheckM g d).2.1 := ⟨_, rfl⟩
        obtain ⟨d2, hd2⟩ : ∃ d2, d2 = (lcheckM g d).2.2 := ⟨_, rfl⟩
        have hsm2 : d2.Small (100 + 8388608 * (i + 1)) := by rw [hd2]; exact ck_small _ _ _ _ (by omega) (by have := H0.out.okLg.pages; omega) Hsm.out
        have CK : ∀ W, Mk w3 W lb b g d → Calls Try.prog 18 #[.pointer (some ⟨lb, 0, none⟩)] W fun e w' => e = .returned (.int .i64 0) ∧ Mk w3 w' lb b g2 d2 := fun W hm => by
          have := mk_check hm _ Hsm.out (by omega)
          rw [hck0, ← hg2, ← hd2] at this
          exact this
        rw [← hg2, ← hd2] at hck
        obtain ⟨r0, hr0⟩ := state_calm HC.out H0.out.okLg
        have hr2 := (state_same hck H0.out.okLg).trans hr0
        have ST0 : ∀ W, Mk w3 W lb b g d → Calls Try.prog 14 #[.pointer (some ⟨lb, 0, none⟩)] W fun e w' => e = .returned (.tuple #[.string (bs r0), .bool true]) ∧ Mk w3 w' lb b g d := fun W hm => by
          have := state_any hm
          rw [hr0] at this
          exact this.mono fun e w' ⟨h1, h2, _⟩ => ⟨h1, h2⟩
        have ST2 : ∀ W, Mk w3 W lb b g2 d2 → Calls Try.prog 14 #[.pointer (some ⟨lb, 0, none⟩)] W fun e w' => e = .returned (.tuple #[.string (bs r0), .bool true]) ∧ Mk w3 w' lb b g2 d2 := fun W hm => by
          have := state_any hm
          rw [hr2] at this
          exact this.mono fun e w' ⟨h1, h2, _⟩ => ⟨h1, h2⟩
        have MA2 : ∀ W, Mk w3 W lb b g2 d2 → Calls Try.prog 15 #[.pointer (some ⟨lb, 0, none⟩)] W fun e w' => e = .returned (.int .i64 0) ∧ w' = W := fun W hm => by
          have := mk_mark hm
          rw [hck.list] at this
          exact this
        have hrr : (r0 == r0) = true := by simp
        have ST0 := hid ST0
        have ST2 := hid ST2
        have CK := hid CK
        have MA2 := hid MA2
        have HC2 := hid hck.calm
        have Hsm2 := hid hsm2
        obtain ⟨nu, hnu⟩ : ∃ nu, nu = g.head.number := ⟨_, rfl⟩
        obtain ⟨z, hz⟩ : ∃ z, z = g.list.length := ⟨_, rfl⟩
        have NU0 : ∀ W, Mk w3 W lb b g d → Calls Try.prog 16 #[.pointer (some ⟨lb, 0, none⟩)] W fun e w' => e = .returned (.int .u64 nu) ∧ w' = W := fun W hm => by
          have := mk_number hm
          rw [← hnu] at this
          exact this
        have MA0 : ∀ W, Mk w3 W lb b g d → Calls Try.prog 15 #[.pointer (some ⟨lb, 0, none⟩)] W fun e w' => e = .returned (.int .i64 (z : Int)) ∧ w' = W := fun W hm => by
          have := mk_mark hm
          rw [← hz] at this
          exact this
        have NU0 := hid NU0
        have MA0 := hid MA0
        have hz256 : z ≤ 256 := by rw [hz]; exact H0.out.okLg.many
        by_cases hz0 : z = 0
        · have hnil : g.list = [] := List.length_eq_zero_iff.1 (hz.symm.trans hz0)
          obtain ⟨e1, e2⟩ := hck.none hnil
          clear hck hck0 hr0 hr2 hg2 hd2 hnu hz hnil
          subst e1
          subst e2
          subst hz0
          obtain ⟨op, hop⟩ : ∃ op, op = d2.ops := ⟨_, rfl⟩
          have OP0 : ∀ W, Mk w3 W lb b g2 d2 → Calls Try.prog 17 #[.pointer (some ⟨b, 0, none⟩)] W fun e w' => e = .returned (.int .i64 op) ∧ w' = W := fun W hm => by
            have := mk_ops hm.disk
            rw [← hop] at this
            exact this
          have OP0 := hid OP0
          clear hop
          replace H0 := HB0
          clear HB0
          go_wp2_with (first
            | (go_at_call 14; refine (ST0.out _ H0.out).mono ?_; rintro e w6 ⟨rfl, hm6⟩; replace H0 := hid hm6; clear hm6)
            | (go_at_call 15; refine (MA0.out _ H0.out).mono ?_; rintro e w6 ⟨rfl, hw⟩; obtain rfl := hw.symm)
            | (go_at_call 16; refine (NU0.out _ H0.out).mono ?_; rintro e w6 ⟨rfl, hw⟩; obtain rfl := hw.symm)
            | (go_at_call 17; refine (OP0.out _ H0.out).mono ?_; rintro e w6 ⟨rfl, hw⟩; obtain rfl := hw.symm)
            | (go_at_call 18; refine (CK.out _ H0.out).mono ?_; rintro e w7 ⟨rfl, hm7⟩; replace H0 := hid hm7; clear hm7)
            | go_in)
          go_roundw
          case rel => exact ⟨i + 1, g2, d2, hlt, by simp, H0.out, HC2.out, Hsm2.out⟩
          case measure => (simp [intOf]) <;> omega
        · have hnn : g.list ≠ [] := fun e => hz0 (by rw [hz, e]; rfl)
          have hn2 := hck.number hnn
          rw [← hnu] at hn2
          obtain ⟨n2, hn2'⟩ : ∃ n2, IntKind.u64.wrap (nu + 1) = n2 := ⟨_, rfl⟩
          rw [hn2'] at hn2
          have NU2 : ∀ W, Mk w3 W lb b g2 d2 → Calls Try.prog 16 #[.pointer (some ⟨lb, 0, none⟩)] W fun e w' => e = .returned (.int .u64 n2) ∧ w' = W := fun W hm => by
            have := mk_number hm
            rw [hn2] at this
            exact this
          have NU2 := hid NU2
          obtain ⟨op, hop⟩ : ∃ op, op = d.ops := ⟨_, rfl⟩
          have OP0 : ∀ W, Mk w3 W lb b g d → Calls Try.prog 17 #[.pointer (some ⟨b, 0, none⟩)] W fun e w' => e = .returned (.int .i64 op) ∧ w' = W := fun W hm => by
            have := mk_ops hm.disk
            rw [← hop] at this
            exact this
          have OP0 := hid OP0
          have hzi : (0 : Int) < (z : Int) := by omega
          have hze : ((z : Int) == 0) = false := by simp; omega
          clear hck hck0 hr0 hr2 hg2 hd2 hnu hz hnn hn2 hop hz0
          replace H0 := HB0
          clear HB0
          go_wp2_with (first
            | (go_at_call 14; refine (ST0.out _ H0.out).mono ?_; rintro e w6 ⟨rfl, hm6⟩; replace H0 := hid hm6; clear hm6)
            | (go_at_call 15; refine (MA0.out _ H0.out).mono ?_; rintro e w6 ⟨rfl, hw⟩; obtain rfl := hw.symm)
            | (go_at_call 16; refine (NU0.out _ H0.out).mono ?_; rintro e w6 ⟨rfl, hw⟩; obtain rfl := hw.symm)
            | (go_at_call 17; refine (OP0.out _ H0.out).mono ?_; rintro e w6 ⟨rfl, hw⟩; obtain rfl := hw.symm)
            | (go_at_call 18; refine (CK.out _ H0.out).mono ?_; rintro e w7 ⟨rfl, hm7⟩; have H2 := hid hm7; clear hm7 H0)
            | (go_at_call 14; refine (ST2.out _ H2.out).mono ?_; rintro e w6 ⟨rfl, hm6⟩; replace H2 := hid hm6; clear hm6)
            | (go_at_call 15; refine (MA2.out _ H2.out).mono ?_; rintro e w6 ⟨rfl, hw⟩; obtain rfl := hw.symm)
            | (go_at_call 16; refine (NU2.out _ H2.out).mono ?_; rintro e w6 ⟨rfl, hw⟩; obtain rfl := hw.symm)
            | go_in)
          go_roundw
          case rel => exact ⟨i + 1, g2, d2, hlt, by simp, H2.out, HC2.out, Hsm2.out⟩
          case measure => (simp [intOf]) <;> omega
    · obtain rfl : n = i := by omega
      go_wp2_with fail
      go_ret
      exact ⟨rfl, Hb3.out.trans (H0.out.bel.mono Hb3.out.size)⟩
end Go.Proofs.Ytioafhkblmebmaa
