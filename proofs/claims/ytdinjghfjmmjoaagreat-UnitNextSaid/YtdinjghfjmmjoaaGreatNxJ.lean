/- The law UnitNext: its walk. -/
import Derived.Test.YtdinjghfjmmjoaaGreatNxI
set_option linter.unusedVariables false
set_option linter.unusedSimpArgs false
namespace Go.Proofs.YtdinjghfjmmjoaaGreat
open Go.RowKit Go.Maps
set_option maxRecDepth 20000
theorem RowsAt.lit {W : World} {base : Nat} {vS vA : Value} {S : List (List (List UInt8))} {A : List (List Int)} {X : Nat → Prop} (h : RowsAt W base vS vA S A X) : (∃ ao cap, vS = .slice ao S.length cap) ∧ ∃ ao cap, vA = .slice ao A.length cap := by
  obtain ⟨⟨sv, av, h1, h2, h3, h4, h5, h6⟩, hs, ha⟩ := h
  obtain ⟨ao, cap, e, -⟩ := row_slice h3
  obtain ⟨ao2, cap2, e2, -⟩ := row_slice h4
  exact ⟨⟨ao, cap, e⟩, ⟨ao2, cap2, e2⟩⟩
theorem RowsAt.stateX {W : World} {base : Nat} {vS vA : Value} {S : List (List (List UInt8))} {A : List (List Int)} {X : Nat → Prop} (h : RowsAt W base vS vA S A X) {i : Nat} (hi : i < S.length) :
    ∃ q u c, vS = .slice (some ⟨q, 0, none⟩) S.length c ∧ X q ∧ W.cell? ⟨q, i, none⟩ = some u ∧ StrRow W base u (S.getD i []) ∧ ∀ k, u.ownBlock = some k → X k := by
  obtain ⟨⟨sv, av, h1, h2, h3, h4, h5, h6⟩, hs, ha⟩ := h
  rcases row_form h3 with ⟨-, h0⟩ | ⟨q, c, rfl⟩
  · omega
  · have hc := h3.cells (g := q) rfl i sv[i] (List.getElem?_eq_getElem (by omega))
    simp only [Addr.add_lit, Nat.zero_add] at hc
    have e : S.getD i [] = S[i] := by rw [List.getD_eq_getElem?_getD, List.getElem?_eq_getElem hi]; rfl
    rw [e]
    exact ⟨q, _, c, rfl, hs q rfl, hc, (h5 i (by omega) hi).1, (h5 i (by omega) hi).2⟩
theorem RowsAt.pagesX {W : World} {base : Nat} {vS vA : Value} {S : List (List (List UInt8))} {A : List (List Int)} {X : Nat → Prop} (h : RowsAt W base vS vA S A X) {i : Nat} (hi : i < A.length) :
    ∃ q u c, vA = .slice (some ⟨q, 0, none⟩) A.length c ∧ X q ∧ W.cell? ⟨q, i, none⟩ = some u ∧ IntRow2 W base u (A.getD i []) ∧ ∀ k, u.ownBlock = some k → X k := by
  obtain ⟨⟨sv, av, h1, h2, h3, h4, h5, h6⟩, hs, ha⟩ := h
  rcases row_form h4 with ⟨-, h0⟩ | ⟨q, c, rfl⟩
  · omega
  · have hc := h4.cells (g := q) rfl i av[i] (List.getElem?_eq_getElem (by omega))
    simp only [Addr.add_lit, Nat.zero_add] at hc
    have e : A.getD i [] = A[i] := by rw [List.getD_eq_getElem?_getD, List.getElem?_eq_getElem hi]; rfl
    rw [e]
    exact ⟨q, _, c, rfl, ha q rfl, hc, (h6 i (by omega) hi).1, (h6 i (by omega) hi).2⟩
structure NxRel (w wr : World) (pb l b i : Nat) (v7 v8 v9 : Value) (g : Lg) (d : Dsk) (L : List (List UInt8)) (S : List (List (List UInt8))) (A : List (List Int)) (lg : Nat) (X : Nat → Prop) : Prop where
  inv : NxInv g d L S A lg
  few : S.length ≤ i
  nine : v9 = .int .i64 (lg : Int)
  small : d.Small (100 + 8519680 * i)
  px : PgX w wr pb l b p0 g d X
  rows : RowsAt wr w.heap.size v7 v8 S A X
  each : (∀ x ∈ S, x.length ≤ 21) ∧ ∀ x ∈ A, x.length ≤ 1000
theorem nx_ckx {w W : World} {pb l b N : Nat} {g : Lg} {d : Dsk} {L : List (List UInt8)} {S : List (List (List UInt8))} {A : List (List Int)} {lg : Nat} {X : Nat → Prop} (h : NxInv g d L S A lg) (hg : g.Ok) (hs : d.Small N) (hp : PgX w W pb l b p0 g d X) (hN : N ≤ 1000000000) :
    Calls Tryz.prog 11 #[.pointer (some ⟨pb, 0, none⟩)] W fun e w' => ∃ g' d', e = .returned (.int .i64 0) ∧ NxInv g' d' L S A S.length ∧ d'.Small (N + 8519680) ∧ PgX w w' pb l b p0 g' d' X ∧ ∀ k, X k → w'.heap[k]? = W.heap[k]? := by
  obtain ⟨g', d', e, hi⟩ := nx_check h hg
  have hsm := check_small2 (g := g) (d := d) (N := N) (by rw [h.db.pages]; have := h.db.many; omega) hs
  have := px_check hp N hs (by omega)
  have ek : pcheckM p0 g d = lcheckM g d := by unfold pcheckM; rw [if_neg (by decide)]
  rw [ek, e] at this
  rw [e] at hsm
  exact this.mono fun e w' hh => ⟨g', d', hh.1, hi, hsm, hh.2.1, hh.2.2⟩
theorem rows_apart {w : World} {b1 b2 n m s1 s2 : Nat} {e1 e2 : TypeId} {v1 v2 : Value} {xs ys : List Value} (h1 : w.ownsRow b1 e1 s1 v1 n xs) (h2 : w.ownsRow b2 e2 s2 v2 m ys) (hne : e1 ≠ e2) {k : Nat} (hk : v1.ownBlock = some k) : v2.ownBlock ≠ some k := by
  rcases h1.2 with ⟨rfl, -⟩ | ⟨g, cap, cur, rfl, -, hg, -⟩
  · cases hk
  · obtain rfl : g = k := by injection hk
    exact fun e => row_type h2 hg hne e
theorem row_kept2 {w w' : World} {b1 b2 n m s1 s2 : Nat} {e1 e2 : TypeId} {v1 v2 : Value} {xs ys : List Value} (h1 : w.ownsRow b1 e1 s1 v1 n xs) (h2 : w.ownsRow b2 e2 s2 v2 m ys) (hne : e2 ≠ e1) (hg : w.grownBy w' v2.ownBlock) : w'.ownsRow b1 e1 s1 v1 n xs :=
  row_keep h1 (fun k hk => hg.block k (row_base h1 hk).2 (fun e => rows_apart h2 h1 hne e.symm hk))
def XU (X : Nat → Prop) (a c : Nat) : Nat → Prop := fun k => X k ∨ (a ≤ k ∧ k < c)
section
variable {w W W' : World} {pb l b : Nat} {p : Pg} {g : Lg} {d : Dsk} {X : Nat → Prop} {a : Nat}
theorem px_start (h : PgX w W pb l b p g d X) (hb : Below W.heap.size W W') : PgX w W' pb l b p g d (XU X W.heap.size W'.heap.size) :=
  px_add h hb (fun k hk => hk.imp id (fun e => e.1)) (fun k hk => hk.elim (fun e => Nat.lt_of_lt_of_le (h.xlt k e) hb.size) (fun e => e.2))
theorem px_more (h : PgX w W pb l b p g d (XU X a W.heap.size)) (hb : Below W.heap.size W W') : PgX w W' pb l b p g d (XU X a W'.heap.size) :=
  px_add h hb (fun k hk => hk.elim (fun e => .inl (.inl e)) (fun e => (Nat.lt_or_ge k W.heap.size).elim (fun e2 => .inl (.inr ⟨e.1, e2⟩)) .inr)) (fun k hk => hk.elim (fun e => Nat.lt_of_lt_of_le (h.xlt k (.inl e)) hb.size) (fun e => e.2))
theorem px_moreg {row : Option Nat} (h : PgX w W pb l b p g d (XU X a W.heap.size)) (hg : W.grownBy W' row) (hr : ∀ k, row = some k → X k) (hw : ∀ k, row = some k → w.heap.size ≤ k) : PgX w W' pb l b p g d (XU X a W'.heap.size) :=
  h.grow hg (fun k e => .inl (hr k e)) hw (fun k hk => hk.elim (fun e => .inl (.inl e)) (fun e => (Nat.lt_or_ge k W.heap.size).elim (fun e2 => .inl (.inr ⟨e.1, e2⟩)) .inr)) (fun k hk => hk.elim (fun e => Nat.lt_of_lt_of_le (h.xlt k (.inl e)) hg.size) (fun e => e.2))
end
theorem rows_push {W W4 : World} {base : Nat} {vS vA vS' vA' vm va : Value} {S : List (List (List UInt8))} {A : List (List Int)} {M : List (List UInt8)} {at' : List Int} {sv av : List Value} {X X' : Nat → Prop}
    (h1 : sv.length = S.length) (h2 : av.length = A.length) (h3 : W.ownsRow base 52 1 vS S.length sv) (h4 : W.ownsRow base 55 1 vA A.length av)
    (h5 : ∀ i (h1 : i < sv.length) (h2 : i < S.length), StrRow W base sv[i] S[i] ∧ ∀ k, sv[i].ownBlock = some k → X k)
    (h6 : ∀ i (h1 : i < av.length) (h2 : i < A.length), IntRow2 W base av[i] A[i] ∧ ∀ k, av[i].ownBlock = some k → X k)
    (hm : StrRow W base vm M) (ha : IntRow2 W base va at') (hmx : ∀ k, vm.ownBlock = some k → X' k) (hax : ∀ k, va.ownBlock = some k → X' k)
    (r1 : W4.ownsRow base 52 1 vS' (S.length + 1) (sv ++ [vm])) (r2 : W4.ownsRow base 55 1 vA' (A.length + 1) (av ++ [va]))
    (x1 : ∀ k, vS'.ownBlock = some k → X' k) (x2 : ∀ k, vA'.ownBlock = some k → X' k) (hX : ∀ k, X k → X' k)
    (hk : ∀ k, k < W.heap.size → vS.ownBlock ≠ some k → vA.ownBlock ≠ some k → W4.heap[k]? = W.heap[k]?) :
    RowsAt W4 base vS' vA' (S ++ [M]) (A ++ [at']) X' := by
  have ks : ∀ {v : Value} {l : List (List UInt8)}, StrRow W base v l → StrRow W4 base v l := fun {v l} h => row_keep h (fun k e => hk k (row_base h e).2 (fun e2 => rows_apart h3 h (by decide) e2 e) (fun e2 => rows_apart h4 h (by decide) e2 e))
  have ki : ∀ {v : Value} {l : List Int}, IntRow2 W base v l → IntRow2 W4 base v l := fun {v l} h => row_keep h (fun k e => hk k (row_base h e).2 (fun e2 => rows_apart h3 h (by decide) e2 e) (fun e2 => rows_apart h4 h (by decide) e2 e))
  refine ⟨⟨sv ++ [vm], av ++ [va], by simp [h1], by simp [h2], by rw [List.length_append]; exact r1, by rw [List.length_append]; exact r2, fun i a b => ?_, fun i a b => ?_⟩, x1, x2⟩
  · by_cases e : i < sv.length
    · rw [List.getElem_append_left e, List.getElem_append_left (by omega)]
      exact ⟨ks (h5 i e (by omega)).1, fun k hk2 => hX k ((h5 i e (by omega)).2 k hk2)⟩
    · rw [List.getElem_append_right (by omega), List.getElem_append_right (by omega)]
      simp only [List.getElem_singleton]
      exact ⟨ks hm, hmx⟩
  · by_cases e : i < av.length
    · rw [List.getElem_append_left e, List.getElem_append_left (by omega)]
      exact ⟨ki (h6 i e (by omega)).1, fun k hk2 => hX k ((h6 i e (by omega)).2 k hk2)⟩
    · rw [List.getElem_append_right (by omega), List.getElem_append_right (by omega)]
      simp only [List.getElem_singleton]
      exact ⟨ki ha, hax⟩
theorem u8_in {x : Int} (h : 0 ≤ x ∧ x ≤ 255) : ∃ c : UInt8, x = (c.toNat : Int) := ⟨UInt8.ofNat x.toNat, by simp; omega⟩
def turnAtN (was n j : Nat) : List Int := 1 :: (n : Int) :: (List.range j).map fun (i : Nat) => (was : Int) + 1 + i
theorem turnAtN_succ (was n j : Nat) : turnAtN was n (j + 1) = turnAtN was n j ++ [(was : Int) + 1 + j] := by
  unfold turnAtN
  rw [List.range_succ, List.map_append]
  rfl
theorem turnAt_len (was n : Nat) : (turnAt was n).length = n - was + 2 := by simp [turnAt]
theorem each_push {S : List (List (List UInt8))} {A : List (List Int)} {M : List (List UInt8)} {a : List Int} (h : (∀ x ∈ S, x.length ≤ 21) ∧ ∀ x ∈ A, x.length ≤ 1000) (h1 : M.length ≤ 21) (h2 : a.length ≤ 1000) : (∀ x ∈ S ++ [M], x.length ≤ 21) ∧ ∀ x ∈ A ++ [a], x.length ≤ 1000 := by
  refine ⟨fun x hx => ?_, fun x hx => ?_⟩
  · rcases List.mem_append.1 hx with e | e
    · exact h.1 x e
    · rw [List.mem_singleton.1 e]; exact h1
  · rcases List.mem_append.1 hx with e | e
    · exact h.2 x e
    · rw [List.mem_singleton.1 e]; exact h2
theorem getD_mem' {α : Type} {S : List α} {i : Nat} {z : α} (h : i < S.length) : S.getD i z ∈ S := by
  rw [List.getD_eq_getElem?_getD, List.getElem?_eq_getElem h]
  exact List.getElem_mem h
theorem turnAtN_len (was n j : Nat) : (turnAtN was n j).length = j + 2 := by simp [turnAtN]
set_option maxHeartbeats 8000000 in
set_option maxRecDepth 20000 in
theorem unext_few (w : World) (v : Value) (lst : List (Int × Int)) (k : Int) (h : TurnsIn w v lst) (h80 : 80 < lst.length) : Calls Tryz.prog 4 #[v, .int .u64 k] w fun e w' => e = .returned (.bool true) ∧ Below w.heap.size w w' := by
  obtain ⟨ao, cap, rfl, hc⟩ := h.at'
  have hlen := h.len
  obtain ⟨n, hn⟩ : ∃ n, n = lst.length := ⟨_, rfl⟩
  rw [← hn] at hlen h80 ⊢
  have WK := hid (works_any w)
  have b1 : decide (80 < n) = true := by simpa using h80
  clear h hc hn
  go_enter Tryz.func4, Tryz.ntmps4
  go_wp2_with (first
    | (go_at_call 8; refine (WK.out).mono ?_; rintro e w1 ⟨rfl, hb1⟩; have HB1 := hid hb1; clear hb1)
    | go_in)
  go_ret
  exact ⟨rfl, HB1.out⟩
set_option maxHeartbeats 8000000 in
set_option maxRecDepth 20000 in
theorem unext_any (w : World) (v : Value) (lst : List (Int × Int)) (k : Int) (hk : 0 ≤ k ∧ k < 18446744073709551616) (h : TurnsIn w v lst) : Calls Tryz.prog 4 #[v, .int .u64 k] w fun e w' => e = .returned (.bool true) ∧ Below w.heap.size w w' := by
  by_cases h80 : 80 < lst.length
  · exact unext_few w v lst k h h80
  obtain ⟨ao, cap, rfl, hc⟩ := h.at'
  have hlen := h.len
  have heach := h.each
  obtain ⟨n, hn⟩ : ∃ n, n = lst.length := ⟨_, rfl⟩
  rw [← hn] at hlen h80 ⊢
  have hn80 : n ≤ 80 := by omega
  have WK := hid (works_any w)
  have FR := hid (fun W => fresh_any W)
  have HC := hid hc
  have Hn := hid hn
  have HEach := hid heach
  have Hk := hid hk
  clear h hc hn heach hk
  go_enter Tryz.func4, Tryz.ntmps4
  go_wp2_with (first
    | (go_at_call 8; refine (WK.out).mono ?_; rintro e w1 ⟨rfl, hb1⟩; have HB1 := hid hb1; clear hb1)
    | (go_at_call 7; refine (FR.out _).mono ?_; rintro e w2 ⟨pb, l, b, rfl, hp2⟩; have HP2 := hid hp2; clear hp2)
    | go_in)
  have hp2 : PgX w w2 pb l b p0 exG0 newM (fun _ => False) := (px_base HP2.out HB1.out).to (fun k hk => hk.elim)
  have h0 : NxRel w w2 pb l b 0 (.slice none 0 0) (.slice none 0 0) (.int .i64 0) exG0 newM [] [] [] 0 (fun _ => False) := ⟨nx_new, Nat.le_refl _, rfl, by simpa using new_small, hp2, rowsAt_nil _ _ _, ⟨fun x hx => (by cases hx), fun x hx => (by cases hx)⟩⟩
  have H0 := hid h0
  clear hp2 h0 HP2
  go_loopw [7, 8, 9, 34] (fun v7 v8 v9 v34 wr => ∃ (i : Nat) (g : Lg) (d : Dsk) (L : List (List UInt8)) (S : List (List (List UInt8))) (A : List (List Int)) (lg : Nat) (X : Nat → Prop), i ≤ n ∧ v34 = .int .i64 (i : Int) ∧ NxRel w wr pb l b i v7 v8 v9 g d L S A lg X) (fun _ _ _ v34 _ => n - (intOf v34).toNat)
  case atStart => exact ⟨0, _, _, _, _, _, _, _, Nat.zero_le _, rfl, H0.out⟩
  case round =>
    obtain ⟨i, g, d, L, S, A, lg, X, hi, rfl, hr⟩ := hrel
    obtain ⟨⟨ao7, cap7, rfl⟩, ⟨ao8, cap8, rfl⟩⟩ := hr.rows.lit
    have h9 := hr.nine
    subst h9
    have HR := hid hr
    by_cases hlt : i < n
    · have hil : i < lst.length := by have := Hn.out; omega
      obtain ⟨q, o, hao, hq, c0, c1⟩ := HC.out i hil
      subst hao
      obtain ⟨x, hx⟩ : ∃ x, x = lst[i] := ⟨_, rfl⟩
      rw [← hx] at c0 c1
      have hex := HEach.out lst[i] (List.getElem_mem hil)
      rw [← hx] at hex
      have hbw := hr.px.bel
      have c0 := (hbw.cell (p := ⟨q, o + i * 2, none⟩) hq).trans c0
      have c1 := (hbw.cell (p := ⟨q, o + i * 2 + 1, none⟩) hq).trans c1
      obtain ⟨px, cx⟩ := x
      dsimp only at c0 c1 hex
      have hi9 : (i : Int) < 9223372036854775807 := by omega
      have hiN : (i : Int) < (n : Int) := by omega
      have hw : IntKind.i64.wrap ((i : Int) + 1) = (i : Int) + 1 := IntWalk.i64_in _ (by omega)
      have Hex := hid hex
      clear hr hbw hx hex H0
      by_cases hp0 : px = 0
      · subst hp0
        have CK := hid (fun (W1 : World) (hp : PgX w W1 pb l b p0 g d X) => nx_ckx HR.out.inv HR.out.px.oks.1 HR.out.small hp (by omega))
        go_wp2_with (first
          | (go_at_call 11; refine (CK.out _ (HR.out.px.below ((Below.refl _ _).alloc (Nat.le_refl _) _))).mono ?_; rintro e w5 ⟨g', d', rfl, hinv, hsm, hp5, hk5⟩; have HINV := hid hinv; have HSM := hid hsm; have HP5 := hid hp5; have HK5 := hid hk5; clear hinv hsm hp5 hk5)
          | go_in)
        go_roundw
        case rel =>
          refine ⟨i + 1, g', d', L, S, A, S.length, X, hlt, by simp, ⟨HINV.out, by have := HR.out.few; omega, rfl, ?_, HP5.out, HR.out.rows.keep (fun k hk => (HK5.out k hk).trans (Below.heap_alloc _ _ k (HR.out.px.xlt k hk))), HR.out.each⟩⟩
          have := HSM.out
          rwa [show 100 + 8519680 * (i + 1) = 100 + 8519680 * i + 8519680 by omega]
        case measure => (simp [intOf]) <;> omega
      · have bp : (px == 0) = false := by simpa using hp0
        have hq0 := turn_page px
        obtain ⟨tn, htn, htn2⟩ := hq0
        have hpm : -20 < Int.tmod px 20 ∧ Int.tmod px 20 < 20 := ⟨by have := Int.lt_tmod_of_pos px (b := 20) (by decide); omega, Int.tmod_lt_of_pos px (by decide)⟩
        have E1 := hid (show wrap64 (Int.tmod px 20 + 20) = Int.tmod px 20 + 20 from IntWalk.wrap64_in _ (by omega))
        have E2 := hid (show wrap64 (2 + Int.tmod (Int.tmod px 20 + 20) 20) = (tn : Int) by rw [htn]; exact IntWalk.wrap64_in _ (by omega))
        have Htn2 := hid htn2
        clear htn htn2 hpm
        go_upto_region 19 with fail
        rw [E1.out, E2.out]
        have hb3 := (Below.refl wr.heap.size wr).alloc (Nat.le_refl _) (.cells #[.int .i64 px, .int .u8 cx] 47)
        have hz3 := heap_alloc_new wr (.cells #[.int .i64 px, .int .u8 cx] 47)
        obtain ⟨tb, htb⟩ : ∃ tb, tb = wr.heap.size := ⟨_, rfl⟩
        obtain ⟨w3, hw3⟩ : ∃ w3, w3 = wr.alloc (.cells #[.int .i64 px, .int .u8 cx] 47) := ⟨_, rfl⟩
        rw [← hw3] at hb3 hz3 ⊢
        rw [← htb] at hz3 ⊢
        have HP3 := hid (HR.out.px.below hb3)
        have HB3 := hid hb3
        have a1 : w3.cell? ⟨tb, 1, none⟩ = some (.int .u8 cx) := by rw [cell_of_block hz3]; rfl
        clear hb3 hz3 hw3 htb c0 c1
        obtain ⟨ml, hml⟩ : ∃ ml : Int, ml = (g.list.length : Int) := ⟨_, rfl⟩
        have hml2 : 0 ≤ ml ∧ ml ≤ 256 := by have := HR.out.px.oks.1.many; omega
        have hwm : IntKind.i64.wrap (ml + 22) = ml + 22 := IntWalk.i64_in _ (by omega)
        have MK := hid (fun (W1 : World) (hp : PgX w W1 pb l b p0 g d X) => (show Calls Tryz.prog 19 #[.pointer (some ⟨l, 0, none⟩)] W1 fun e w' => e = .returned (.int .i64 ml) ∧ w' = W1 from by rw [hml]; exact mk_mark hp.log.mk'))
        have LG := hid (fun (W1 : World) (hp : PgX w W1 pb l b p0 g d X) => plog_any hp)
        have PG := hid (fun (W1 : World) (hp : PgX w W1 pb l b p0 g d X) => (show Calls Tryz.prog 17 #[.pointer (some ⟨pb, 0, none⟩)] W1 fun e w' => e = .returned (.int .i64 (L.length : Int)) ∧ w' = W1 from by have := px_pages hp; rwa [db_pages HR.out.inv.db.w rfl] at this))
        have Hml := hid hml
        have Hml2 := hid hml2
        clear hml hml2
        by_cases hroom : 256 < ml + 22
        · have br : decide (256 < ml + 22) = true := by simpa using hroom
          clear hroom
          go_wp2_with (first
            | (go_at_call 17; refine (PG.out _ HP3.out).mono ?_; rintro e w4 ⟨rfl, hw⟩; obtain rfl := hw.symm)
            | (go_at_call 18; refine (LG.out _ HP3.out).mono ?_; rintro e w4 ⟨rfl, hw⟩; obtain rfl := hw.symm)
            | (go_at_call 19; refine (MK.out _ HP3.out).mono ?_; rintro e w4 ⟨rfl, hw⟩; obtain rfl := hw.symm)
            | go_in)
          go_ret
          exact ⟨rfl, HP3.out.bel⟩
        · have br : decide (256 < ml + 22) = false := by simpa using hroom
          obtain ⟨c, rfl⟩ := u8_in Hex.out.2
          obtain ⟨g', d', M, ht, hinv'⟩ := nx_turn HR.out.inv HR.out.px.oks.1 (by have := HR.out.few; omega) Htn2.out c (by have := Hml.out; omega)
          have hsm' := turn_small (n := (tn : Int)) (c := c) (by rw [HR.out.inv.db.pages]; have := HR.out.inv.db.many; omega) HR.out.small p0
          have TA := hid (fun (W1 : World) (hp : PgX w W1 pb l b p0 g d X) => (show Calls Tryz.prog 9 #[.pointer (some ⟨pb, 0, none⟩), .int .i64 (tn : Int), .int .u8 (c.toNat : Int)] W1 fun e w' => e = .returned (.int .i64 0) ∧ PgX w w' pb l b p0 g' d' X ∧ ∀ k, X k → w'.heap[k]? = W1.heap[k]? from by
            have := turn_any hp (tn : Int) c (by have := Htn2.out; omega) (nx_resize HR.out.inv Htn2.out) (100 + 8519680 * i) HR.out.small (by omega)
            rw [ht] at this
            exact this))
          rw [ht] at hsm'
          have hst := nx_st hinv'
          have ST := hid (fun (W5 : World) (hp : PgX w W5 pb l b p0 g' d' X) => (show Calls Tryz.prog 20 #[.pointer (some ⟨pb, 0, none⟩)] W5 fun e w' => ∃ v, e = .returned (.tuple #[v, .bool true]) ∧ StrRow w' W5.heap.size v M ∧ Below W5.heap.size W5 w' from by
            have := state_any hp hst.1
            rw [hst.2] at this
            exact this))
          have HINV := hid hinv'
          have HSM := hid hsm'
          obtain ⟨P, hP⟩ : ∃ P, P = L.length := ⟨_, rfl⟩
          rw [← hP] at PG
          have HPL := hid hP
          have hP21 : P ≤ 21 := by have := HR.out.inv.few; omega
          clear hroom ht hsm' hst hinv' hP
          have hwp : IntKind.i64.wrap ((P : Int) + 1) = (P : Int) + 1 := IntWalk.i64_in _ (by omega)
          go_upto_region 27 with (first
            | (go_at_call 17; refine (PG.out _ HP3.out).mono ?_; rintro e w4 ⟨rfl, hw⟩; obtain rfl := hw.symm)
            | (go_at_call 18; refine (LG.out _ HP3.out).mono ?_; rintro e w4 ⟨rfl, hw⟩; obtain rfl := hw.symm)
            | (go_at_call 19; refine (MK.out _ HP3.out).mono ?_; rintro e w4 ⟨rfl, hw⟩; obtain rfl := hw.symm)
            | (go_at_call 9; refine (TA.out _ HP3.out).mono ?_; rintro e w5 ⟨rfl, hp5, hk5⟩; have HP5 := hid hp5; have HK5 := hid hk5; clear hp5 hk5)
            | (go_at_call 20; refine (ST.out _ HP5.out).mono ?_; rintro e w6 ⟨vm, rfl, hr6, hb6⟩; have HR6 := hid hr6; have HB6 := hid hb6; clear hr6 hb6)
            | go_in)
          clear TA MK LG PG ST a1 hwm
          go_wp2_with fail
          obtain ⟨i0, hi0, hz0, hz1, hz2⟩ := info_parts (P := Tryz.prog) (e := 3) (z := .int .i64 0) (size := 1) (bytes := 8) (by kernel_rfl)
          have hb7 := (Below.refl w6.heap.size w6).alloc (Nat.le_refl _) (.cells #[.int .i64 1, .int .i64 (tn : Int)] 3)
          have hr7 : IntRow2 (w6.alloc (.cells #[.int .i64 1, .int .i64 (tn : Int)] 3)) w6.heap.size (.slice (some ⟨w6.heap.size, 0, none⟩) 2 2) (turnAtN P tn 0) :=
            ⟨rfl, .inr ⟨w6.heap.size, 2, #[.int .i64 1, .int .i64 (tn : Int)], rfl, Nat.le_refl _, heap_alloc_new _ _, Nat.le_refl _, by decide, rfl, rfl⟩⟩
          obtain ⟨s6, hs6⟩ : ∃ s6, s6 = w6.heap.size := ⟨_, rfl⟩
          obtain ⟨w7, hw7⟩ : ∃ w7, w7 = w6.alloc (.cells #[.int .i64 1, .int .i64 (tn : Int)] 3) := ⟨_, rfl⟩
          rw [← hw7] at hb7 hr7 ⊢
          rw [← hs6] at hb7 hr7 ⊢
          have HR7 := hid hr7
          have HB7 := hid hb7
          have Hs6 := hid hs6
          clear hr7 hb7 hw7 hs6
          go_loopw [16, 17] (fun v16 v17 wr => ∃ (j : Nat) (x : Int), j ≤ tn - P ∧ x = (P : Int) + 1 + j ∧ v17 = .int .i64 x ∧ IntRow2 wr s6 v16 (turnAtN P tn j) ∧ Below s6 w6 wr) (fun _ v17 _ => tn + 1 - (intOf v17).toNat)
          case atStart => exact ⟨0, _, Nat.zero_le _, by simp, rfl, HR7.out, HB7.out⟩
          case round =>
            obtain ⟨j, x, hj, hx, rfl, hrow, hbw⟩ := hrel
            have HRow := hid hrow
            have HBw := hid hbw
            have Hx := hid hx
            have hx1 : 0 < x := by omega
            have htn := Htn2.out
            by_cases hlt2 : j < tn - P
            · have bx : decide (x ≤ (tn : Int)) = true := by simp; omega
              have hwx : IntKind.i64.wrap (x + 1) = x + 1 := IntWalk.i64_in _ (by omega)
              have hj256 : j ≤ 256 := by omega
              have Hj := hid hlt2
              have Hxt := hid (show x ≤ (tn : Int) by omega)
              clear hrow hbw hx hx1 htn hlt2 hj
              go_wp2_with (first
                | (at_builtin; refine wpList_append_own_at _ rfl _ _ 55 rfl s6 3 i0 _ 1 8 Tryz.underlying55 hi0 hz0 hz1 hz2 rfl (by omega) _ (turnAtN P tn j).length (intsV2 (turnAtN P tn j)) rfl (row_keep HRow.out (fun y hy => Below.heap_alloc wr _ y (row_base HRow.out hy).2)) ⟨wr.heap.size, 0, none⟩ 1 1 [.int .i64 x] rfl (by simp) (World.news_of_block (cs := #[.int .i64 x]) (t := 3) (fr := (0, 0)) (heap_alloc_new wr _)) (by intro u hu; rw [List.mem_singleton.1 hu]; rfl) (by rw [turnAtN_len]; unfold maxLen; omega) (by rw [turnAtN_len]; omega) (by simp; have := HBw.out.size; have := Hs6.out; omega) ?_; intro v' wg hown hgrow _ _; have Hown := hid hown; have Hgrow := hid hgrow; clear hown hgrow)
                | go_in)
              go_roundw
              case rel =>
                refine ⟨j + 1, _, Hj.out, by rw [Hx.out]; omega, rfl, ?_, (HBw.out.alloc (by have := HBw.out.size; have := Hs6.out; omega) _).grown Hgrow.out (by simp; have := HBw.out.size; have := Hs6.out; omega) (fun y hy => (row_base HRow.out hy).1)⟩
                have := Hown.out
                unfold IntRow2
                rw [turnAtN_succ, List.length_append]
                unfold intsV2
                rw [List.map_append, ← Hx.out]
                exact this
              case measure => (have := Hxt.out; have := Hx.out; simp [intOf]) <;> omega
            · obtain rfl : j = tn - P := by omega
              have bx : decide (x ≤ (tn : Int)) = false := by simp; omega
              clear hrow hbw hx hx1 htn hlt2 hj
              have hs56 : w5.heap.size ≤ s6 := by rw [Hs6.out]; exact HB6.out.size
              have hb58 : Below w5.heap.size w5 wr := HB6.out.trans (HBw.out.mono hs56)
              have hbase : w.heap.size ≤ w5.heap.size := HP5.out.bel.size
              obtain ⟨⟨sv, av, r1, r2, r3, r4, r5, r6⟩, x7, x8⟩ := ((HR.out.rows.keep (fun k hk => HB3.out.block k (HR.out.px.xlt k hk))).keep HK5.out).keep (fun k hk => hb58.block k (HP5.out.xlt k hk))
              have hp8 := px_start HP5.out hb58
              have hsw8 : s6 ≤ wr.heap.size := by rw [Hs6.out]; exact HBw.out.size
              have hm8 : StrRow wr w5.heap.size vm M := row_keep HR6.out (fun k e => HBw.out.block k (by rw [Hs6.out]; exact (row_base HR6.out e).2))
              have ha8 : IntRow2 wr s6 _ (turnAt P tn) := HRow.out
              obtain ⟨aom, capm, rfl, -⟩ := hm8.shape
              obtain ⟨tat, htat⟩ : ∃ a, a = turnAt P tn := ⟨_, rfl⟩
              rw [← htat] at ha8
              have HTat := hid htat
              obtain ⟨aot, capt, rfl, -⟩ := row_slice ha8
              clear htat
              have HS3 := hid r3
              have HA4 := hid r4
              have HE1 := hid (And.intro r1 (And.intro r2 (And.intro r5 r6)))
              have HX7 := hid x7
              have HX8 := hid x8
              have HM8 := hid hm8
              have HA8 := hid ha8
              have HP8 := hid hp8
              have Hn5 := hid hs56
              have Hn6 := hid hsw8
              have Hn0 := hid hbase
              clear hs56 hb58 hbase r1 r2 r3 r4 r5 r6 x7 x8 hp8 hsw8 hm8 ha8 HR6 HRow HBw
              have hfewS : S.length ≤ 80 := by have := HR.out.few; omega
              have hfewA : A.length ≤ 80 := by have := HR.out.inv.same; omega
              obtain ⟨i1, hi1, hy0, hy1, hy2⟩ := info_parts (P := Tryz.prog) (e := 52) (z := .slice none 0 0) (size := 1) (bytes := 24) (by kernel_rfl)
              obtain ⟨i2, hi2, hx0, hx1, hx2⟩ := info_parts (P := Tryz.prog) (e := 55) (z := .slice none 0 0) (size := 1) (bytes := 24) (by kernel_rfl)
              go_wp2_with (first
                | (at_builtin; have hq := HS3.out; refine wpList_append_own_at _ rfl _ _ 44 rfl w.heap.size 52 i1 _ 1 24 Tryz.underlying44 hi1 hy0 hy1 hy2 rfl (by omega) _ S.length sv rfl (row_keep HS3.out (fun y hy => Below.heap_alloc wr _ y (row_base HS3.out hy).2)) ⟨wr.heap.size, 0, none⟩ 1 1 [.slice aom M.length capm] rfl (by simp) (World.news_of_block (cs := #[.slice aom M.length capm]) (t := 52) (fr := (0, 0)) (heap_alloc_new wr _)) (by intro u hu; rw [List.mem_singleton.1 hu]; rfl) (by unfold maxLen; omega) (by omega) (by simp; have := Hn0.out; have := Hn5.out; have := Hn6.out; omega) ?_; intro v7' w10 hown hgrow _ hat; have HOwn10 := hid hown; have HGrow10 := hid hgrow; have HAt10 := hid hat; have hal := row_keep HS3.out (fun y hy => Below.heap_alloc wr (.cells #[.slice aom M.length capm] 52) y (row_base HS3.out hy).2); have HA10 := hid (row_kept2 (row_keep HA4.out (fun y hy => Below.heap_alloc wr (.cells #[.slice aom M.length capm] 52) y (row_base HA4.out hy).2)) hal (by decide) hgrow); clear hown hgrow hat hq hal)
                | (at_builtin; have hq := HA10.out; refine wpList_append_own_at _ rfl _ _ 45 rfl w.heap.size 55 i2 _ 1 24 Tryz.underlying45 hi2 hx0 hx1 hx2 rfl (by omega) _ A.length av rfl (row_keep HA10.out (fun y hy => Below.heap_alloc w10 _ y (row_base HA10.out hy).2)) ⟨w10.heap.size, 0, none⟩ 1 1 [.slice aot tat.length capt] rfl (by simp) (World.news_of_block (cs := #[.slice aot tat.length capt]) (t := 55) (fr := (0, 0)) (heap_alloc_new w10 _)) (by intro u hu; rw [List.mem_singleton.1 hu]; rfl) (by unfold maxLen; omega) (by omega) (by simp; have := Hn0.out; have := Hn5.out; have := Hn6.out; have := HGrow10.out.size; simp at this; omega) ?_; intro v8' w12 hown hgrow _ hat; have HOwn12 := hid hown; have HGrow12 := hid hgrow; have HAt12 := hid hat; clear hown hgrow hat hq)
                | go_in)
              go_roundw
              case rel =>
                have bA := (Below.refl wr.heap.size wr).alloc (Nat.le_refl _) (.cells #[.slice aom M.length capm] 52)
                have bB := (Below.refl w10.heap.size w10).alloc (Nat.le_refl _) (.cells #[.slice aot tat.length capt] 55)
                have zA : (wr.alloc (.cells #[.slice aom M.length capm] 52)).heap.size = wr.heap.size + 1 := by simp
                have zB : (w10.alloc (.cells #[.slice aot tat.length capt] 55)).heap.size = w10.heap.size + 1 := by simp
                have z10 := HGrow10.out.size
                have z12 := HGrow12.out.size
                have n5 := Hn5.out
                have n6 := Hn6.out
                have n0 := Hn0.out
                have hp12 := px_moreg (px_more (px_moreg (px_more HP8.out bA) HGrow10.out HX7.out (fun k e => (row_base HS3.out e).1)) bB) HGrow12.out HX8.out (fun k e => (row_base HA4.out e).1)
                obtain ⟨e1, e2, e3, e4⟩ := HE1.out
                have htat : tat = turnAt L.length tn := by rw [HTat.out, HPL.out]
                have rB := row_keep HA10.out (fun y hy => bB.block y (row_base HA10.out hy).2)
                have r1 := row_kept2 (row_keep HOwn10.out (fun y hy => bB.block y (row_base HOwn10.out hy).2)) rB (by decide) HGrow12.out
                refine ⟨i + 1, g', d', M, S ++ [M], A ++ [turnAt L.length tn], lg, XU X w5.heap.size w12.heap.size, hlt, by simp, ⟨HINV.out, by have := HR.out.few; simp; omega, rfl, by rw [show 100 + 8519680 * (i + 1) = 100 + 8519680 * i + 8519680 by omega]; exact HSM.out, hp12, ?_, each_push HR.out.each HINV.out.few (by have := Htn2.out; rw [turnAt_len]; omega)⟩⟩
                rw [← htat]
                refine rows_push e1 e2 HS3.out HA4.out e3 e4 (row_lower HM8.out n0) (row_lower HA8.out (Nat.le_trans n0 n5)) (fun k hk => .inr ?_) (fun k hk => .inr ?_) r1 HOwn12.out (fun k hk => ?_) (fun k hk => ?_) (fun k hk => .inl hk) (fun k hk h1 h2 => ?_)
                · have := row_base HM8.out hk; omega
                · have := row_base HA8.out hk; omega
                · rcases HAt10.out with e | e
                  · exact .inl (HX7.out k (e ▸ hk))
                  · rw [hk] at e; injection e with e; have := (row_base HOwn10.out hk).2; exact .inr (by omega)
                · rcases HAt12.out with e | e
                  · exact .inl (HX8.out k (e ▸ hk))
                  · rw [hk] at e; injection e with e; have := (row_base HOwn12.out hk).2; exact .inr (by omega)
                · have k1 : k < (wr.alloc (.cells #[.slice aom M.length capm] 52)).heap.size := by rw [zA]; omega
                  have k2 : k < w10.heap.size := Nat.lt_of_lt_of_le k1 z10
                  have k3 : k < (w10.alloc (.cells #[.slice aot tat.length capt] 55)).heap.size := by rw [zB]; omega
                  exact (HGrow12.out.block k k3 (fun e => h2 e.symm)).trans ((bB.block k k2).trans ((HGrow10.out.block k k1 (fun e => h1 e.symm)).trans (bA.block k hk)))
              case measure => (simp [intOf]) <;> omega
    · obtain rfl : n = i := by omega
      have hgo : ¬ n < n := Nat.lt_irrefl n
      obtain ⟨kn, hkn⟩ : ∃ kn : Nat, k = (kn : Int) := ⟨k.toNat, by have := Hk.out; omega⟩
      have hS80 : S.length ≤ 80 := by have := hr.few; omega
      have hnx := nx_next hr.inv (by omega) 5 kn
      have NT := next_any hr.px (nx_st hr.inv).1 5 k
      rw [hkn, hnx, ← hkn] at NT
      unfold ShGave at NT
      obtain ⟨Sn, hSn⟩ : ∃ Sn, Sn = S.length := ⟨_, rfl⟩
      have hwS : IntKind.u64.wrap (Sn : Int) = (Sn : Int) := IntWalk.u64_in _ (by omega)
      rw [← hSn] at NT ⊢
      have HSn := hid hSn
      have HS80 := hid hS80
      have Hkn := hid hkn
      have Hxlt := hid (fun q (hq : X q) => hr.px.xlt q hq)
      clear hr H0 hnx hkn hS80 hSn
      by_cases hk1 : Sn ≤ kn
      · rw [if_pos hk1] at NT
        have bk : decide ((Sn : Int) ≤ k) = true := by have := Hkn.out; simp; omega
        unfold shipV sh0 at NT
        dsimp only at NT
        replace NT := hid NT
        clear hk1
        go_upto_region 36 with (first
          | (go_at_call 10; refine (NT.out).mono ?_; rintro e w3 ⟨v, rfl, hr3, hp3, hk3⟩; obtain ⟨ao3, cap3, rfl, -⟩ := hr3.get; have HR3 := hid hr3; have HP3 := hid hp3; clear hr3 hp3 hk3)
          | go_in)
        have hb4 := (Below.refl w3.heap.size w3).alloc (Nat.le_refl _) (.cells #[.int .u8 0, .int .u64 0, .int .u64 0, .bool false, .int .i64 0, .slice ao3 0 cap3] 31)
        have hz4 := heap_alloc_new w3 (.cells #[.int .u8 0, .int .u64 0, .int .u64 0, .bool false, .int .i64 0, .slice ao3 0 cap3] 31)
        obtain ⟨w4, hw4⟩ : ∃ w4, w4 = w3.alloc (.cells #[.int .u8 0, .int .u64 0, .int .u64 0, .bool false, .int .i64 0, .slice ao3 0 cap3] 31) := ⟨_, rfl⟩
        rw [← hw4] at hb4 hz4 ⊢
        have HP4 := hid (HP3.out.below hb4)
        have SM := hid (refSame_self (W := w4) sh0 (row_keep HR3.out (fun q hq => hb4.block q (row_base HR3.out hq).2)) (imgRow_nil w4 0) (by decide))
        unfold shipV sh0 at SM
        obtain ⟨a0, a1, a2, a3, a4, a5, -⟩ := cells6 hz4
        clear hb4 hz4 hw4 HR3
        go_wp2_with (first
          | (go_at_call 21; refine (SM.out).mono ?_; rintro e w5 ⟨rfl, hb5⟩; have HB5 := hid hb5; clear hb5)
          | go_in)
        go_ret
        exact ⟨rfl, HP4.out.bel.trans (HB5.out.mono HP4.out.bel.size)⟩
      · have bk : decide ((Sn : Int) ≤ k) = false := by have := Hkn.out; simp; omega
        rw [if_neg hk1] at NT
        obtain ⟨m1, hm1⟩ : ∃ m1 : Sh, m1 = if lg ≤ kn then (⟨1, 5, k + 1, false, ((S.getD kn []).length : Int), unitI (S.getD kn []) (A.getD kn [])⟩ : Sh) else ⟨1, 5, (Sn : Int), true, (L.length : Int), imgsOf L⟩ := ⟨_, rfl⟩
        have hR : (if lg ≤ kn then ((⟨1, 5, k + 1, false, ((S.getD kn []).length : Int), unitI (S.getD kn []) (A.getD kn [])⟩ : Sh), (0 : Int)) else (⟨1, 5, (Sn : Int), true, (L.length : Int), imgsOf L⟩, 0)) = (m1, 0) := by rw [hm1]; split <;> rfl
        rw [hR] at NT
        have Hm1 := hid hm1
        have Hk1 := hid hk1
        obtain ⟨mk, me, mkk, mf, mp, mi⟩ := m1
        unfold shipV at NT
        dsimp only at NT
        replace NT := hid NT
        clear hk1 hR hm1
        obtain ⟨P1, hP1⟩ : ∃ P1 : Nat, Sn = P1 + 1 := ⟨Sn - 1, by have := Hk1.out; omega⟩
        obtain ⟨q7, u7, cap7', e7, hq7, cl7, rs7, x7⟩ := HR.out.rows.stateX (i := P1) (by have := HSn.out; omega)
        obtain ⟨q8, u8, cap8', e8, hq8, cl8, rs8, x8⟩ := HR.out.rows.pagesX (i := kn) (by have := HSn.out; have := Hk1.out; have := HR.out.inv.same; omega)
        obtain ⟨q7', u9, cap9, e9, -, cl9, rs9, x9⟩ := HR.out.rows.stateX (i := kn) (by have := HSn.out; have := Hk1.out; omega)
        injection e7 with e7 _ _
        injection e8 with e8 _ _
        subst e7 e8
        obtain rfl : q7 = q7' := by injection e9 with e9; injection e9 with e9; injection e9
        have HL7 := hid cl7
        have HL8 := hid cl8
        have HL9 := hid cl9
        have HS7 := hid rs7
        have HA8 := hid rs8
        have HS9 := hid rs9
        have Hx7 := hid x7
        have Hx8 := hid x8
        have Hx9 := hid x9
        have Hq7 := hid hq7
        have Hq8 := hid hq8
        have HP1 := hid hP1
        clear cl7 cl8 cl9 rs7 rs8 rs9 x7 x8 x9 hq7 hq8 e9 hP1
        go_upto_region 35 with (first
          | (go_at_call 10; refine (NT.out).mono ?_; rintro e w3 ⟨v, rfl, hr3, hp3, hk3⟩; obtain ⟨ao3, cap3, rfl, -⟩ := hr3.get; have HR3 := hid hr3; have HP3 := hid hp3; have HK3 := hid hk3; clear hr3 hp3 hk3)
          | go_in)
        have hb4 := (Below.refl w3.heap.size w3).alloc (Nat.le_refl _) (.cells #[.int .u8 mk, .int .u64 me, .int .u64 mkk, .bool mf, .int .i64 mp, .slice ao3 mi.length cap3] 31)
        have hz4 := heap_alloc_new w3 (.cells #[.int .u8 mk, .int .u64 me, .int .u64 mkk, .bool mf, .int .i64 mp, .slice ao3 mi.length cap3] 31)
        obtain ⟨zb, hzb⟩ : ∃ zb, zb = w3.heap.size := ⟨_, rfl⟩
        obtain ⟨w4, hw4⟩ : ∃ w4, w4 = w3.alloc (.cells #[.int .u8 mk, .int .u64 me, .int .u64 mkk, .bool mf, .int .i64 mp, .slice ao3 mi.length cap3] 31) := ⟨_, rfl⟩
        rw [← hw4] at hb4 hz4 ⊢
        rw [← hzb] at hz4 ⊢
        have hkX : ∀ q, X q → w4.heap[q]? = wr.heap[q]? := fun q hq => (hb4.block q (HP3.out.xlt q (.inl hq))).trans (HK3.out q hq)
        have hc7 : w4.cell? ⟨q7, P1, none⟩ = some u7 := by rw [← HL7.out]; unfold World.cell?; rw [hkX q7 Hq7.out]
        have HKX := hid hkX
        have HB4 := hid hb4
        have HZ4 := hid hz4
        have HP4 := hid (HP3.out.below hb4)
        have HR4 := hid (row_keep HR3.out (fun q e => hb4.block q (row_base HR3.out e).2))
        have hlast : S.getD P1 [] = L := by
          rw [HR.out.inv.last]
          have h := HSn.out
          have h2 := HP1.out
          rw [List.getLastD_eq_getLast?, List.getLast?_eq_getElem?, List.getD_eq_getElem?_getD, show S.length - 1 = P1 by omega]
        have hrow7 : StrRow w4 w.heap.size u7 L := by rw [← hlast]; exact row_keep HS7.out (fun q e => hkX q (Hx7.out q e))
        have RF := hid (rfull_any hrow7 HR.out.inv.good HR.out.inv.db.many 5)
        clear hb4 hz4 hw4 hzb hkX hlast hrow7
        have hP1S : P1 < Sn := by have := HP1.out; omega
        have hwm : IntKind.i64.wrap ((Sn : Int) - 1) = (P1 : Int) := by
          have := HP1.out; have := HSn.out; have := HS80.out
          rw [IntWalk.i64_in _ (by omega)]; omega
        rw [HR.out.inv.commits, ← HSn.out] at RF
        unfold shipV at RF
        replace RF := hid RF
        obtain ⟨Ln, hLn⟩ : ∃ Ln, Ln = L.length := ⟨_, rfl⟩
        go_upto_region 38 with (first
          | (go_at_call 22; refine (RF.out).mono ?_; rintro e w5 ⟨v5, rfl, hr5, hb5⟩; obtain ⟨ao5, cap5, rfl, -⟩ := hr5.get; have HR5 := hid hr5; have HB5 := hid hb5; clear hr5 hb5)
          | go_in)
        have hb6 := (Below.refl w5.heap.size w5).alloc (Nat.le_refl _) (.cells #[.int .u8 1, .int .u64 5, .int .u64 (Sn : Int), .bool true, .int .i64 (L.length : Int), .slice ao5 (imgsOf L).length cap5] 31)
        have hz6 := heap_alloc_new w5 (.cells #[.int .u8 1, .int .u64 5, .int .u64 (Sn : Int), .bool true, .int .i64 (L.length : Int), .slice ao5 (imgsOf L).length cap5] 31)
        obtain ⟨fb, hfb⟩ : ∃ fb, fb = w5.heap.size := ⟨_, rfl⟩
        obtain ⟨w6, hw6⟩ : ∃ w6, w6 = w5.alloc (.cells #[.int .u8 1, .int .u64 5, .int .u64 (Sn : Int), .bool true, .int .i64 (L.length : Int), .slice ao5 (imgsOf L).length cap5] 31) := ⟨_, rfl⟩
        rw [← hw6] at hb6 hz6 ⊢
        rw [← hfb] at hz6 ⊢
        have HFb := hid (show w4.heap.size ≤ fb by rw [hfb]; exact HB5.out.size)
        have hb46 : Below w4.heap.size w4 w6 := HB5.out.trans (hb6.mono HB5.out.size)
        have hz46 := (hb46.block zb (lt_of_block HZ4.out)).trans HZ4.out
        have hr46 := row_keep HR4.out (fun q e => hb46.block q (row_base HR4.out e).2)
        have hr56 := row_keep HR5.out (fun q e => hb6.block q (row_base HR5.out e).2)
        have hbel : Below w.heap.size w w6 := HP4.out.bel.trans (hb46.mono HP4.out.bel.size)
        have HB46 := hid hb46
        have HZ6 := hid hz6
        have HZ46 := hid hz46
        have HR46 := hid hr46
        have HR56 := hid hr56
        have HBel := hid hbel
        have hwk : IntKind.i64.wrap k = k := IntWalk.i64_in _ (by have := Hkn.out; have := Hk1.out; have := HSn.out; have := HS80.out; omega)
        obtain ⟨lgi, hlgi⟩ : ∃ lgi : Int, lgi = (lg : Int) := ⟨_, rfl⟩
        rw [← hlgi]
        clear hb6 hz6 hw6 hfb hb46 hz46 hr46 hr56 hbel RF
        by_cases hlg : lg ≤ kn
        · have hm1 := Hm1.out
          rw [if_pos hlg] at hm1
          injection hm1 with m1 m2 m3 m4 m5 m6
          subst m1 m2 m3 m4 m5 m6
          have bl : decide (lgi ≤ k) = true := by have := Hkn.out; simp; omega
          clear hlgi hlg
          go_upto_region 39 with fail
          have c9 : w6.cell? ⟨q7, kn, none⟩ = some u9 := by
            rw [← HL9.out]; unfold World.cell?; rw [HB46.out.block q7 (HP4.out.xlt q7 (.inl Hq7.out)), HKX.out q7 Hq7.out]
          have c8 : w6.cell? ⟨q8, kn, none⟩ = some u8 := by
            rw [← HL8.out]; unfold World.cell?; rw [HB46.out.block q8 (HP4.out.xlt q8 (.inl Hq8.out)), HKX.out q8 Hq8.out]
          have s9 : StrRow w6.drew w.heap.size u9 (S.getD kn []) := row_keep HS9.out (fun q e => ((HB46.out.block q (HP4.out.xlt q (.inl (Hx9.out q e)))).trans (HKX.out q (Hx9.out q e))))
          have i8 : IntRow2 w6.drew w.heap.size u8 (A.getD kn []) := row_keep HA8.out (fun q e => ((HB46.out.block q (HP4.out.xlt q (.inl (Hx8.out q e)))).trans (HKX.out q (Hx8.out q e))))
          obtain rfl := Hkn.out
          have hknS : kn < Sn := by have := Hk1.out; omega
          have hknA : kn < A.length := by have := HSn.out; have := HR.out.inv.same; omega
          have hwk1 : IntKind.u64.wrap ((kn : Int) + 1) = (kn : Int) + 1 := IntWalk.u64_in _ (by have := HSn.out; have := HS80.out; omega)
          have hS21 := HR.out.each.1 _ (getD_mem' (S := S) (i := kn) (z := []) (by have := HSn.out; omega))
          have hA1k := HR.out.each.2 _ (getD_mem' (S := A) (i := kn) (z := []) hknA)
          obtain ⟨Sk, hSk⟩ : ∃ Sk, Sk = S.getD kn [] := ⟨_, rfl⟩
          obtain ⟨Ak, hAk⟩ : ∃ Ak, Ak = A.getD kn [] := ⟨_, rfl⟩
          rw [← hSk] at s9 hS21
          rw [← hAk] at i8 hA1k
          rw [← hSk, ← hAk] at HR46 HZ46
          clear hSk hAk
          have UN := hid (runit_any s9 i8.at' (by omega) hA1k 5 ((kn : Int) + 1))
          have C9 := hid c9
          have C8 := hid c8
          have hS := And.intro c9 c8
          clear c9 c8 s9 i8
          refine wp_region_held_drew (S := fun Wx => Wx.cell? ⟨q7, kn, none⟩ = some u9 ∧ Wx.cell? ⟨q8, kn, none⟩ = some u8) (by kernel_rfl) hS (fun hHeld => ?_)
          clear hS
          refine held_take (v := ?av0) 0 rfl (by kernel_rfl) (by kernel_rfl) (by kernel_rfl) (fun _ _ _ h => h) (by rfl) hHeld ?ay0 ?ar0
          case ay0 => (intro W hSw; obtain ⟨y0, y1⟩ := hSw; go_simp; with_reducible rfl)
          simp only [Act.put, List.setIfInBounds_toArray, List.set_cons_zero, List.set_cons_succ]
          refine held_take (v := ?av1) 1 rfl (by kernel_rfl) (by kernel_rfl) (by kernel_rfl) (fun _ _ _ h => h) (by rfl) hHeld ?ay1 ?ar1
          case ay1 => (intro W hSw; obtain ⟨y0, y1⟩ := hSw; go_simp; with_reducible rfl)
          simp only [Act.put, List.setIfInBounds_toArray, List.set_cons_zero, List.set_cons_succ]
          refine held_take (v := ?av2) 2 rfl (by kernel_rfl) (by kernel_rfl) (by kernel_rfl) (fun _ _ _ h => h) (by rfl) hHeld ?ay2 ?ar2
          case ay2 => (intro W hSw; obtain ⟨y0, y1⟩ := hSw; go_simp; with_reducible rfl)
          simp only [Act.put, List.setIfInBounds_toArray, List.set_cons_zero, List.set_cons_succ]
          refine held_take (v := ?av3) 3 rfl (by kernel_rfl) (by kernel_rfl) (by kernel_rfl) (fun _ _ _ h => h) (by rfl) hHeld ?ay3 ?ar3
          case ay3 => (intro W hSw; obtain ⟨y0, y1⟩ := hSw; go_simp; with_reducible rfl)
          simp only [Act.put, List.setIfInBounds_toArray, List.set_cons_zero, List.set_cons_succ]
          refine held_take (v := ?av4) 4 rfl (by kernel_rfl) (by kernel_rfl) (by kernel_rfl) (fun _ _ _ h => h) (by rfl) hHeld ?ay4 ?ar4
          case ay4 => (intro W hSw; obtain ⟨y0, y1⟩ := hSw; go_simp; with_reducible rfl)
          simp only [Act.put, List.setIfInBounds_toArray, List.set_cons_zero, List.set_cons_succ]
          refine held_take (v := ?av5) 5 rfl (by kernel_rfl) (by kernel_rfl) (by kernel_rfl) (fun _ _ _ h => h) (by rfl) hHeld ?ay5 ?ar5
          case ay5 => (intro W hSw; obtain ⟨y0, y1⟩ := hSw; go_simp; with_reducible rfl)
          simp only [Act.put, List.setIfInBounds_toArray, List.set_cons_zero, List.set_cons_succ]
          refine held_take (v := ?av6) 6 rfl (by kernel_rfl) (by kernel_rfl) (by kernel_rfl) (fun _ _ _ h => h) (by rfl) hHeld ?ay6 ?ar6
          case ay6 => (intro W hSw; obtain ⟨y0, y1⟩ := hSw; go_simp; with_reducible rfl)
          simp only [Act.put, List.setIfInBounds_toArray, List.set_cons_zero, List.set_cons_succ]
          refine held_take (v := ?av7) 7 rfl (by kernel_rfl) (by kernel_rfl) (by kernel_rfl) (fun _ _ _ h => h) (by rfl) hHeld ?ay7 ?ar7
          case ay7 => (intro W hSw; obtain ⟨y0, y1⟩ := hSw; go_simp; with_reducible rfl)
          simp only [Act.put, List.setIfInBounds_toArray, List.set_cons_zero, List.set_cons_succ]
          refine held_take (v := ?av8) 8 rfl (by kernel_rfl) (by kernel_rfl) (by kernel_rfl) (fun _ _ _ h => h) (by rfl) hHeld ?ay8 ?ar8
          case ay8 => (intro W hSw; obtain ⟨y0, y1⟩ := hSw; go_simp; with_reducible rfl)
          simp only [Act.put, List.setIfInBounds_toArray, List.set_cons_zero, List.set_cons_succ]
          refine held_take (v := ?av9) 9 rfl (by kernel_rfl) (by kernel_rfl) (by kernel_rfl) (fun _ _ _ h => h) (by rfl) hHeld ?ay9 ?ar9
          case ay9 => (intro W hSw; obtain ⟨y0, y1⟩ := hSw; go_simp; with_reducible rfl)
          simp only [Act.put, List.setIfInBounds_toArray, List.set_cons_zero, List.set_cons_succ]
          refine held_one 10 (by kernel_rfl) rfl (fun K hK => ?_)
          go_simp
          refine (UN.out).mono ?_
          rintro e w7 ⟨v7, rfl, hr7, hb7⟩
          obtain ⟨ao7b, cap7b, rfl, -⟩ := hr7.get
          have hb7' : Below w6.heap.size w6 w7 := below_undrew hb7
          have hz7 := (hb7'.block fb (lt_of_block HZ6.out)).trans HZ6.out
          have hzz7 := (hb7'.block zb (lt_of_block HZ46.out)).trans HZ46.out
          have hS7 : w7.cell? ⟨q7, kn, none⟩ = some u9 ∧ w7.cell? ⟨q8, kn, none⟩ = some u8 := ⟨(hb7'.cell (p := ⟨q7, kn, none⟩) (World.block_lt_of_cell? _ _ C9.out)).trans C9.out, (hb7'.cell (p := ⟨q8, kn, none⟩) (World.block_lt_of_cell? _ _ C8.out)).trans C8.out⟩
          have hfbX : ∀ q, X q → fb ≠ q := fun q hq e => by
            have h1 := HP4.out.xlt q (.inl hq)
            have h2 := HFb.out
            omega
          have HS7b := hid hS7
          have HR7 := hid hr7
          have HB7 := hid hb7'
          have HZ7 := hid hz7
          have HZZ7 := hid hzz7
          have HfbX := hid hfbX
          obtain ⟨b0, b1, b2, b3, b4, b5, bf⟩ := cells6 hz7
          clear hr7 hb7 hb7' hz7 hzz7 hS7 hfbX UN
          refine hK.out _ _ HS7b.out (fun hHeld => ?_)
          clear hK K
          try simp only [Act.put, List.setIfInBounds_toArray, List.set_cons_zero, List.set_cons_succ]
          refine held_one 11 (by kernel_rfl) rfl (fun K hK => ?_)
          unfold shipV
          go_simp
          have hF := six_set w7 fb (.int .u8 1) (.int .u64 5) (.int .u64 ((kn : Int) + 1)) (.bool false) (.int .i64 (Sk.length : Int)) (.slice ao7b (unitI Sk Ak).length cap7b) (fun q => q = fb) w7 (Frm.refl _ _) (.inl rfl)
          have hz8 := heap_set6 HZ7.out (.int .u8 1) (.int .u64 5) (.int .u64 ((kn : Int) + 1)) (.bool false) (.int .i64 (Sk.length : Int)) (.slice ao7b (unitI Sk Ak).length cap7b)
          obtain ⟨w8, hw8⟩ : ∃ w8, w8 = ((((((w7.setCell ⟨fb, 0, none⟩ (.int .u8 1)).setCell ⟨fb, 1, none⟩ (.int .u64 5)).setCell ⟨fb, 2, none⟩ (.int .u64 ((kn : Int) + 1))).setCell ⟨fb, 3, none⟩ (.bool false)).setCell ⟨fb, 4, none⟩ (.int .i64 (Sk.length : Int))).setCell ⟨fb, 5, none⟩ (.slice ao7b (unitI Sk Ak).length cap7b)) := ⟨_, rfl⟩
          rw [← hw8] at hF hz8 ⊢
          have hS8 : w8.cell? ⟨q7, kn, none⟩ = some u9 ∧ w8.cell? ⟨q8, kn, none⟩ = some u8 := by
            obtain ⟨z1, z2⟩ := HS7b.out
            refine ⟨?_, ?_⟩
            · rw [← z1]; unfold World.cell?; rw [hF.block q7 (World.block_lt_of_cell? _ _ z1) (fun e => HfbX.out q7 Hq7.out e.symm)]
            · rw [← z2]; unfold World.cell?; rw [hF.block q8 (World.block_lt_of_cell? _ _ z2) (fun e => HfbX.out q8 Hq8.out e.symm)]
          have hrA : ImgRow w8 wr.heap.size (.slice ao3 (unitI Sk Ak).length cap3) (unitI Sk Ak) := row_keep (row_keep HR46.out (fun q e => HB7.out.block q (row_base HR46.out e).2)) (fun q e => by
            have h1 := (row_base HR46.out e).2
            refine hF.block q (Nat.lt_of_lt_of_le h1 HB7.out.size) (fun e2 => ?_)
            subst e2
            have h2 := (row_base HR4.out (g := q) (by cases ao3 <;> exact e)).2
            have h3 := HFb.out
            omega)
          have hrB : ImgRow w8 w6.heap.size (.slice ao7b (unitI Sk Ak).length cap7b) (unitI Sk Ak) := row_keep HR7.out (fun q e => hF.block q (row_base HR7.out e).2 (fun e2 => by
            subst e2
            have h1 := (row_base HR7.out e).1
            have h2 := lt_of_block HZ6.out
            have h1 : w6.heap.size ≤ q := h1
            omega))
          have hzz8 := (hF.block zb (lt_of_block HZZ7.out) (fun e => by have h1 := lt_of_block HZ4.out; have h2 := HFb.out; omega)).trans HZZ7.out
          have hb8 : Below w.heap.size w w8 := by
            have h0 := HBel.out.trans (HB7.out.mono HBel.out.size)
            exact ⟨hF.os.trans h0.os, hF.tape.trans h0.tape, hF.output.trans h0.output, Nat.le_trans h0.size hF.size, fun q hq => (hF.block q (Nat.lt_of_lt_of_le hq h0.size) (fun e => by have := HFb.out; have := HP4.out.bel.size; omega)).trans (h0.block q hq)⟩
          have SM := hid (refSame_self (W := w8) ⟨1, 5, (kn : Int) + 1, false, (Sk.length : Int), unitI Sk Ak⟩ hrA hrB (by show (unitI Sk Ak).length ≤ _; have := unitI_len Sk Ak Sk.length; rw [List.take_length] at this; omega))
          unfold shipV at SM
          have HS8 := hid hS8
          have HB8 := hid hb8
          clear b0 b1 b2 b3 b4 b5 bf hF hw8 hrA hrB hb8 hS8
          refine hK.out _ _ HS8.out (fun hHeld => ?_)
          clear hK K
          try simp only [Act.put, List.setIfInBounds_toArray, List.set_cons_zero, List.set_cons_succ]
          clear hHeld
          refine wpAnyH_done (by kernel_rfl) ?_ _
          obtain ⟨a0, a1, a2, a3, a4, a5, -⟩ := cells6 hzz8
          obtain ⟨b0, b1, b2, b3, b4, b5, -⟩ := cells6 hz8
          clear hzz8 hz8
          go_wp2_with (first
            | (go_at_call 21; refine (SM.out).mono ?_; rintro e w9 ⟨rfl, hb9⟩; have HB9 := hid hb9; clear hb9)
            | go_in)
          go_ret
          exact ⟨rfl, HB8.out.trans (HB9.out.mono HB8.out.size)⟩
        · have hm1 := Hm1.out
          rw [if_neg hlg] at hm1
          injection hm1 with m1 m2 m3 m4 m5 m6
          subst m1 m2 m3 m4 m5 m6
          have bl : decide (lgi ≤ k) = false := by have := Hkn.out; simp; omega
          have SM := hid (refSame_self (W := w6) ⟨1, 5, (Sn : Int), true, (L.length : Int), imgsOf L⟩ HR46.out HR56.out (by rw [imgsOf_length]; exact Nat.le_trans HR.out.inv.db.many (by decide)))
          unfold shipV at SM
          obtain ⟨a0, a1, a2, a3, a4, a5, -⟩ := cells6 HZ46.out
          obtain ⟨b0, b1, b2, b3, b4, b5, -⟩ := cells6 HZ6.out
          clear hlgi hlg
          go_wp2_with (first
            | (go_at_call 21; refine (SM.out).mono ?_; rintro e w7 ⟨rfl, hb7⟩; have HB7 := hid hb7; clear hb7)
            | go_in)
          go_ret
          exact ⟨rfl, HBel.out.trans (HB7.out.mono HBel.out.size)⟩
end Go.Proofs.YtdinjghfjmmjoaaGreat
