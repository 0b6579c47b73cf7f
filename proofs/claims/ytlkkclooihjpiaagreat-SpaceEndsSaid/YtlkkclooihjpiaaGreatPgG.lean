/- A pager's Resize. -/
import Derived.Test.YtlkkclooihjpiaaGreatPgF
import Derived.Maps.RangeWalk
set_option linter.unusedVariables false
set_option linter.unusedSimpArgs false
namespace Go.Proofs.YtlkkclooihjpiaaGreat
open Go.RowKit Go.Maps
set_option maxRecDepth 20000
section
variable {w w1 w2 w3 w' : World} {pb l b : Nat} {F K : Foot} {G : Nat → Prop} {p : Pg} {g : Lg} {d : Dsk} {nv sv : Value}
def presizeM (p : Pg) (n : Int) : Int × Pg := match p.now with
 | none => (9, p)
 | some t => if n < 1 ∨ 256 < n then (5, p) else (0, { p with now := some ⟨n, fun k => if n < k then none else if t.pages < k then some (zeros 512) else t.wr k⟩ })
theorem says_cut {D1 D : DataW Unit} {f : Int → Option (List UInt8)} {n : Int} {left : Lit → Bool} (h : MapSays D f) (hc : Cutting D1 D (n + 1) left) (hl : ∀ k, left k = false) : MapSays D1 (fun k => if n < k then none else f k) := by
 refine ⟨fun k hk => ?_, fun q => ?_⟩
 ·rw [hc.has_ k] at hk
  simp only [Bool.and_eq_true] at hk
  exact h.1 k hk.1
 ·have h2 := h.2 q
  have h3 := hc.has_ (ik q)
  rw [hl] at h3
  simp only [ik, Bool.false_or] at h3
  by_cases hq : n < q
  ·simp only [hq, if_true]
   have : decide (q < n + 1) = false := by simp; omega
   rw [this, Bool.and_false] at h3
   exact h3
  ·simp only [hq, if_false]
   have : decide (q < n + 1) = true := by simp; omega
   rw [this, Bool.and_true] at h3
   revert h2
   cases f q with
   | some s => exact fun h2 => ⟨h3.trans h2.1, fun z => (hc.at_ (ik q) z (h3.trans h2.1)).trans (h2.2 z)⟩
   | none => exact fun h2 => h3.trans h2
def zeroTo (f : Int → Option (List UInt8)) (a b : Int) : Int → Option (List UInt8) := fun k => if a < k ∧ k ≤ b then some (zeros 512) else f k
theorem zeroTo_put (f : Int → Option (List UInt8)) (a b : Int) (h : a ≤ b) : (fun k => if k = b + 1 then some (zeros 512) else zeroTo f a b k) = zeroTo f a (b + 1) := by
 funext k
 unfold zeroTo
 by_cases e : k = b + 1
 ·rw [if_pos e, if_pos (by omega)]
 ·rw [if_neg e]
  by_cases h1 : a < k ∧ k ≤ b
  ·rw [if_pos h1, if_pos (by omega)]
  ·rw [if_neg h1, if_neg (by omega)]
theorem zeroTo_same (f : Int → Option (List UInt8)) (a b : Int) (h : b ≤ a) : zeroTo f a b = f := by
 funext k
 unfold zeroTo
 rw [if_neg (by omega)]
theorem zeroTo_end (f : Int → Option (List UInt8)) (a m n : Int) (h1 : a ≤ m) (h2 : m ≤ n ∨ m = a) (h3 : n ≤ m) : zeroTo (fun k => if n < k then none else f k) a m = fun k => if n < k then none else if a < k then some (zeros 512) else f k := by
 funext k
 unfold zeroTo
 show (if a < k ∧ k ≤ m then some (zeros 512) else if n < k then none else f k) = _
 by_cases e : n < k
 ·rw [if_neg (by omega), if_pos e, if_pos e]
 ·rw [if_neg e, if_neg e]
  by_cases e2 : a < k
  ·rw [if_pos (by omega), if_pos e2]
  ·rw [if_neg (by omega), if_neg e2]
theorem resize_mem (h : PgMem w pb l K p nv sv) {t : Tr} (hp : p.now = some t) {nb mb : Nat} (hnv : nv = .pointer (some ⟨nb, 0, none⟩)) (hnb : w.heap[nb]? = some (.cells (trCells t mb).toArray 86 (0, 0))) (hmb : ∃ es c, w.heap[mb]? = some (.map es c)) (ho1 : K.own nb) (ho2 : K.own mb)
  {n : Int} {f : Int → Option (List UInt8)} (hg : w.grownBy w2 (some mb)) (hw : WrAt w2 mb f) (hok : Tr.Ok ⟨n, f⟩) : PgDid w pb l K { p with now := some ⟨n, f⟩ } (w2.setCell ⟨nb, 0, none⟩ (.int .i64 n)) := by
 obtain ⟨es, c, hmb⟩ := hmb
 have hnl := lt_of_block hnb
 have hpl := h.olt pb h.pown
 have nm : nb ≠ mb := ne_cells hnb hmb
 have pm : pb ≠ mb := ne_cells h.blk hmb
 have pn : pb ≠ nb := ne_type h.blk hnb (by decide)
 have hk2 : ∀ k, k < w.heap.size → k ≠ mb → w2.heap[k]? = w.heap[k]? := fun k hk hn => hg.block k hk (fun e => hn (by injection e))
 have hnb2 := (hk2 nb hnl nm).trans hnb
 have hnb3 := heap_setCell_same hnb2 0 (.int .i64 n)
 have ho3 : ∀ j, j ≠ nb → (w2.setCell ⟨nb, 0, none⟩ (.int .i64 n)).heap[j]? = w2.heap[j]? := fun j hj => Below.heap_setCell _ ⟨nb, 0, none⟩ _ j hj
 have hf2 : Frm K.own w w2 := ⟨hg.os, hg.tape, hg.output, hg.size, fun k hk hne => hk2 k hk (fun e => hne (e ▸ ho2))⟩
 have hf3 := hf2.setCell (p := ⟨nb, 0, none⟩) (.inl ho1) (.int .i64 n)
 obtain ⟨w3, hw3⟩ : ∃ w3, w3 = w2.setCell ⟨nb, 0, none⟩ (.int .i64 n) := ⟨_, rfl⟩
 rw [← hw3] at hnb3 ho3 hf3 ⊢
 clear hw3
 have hS := h.saves_keep (S := fun j => j = mb ∨ j = nb) (w' := w3) (fun j hj hne => (ho3 j (fun e => hne (.inr e))).trans (hk2 j hj (fun e => hne (.inl e))))
  (fun j hj => by
   obtain ⟨cur, hc⟩ := h.saves.block hj
   rintro (e | e)
   ·exact ne_cells hc hmb e
   ·exact h.nrow nb hnv (by rw [hj, e]))
  (fun j hj => by
   rintro (e | e)
   ·exact h.apart mb ho2 (e ▸ hj)
   ·exact h.apart nb ho1 (e ▸ hj))
 refine h.to (K' := K) hf3 ((ho3 pb pn).trans ((hk2 pb hpl pm).trans h.blk)) ⟨nb, mb, hnv, hnb3.trans rfl, hw.keep (ho3 mb nm.symm), ho1, ho2⟩ hS h.nrow (fun k hk => .inl hk) (fun k hk => .inl hk) h.pown (fun k hk h1 _ => by have := h.olt k h1; omega) ⟨fun t' ht' => by cases ht'; exact hok, h.ok.saves, h.ok.many, fun e => by cases e⟩
set_option maxHeartbeats 4000000 in
theorem resize_any (h : PgMem w pb l K p nv sv) (n : Int) (hn : -9223372036854775808 ≤ n ∧ n ≤ 9223372036854775807) : Calls Tryz.prog 31 #[.pointer (some ⟨pb, 0, none⟩), .int .i64 n] w fun e w' => e = .returned (.int .i64 (presizeM p n).1) ∧ PgDid w pb l K (presizeM p n).2 w' := by
 obtain ⟨c0, c1, c2, -⟩ := h.cell
 have H := hid h
 have RD := pready_any h
 have hnow := h.now
 have htok := h.ok.now
 unfold presizeM
 cases hp : p.now with
 | none =>
  have e : preadyM p = 9 := by unfold preadyM; rw [hp]
  rw [e] at RD
  have RD := hid RD
  clear h e hnow htok hp
  go_enter Tryz.func31, Tryz.ntmps31
  go_wp2_with (first
   | (go_at_call 37; refine (RD.out).mono ?_; rintro e w1 ⟨rfl, hw⟩; obtain rfl := hw.symm)
   | go_in)
  go_ret
  exact ⟨rfl, PgDid.same H.out⟩
 | some t =>
  have e : preadyM p = 0 := by unfold preadyM; rw [hp]
  rw [e] at RD
  have RD := hid RD
  rw [hp] at hnow
  obtain ⟨nb, mb, hnv, hnb, hwr, ho1, ho2⟩ := hnow
  have htp := htok t hp
  have Hp := hid hp
  have Hnb := hid hnb
  have Ho := hid (And.intro ho1 ho2)
  have Hmb := hid hwr.block
  obtain ⟨D, hm, hsay⟩ := hwr
  have hsz : Maps.size D ≤ 256 := says_size (P := t.pages) htp.pages.2 hsay (fun q x hx => by have := htp.dom q x hx; exact ⟨this.1, this.2.1⟩) (hm.canon keyI)
  have Hm := hid hm
  have Hsay := hid hsay
  have Htp := hid htp
  subst hnv
  have hnl := lt_of_block hnb
  have hpl := H.out.olt pb H.out.pown
  have nm : nb ≠ mb := by obtain ⟨es, c, hb⟩ := Hmb.out; exact ne_cells hnb hb
  have pm : pb ≠ mb := by obtain ⟨es, c, hb⟩ := Hmb.out; exact ne_cells H.out.blk hb
  have pn : pb ≠ nb := ne_type H.out.blk hnb (by decide)
  have Nm := hid nm
  have Pm := hid pm
  have Pn := hid pn
  have hd1 : w.cell? ⟨nb, 1, none⟩ = some (.map (some mb)) := (cell_of_block hnb 1).trans rfl
  have HC := hid (show ∀ W : World, w.grownBy W (some mb) → W.cell? ⟨pb, 1, none⟩ = some (.pointer (some ⟨nb, 0, none⟩)) ∧ W.cell? ⟨nb, 0, none⟩ = some (.int .i64 t.pages) ∧ W.cell? ⟨nb, 1, none⟩ = some (.map (some mb)) ∧ W.frozen? ⟨nb, 0, none⟩ = false from fun W hg => by
   have h1 := (hg.block pb hpl (fun e => Pm.out (by injection e))).trans H.out.blk
   have h2 := (hg.block nb hnl (fun e => Nm.out (by injection e))).trans Hnb.out
   exact ⟨(cell_of_block h1 1).trans rfl, (cell_of_block h2 0).trans rfl, (cell_of_block h2 1).trans rfl, free_of_block h2 0⟩)
  clear h e hp hnb ho1 ho2 hm hsay htok htp nm pm pn c0 c2
  by_cases h1 : n < 1
  ·have b1 : decide (n < 1) = true := by simpa using h1
   simp only [h1, true_or, if_true]
   clear h1
   go_enter Tryz.func31, Tryz.ntmps31
   go_wp2_with (first
    | (go_at_call 37; refine (RD.out).mono ?_; rintro e w1 ⟨rfl, hw⟩; obtain rfl := hw.symm)
    | go_in)
   go_ret
   exact ⟨rfl, PgDid.same H.out⟩
  by_cases h2 : 256 < n
  ·have b1 : decide (n < 1) = false := by simpa using h1
   have b2 : decide (256 < n) = true := by simpa using h2
   simp only [h2, or_true, if_true]
   clear h1 h2
   go_enter Tryz.func31, Tryz.ntmps31
   go_wp2_with (first
    | (go_at_call 37; refine (RD.out).mono ?_; rintro e w1 ⟨rfl, hw⟩; obtain rfl := hw.symm)
    | go_in)
   go_ret
   exact ⟨rfl, PgDid.same H.out⟩
  dsimp only
  rw [if_neg (by omega)]
  have b1 : decide (n < 1) = false := by simpa using h1
  have b2 : decide (256 < n) = false := by simpa using h2
  have hn1 : 1 ≤ n := by omega
  have hn2 : n ≤ 256 := by omega
  have HN := hid (And.intro hn1 hn2)
  clear h1 h2 hn
  go_enter Tryz.func31, Tryz.ntmps31
  go_wp2_with (first
   | (go_at_call 37; refine (RD.out).mono ?_; rintro e w1 ⟨rfl, hw⟩; obtain rfl := hw.symm)
   | (at_range; refine wpList_range_own _ rfl _ 84 rfl 3 9 keyI Tryz.underlying84 (plainElem Tryz.prog 9) mb (Maps.size D) D rfl Hm.out ?_; intro w0 hrg0 hg0 hs0)
   | go_in)
  go_frame
  have Hrg0 := hid hrg0
  have Hg0 := hid (hg0.but (some mb))
  obtain ⟨r, hr⟩ : ∃ r, r = w.heap.size := ⟨_, rfl⟩
  have hrw : w.heap.size ≤ r := by omega
  rw [← hr] at Hrg0 ⊢
  clear hrg0 hg0 hs0 c1 hd1 hr
  go_loopw [6] (fun _ wr => ∃ left cnt D1, wr.ranges Tryz.prog 3 (plainElem Tryz.prog 9) mb r (Maps.size D) D1 left cnt ∧ w.grownBy wr (some mb) ∧ Cutting D1 D (n + 1) left) (fun _ wr => wr.rangeLeft mb r)
  case atStart => exact ⟨_, _, _, Hrg0.out, Hg0.out, cutting_start _ _⟩
  case round =>
   obtain ⟨left, cnt, D1, hrg, hgw, hcut⟩ := hrel
   have HG := hid hgw
   have Hcut := hid hcut
   obtain ⟨q1, q2, q3, q4⟩ := HC.out wr hgw
   clear hgw hcut
   go_wp2_with (first
    | (at_next; refine wpList_next_ranges _ rfl _ rfl 3 keyI (plainElem Tryz.prog 9) (Value.int .i64) (fun s : List UInt8 => Value.string (bs s)) (fun key kl hk => by obtain ⟨x, hx, _⟩ := Maps.keyOf_int_inv Tryz.underlying3 hk; exact ⟨x, hx⟩) (fun v y hv => by obtain ⟨s, hs, -⟩ := plainElem_string_inv Tryz.underlying9 hv; obtain ⟨u, rfl⟩ := bs_of s; exact ⟨u, hs⟩) mb r (Maps.size D) D1 left cnt rfl hrg ?_ ?_)
    | go_in)
   ·intro hc0 hlk
    have hsay1 := says_cut Hsay.out Hcut.out hlk
    have hwr : WrAt wr mb (zeroTo (fun k => if n < k then none else t.wr k) t.pages t.pages) := by
     rw [zeroTo_same _ _ _ (Int.le_refl _)]
     exact ⟨D1, owns_exact hrg.owns, hsay1⟩
    have Hwr := hid hwr
    clear hsay1 hwr hc0 hlk hrg
    obtain ⟨F0, hF0⟩ : ∃ F0, F0 = fun k => if n < k then none else t.wr k := ⟨_, rfl⟩
    rw [← hF0] at Hwr
    have HF0 := hid hF0
    obtain ⟨P, hP⟩ : ∃ P, P = t.pages := ⟨_, rfl⟩
    rw [← hP] at Hwr q2
    have HP := hid hP
    have hP0 : 0 ≤ P ∧ P ≤ 256 := by rw [hP]; exact Htp.out.pages
    have R := fun w => Tryz.strings_Repeat (bs [0]) 512 w (by omega) (by simp [bs_size])
    rw [show (bs [0]).data.toList = [0] from rfl, repeat_one] at R
    have R : ∀ w, Calls Tryz.prog 63 #[.string ⟨#[0]⟩, .int .i64 512] w fun e w' => e = .returned (.string (bs (zeros 512))) ∧ Below w.heap.size w w' := R
    have R := hid R
    clear hF0 hP
    go_wp2_with fail
    go_loopw [7] (fun v7 wy => ∃ m : Int, P ≤ m ∧ (m ≤ n ∨ m = P) ∧ v7 = .int .i64 (m + 1) ∧ w.grownBy wy (some mb) ∧ WrAt wy mb (zeroTo F0 P m)) (fun v7 _ => (n + 1 - intOf v7).toNat)
    case atStart => exact ⟨P, Int.le_refl _, .inr rfl, rfl, HG.out, Hwr.out⟩
    case round =>
     obtain ⟨m, hm1, hm2, rfl, hgy, hwy⟩ := hrel
     clear q1 q2 q3 q4
     obtain ⟨q1, q2, q3, q4⟩ := HC.out wr hgy
     have HGy := hid hgy
     have Hwy := hid hwy
     have Hm12 := hid (And.intro hm1 hm2)
     clear hgy hwy
     by_cases hmn : m < n
     ·have hle : decide (m + 1 ≤ n) = true := by simp; omega
      have hmw : IntKind.i64.wrap (m + 1 + 1) = m + 1 + 1 := IntWalk.i64_in _ (by have := HN.out; omega)
      have hmr : 0 ≤ m ∧ m ≤ 256 := by have := HN.out; omega
      clear hm1 hm2
      go_upto_region 14 with fail
      refine wp_region_held_drew (S := fun W => W.cell? ⟨pb, 1, none⟩ = some (.pointer (some ⟨nb, 0, none⟩)) ∧ W.cell? ⟨nb, 1, none⟩ = some (.map (some mb))) (by kernel_rfl) ⟨q1, q3⟩ (fun hHeld => ?_)
      clear q1 q2 q3 q4
      refine held_take (v := ?rv0) 0 rfl (by kernel_rfl) (by kernel_rfl) (by kernel_rfl) (fun _ _ _ h => h) (by rfl) hHeld ?ry0 ?rr0
      case ry0 => (intro W hSw; obtain ⟨y0, y1⟩ := hSw; go_simp; with_reducible rfl)
      simp only [Act.put, List.setIfInBounds_toArray, List.set_cons_zero, List.set_cons_succ]
      refine held_take (v := ?rv1) 1 rfl (by kernel_rfl) (by kernel_rfl) (by kernel_rfl) (fun _ _ _ h => h) (by rfl) hHeld ?ry1 ?rr1
      case ry1 => (intro W hSw; obtain ⟨y0, y1⟩ := hSw; go_simp; with_reducible rfl)
      simp only [Act.put, List.setIfInBounds_toArray, List.set_cons_zero, List.set_cons_succ]
      refine held_take (v := ?rv2) 2 rfl (by kernel_rfl) (by kernel_rfl) (by kernel_rfl) (fun _ _ _ h => h) (by rfl) hHeld ?ry2 ?rr2
      case ry2 => (intro W hSw; obtain ⟨y0, y1⟩ := hSw; go_simp; with_reducible rfl)
      simp only [Act.put, List.setIfInBounds_toArray, List.set_cons_zero, List.set_cons_succ]
      refine held_take (v := ?rv3) 3 rfl (by kernel_rfl) (by kernel_rfl) (by kernel_rfl) (fun _ _ _ h => h) (by rfl) hHeld ?ry3 ?rr3
      case ry3 => (intro W hSw; obtain ⟨y0, y1⟩ := hSw; go_simp; with_reducible rfl)
      simp only [Act.put, List.setIfInBounds_toArray, List.set_cons_zero, List.set_cons_succ]
      refine held_take (v := ?rv4) 4 rfl (by kernel_rfl) (by kernel_rfl) (by kernel_rfl) (fun _ _ _ h => h) (by rfl) hHeld ?ry4 ?rr4
      case ry4 => (intro W hSw; obtain ⟨y0, y1⟩ := hSw; go_simp; with_reducible rfl)
      simp only [Act.put, List.setIfInBounds_toArray, List.set_cons_zero, List.set_cons_succ]
      refine held_take (v := ?rv5) 5 rfl (by kernel_rfl) (by kernel_rfl) (by kernel_rfl) (fun _ _ _ h => h) (by rfl) hHeld ?ry5 ?rr5
      case ry5 => (intro W hSw; obtain ⟨y0, y1⟩ := hSw; go_simp; with_reducible rfl)
      simp only [Act.put, List.setIfInBounds_toArray, List.set_cons_zero, List.set_cons_succ]
      refine held_take (v := ?rv6) 6 rfl (by kernel_rfl) (by kernel_rfl) (by kernel_rfl) (fun _ _ _ h => h) (by rfl) hHeld ?ry6 ?rr6
      case ry6 => (intro W hSw; obtain ⟨y0, y1⟩ := hSw; go_simp; with_reducible rfl)
      simp only [Act.put, List.setIfInBounds_toArray, List.set_cons_zero, List.set_cons_succ]
      refine held_take (v := ?rv7) 7 rfl (by kernel_rfl) (by kernel_rfl) (by kernel_rfl) (fun _ _ _ h => h) (by rfl) hHeld ?ry7 ?rr7
      case ry7 => (intro W hSw; obtain ⟨y0, y1⟩ := hSw; go_simp; with_reducible rfl)
      simp only [Act.put, List.setIfInBounds_toArray, List.set_cons_zero, List.set_cons_succ]
      refine held_one 8 (by kernel_rfl) rfl (fun K hK => ?_)
      go_simp
      refine (R.out _).mono ?_
      rintro e w7 ⟨rfl, hb7⟩
      have hb7' := below_undrew hb7
      have hg7 : w.grownBy w7 (some mb) := HGy.out.andThen (row' := none) ⟨hb7'.os, hb7'.tape, hb7'.output, hb7'.size, fun k hk _ => hb7'.block k hk⟩ (fun j hj => by cases hj)
      obtain ⟨q1, -, q3, -⟩ := HC.out w7 hg7
      have hw7 : WrAt w7 mb (zeroTo F0 P m) := Hwy.out.keep (hb7'.block mb Hwy.out.lt)
      obtain ⟨D7, hm7, hs7⟩ := hw7
      have hsz7 : Maps.size D7 ≤ 256 := says_size (P := n) HN.out.2 hs7 (fun q x hx => by
       unfold zeroTo at hx
       split at hx
       ·have := hmr; omega
       ·rw [HF0.out] at hx
        simp only at hx
        split at hx
        ·cases hx
        ·have := Htp.out.dom q x hx
         omega) (hm7.canon keyI)
      obtain ⟨w8, hrun, hown8, hgrow8⟩ := hm7.update keyI Tryz.underlying84 (by unfold maxLen; omega) (keyOf_int_mk (P := Tryz.prog) (k := 3) (a := m + 1) Tryz.underlying3 (WalkArith.wf_i64 (by omega))) (plainElem_string (H := Unit) (P := Tryz.prog) (e := 9) Tryz.underlying9 (s := bs (zeros 512)) (by rw [bs_size, zeros_length]; decide))
      have hg8 := hg7.andThen hgrow8 (fun j hj => by cases hj; exact .inr rfl)
      have hq8 := HC.out w8 hg8
      have hw8 : WrAt w8 mb (zeroTo F0 P (m + 1)) := by
       rw [← zeroTo_put F0 P m (by have := Hm12.out; omega)]
       exact ⟨_, owns_exact hown8, says_put hs7 hm7.isMap (m + 1) (zeros 512)⟩
      have REL := hid (And.intro hg8 hw8)
      have Hq8 := hid (show w8.cell? ⟨pb, 1, none⟩ = some (.pointer (some ⟨nb, 0, none⟩)) ∧ w8.cell? ⟨nb, 1, none⟩ = some (.map (some mb)) from ⟨hq8.1, hq8.2.2.1⟩)
      clear hb7 hb7' hg7 hm7 hs7 hown8 hgrow8 hg8 hq8 hw8
      try dsimp only
      refine hK.out _ _ (⟨q1, q3⟩) (fun hHeld => ?_)
      clear hK K
      try simp only [Act.put, List.setIfInBounds_toArray, List.set_cons_zero, List.set_cons_succ]
      refine held_one 9 (by kernel_rfl) rfl (fun K hK => ?_)
      go_simp
      refine hK.out _ _ (Hq8.out) (fun hHeld => ?_)
      clear hK K
      try simp only [Act.put, List.setIfInBounds_toArray, List.set_cons_zero, List.set_cons_succ]
      clear hHeld hrun q1 q3
      refine wpAnyH_done (by kernel_rfl) ?_ _
      go_wp2_with fail
      go_roundw
      case rel => exact ⟨m + 1, by have := Hm12.out; omega, .inl (by omega), rfl, REL.out.1, REL.out.2⟩
      case measure => (simp [intOf]) <;> omega
     ·have hle : decide (m + 1 ≤ n) = false := by simp; omega
      go_wp2_with fail
      go_ret
      refine ⟨rfl, ?_⟩
      have e := zeroTo_end t.wr P m n hm1 hm2 (by omega)
      rw [← HF0.out] at e
      have hw := Hwy.out
      rw [e, HP.out] at hw
      exact resize_mem H.out Hp.out rfl Hnb.out Hmb.out Ho.out.1 Ho.out.2 HGy.out hw ⟨by have := HN.out; show 0 ≤ n ∧ n ≤ 256; omega, fun q x hx => by
       simp only at hx
       split at hx
       ·cases hx
       ·split at hx
        ·cases hx
         have := Htp.out.pages
         exact ⟨by omega, by show q ≤ n; omega, zeros_length _⟩
        ·have := Htp.out.dom q x hx
         exact ⟨this.1, by show q ≤ n; omega, this.2.2⟩⟩
   ·intro x s kl y ps w1 cnt1 hkey hlk hR hat hrg1 hlt hg1 hs1 hen
    have hkl : kl = ik x := by
     obtain ⟨x', e1, e2, _⟩ := Maps.keyOf_int_inv Tryz.underlying3 hkey
     cases e1
     exact e2
    subst hkl
    have hgw1 := HG.out.andThen hg1 (fun j hj => by first | (cases hj; exact .inl hrw) | (cases hj; exact .inr rfl))
    obtain ⟨q1, q2, q3, q4⟩ := HC.out w1 hgw1
    have HG1 := hid hgw1
    have Hlt := hid hlt
    have hl1 := hid hrg1.left_eq
    have hl0 := hid hrg.left_eq
    by_cases hge : n < x
    ·have hge' : decide (n < x) = true := by simpa using hge
     clear hlt hg1 hs1 hrg hlk hR hat hgw1
     go_wp2_with (first
      | (at_delete; refine wpList_delete_ranges _ rfl _ _ 84 3 rfl 9 keyI Tryz.underlying84 _ mb r (Maps.size D) _ _ _ rfl hrg1 _ _ rfl hkey ?_; intro w2 cnt2 hrg2 hle hturn; go_frame)
      | go_in)
     rw [strike_twice] at hrg2
     go_roundw
     case rel => exact ⟨_, cnt2, _, hrg2, HG1.out.andThen hturn.grown (fun j hj => by cases hj; exact .inr rfl), cutting_drop Hcut.out (by omega)⟩
     case measure => rw [hrg2.left_eq, hl0.out]; have := Hlt.out; omega
    ·have hge' : decide (n < x) = false := by simpa using hge
     have Hrg1 := hid hrg1
     clear hlt hg1 hs1 hrg hlk hR hat hgw1 hrg1
     go_wp2_with fail
     go_roundw
     case rel => exact ⟨_, cnt1, _, Hrg1.out, HG1.out, cutting_keep Hcut.out (by omega)⟩
     case measure => rw [hl1.out, hl0.out]; exact Hlt.out
end
end Go.Proofs.YtlkkclooihjpiaaGreat
