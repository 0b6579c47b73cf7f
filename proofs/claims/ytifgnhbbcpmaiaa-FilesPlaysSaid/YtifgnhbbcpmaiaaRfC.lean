/- The reference's disk: New, Power, meets. -/
import Derived.Test.YtifgnhbbcpmaiaaRfB
namespace Go.Proofs.Ytifgnhbbcpmaiaa
open Go.RowKit Go.Maps
set_option linter.unusedVariables false
set_option linter.unusedSimpArgs false

theorem rnew_any (w : World) : Calls Try.prog 29 #[] w fun e w' => ∃ b F, e = .returned (.pointer (some ⟨b, 0, none⟩)) ∧ RefAt w' b F newM ∧ Below w.heap.size w w' ∧ (∀ k, F.own k → w.heap.size ≤ k) ∧ (∀ k, F.sh k → w.heap.size ≤ k) := by
  go_enter Try.func29, Try.ntmps29
  go_wp2_with fail
  go_ret
  refine ⟨w.heap.size, ⟨fun k => k = w.heap.size, fun _ => False⟩, rfl, ⟨fun _ => .slice none 0 0, fun _ => .slice none 0 0, .slice none 0 0, .slice none 0 0, ?_⟩, (Below.refl _ _).alloc (Nat.le_refl _) _, fun k hk => by rw [hk]; exact Nat.le_refl _, fun _ h => h.elim⟩
  refine ⟨heap_alloc_new w _, fun f hf => World.ownsRow_nil _ _ _ _, fun f hf => World.ownsRow_nil _ _ _ _, fun f hf g e => (by cases e), fun f hf g e => (by cases e), World.ownsRow_nil _ _ _ _, fun g e => (by cases e), ⟨[], World.ownsRow_nil _ _ _ _, fun k => rfl, Nat.le_refl _⟩, fun g e => (by cases e), rfl, fun _ _ h => h, fun k hk => by rw [hk]; simp, fun _ h => h.elim, ?_⟩
  exact ⟨fun f _ => by simp [newM], fun f _ => by simp [newM], fun f _ s hs => (by cases hs), fun f _ s hs => (by cases hs), fun c hc => (by cases hc), by simp [newM]⟩

section
variable {w : World} {b : Nat} {F : Foot} {d : Dsk}
theorem RDid.same (h : RefAt w b F d) : RDid w b F d w := ⟨F, h, FootStep.refl _ _⟩
theorem cell_frm {w : World} {b o : Nat} (u : Value) : Frm (fun k => k = b) w (w.setCell ⟨b, o, none⟩ u) := (Frm.refl (fun k => k = b) w).setCell (p := ⟨b, o, none⟩) (.inl rfl) u
theorem rpower_any (h : RefAt w b F d) (n : Int) (hs : d.Small 1099511627776) : Calls Try.prog 35 #[.pointer (some ⟨b, 0, none⟩), .int .i64 n] w fun e w' => e = .returned (.int .i64 (powerM d n).1) ∧ RDid w b F (powerM d n).2 w' := by
  obtain ⟨nv, sv, lv, av, h⟩ := h
  obtain ⟨-, -, c, c5, -⟩ := h.five
  have fr := h.free 19
  have H := hid h
  have H0 := hid h.ok.op0
  have HS := hid hs
  clear h hs
  unfold powerM
  by_cases h1 : n < 0
  · have h1' : decide (n < 0) = true := by simpa using h1
    rw [if_neg (by omega)]
    clear h1
    go_enter Try.func35, Try.ntmps35
    go_wp2_with fail
    go_ret
    exact ⟨rfl, RDid.same ⟨_, _, _, _, H.out⟩⟩
  · have h1' : decide (n < 0) = false := by simpa using h1
    by_cases h2 : 1099511627776 < n
    · have h2' : decide (1099511627776 < n) = true := by simpa using h2
      rw [if_neg (by omega)]
      clear h1 h2
      go_enter Try.func35, Try.ntmps35
      go_wp2_with fail
      go_ret
      exact ⟨rfl, RDid.same ⟨_, _, _, _, H.out⟩⟩
    · have h2' : decide (1099511627776 < n) = false := by simpa using h2
      have hw : IntKind.i64.wrap (d.ops + n) = d.ops + n := IntWalk.i64_in _ (by have := HS.out.ops; have := H0.out; omega)
      rw [if_pos (by omega)]
      clear h1 h2
      go_enter Try.func35, Try.ntmps35
      go_wp2_with fail
      go_ret
      refine ⟨rfl, ?_⟩
      obtain ⟨F', hm, hst⟩ := H.out.update (d' := { d with goes := d.ops + n }) (Below.refl _ _) (cell_frm (w := w) (b := b) (o := 19) (.int .i64 (d.ops + n))) (heap_setCell_same H.out.blk 19 _) (fun f hf => .inl ⟨rfl, rfl⟩) (fun f hf => .inl ⟨rfl, rfl⟩) (.inl ⟨rfl, rfl⟩) (.inl ⟨rfl, rfl, Nat.le_refl _⟩) ⟨H.out.ok.nl, H.out.ok.sl, H.out.ok.ns, H.out.ok.ss, H.out.ok.lo, H.out.ok.op0⟩
      exact ⟨F', ⟨_, _, _, _, hm⟩, hst⟩

theorem arms_get : ∀ {l : List (Int × Int)} {i : Nat} {a : Int × Int}, l[i]? = some a → (armsCells l)[i * 2]? = some (.int .i64 a.1) ∧ (armsCells l)[i * 2 + 1]? = some (.int .i64 a.2)
  | [], i, a, h => by simp at h
  | x :: r, 0, a, h => by
    obtain rfl : x = a := by simpa using h
    exact ⟨rfl, rfl⟩
  | x :: r, i + 1, a, h => by
    have h1 := arms_get (l := r) (i := i) (a := a) (by simpa using h)
    have e : (i + 1) * 2 = i * 2 + 1 + 1 := by omega
    rw [e]
    exact h1
theorem build_arm (w : World) (x y : Int) : (Instr.buildSlice 59 1 #[(0, .agg #[.int .i64 x, .int .i64 y])]).run Try.prog w = .ok (.slice (some ⟨w.heap.size, 0, none⟩) 1 1) (w.alloc (.cells #[.int .i64 x, .int .i64 y] 92)) :=
  run_buildSlice_one w 59 92 _ (.agg #[.int .i64 0, .int .i64 0]) 2 Try.underlying59 (by kernel_rfl) rfl rfl (by omega) (by omega)
theorem without_bound (n : Int) (l : List (Int × Int)) {i : Nat} (h : i ≤ 1099511627776) : (without n (l.take i)).length ≤ 1099511627776 := by
  have h1 : (without n (l.take i)).length ≤ (l.take i).length := List.length_filter_le _ _
  have h2 : (l.take i).length ≤ i := by simp; omega
  omega
theorem without_len (n : Int) (l : List (Int × Int)) : (without n l).length ≤ l.length := List.length_filter_le _ _

set_option maxHeartbeats 2000000 in
set_option maxRecDepth 20000 in
theorem rmeets_any (h : RefAt w b F d) (hs : d.Small 1099511627776) : Calls Try.prog 49 #[.pointer (some ⟨b, 0, none⟩)] w fun e w' => e = .returned (.int .i64 (meetsM d).1) ∧ RDid w b F (meetsM d).2 w' := by
  obtain ⟨nv, sv, lv, av, h⟩ := h
  obtain ⟨-, c17, c18, c19, c20⟩ := h.five
  have f18 := h.free 18
  obtain ⟨i0, hi, hz0, hz1, hz2⟩ := info_parts (P := Try.prog) (e := 92) (z := .agg #[.int .i64 0, .int .i64 0]) (size := 2) (bytes := 16) (by kernel_rfl)
  have hw : IntKind.i64.wrap (d.ops + 1) = d.ops + 1 := IntWalk.i64_in _ (by have := hs.ops; have := h.ok.op0; omega)
  obtain ⟨ra, hra, hlk, hrl⟩ := h.arm
  obtain ⟨n, hn⟩ : ∃ n, n = ra.length := ⟨_, rfl⟩
  have hn1 : n ≤ 1099511627776 := by have := hs.arm; omega
  obtain ⟨F1, hm1, hst1⟩ := h.update (d' := { d with ops := d.ops + 1 }) (Below.refl _ _) (cell_frm (w := w) (b := b) (o := 18) (.int .i64 (d.ops + 1))) (heap_setCell_same h.blk 18 _) (fun f hf => .inl ⟨rfl, rfl⟩) (fun f hf => .inl ⟨rfl, rfl⟩) (.inl ⟨rfl, rfl⟩) (.inl ⟨rfl, rfl, Nat.le_refl _⟩) ⟨h.ok.nl, h.ok.sl, h.ok.ns, h.ok.ss, h.ok.lo, by have := h.ok.op0; show 0 ≤ d.ops + 1; omega⟩
  have hform := row_form hra
  rw [← hn] at hform
  obtain ⟨ga, cap, rfl⟩ : ∃ ga cap, av = .slice ga n cap := by
    rcases hform with ⟨h1, h2⟩ | ⟨g, cap, h1⟩
    · exact ⟨none, 0, by rw [h1, h2]⟩
    · exact ⟨_, cap, h1⟩
  have hra1 : (w.setCell ⟨b, 18, none⟩ (.int .i64 (d.ops + 1))).ownsRow 0 92 2 (.slice ga n cap) ra.length (armsCells ra) := row_keep hra (fun g hg => Below.heap_setCell w ⟨b, 18, none⟩ _ g (fun e => by
    obtain ⟨cur, hc⟩ := row_type hra hg
    have e2 : g = b := e
    rw [e2, h.blk] at hc
    simp at hc))
  obtain ⟨w1, hw1⟩ : ∃ w1, w1 = w.setCell ⟨b, 18, none⟩ (.int .i64 (d.ops + 1)) := ⟨_, rfl⟩
  have Hform := hid hform
  have Hra := hid hra1
  have Hlk := hid hlk
  have Hrl := hid hrl
  have Hn := hid hn
  have HM1 := hid hm1
  have HST1 := hid hst1
  have Hw1 := hid hw1
  rw [← hw1] at Hra HM1 HST1
  have HOK := hid h.ok
  clear h hs hra hlk hrl hn hm1 hst1 hform hra1 hw1
  go_enter Try.func49, Try.ntmps49
  go_wp2_with fail
  rw [← Hw1.out]
  clear c17 c18 c19 c20 f18
  go_loopw [6, 5, 4] (fun v6 v5 v4 wr => ∃ i : Nat, v6 = .int .i64 (i : Int) ∧ v4 = .int .i64 (look (ra.take i) d.ops) ∧ i ≤ n ∧ wr.ownsRow w1.heap.size 92 2 v5 (without d.ops (ra.take i)).length (armsCells (without d.ops (ra.take i))) ∧ Below w1.heap.size w1 wr) (fun v6 _ _ _ => n - (intOf v6).toNat)
  case atStart => exact ⟨0, rfl, rfl, Nat.zero_le _, World.ownsRow_nil _ _ _ _, Below.refl _ _⟩
  case round =>
    obtain ⟨i, rfl, rfl, hin, hrow, hbel⟩ := hrel
    have Hrow := hid hrow
    have Hbel := hid hbel
    have hblk := (hbel.block b (lt_of_block HM1.out.blk)).trans HM1.out.blk
    have Hblk := hid hblk
    have c17 : wr.cell? ⟨b, 17, none⟩ = some (.slice ga n cap) := (cell_of_block hblk 17).trans rfl
    have c19 : wr.cell? ⟨b, 19, none⟩ = some (.int .i64 d.goes) := (cell_of_block hblk 19).trans rfl
    have c20 : wr.cell? ⟨b, 20, none⟩ = some (.bool d.off) := (cell_of_block hblk 20).trans rfl
    have f17 := free_of_block hblk 17
    have f20 := free_of_block hblk 20
    clear hrow hbel hblk
    obtain ⟨lk, hlk⟩ : ∃ lk, look (ra.take i) d.ops = lk := ⟨_, rfl⟩
    have Hlki := hid hlk
    rw [hlk]
    clear hlk
    by_cases hlt : i < n
    · obtain ⟨g, cap', hgv⟩ := Hform.out.resolve_left (fun e => by omega)
      cases hgv
      have hil : i < ra.length := by have := Hn.out; omega
      obtain ⟨a, ha⟩ : ∃ a, a = ra[i] := ⟨_, rfl⟩
      have hget : ra[i]? = some a := by rw [List.getElem?_eq_getElem hil, ha]
      have Ha := hid ha
      have hrw := row_keep Hra.out (w' := wr) (fun x hx => Hbel.out.block x (row_base Hra.out hx).2)
      have hc0 : wr.cell? ⟨g, i * 2, none⟩ = some (.int .i64 a.1) := by
        rw [← Hn.out] at hrw
        rw [hrw.cellAt (i * 2) (by omega)]
        exact (arms_get hget).1
      have hc1 : wr.cell? ⟨g, i * 2 + 1, none⟩ = some (.int .i64 a.2) := by
        rw [← Hn.out] at hrw
        rw [hrw.cellAt (i * 2 + 1) (by omega)]
        exact (arms_get hget).2
      have d1 : decide ((i : Int) < (n : Int)) = true := by simp; omega
      have hin2 : (i : Int) < (n : Int) := by omega
      have htake : ra.take (i + 1) = ra.take i ++ [a] := by rw [List.take_succ_eq_append_getElem hil, ← ha]
      have Htake := hid htake
      have hwl := without_len d.ops (ra.take i)
      have Hwl := hid (without_bound d.ops ra (i := i) (by omega) : (without d.ops (ra.take i)).length ≤ 1099511627776)
      have hbs := build_arm wr a.1 a.2
      clear ha hget hrw htake hwl
      by_cases he : a.1 = d.ops
      · have he' : (a.1 == d.ops) = true := by simpa using he
        have He := hid he
        clear he hbs
        go_wp2_with fail
        go_roundw
        case rel =>
          refine ⟨i + 1, by simp, ?_, by omega, ?_, Hbel.out⟩
          · rw [Htake.out, look_snoc, if_pos He.out]
          · rw [Htake.out, without_snoc, if_pos He.out]
            exact Hrow.out
        case measure => simp [intOf]; omega
      · have he' : (a.1 == d.ops) = false := by simpa using he
        have He := hid he
        clear he
        go_wp2_with (first
          | (at_builtin; refine wpList_append_own_at _ rfl _ _ 59 rfl w1.heap.size 92 i0 _ 2 16 Try.underlying59 hi hz0 hz1 hz2 rfl (by omega) _ (without d.ops (ra.take i)).length (armsCells (without d.ops (ra.take i))) rfl (row_keep Hrow.out (fun x hx => Below.heap_alloc wr _ x (row_base Hrow.out hx).2)) ⟨wr.heap.size, 0, none⟩ 1 1 (armCells a) rfl (by simp [armCells]) (World.news_of_block (cs := #[.int .i64 a.1, .int .i64 a.2]) (t := 92) (fr := (0, 0)) (heap_alloc_new wr _)) (by intro u hu; simp only [armCells, List.mem_cons, List.not_mem_nil, or_false] at hu; rcases hu with rfl | rfl <;> rfl) (by have := Hwl.out; unfold maxLen; omega) (by have := Hwl.out; omega) (by simp; have := Hbel.out.size; omega) ?_; intro v' w7 hown7 hgrow7 _ _; have Hown7 := hid hown7; have Hbel7 := hid ((Hbel.out.alloc Hbel.out.size (.cells #[.int .i64 a.1, .int .i64 a.2] 92)).grown hgrow7 (by simp; have := Hbel.out.size; omega) (fun j hj => (row_base Hrow.out hj).1)); clear hown7 hgrow7)
          | go_in)
        go_roundw
        case rel =>
          refine ⟨i + 1, by simp, ?_, by omega, ?_, Hbel7.out⟩
          · rw [Htake.out, look_snoc, if_neg He.out, Hlki.out]
          · rw [Htake.out, without_snoc, if_neg He.out, armsCells_snoc, List.length_append]
            exact Hown7.out
        case measure => simp [intOf]; omega
    · obtain rfl : i = n := by omega
      have d1 : decide ((i : Int) < (i : Int)) = false := by simp
      have hall : ra.take i = ra := List.take_of_length_le (by have := Hn.out; omega)
      rw [hall] at Hrow Hlki
      obtain ⟨m, hm⟩ : ∃ m, m = (without d.ops ra).length := ⟨_, rfl⟩
      have hf5 := row_form Hrow.out
      rw [← hm] at hf5
      obtain ⟨ga5, cap5, h5⟩ : ∃ ga cap, u5 = .slice ga m cap := by
        rcases hf5 with ⟨h1, h2⟩ | ⟨g, cap, h1⟩
        · exact ⟨none, 0, by rw [h1, h2]⟩
        · exact ⟨_, cap, h1⟩
      subst h5
      have harm : ArmR wr w1.heap.size (.slice ga5 m cap5) (fun k => if k = d.ops then 0 else d.armed k) d.narm := ⟨without d.ops ra, Hrow.out, fun k => by rw [look_without]; by_cases hk : k = d.ops <;> simp [hk, Hlk.out], Nat.le_trans (without_len _ _) Hrl.out⟩
      have Harm := hid harm
      have Hlke := hid (show lk = d.armed d.ops by rw [← Hlki.out, Hlk.out])
      clear hm hf5 hall harm
      have hok : (meetsM d).2.Ok := ⟨HOK.out.nl, HOK.out.sl, HOK.out.ns, HOK.out.ss, HOK.out.lo, by have := HOK.out.op0; show 0 ≤ d.ops + 1; omega⟩
      have Hok := hid hok
      clear hok
      obtain ⟨rr, hrr⟩ : ∃ rr, rr = meetsM d := ⟨_, rfl⟩
      have HrrE := hid hrr
      rw [← hrr] at Hok
      unfold meetsM at hrr
      by_cases he : d.ops = d.goes
      · have he' : (d.ops == d.goes) = true := by simpa using he
        rw [if_pos he, he', Bool.or_true] at hrr
        have Hrr := hid hrr
        clear he hrr
        go_wp2_with fail
        go_ret
        rw [← HrrE.out]
        obtain ⟨F', hm, hst⟩ := HM1.out.update (d' := rr.2) (nv' := nv) (sv' := sv) (lv' := lv) (av' := .slice ga5 m cap5) Hbel.out ((cell_frm (w := wr) (b := b) (o := 17) _).trans (cell_frm (b := b) (o := 20) (.bool true))) (by rw [Hrr.out]; exact heap_setCell_same (heap_setCell_same Hblk.out 17 _) 20 _) (fun f hf => .inl ⟨rfl, by rw [Hrr.out]⟩) (fun f hf => .inl ⟨rfl, by rw [Hrr.out]⟩) (.inl ⟨rfl, by rw [Hrr.out]⟩) (.inr (by rw [Hrr.out]; exact Harm.out)) Hok.out
        exact ⟨by rw [Hrr.out]; rfl, F', ⟨_, _, _, _, hm⟩, HST1.out.trans hst⟩
      · have he' : (d.ops == d.goes) = false := by simpa using he
        rw [if_neg he, he', Bool.or_false] at hrr
        have Hrr := hid hrr
        clear he hrr
        go_wp2_with fail
        go_ret
        rw [← HrrE.out]
        obtain ⟨F', hm, hst⟩ := HM1.out.update (d' := rr.2) (nv' := nv) (sv' := sv) (lv' := lv) (av' := .slice ga5 m cap5) Hbel.out (cell_frm (w := wr) (b := b) (o := 17) _) (by rw [Hrr.out]; exact heap_setCell_same Hblk.out 17 _) (fun f hf => .inl ⟨rfl, by rw [Hrr.out]⟩) (fun f hf => .inl ⟨rfl, by rw [Hrr.out]⟩) (.inl ⟨rfl, by rw [Hrr.out]⟩) (.inr (by rw [Hrr.out]; exact Harm.out)) Hok.out
        exact ⟨by rw [Hrr.out, ← Hlke.out]; rfl, F', ⟨_, _, _, _, hm⟩, HST1.out.trans hst⟩
end
end Go.Proofs.Ytifgnhbbcpmaiaa
