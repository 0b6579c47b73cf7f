/- The law PagerViews: its closure; plain laws of views. -/
import Derived.Test.YtmajfepbbeecjaaGreatPhD
namespace Go.Proofs.YtmajfepbbeecjaaGreat
open Go.RowKit Go.Maps
set_option linter.unusedVariables false
set_option linter.unusedSimpArgs false
set_option maxRecDepth 20000

/-- One call of a script. -/
def stV (s : Pg × Lg × Dsk) (x : POp) : Pg × Lg × Dsk :=
  if x.kind = 0 then ((beginM s.1 s.2.1).2, s.2) else if x.kind = 6 then ((prollM s.1).2, s.2) else if x.kind = 7 then (pcommitM s.1 s.2.1 s.2.2).2 else (insideP 0 s.1 x, s.2)
section
variable {w W W' : World} {pb l b : Nat} {p p' : Pg} {g g' : Lg} {d d' : Dsk} {X X' : Nat → Prop}
set_option maxHeartbeats 4000000 in
set_option maxRecDepth 20000 in
theorem vdoes_any (J : Pg × Lg × Dsk → Prop) (hJ : ∀ s x, s.2.1.Ok → s.1.Ok → J s → J (stV s x)) (h : PgX w W pb l b p g d X) (hJ0 : J (p, g, d)) (box : Nat) (hbox : W.cell? ⟨box, 0, none⟩ = some (.pointer (some ⟨pb, 0, none⟩))) (hX : X box)
    {w0 : Nat} {v : Value} {ops : List POp} (hs : PScript w0 w v ops) (hw0 : w0 ≤ w.heap.size) (hlen : ops.length ≤ 120) (N : Nat) (hsm : d.Small N) (hN : N ≤ 10000000000) :
    Calls Tryz.prog 20 #[v, .pointer (some ⟨box, 0, none⟩)] W fun e w' => e = .returned (.tuple #[]) ∧ ∃ s : Pg × Lg × Dsk, J s ∧ s.2.2.Small (N + 1200000000) ∧ PgX w w' pb l b (prollM s.1).2 s.2.1 s.2.2 X ∧ ∀ k, X k → w'.heap[k]? = W.heap[k]? := by
  have HV := hid ((hs.below h.bel).ops)
  have H64 := hid hs.n64
  obtain ⟨ao, cap, rfl, hc⟩ := hs.ops
  obtain ⟨n, hn⟩ : ∃ n, n = ops.length := ⟨_, rfl⟩
  rw [← hn] at HV hlen ⊢
  have Hn := hid hn
  have H := hid h
  have HJ := hid hJ
  have HJ0 := hid hJ0
  have Hbox := hid hbox
  have HX := hid hX
  have Hsm := hid hsm
  have Hw0 := hid hw0
  clear hc hn h hs hJ hJ0 hbox hX hsm hw0
  go_enter Tryz.func20, Tryz.ntmps20
  go_wp2_with fail
  go_loopw [7] (fun v7 wr => ∃ (i : Nat) (s : Pg × Lg × Dsk), i ≤ n ∧ v7 = .int .i64 (i : Int) ∧ J s ∧ s.2.2.Small (N + 8519680 * i) ∧ PgX w wr pb l b s.1 s.2.1 s.2.2 X ∧ ∀ k, X k → wr.heap[k]? = W.heap[k]?) (fun v7 _ => n - (intOf v7).toNat)
  case atStart => exact ⟨0, (p, g, d), Nat.zero_le _, rfl, HJ0.out, Hsm.out, H.out, fun _ _ => rfl⟩
  case round =>
    obtain ⟨i, s, hi, rfl, hj, hsm, hx, hkx⟩ := hrel
    have Hj := hid hj
    have HSm := hid hsm
    have Hx := hid hx
    have Hkx := hid hkx
    have hbw : wr.cell? ⟨box, 0, none⟩ = some (.pointer (some ⟨pb, 0, none⟩)) := (World.cell?_of_block (a := ⟨box, 0, none⟩) (hkx box HX.out)).trans Hbox.out
    have Hbw := hid hbw
    have hblt : box < wr.heap.size := hx.xlt box HX.out
    have Hblt := hid hblt
    clear hj hsm hx hkx
    by_cases hlt : i < n
    · have hil : i < ops.length := by have := Hn.out; omega
      have hvr : OpsAt wr (fun q => q < w0) (.slice ao n cap) ops := HV.out.keep (fun k hk hb => (Hx.out.bel.block k (Nat.lt_of_lt_of_le hb Hw0.out)).trans (H.out.bel.block k (Nat.lt_of_lt_of_le hb Hw0.out)).symm)
      obtain ⟨ao', cap', hev, hcc⟩ := hvr
      obtain ⟨q, o, hao, hq, -, hcell⟩ := hcc i hil
      injection id hev with he1 he2 he3
      subst he1
      subst hao
      clear he2 he3 hev
      obtain ⟨y, hy⟩ : ∃ y, y = ops[i] := ⟨_, rfl⟩
      rw [← hy] at hcell
      have c0 := hcell 0 _ rfl
      have c1 := hcell 1 _ rfl
      have c2 := hcell 2 _ rfl
      have c3 := hcell 3 _ rfl
      have c4 := hcell 4 _ rfl
      rw [Nat.add_zero] at c0
      have hi3 : (i : Int) < 200 := by omega
      have hy64 : in64 y.n := H64.out y (by rw [hy]; exact List.getElem_mem hil)
      have Hy64 := hid hy64
      have hbB := (Below.refl wr.heap.size wr).alloc (Nat.le_refl _) (.cells (popCells y).toArray 43)
      have hnB := heap_alloc_new wr (.cells (popCells y).toArray 43)
      have hXB := px_add (X' := fun k => X k ∨ k = wr.heap.size) Hx.out hbB (fun k hk => hk.elim .inl (fun e => .inr (Nat.le_of_eq e.symm))) (fun k hk => hk.elim (fun e => Nat.lt_of_lt_of_le (Hx.out.xlt k e) hbB.size) (fun e => by rw [e]; exact lt_of_block hnB))
      have hkB : ∀ k, X k → (wr.alloc (.cells (popCells y).toArray 43)).heap[k]? = W.heap[k]? := fun k hk => (hbB.block k (Hx.out.xlt k hk)).trans (Hkx.out k hk)
      have hbb : (wr.alloc (.cells (popCells y).toArray 43)).cell? ⟨box, 0, none⟩ = some (.pointer (some ⟨pb, 0, none⟩)) := (World.cell?_of_block (a := ⟨box, 0, none⟩) (hkB box HX.out)).trans Hbox.out
      have Hbb := hid hbb
      have HXB := hid hXB
      have HkB := hid hkB
      have HnB := hid hnB
      have hst := HJ.out s y hXB.oks.1 hXB.ok Hj.out
      have Hst := hid hst
      have hd256 : s.2.1.head.pages ≤ 256 := hXB.oks.1.pages.2
      have Hd256 := hid hd256
      clear hy hcell hy64 hcc hbB hnB hXB hkB hst hd256 hbb
      by_cases k0 : y.kind = 0
      · have hP : stV s y = ((beginM s.1 s.2.1).2, s.2) := by unfold stV; rw [if_pos k0]
        have HP := hid hP
        have e0 : (y.kind == 0) = true := by simp [k0]
        have PR := hid (px_begin HXB.out)
        clear hP k0
        go_wp2_with (first
          | (go_at_call 11; refine (PR.out).mono ?_; rintro e w4 ⟨rfl, hx4, hk4⟩; have HX4 := hid hx4; have HK4 := hid hk4; clear hx4 hk4)
          | go_in)
        go_roundw
        case rel => exact ⟨i + 1, stV s y, hlt, by simp, Hst.out, by rw [HP.out]; exact HSm.out.mono (by omega), by rw [HP.out]; exact HX4.out.to (fun k hk => .inl hk), fun k hk => (HK4.out k (.inl hk)).trans (HkB.out k hk)⟩
        case measure => (simp [intOf]) <;> omega
      have e0 : (y.kind == 0) = false := by simp [k0]
      by_cases k6 : y.kind = 6
      · have hP : stV s y = ((prollM s.1).2, s.2) := by unfold stV; rw [if_neg k0, if_pos k6]
        have HP := hid hP
        have e6 : (y.kind == 6) = true := by simp [k6]
        have PR := hid (px_roll HXB.out)
        clear hP k0 k6
        go_wp2_with (first
          | (go_at_call 19; refine (PR.out).mono ?_; rintro e w4 ⟨rfl, hx4, hk4⟩; have HX4 := hid hx4; have HK4 := hid hk4; clear hx4 hk4)
          | go_in)
        go_roundw
        case rel => exact ⟨i + 1, stV s y, hlt, by simp, Hst.out, by rw [HP.out]; exact HSm.out.mono (by omega), by rw [HP.out]; exact HX4.out.to (fun k hk => .inl hk), fun k hk => (HK4.out k (.inl hk)).trans (HkB.out k hk)⟩
        case measure => (simp [intOf]) <;> omega
      have e6 : (y.kind == 6) = false := by simp [k6]
      by_cases k7 : y.kind = 7
      · have hP : stV s y = (pcommitM s.1 s.2.1 s.2.2).2 := by unfold stV; rw [if_neg k0, if_neg k6, if_pos k7]
        have HP := hid hP
        have e7 : (y.kind == 7) = true := by simp [k7]
        have PR := hid (px_commit HXB.out (N + 8519680 * i) HSm.out (by omega))
        clear hP k0 k6 k7
        go_wp2_with (first
          | (go_at_call 14; refine (PR.out).mono ?_; rintro e w4 ⟨rfl, hx4, hk4⟩; have HX4 := hid hx4; have HK4 := hid hk4; clear hx4 hk4)
          | go_in)
        go_roundw
        case rel => exact ⟨i + 1, stV s y, hlt, by simp, Hst.out, by rw [HP.out]; exact (commit_small _ Hd256.out HSm.out s.1).mono (by omega), by rw [HP.out]; exact HX4.out.to (fun k hk => .inl hk), fun k hk => (HK4.out k (.inl hk)).trans (HkB.out k hk)⟩
        case measure => (simp [intOf]) <;> omega
      have e7 : (y.kind == 7) = false := by simp [k7]
      have hP : stV s y = (insideP 0 s.1 y, s.2) := by unfold stV; rw [if_neg k0, if_neg k6, if_neg k7]
      have HP := hid hP
      have hbC := (Below.refl (wr.alloc (.cells (popCells y).toArray 43)).heap.size _).alloc (Nat.le_refl _) (.cells (popCells y).toArray 43)
      have hnC := heap_alloc_new (wr.alloc (.cells (popCells y).toArray 43)) (.cells (popCells y).toArray 43)
      have hsC : (wr.alloc (.cells (popCells y).toArray 43)).heap.size = wr.heap.size + 1 := by simp
      have hXC := px_add (X' := fun k => (X k ∨ k = wr.heap.size) ∨ k = wr.heap.size + 1) HXB.out hbC (fun k hk => hk.elim .inl (fun e => .inr (by omega))) (fun k hk => hk.elim (fun e => Nat.lt_of_lt_of_le (HXB.out.xlt k e) hbC.size) (fun e => by rw [e, ← hsC]; exact lt_of_block hnC))
      rw [hsC] at hnC
      have hops : OpsAt ((wr.alloc (.cells (popCells y).toArray 43)).alloc (.cells (popCells y).toArray 43)) (fun q => q < w.heap.size ∨ ((X q ∨ q = wr.heap.size) ∨ q = wr.heap.size + 1)) (.slice (some ⟨wr.heap.size + 1, 0, none⟩) 1 1) [y] := by
        refine ⟨_, _, rfl, fun k hk => ?_⟩
        have hk0 : k = 0 := by simpa using hk
        subst hk0
        exact ⟨wr.heap.size + 1, 0, rfl, lt_of_block hnC, .inr (.inr rfl), fun j u hj => by
          have hj' : (popCells y)[j]? = some u := hj
          rw [show 0 + 0 * 5 + j = j by omega, cell_of_block hnC]
          simpa using hj'⟩
      have PR := inside_any hXC _ [y] 0 hops (by simp) (fun x hx => by rw [List.mem_singleton.1 hx]; exact Hy64.out)
      have hone : insideM [y] 0 s.1 = insideP 0 s.1 y := rfl
      rw [hone] at PR
      have HXC := hid hXC
      have hkC : ∀ k, X k → ((wr.alloc (.cells (popCells y).toArray 43)).alloc (.cells (popCells y).toArray 43)).heap[k]? = W.heap[k]? := fun k hk => (hbC.block k (HXB.out.xlt k (.inl hk))).trans (HkB.out k hk)
      have HkC := hid hkC
      have hb0 := hid (Hbb.out)
      have Hops := hid PR
      clear hP k0 k6 k7 hbC hnC hsC hXC hops hone hkC PR
      go_wp2_with (first
        | (go_at_call 13; refine (Hops.out).mono ?_; rintro e w4 ⟨rfl, hx4, hk4⟩; have HX4 := hid hx4; have HK4 := hid hk4; clear hx4 hk4)
        | go_in)
      go_roundw
      case rel => exact ⟨i + 1, stV s y, hlt, by simp, Hst.out, by rw [HP.out]; exact HSm.out.mono (by omega), by rw [HP.out]; exact HX4.out.to (fun k hk => .inl (.inl hk)), fun k hk => (HK4.out k (.inl (.inl hk))).trans (HkC.out k hk)⟩
      case measure => (simp [intOf]) <;> omega
    · obtain rfl : i = n := by omega
      have PR := hid (px_roll Hx.out)
      go_wp2_with (first
        | (go_at_call 19; refine (PR.out).mono ?_; rintro e w4 ⟨rfl, hx4, hk4⟩; have HX4 := hid hx4; have HK4 := hid hk4; clear hx4 hk4)
        | go_in)
      go_end0
      exact ⟨rfl, s, Hj.out, HSm.out.mono (by omega), HX4.out, fun k hk => (HK4.out k hk).trans (Hkx.out k hk)⟩

/-! ### Plain laws -/
theorem roll_none (p : Pg) : (prollM p).2.now = none := by
  unfold prollM
  split
  · rename_i h; exact h
  · rfl
theorem roll_opn (p : Pg) : (prollM p).2.opn = p.opn := by
  unfold prollM
  split <;> rfl
theorem begin_opn (p : Pg) (g : Lg) : (beginM p g).2.opn = p.opn := by
  unfold beginM
  split <;> rfl
theorem putM_opn (p : Pg) (t : Tr) (g : Lg) (d : Dsk) : (putM p t g d).2.1.opn = p.opn := by
  unfold putM
  split
  · split <;> rfl
  · rfl
theorem commit_opn (p : Pg) (g : Lg) (d : Dsk) : (pcommitM p g d).2.1.opn = p.opn := by
  unfold pcommitM
  split
  · rfl
  · split
    · split
      · rfl
      split
      · rfl
      · exact putM_opn _ _ _ _
    · exact putM_opn _ _ _ _
/-- What stays of a log while a view is open. -/
structure Held (g : Lg) (d : Dsk) (g' : Lg) (d' : Dsk) : Prop where
  list : ∃ more, g'.list = g.list ++ more
  now : d'.now 0 = d.now 0
theorem Held.refl (g : Lg) (d : Dsk) : Held g d g d := ⟨⟨[], by simp⟩, rfl⟩
theorem Held.trans {g1 g2 g3 : Lg} {d1 d2 d3 : Dsk} (h : Held g1 d1 g2 d2) (k : Held g2 d2 g3 d3) : Held g1 d1 g3 d3 := by
  obtain ⟨a, ha⟩ := h.list
  obtain ⟨b, hb⟩ := k.list
  exact ⟨⟨a ++ b, by rw [hb, ha, List.append_assoc]⟩, k.now.trans h.now⟩
theorem app_held (pages : Int) (x : List Img) (g : Lg) (d : Dsk) : Held g d (lappendM pages x g d).2.1 (lappendM pages x g d).2.2 := by
  refine ⟨?_, app_now0 pages x g d⟩
  rw [app_list]
  split
  · exact ⟨_, rfl⟩
  · exact ⟨[], by simp⟩
theorem putM_held (p : Pg) (t : Tr) (g : Lg) (d : Dsk) (ho : p.opn ≠ 0) : Held g d (putM p t g d).2.2.1 (putM p t g d).2.2.2 := by
  unfold putM
  rw [if_neg (fun e => ho e.2)]
  exact app_held _ _ _ _
theorem commit_held (p : Pg) (g : Lg) (d : Dsk) (ho : p.opn ≠ 0) : Held g d (pcommitM p g d).2.2.1 (pcommitM p g d).2.2.2 := by
  unfold pcommitM
  split
  · exact Held.refl _ _
  · split
    · split
      · exact Held.refl _ _
      split
      · exact Held.refl _ _
      · exact putM_held _ _ _ _ ho
    · exact putM_held _ _ _ _ ho
/-- A view tells what it told. -/
theorem held_page (h : LgCalm g d) (h' : LgCalm g' d') (hh : Held g d g' d') (n : Nat) (h1 : 1 ≤ n) (h2 : n ≤ 256) : pageM g' d' (n : Int) (g.list.length : Int) = pageM g d (n : Int) (g.list.length : Int) := by
  obtain ⟨more, hm⟩ := hh.list
  have hl : g.list.length ≤ g'.list.length := by rw [hm, List.length_append]; omega
  rw [pageM_calm h'.calm.on h'.eight n g.list.length h1 h2 hl, pageM_calm h.calm.on h.eight n g.list.length h1 h2 (Nat.le_refl _), hm, lastAt_append _ _ _ _ (Nat.le_refl _), hh.now]
/-- Ahead of the view. -/
def JFirst (s : Pg × Lg × Dsk) : Prop := LgCalm s.2.1 s.2.2 ∧ s.1.opn = 0
/-- While it is open. -/
def JThen (g : Lg) (d : Dsk) (s : Pg × Lg × Dsk) : Prop := LgCalm s.2.1 s.2.2 ∧ s.1.opn = 1 ∧ Held g d s.2.1 s.2.2
theorem jfirst_st (s : Pg × Lg × Dsk) (x : POp) (hg : s.2.1.Ok) (hp : s.1.Ok) (h : JFirst s) : JFirst (stV s x) := by
  obtain ⟨h1, h2⟩ := h
  unfold stV JFirst
  split
  · exact ⟨h1, by rw [begin_opn]; exact h2⟩
  split
  · exact ⟨h1, by rw [roll_opn]; exact h2⟩
  split
  · exact ⟨commit_calm h1 hg s.1, by rw [commit_opn]; exact h2⟩
  · exact ⟨h1, by rw [insideP_opn]; exact h2⟩
theorem jthen_st (g : Lg) (d : Dsk) (s : Pg × Lg × Dsk) (x : POp) (hg : s.2.1.Ok) (hp : s.1.Ok) (h : JThen g d s) : JThen g d (stV s x) := by
  obtain ⟨h1, h2, h3⟩ := h
  unfold stV JThen
  split
  · exact ⟨h1, by rw [begin_opn]; exact h2, h3⟩
  split
  · exact ⟨h1, by rw [roll_opn]; exact h2, h3⟩
  split
  · exact ⟨commit_calm h1 hg s.1, by rw [commit_opn]; exact h2, h3.trans (commit_held s.1 s.2.1 s.2.2 (by rw [h2]; decide))⟩
  · exact ⟨h1, by rw [insideP_opn]; exact h2, h3⟩
end
end Go.Proofs.YtmajfepbbeecjaaGreat
