/- The reference (counterfoilref03): rows of sectors as strings; In, nought, does. -/
import Derived.Test.YtifgnhbbcpmaiaaDkQ
import Derived.Laws.OwnMore
namespace Go.Proofs.Ytifgnhbbcpmaiaa
open Go.RowKit Go.Maps
set_option linter.unusedVariables false
set_option linter.unusedSimpArgs false

def strV (l : List Sec) : List Value := l.map fun s => .string (bs s)
theorem strV_length (l : List Sec) : (strV l).length = l.length := by simp [strV]
theorem strV_append (a b : List Sec) : strV (a ++ b) = strV a ++ strV b := by simp [strV]
theorem strV_one (l : List Sec) : ∀ u ∈ strV l, u.oneCell' = true := by
  intro u hu
  obtain ⟨_, _, rfl⟩ := List.mem_map.1 hu
  rfl
abbrev FileR (w : World) (base : Nat) (v : Value) (l : List Sec) : Prop := w.ownsRow base 9 1 v l.length (strV l)
theorem FileR.get {w : World} {base : Nat} {l : List Sec} {g cap : Nat} (h : FileR w base (.slice (some ⟨g, 0, none⟩) l.length cap) l) {i : Nat} (hi : i < l.length) : w.cell? ⟨g, i, none⟩ = some (.string (bs l[i])) := by
  rw [h.cellAt i (by omega)]
  simp [strV, hi]
/-- A change's cells there: a cut has no bytes. -/
def rchgCells (c : Chg) : List Value := [.int .i64 c.file, .int .i64 c.at_, .bool c.cut, .string (bs (if c.cut then [] else c.bytes))]

theorem in_any (f : Int) (w : World) : Calls Try.prog 48 #[.int .i64 f] w fun e w' => e = .returned (.bool (decide (0 ≤ f) && decide (f < 8))) ∧ w' = w := by
  go_enter Try.func48, Try.ntmps48
  by_cases h1 : 0 ≤ f
  · have h1' : decide (0 ≤ f) = true := by simpa using h1
    go_wp2_with fail
    go_ret
    exact ⟨by simp [h1], rfl⟩
  · have h1' : decide (0 ≤ f) = false := by simpa using h1
    go_wp2_with fail
    go_ret
    exact ⟨by simp [h1], rfl⟩
theorem row_lower {w : World} {base b2 n size : Nat} {e : TypeId} {v : Value} {xs : List Value} (h : w.ownsRow base e size v n xs) (hb : b2 ≤ base) : w.ownsRow b2 e size v n xs := by
  refine ⟨h.1, h.2.imp id ?_⟩
  rintro ⟨g, cap, cur, e, hb2, r⟩
  exact ⟨g, cap, cur, e, Nat.le_trans hb hb2, r⟩
theorem fileR_of {w : World} {base n : Nat} {v : Value} {l : List Sec} (h : w.ownsRow base 9 1 v n (strV l)) (hl : l.length = n) : FileR w base v l := by rw [← hl] at h; exact h
theorem row_store {w : World} {base n g cap : Nat} {e : TypeId} {xs : List Value} (h : w.ownsRow base e 1 (.slice (some ⟨g, 0, none⟩) n cap) n xs) {i : Nat} (hi : i < n) (u : Value) :
    (∃ old, w.cell? ⟨g, i, none⟩ = some old) ∧ w.frozen? ⟨g, i, none⟩ = false ∧ (w.setCell ⟨g, i, none⟩ u).ownsRow base e 1 (.slice (some ⟨g, 0, none⟩) n cap) n (xs.set i u) ∧ w.grownBy (w.setCell ⟨g, i, none⟩ u) (some g) := by
  have hl := h.1
  refine ⟨⟨xs[i]'(by omega), ?_⟩, h.frozenAt i, h.stored i u⟩
  rw [h.cellAt i (by omega), List.getElem?_eq_getElem (by omega)]
def noughtRow : List Value := List.replicate 64 (.int .u8 0)
theorem noughtRow_eq : noughtRow = cellsOf nought := by simp [noughtRow, cellsOf, nought]
set_option maxRecDepth 20000 in
theorem nought_any (w : World) : Calls Try.prog 58 #[] w fun e w' => e = .returned (.string (bs nought)) ∧ Below w.heap.size w w' := by
  obtain ⟨i, hi, hz, hs, hb⟩ := info_parts (P := Try.prog) (e := 5) (z := .int .u8 0) (size := 1) (bytes := 1) (by kernel_rfl)
  obtain ⟨w1, hmk, hown, hgr⟩ := run_make_full (P := Try.prog) w w.heap.size 78 5 i _ 1 Try.underlying78 hi hz hs .i64 .i64 64 (by rw [hb]; omega) (by unfold maxLen; omega) (Nat.le_refl _)
  have e : (madeCells (Value.int .u8 0).cells (64 * 1)).toList = cellsOf nought := by
    show (madeCells #[.int .u8 0] 64).toList = _
    rw [toList_madeCells_one, ← noughtRow_eq]
    rfl
  rw [e] at hown
  have hconv := run_convert_own (P := Try.prog) w1 78 9 5 Try.underlying78 Try.underlying5 Try.underlying9 w.heap.size _ _ _ hown
  have hmk' : (Instr.makeSlice 78 (.int .i64 64) (.int .i64 64)).run Try.prog w = .ok (.slice (some ⟨w.heap.size, 0, none⟩) 64 64) w1 := hmk
  have Hgr := hid hgr
  obtain ⟨s, hs2⟩ : ∃ s, s = nought := ⟨_, rfl⟩
  rw [← hs2] at hconv ⊢
  clear hgr hown hmk e hz hs hb hi hs2
  go_enter Try.func58, Try.ntmps58
  go_wp2_with fail
  go_ret
  exact ⟨rfl, ⟨Hgr.out.os, Hgr.out.tape, Hgr.out.output, Hgr.out.size, fun k hk => Hgr.out.block k hk (fun e => by cases e)⟩⟩

set_option maxHeartbeats 1000000 in
set_option maxRecDepth 20000 in
theorem rdoes_any (v : Value) (l : List Sec) (c : Chg) (w : World) (h : FileR w 0 v l) (hl : l.length ≤ 8192) (hc : c.at_ ≤ 8192) (hw : c.cut = false → c.at_ < 8192) :
    Calls Try.prog 50 #[v, .agg (rchgCells c).toArray] w fun e w' => ∃ v', e = .returned v' ∧ FileR w' w.heap.size v' (doesM l c) ∧ Below w.heap.size w w' := by
  obtain ⟨i0, hi, hz0, hz1, hz2⟩ := info_parts (P := Try.prog) (e := 9) (z := .string ⟨#[]⟩) (size := 1) (bytes := 16) (by kernel_rfl)
  unfold rchgCells
  obtain ⟨bts, hbts⟩ : ∃ bts, bts = (if c.cut then [] else c.bytes) := ⟨_, rfl⟩
  rw [← hbts]
  have Hbts := hid hbts
  have H := hid h
  clear hbts h
  obtain ⟨n, hn⟩ : ∃ n, n = l.length := ⟨_, rfl⟩
  have Hn := hid hn
  cases hcut : c.cut with
  | true =>
    rw [doesM_cut hcut]
    have hv : (v = .slice none 0 0 ∧ n = 0) ∨ ∃ g cap, v = .slice (some ⟨g, 0, none⟩) n cap := by have := row_form H.out; rwa [← hn] at this
    have hcells : ∃ (ga : Option Addr) (cap : Nat), v = .slice ga n cap := by
      rcases hv with ⟨rfl, rfl⟩ | ⟨g, cap, rfl⟩
      · exact ⟨none, 0, rfl⟩
      · exact ⟨_, cap, rfl⟩
    obtain ⟨ga, cap, rfl⟩ := hcells
    have Hv := hid hv
    clear hv hn
    go_enter Try.func50, Try.ntmps50
    go_wp2_with fail
    have hx0 := heap_alloc_new w (.cells #[.int .i64 (c.file : Int), .int .i64 (c.at_ : Int), .bool true, .string (bs bts)] 89)
    have hb0 := (Below.refl w.heap.size w).alloc (Nat.le_refl _) (.cells #[.int .i64 (c.file : Int), .int .i64 (c.at_ : Int), .bool true, .string (bs bts)] 89)
    obtain ⟨w0, hw0⟩ : ∃ w0, w0 = w.alloc (.cells #[.int .i64 (c.file : Int), .int .i64 (c.at_ : Int), .bool true, .string (bs bts)] 89) := ⟨_, rfl⟩
    rw [← hw0] at hx0 hb0 ⊢
    have X0 := hid hx0
    have B0 := hid hb0
    have HR := hid (row_keep H.out (w' := w0) (fun x hx => hb0.block x (row_base H.out hx).2))
    clear hx0 hb0 hw0
    go_loopw [6, 5] (fun v6 v5 wr => ∃ i : Nat, v6 = .int .i64 (i : Int) ∧ i ≤ n ∧ i ≤ c.at_ ∧ wr.ownsRow w0.heap.size 9 1 v5 i (strV (l.take i)) ∧ Below w0.heap.size w0 wr) (fun v6 _ _ => n - (intOf v6).toNat)
    case atStart => exact ⟨0, rfl, Nat.zero_le _, Nat.zero_le _, World.ownsRow_nil _ _ _ _, Below.refl _ _⟩
    case round =>
      obtain ⟨i, rfl, hin, hia, hrow, hbel⟩ := hrel
      have Hrow := hid hrow
      have Hbel := hid hbel
      have q1 : wr.cell? ⟨w.heap.size, 1, none⟩ = some (.int .i64 (c.at_ : Int)) := (cell_of_block ((hbel.block _ (lt_of_block X0.out)).trans X0.out) 1).trans rfl
      clear hrow hbel
      by_cases hlt : i < n
      · by_cases hlt2 : i < c.at_
        · have d1 : decide ((i : Int) < (n : Int)) = true := by simp; omega
          have d2 : decide ((i : Int) < (c.at_ : Int)) = true := by simp; omega
          obtain ⟨g, cap', hgv⟩ := Hv.out.resolve_left (fun e => by omega)
          cases hgv
          have hil : i < l.length := by have := Hn.out; omega
          have hcell : wr.cell? ⟨g, i, none⟩ = some (.string (bs l[i])) := by
            have hg := HR.out
            have hk := row_keep hg (w' := wr) (fun x hx => Hbel.out.block x (row_base hg hx).2)
            rw [Hn.out] at hk
            exact FileR.get hk hil
          obtain ⟨s, hs⟩ : ∃ s, s = l[i] := ⟨_, rfl⟩
          rw [← hs] at hcell
          have Hs := hid hs
          have hin2 : (i : Int) < (n : Int) := by omega
          clear hs
          go_wp2_with (first
            | (at_builtin; refine wpList_append_own_at _ rfl _ _ 56 rfl w0.heap.size 9 i0 _ 1 16 Try.underlying56 hi hz0 hz1 hz2 rfl (by omega) _ i (strV (l.take i)) rfl (row_keep Hrow.out (fun x hx => Below.heap_alloc wr _ x (row_base Hrow.out hx).2)) ⟨wr.heap.size, 0, none⟩ 1 1 [.string (bs s)] rfl (by simp) (World.news_of_block (cs := #[.string (bs s)]) (t := 9) (fr := (0, 0)) (heap_alloc_new wr _)) (by intro u hu; rw [List.mem_singleton.1 hu]; rfl) (by unfold maxLen; omega) (by omega) (by simp; have := Hbel.out.size; omega) ?_; intro v' w7 hown7 hgrow7 _ _; have Hown7 := hid hown7; have Hbel7 := hid ((Hbel.out.alloc Hbel.out.size (.cells #[.string (bs s)] 9)).grown hgrow7 (by simp; have := Hbel.out.size; omega) (fun j hj => (row_base Hrow.out hj).1)); clear hown7 hgrow7)
            | go_in)
          go_roundw
          case rel =>
            refine ⟨i + 1, by simp, by omega, by omega, ?_, Hbel7.out⟩
            rw [List.take_succ_eq_append_getElem hil, ← Hs.out, strV_append]
            exact Hown7.out
          case measure => simp [intOf]; omega
        · have d1 : decide ((i : Int) < (n : Int)) = true := by simp; omega
          have d2 : decide ((i : Int) < (c.at_ : Int)) = false := by simp; omega
          go_wp2_with fail
          go_ret
          refine ⟨_, rfl, ?_, B0.out.trans (Hbel.out.mono B0.out.size)⟩
          have e : c.at_ = i := by omega
          rw [e]
          exact fileR_of (row_lower Hrow.out B0.out.size) (by have := Hn.out; simp; omega)
      · obtain rfl : i = n := by omega
        have d1 : decide ((i : Int) < (i : Int)) = false := by simp
        go_wp2_with fail
        go_ret
        refine ⟨_, rfl, ?_, B0.out.trans (Hbel.out.mono B0.out.size)⟩
        have e : l.take c.at_ = l.take i := by rw [List.take_of_length_le (by have := Hn.out; omega), List.take_of_length_le (by have := Hn.out; omega)]
        rw [e]
        exact fileR_of (row_lower Hrow.out B0.out.size) (by have := Hn.out; simp; omega)
  | false =>
    have hw' := hw hcut
    have hbb : bts = c.bytes := by rw [Hbts.out, hcut]; rfl
    have Hbb := hid hbb
    have Hcut := hid hcut
    have NG := hid nought_any
    obtain ⟨nn, hnn⟩ : ∃ nn, nn = nought := ⟨_, rfl⟩
    have Hnn := hid hnn
    rw [← hnn] at NG
    clear hn hbb hcut hnn
    go_enter Try.func50, Try.ntmps50
    go_upto_region 8 with fail
    have hx0 := heap_alloc_new w (.cells #[.int .i64 (c.file : Int), .int .i64 (c.at_ : Int), .bool false, .string (bs bts)] 89)
    have hb0 := (Below.refl w.heap.size w).alloc (Nat.le_refl _) (.cells #[.int .i64 (c.file : Int), .int .i64 (c.at_ : Int), .bool false, .string (bs bts)] 89)
    obtain ⟨w0, hw0⟩ : ∃ w0, w0 = w.alloc (.cells #[.int .i64 (c.file : Int), .int .i64 (c.at_ : Int), .bool false, .string (bs bts)] 89) := ⟨_, rfl⟩
    rw [← hw0] at hx0 hb0 ⊢
    have X0 := hid hx0
    have B0 := hid hb0
    have HR := hid (row_keep H.out (w' := w0) (fun x hx => hb0.block x (row_base H.out hx).2))
    clear hx0 hb0 hw0
    go_wp2_with (first
      | (at_builtin; refine wpList_append_rows rfl _ _ 56 rfl w0.heap.size 0 9 i0 _ 1 16 Try.underlying56 hi hz0 hz1 hz2 rfl (by omega) _ 0 [] rfl (World.ownsRow_nil _ _ _ _) _ l.length (strV l) rfl HR.out (strV_one l) (by unfold maxLen; omega) (by omega) (Nat.le_refl _) ?_; intro v1 w1 hown1 hgrow1; have Hown1 := hid hown1; have Hbel1 := hid ((Below.refl w0.heap.size w0).grown hgrow1 (Nat.le_refl _) (fun j hj => by cases hj)); clear hown1 hgrow1)
      | go_in)
    go_loopw [5] (fun v5 wr => ∃ j : Nat, n + j ≤ max n (c.at_ + 1) ∧ wr.ownsRow w0.heap.size 9 1 v5 (n + j) (strV (l ++ List.replicate j nought)) ∧ Below w0.heap.size w0 wr) (fun v5 _ => c.at_ + 1 - sliceLen v5)
    case atStart =>
      refine ⟨0, by omega, ?_, Hbel1.out⟩
      have h1 := Hown1.out
      rw [Hn.out]
      simpa using h1
    case round =>
      obtain ⟨j, hjm, hrow, hbel⟩ := hrel
      have Hrow := hid hrow
      have Hbel := hid hbel
      have Hsl := hid (ownsRow_len hrow)
      have q1 : wr.cell? ⟨w.heap.size, 1, none⟩ = some (.int .i64 (c.at_ : Int)) := (cell_of_block ((hbel.block _ (lt_of_block X0.out)).trans X0.out) 1).trans rfl
      have q3 : wr.cell? ⟨w.heap.size, 3, none⟩ = some (.string (bs bts)) := (cell_of_block ((hbel.block _ (lt_of_block X0.out)).trans X0.out) 3).trans rfl
      obtain ⟨m, hm⟩ : ∃ m, m = n + j := ⟨_, rfl⟩
      have Hm := hid hm
      have hform := row_form hrow
      rw [← hm] at hform
      by_cases hle : m ≤ c.at_
      · have d1 : decide ((m : Int) ≤ (c.at_ : Int)) = true := decide_eq_true (Int.ofNat_le.2 hle)
        obtain ⟨ga, cap, hv5⟩ : ∃ ga cap, u5 = .slice ga m cap := by
          rcases hform with ⟨h1, h2⟩ | ⟨g, cap, h1⟩
          · exact ⟨none, 0, by rw [h1, h2]⟩
          · exact ⟨_, cap, h1⟩
        subst hv5
        clear hrow hbel hform hm hjm
        go_wp2_with (first
          | (go_at_call 58; refine (NG.out wr).mono ?_; rintro e w2 ⟨rfl, hb⟩; have Hb2 := hid hb; clear hb q1 q3)
          | (at_builtin; refine wpList_append_own_at _ rfl _ _ 56 rfl w0.heap.size 9 i0 _ 1 16 Try.underlying56 hi hz0 hz1 hz2 rfl (by omega) _ (n + j) (strV (l ++ List.replicate j nought)) rfl (row_keep Hrow.out (fun x hx => (Below.heap_alloc w2 _ x (Nat.lt_of_lt_of_le (row_base Hrow.out hx).2 Hb2.out.size)).trans (Hb2.out.block x (row_base Hrow.out hx).2))) ⟨w2.heap.size, 0, none⟩ 1 1 [.string (bs nn)] rfl (by simp) (World.news_of_block (cs := #[.string (bs nn)]) (t := 9) (fr := (0, 0)) (heap_alloc_new w2 _)) (by intro u hu; rw [List.mem_singleton.1 hu]; rfl) (by have := Hm.out; unfold maxLen; omega) (by have := Hm.out; omega) (by simp; have := Hbel.out.size; have := Hb2.out.size; omega) ?_; intro v' w7 hown7 hgrow7 _ _; have Hown7 := hid hown7; have Hbel7 := hid ((((Hbel.out.trans (Hb2.out.mono Hbel.out.size))).alloc (Nat.le_trans Hbel.out.size Hb2.out.size) (.cells #[.string (bs nn)] 9)).grown hgrow7 (by simp; have := Hbel.out.size; have := Hb2.out.size; omega) (fun x hx => (row_base Hrow.out hx).1)); clear hown7 hgrow7)
          | go_in)
        go_roundw
        case rel =>
          refine ⟨j + 1, by have := Hm.out; omega, ?_, Hbel7.out⟩
          have h1 := Hown7.out
          rw [Hnn.out] at h1
          rw [List.replicate_succ', ← List.append_assoc, strV_append, ← Nat.add_assoc]
          exact h1
        case measure =>
          have h1 := ownsRow_len Hown7.out
          have h2 := Hm.out
          rw [h1]
          simp only [sliceLen]
          omega
      · have d1 : decide ((m : Int) ≤ (c.at_ : Int)) = false := decide_eq_false (fun h => hle (Int.ofNat_le.1 h))
        obtain ⟨g, cap, hv5⟩ : ∃ g cap, u5 = .slice (some ⟨g, 0, none⟩) m cap := by
          rcases hform with ⟨h1, h2⟩ | h1
          · omega
          · exact h1
        subst hv5
        have hlt : (c.at_ : Int) < (m : Int) := by omega
        rw [← hm] at hrow
        obtain ⟨hcell, hfz, hst, hgr⟩ := row_store hrow (i := c.at_) (by omega) (.string (bs bts))
        obtain ⟨old, hold⟩ := hcell
        have Hst := hid hst
        have Hgr := hid hgr
        have Hbase := hid (row_base hrow (g := g) rfl)
        clear hrow hbel hform hm hst hgr
        go_wp2_with fail
        go_ret
        refine ⟨_, rfl, ?_, B0.out.trans ((Hbel.out.grown Hgr.out Hbel.out.size (fun x hx => by cases hx; exact Hbase.out.1)).mono B0.out.size)⟩
        have e : doesM l c = (l ++ List.replicate j nought).set c.at_ c.bytes := by
          rw [doesM_write Hcut.out]
          congr 3
          have := Hm.out; have := Hn.out
          omega
        rw [e]
        refine fileR_of (n := m) (row_lower ?_ B0.out.size) (by have := Hm.out; have := Hn.out; simp; omega)
        have h1 := Hst.out
        unfold strV at h1 ⊢
        rw [List.map_set, ← Hbb.out]
        exact h1
end Go.Proofs.Ytifgnhbbcpmaiaa
