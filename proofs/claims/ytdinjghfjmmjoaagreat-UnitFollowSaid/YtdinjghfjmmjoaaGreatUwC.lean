import Derived.Test.YtdinjghfjmmjoaaGreatUvC
import Derived.Test.YtdinjghfjmmjoaaGreatUtB
import Derived.Test.YtdinjghfjmmjoaaGreatLift
namespace Go.Proofs.YtdinjghfjmmjoaaGreat
open Go.ChangeShapes Go.WideShapes Go.ChangeAt Go.RowKit Go.Deep
set_option linter.unusedVariables false
set_option linter.unusedSimpArgs false
set_option maxRecDepth 20000
set_option maxRecDepth 20000

instance : Inhabited Img := ⟨⟨0, []⟩⟩
instance : Inhabited (Sh × Value) := ⟨(⟨0, 0, 0, false, 0, []⟩, undef)⟩
def ShipsAt (w : World) (v : Value) (l : List (Sh × Value)) : Prop :=
  ∃ ao cap, v = .slice ao l.length cap ∧ ∀ k (hk : k < l.length), ∃ q o, ao = some ⟨q, o, none⟩ ∧ q < w.heap.size ∧ ∀ j u, (shCells l[k].1 l[k].2)[j]? = some u → w.cell? ⟨q, o + k * 6 + j, none⟩ = some u
structure ShipsIn (w : World) (v : Value) (l : List (Sh × Value)) : Prop where
  at' : ShipsAt w v l
  len : l.length ≤ 9223372036854775807
  each : ∀ x ∈ l, ShIn w x.1 x.2
theorem lt_of_cell {w : World} {a : Addr} {v : Value} (h : w.cell? a = some v) : a.block < w.heap.size := by
  rcases Nat.lt_or_ge a.block w.heap.size with h1 | h1
  · exact h1
  · unfold World.cell? at h
    rw [Array.getElem?_eq_none h1] at h
    simp at h
section
variable {H : Type} {enc : TypeId × Value → H} {w : World} {base : Nat} {sp : Nat → Bool} {held : Bool}
theorem open_image {fuel : Nat} {cs : List Value} {x : DataW H × List MemPlace} (h : DataW.trod enc Tryz.prog w base sp held fuel 35 cs = some x) :
    ∃ (n : Int) (l : List UInt8), cs = [.int .i64 n, .string (bs l)] ∧ l.length ≤ 9223372036854775807 := by
  obtain ⟨hl, n, hf⟩ := open_cells_struct Tryz.underlying35 (by kernel_rfl) (by kernel_rfl) h
  obtain ⟨a, b, rfl⟩ : ∃ a b, cs = [a, b] := by
    match cs, hl with
    | [a, b], _ => exact ⟨a, b, rfl⟩
  obtain ⟨y0, h0⟩ := hf 0 _ rfl
  obtain ⟨y1, h1⟩ := hf 1 _ rfl
  obtain ⟨p, e0, _, _⟩ := DataW.trod_int Tryz.underlying3 h0
  obtain ⟨q, e1, _, hs⟩ := DataW.trod_string Tryz.underlying9 h1
  simp at e0 e1
  refine ⟨p, q.data.toList, by rw [e0, e1]; rfl, ?_⟩
  have : q.size = q.data.toList.length := by show q.data.size = _; exact Array.length_toList.symm
  have hm : maxLen = 9223372036854775807 := rfl
  omega
theorem open_images {fuel : Nat} {cs : List Value} {x : DataW H × List MemPlace} (h : DataW.trod enc Tryz.prog w base sp held fuel 29 cs = some x) :
    ∃ (v : Value) (l : List Img), cs = [v] ∧ SImgsAt w v l ∧ l.length ≤ 9223372036854775807 ∧ ∀ z ∈ l, z.2.length ≤ 9223372036854775807 := by
  rcases open_slice Tryz.underlying29 h with ⟨rfl, _⟩ | ⟨a, len, cap, m, n, D, Pl, rfl, hb, hle, hcap, hm, _, hx⟩
  · exact ⟨_, [], rfl, Or.inl ⟨⟨_, _, rfl⟩, rfl⟩, by simp, by simp⟩
  have hlm : len ≤ m := by rw [hm]; split <;> omega
  have hcells : Tryz.prog.cellsOf 35 = 2 := by kernel_rfl
  rw [hcells] at hx
  obtain ⟨V, hV⟩ := choose_lt (α := Img) (p := fun i z => w.cell? (a.add (i * 2)) = some (.int .i64 z.1) ∧ w.cell? (a.add (i * 2 + 1)) = some (.string (bs z.2)) ∧ z.2.length ≤ 9223372036854775807) (n := len) (fun i hi => by
    obtain ⟨cs', h1, h2⟩ := hx i (by omega)
    obtain ⟨p, q, rfl, hq⟩ := open_image h2
    obtain ⟨_, _, hc⟩ := World.cells?_some h1
    have c0 := hc 0 (by omega)
    have c1 := hc 1 (by omega)
    rw [add_add] at c0 c1
    exact ⟨⟨p, q⟩, by simpa using c0, by simpa using c1, hq⟩)
  have hm' : maxLen = 9223372036854775807 := rfl
  refine ⟨_, (List.range len).map V, rfl, ?_, by simp; omega, ?_⟩
  · by_cases h0 : len = 0
    · subst h0
      exact Or.inl ⟨⟨_, _, rfl⟩, rfl⟩
    · obtain ⟨b, off, spot⟩ := a
      have hspot : spot = none := by simpa [Addr.add] using World.cell?_spot (hV 0 (by omega)).1
      subst hspot
      refine Or.inr ⟨b, off, cap, by simp, fun j hj => ?_⟩
      have hj' : j < len := by simpa using hj
      have h := hV j hj'
      simp only [Addr.add_lit] at h
      simp only [List.getElem_map, List.getElem_range]
      exact ⟨h.1, by have := h.2.1; rwa [← Nat.add_assoc] at this⟩
  · intro z hz
    obtain ⟨i, hi, rfl⟩ := List.mem_map.1 hz
    exact (hV i (by simpa using hi)).2.2
theorem open_ship_cells {fuel : Nat} {cs : List Value} {x : DataW H × List MemPlace} (h : DataW.trod enc Tryz.prog w base sp held fuel 31 cs = some x) :
    ∃ y : Sh × Value, cs = (shCells y.1 y.2).toList ∧ ShIn w y.1 y.2 := by
  obtain ⟨hl, n, hf⟩ := open_cells_struct Tryz.underlying31 (by kernel_rfl) (by kernel_rfl) h
  obtain ⟨a0, a1, a2, a3, a4, a5, rfl⟩ : ∃ a0 a1 a2 a3 a4 a5, cs = [a0, a1, a2, a3, a4, a5] := by
    match cs, hl with
    | [a0, a1, a2, a3, a4, a5], _ => exact ⟨a0, a1, a2, a3, a4, a5, rfl⟩
  obtain ⟨y0, h0⟩ := hf 0 _ rfl
  obtain ⟨y1, h1⟩ := hf 1 _ rfl
  obtain ⟨y2, h2⟩ := hf 2 _ rfl
  obtain ⟨y3, h3⟩ := hf 3 _ rfl
  obtain ⟨y4, h4⟩ := hf 4 _ rfl
  obtain ⟨y5, h5⟩ := hf 5 _ rfl
  obtain ⟨k, e0, _, w0⟩ := DataW.trod_int Tryz.underlying5 h0
  obtain ⟨ep, e1, _, w1⟩ := DataW.trod_int Tryz.underlying28 h1
  obtain ⟨kk, e2, _, w2⟩ := DataW.trod_int Tryz.underlying28 h2
  obtain ⟨fu, e3, _⟩ := DataW.trod_bool Tryz.underlying4 h3
  obtain ⟨pg, e4, _, w4⟩ := DataW.trod_int Tryz.underlying3 h4
  obtain ⟨vs, l, e5, hi, hn, hb⟩ := open_images h5
  simp at e0 e1 e2 e3 e4 e5
  subst e0 e1 e2 e3 e4 e5
  have w0' : 0 ≤ k ∧ k ≤ 255 := by have h : (decide ((0 : Int) ≤ k) && decide (k ≤ 255)) = true := w0; simpa using h
  have w1' : 0 ≤ ep ∧ ep ≤ 18446744073709551615 := by have h : (decide ((0 : Int) ≤ ep) && decide (ep ≤ 18446744073709551615)) = true := w1; simpa using h
  have w2' : 0 ≤ kk ∧ kk ≤ 18446744073709551615 := by have h : (decide ((0 : Int) ≤ kk) && decide (kk ≤ 18446744073709551615)) = true := w2; simpa using h
  exact ⟨(⟨k, ep, kk, fu, pg, l⟩, a5), rfl, hi, hn, hb, ⟨w0'.1, by have := w0'.2; simp only; omega⟩, ⟨w1'.1, by have := w1'.2; simp only; omega⟩, ⟨w2'.1, by have := w2'.2; simp only; omega⟩⟩
theorem open_ships_cell {fuel : Nat} {cs : List Value} {x : DataW H × List MemPlace} (h : DataW.trod enc Tryz.prog w base sp held fuel 60 cs = some x) :
    ∃ (v : Value) (l : List (Sh × Value)), cs = [v] ∧ ShipsIn w v l := by
  rcases open_slice Tryz.underlying60 h with ⟨rfl, _⟩ | ⟨a, len, cap, m, n, D, Pl, rfl, hb, hle, hcap, hm, _, hx⟩
  · exact ⟨_, [], rfl, ⟨⟨none, 0, rfl, (fun k hk => by simp at hk)⟩, by simp, (fun x hx => by cases hx)⟩⟩
  have hlm : len ≤ m := by rw [hm]; split <;> omega
  have hcells : Tryz.prog.cellsOf 31 = 6 := by kernel_rfl
  rw [hcells] at hx
  obtain ⟨V, hV⟩ := choose_lt (α := Sh × Value) (p := fun i y => ShIn w y.1 y.2 ∧ ∀ j u, (shCells y.1 y.2)[j]? = some u → w.cell? (a.add (i * 6 + j)) = some u) (n := len) (fun i hi => by
    obtain ⟨cs', h1, h2⟩ := hx i (by omega)
    obtain ⟨y, rfl, hy⟩ := open_ship_cells h2
    refine ⟨y, hy, fun j u hj => ?_⟩
    obtain ⟨_, _, hc⟩ := World.cells?_some h1
    have hj7 : j < 6 := by
      have := (Array.getElem?_eq_some_iff.1 hj).1
      simpa [shCells] using this
    have c0 := hc j hj7
    rw [add_add] at c0
    rw [c0]
    simpa using hj)
  have hm' : maxLen = 9223372036854775807 := rfl
  have hlen : ((List.range len).map V).length = len := by simp
  refine ⟨_, (List.range len).map V, rfl, ⟨⟨some a, cap, by rw [hlen], fun k hk => ?_⟩, by rw [hlen]; omega, fun y hy => ?_⟩⟩
  · rw [hlen] at hk
    obtain ⟨b, off, spot⟩ := a
    have c0 := (hV 0 (by omega)).2 0 _ rfl
    have hspot : spot = none := by simpa [Addr.add] using World.cell?_spot c0
    subst hspot
    have hlt : b < w.heap.size := by simpa [Addr.add] using lt_of_cell c0
    refine ⟨b, off, rfl, hlt, fun j u hj => ?_⟩
    simp at hj
    have e := (hV k hk).2 j u hj
    simp only [Addr.add_lit] at e
    rw [← e]
    congr 2
    omega
  · obtain ⟨i, hi, rfl⟩ := List.mem_map.1 hy
    exact (hV i (by simpa using hi)).1
theorem open_ships {b0 : Nat} {v : Value} (hval : Value.okWide Tryz.prog w .any b0 60 v) (h : ∃ d p, DataW.Trod enc Tryz.prog w base sp held 60 v d p) : ∃ (z : Value × List (Sh × Value)), v = z.1 ∧ ShipsIn w z.1 z.2 := by
  obtain ⟨d, p, fuel, hf⟩ := h
  obtain ⟨ao, n, cap, rfl⟩ := okWide_slice Tryz.underlying60 hval
  obtain ⟨v, l, e, hl⟩ := open_ships_cell hf
  simp [Value.cells] at e
  subst e
  exact ⟨(_, l), rfl, hl⟩
end
end Go.Proofs.YtdinjghfjmmjoaaGreat
namespace Go.Proofs.YtdinjghfjmmjoaaGreat
open Go.RowKit Go.Maps
set_option linter.unusedVariables false
set_option linter.unusedSimpArgs false
set_option maxRecDepth 20000

def greatB (m : Sh) : Bool := m.imgs.any (fun x => decide (2048 < x.2.length)) || decide (40 < m.imgs.length)
def GreatGave (W : World) (m : Sh) (e : Ending) (w' : World) : Prop := e = .returned (.bool (greatB m)) ∧ Below W.heap.size W w'
theorem greatB_big {m : Sh} {x : Img} (h : x ∈ m.imgs) {dl : Int} (hd : ((x.2.length : Nat) : Int) = dl) (hx : 2048 < dl) : greatB m = true := by
  unfold greatB
  rw [Bool.or_eq_true]
  exact .inl (List.any_eq_true.2 ⟨x, h, decide_eq_true (by omega)⟩)
theorem greatB_small {m : Sh} (h : ∀ x ∈ m.imgs, x.2.length ≤ 2048) : greatB m = decide (40 < m.imgs.length) := by
  unfold greatB
  rw [show (m.imgs.any fun x => decide (2048 < x.2.length)) = false from by
    rw [List.any_eq_false]
    intro x hx
    have := h x hx
    rw [decide_eq_true_eq]
    omega, Bool.false_or]
theorem take_small {l : List Img} {i : Nat} {x : Img} (e : l.take (i + 1) = l.take i ++ [x]) (h : ∀ x ∈ l.take i, x.2.length ≤ 2048) {dl : Int} (hd : ((x.2.length : Nat) : Int) = dl) (hx : ¬ 2048 < dl) : ∀ x ∈ l.take (i + 1), x.2.length ≤ 2048 := by
  rw [e]
  intro y hy
  rcases List.mem_append.1 hy with h1 | h1
  · exact h y h1
  · rw [List.mem_singleton.1 h1]
    omega
section
variable {w W W' : World} {pb l b : Nat} {p : Pg} {g : Lg} {d : Dsk} {X : Nat → Prop} {m : Sh} {v : Value} {L : List (List UInt8)}
set_option maxHeartbeats 2000000 in
set_option maxRecDepth 20000 in
theorem great_any (h : ShIn W m v) : Calls Tryz.prog 24 #[shipV m v] W (GreatGave W m) := by
  obtain ⟨ao, cap, rfl⟩ := imgs_shape h.at'
  have hz := heap_alloc_new W (.cells (shCells m (.slice ao m.imgs.length cap)) 31)
  have hb := (Below.refl W.heap.size W).alloc (Nat.le_refl _) (.cells (shCells m (.slice ao m.imgs.length cap)) 31)
  obtain ⟨W2, hW2⟩ : ∃ W2, W2 = W.alloc (.cells (shCells m (.slice ao m.imgs.length cap)) 31) := ⟨_, rfl⟩
  rw [← hW2] at hz hb
  obtain ⟨n, hn⟩ : ∃ n, n = m.imgs.length := ⟨_, rfl⟩
  have hn0 := h.n
  unfold shCells at hz hW2
  unfold shipV
  rw [← hn] at hn0 hz hW2 ⊢
  have H2 := hid (h.kept hb)
  have Hz := hid hz
  have HB := hid hb
  have HW2 := hid hW2
  have Hn := hid hn
  clear h hz hb hW2 hn
  go_enter Tryz.func24, Tryz.ntmps24
  go_upto_region 1 with fail
  rw [← HW2.out]
  obtain ⟨_, _, _, _, _, a5, af⟩ := cells6 Hz.out
  go_wp2_with fail
  clear a5 af
  go_loopw [8] (fun v8 wr => ∃ i : Nat, i ≤ n ∧ v8 = .int .i64 (i : Int) ∧ Below W2.heap.size W2 wr ∧ ∀ x ∈ m.imgs.take i, x.2.length ≤ 2048) (fun v8 _ => n - (intOf v8).toNat)
  case atStart => exact ⟨0, Nat.zero_le _, rfl, Below.refl _ _, fun x hx => by simp at hx⟩
  case round =>
    obtain ⟨i, hi, rfl, hbw, hsm⟩ := hrel
    have HSm := hid hsm
    clear hsm
    have HBw := hid hbw
    have hin := H2.out.kept hbw
    by_cases hlt : i < n
    · have hil : i < m.imgs.length := by have := Hn.out; omega
      obtain ⟨q, off, hao, ci, cs⟩ := imgs_cell (w := wr) (wr := wr) hin.at' (Below.refl _ _) i hil
      subst hao
      have HXM := hid (List.getElem_mem hil)
      have HTK := hid (List.take_succ_eq_append_getElem hil)
      obtain ⟨x, hx⟩ : ∃ x, x = m.imgs[i] := ⟨_, rfl⟩
      rw [← hx] at ci cs HXM HTK
      obtain ⟨pg, dat⟩ := x
      dsimp only at ci cs
      have hi9 : (i : Int) < 9223372036854775807 := by omega
      have hiN : (i : Int) < (n : Int) := by omega
      have hw : IntKind.i64.wrap ((i : Int) + 1) = (i : Int) + 1 := IntWalk.i64_in _ (by omega)
      obtain ⟨dl, hdl⟩ : ∃ dl : Int, ((dat.length : Nat) : Int) = dl := ⟨_, rfl⟩
      clear hx hin hbw
      by_cases h5 : 2048 < dl
      · have b5 : decide (2048 < dl) = true := by simpa using h5
        have HG5 := hid (greatB_big HXM.out hdl h5)
        clear h5
        go_wp2_with fail
        go_ret
        exact ⟨by rw [HG5.out]; rfl, HB.out.trans ((HBw.out.alloc HBw.out.size _).mono HB.out.size)⟩
      · have b5 : decide (2048 < dl) = false := by simpa using h5
        have HN5 := hid (take_small HTK.out HSm.out hdl h5)
        clear h5
        go_wp2_with fail
        go_roundw
        case rel => exact ⟨i + 1, hlt, by simp, HBw.out.alloc HBw.out.size _, HN5.out⟩
        case measure => (simp [intOf]) <;> omega
    · obtain rfl : n = i := by omega
      have hgo : ¬ n < n := Nat.lt_irrefl n
      obtain ⟨_, _, _, _, _, a5, af⟩ := cells6 ((hbw.block W.heap.size (lt_of_block Hz.out)).trans Hz.out)
      have hgr : greatB m = decide (40 < n) := by
        have h := HSm.out
        rw [Hn.out, List.take_length] at h
        rw [greatB_small h, ← Hn.out]
      have Hgr := hid hgr
      have e40 : decide ((40 : Int) < (n : Int)) = decide (40 < n) := decide_eq_decide.2 (by omega)
      obtain ⟨r, hr⟩ : ∃ r, r = decide (40 < n) := ⟨_, rfl⟩
      rw [← hr] at e40 hgr
      clear hin hbw hr Hgr
      have Hgr := hid hgr
      clear hgr
      go_wp2_with fail
      go_ret
      exact ⟨by rw [Hgr.out]; rfl, HB.out.trans (HBw.out.mono HB.out.size)⟩
theorem st_db (hD : DbW g d L) : stOk p0 g d ∧ stL p0 g d = L := by
  have hP := db_pages (p := p0) hD rfl
  have hrd := fun n h1 h2 => db_read (p := p0) hD rfl n h1 h2
  refine ⟨fun k hk => ?_, ?_⟩
  · rw [hP] at hk
    have := hrd (k + 1) (by omega) (by omega)
    rw [show (((k + 1 : Nat) : Int)) = (k : Int) + 1 by omega] at this
    rw [this]
  · unfold stL pgsR
    rw [hP, Int.toNat_natCast]
    apply List.ext_getElem
    · simp
    · intro i h1 h2
      have := hrd (i + 1) (by omega) (by omega)
      rw [show (((i + 1 : Nat) : Int)) = (i : Int) + 1 by omega] at this
      simp only [List.getElem_map, List.getElem_range]
      rw [this]
      simp only [Nat.add_sub_cancel]
      rw [List.getD_eq_getElem?_getD, List.getElem?_eq_getElem h2]
      rfl
theorem have_db (hD : DbW g d L) (hL : Good L) : haveM p0 g d = (commL L, 0) := by
  obtain ⟨h, e1, e2⟩ := uready_db (p := p0) hD hL rfl
  unfold haveM
  rw [e1, if_neg (by simp), e2]
theorem snap_db (hD : DbW g d L) (hL : Good L) (ep : Int) : snapM p0 g d ep = if commL L = 0 then (sh0, 4) else (⟨1, ep, commL L, true, (L.length : Int), imgsOf L⟩, 0) := by
  obtain ⟨h, e1, e2⟩ := uready_db (p := p0) hD hL rfl
  unfold snapM
  rw [e1, if_neg (by simp), (st_db hD).2, db_pages hD rfl]
  dsimp only
  rw [e2]
theorem follow_small {N : Nat} (hg : g.head.pages ≤ 256) (h : d.Small N) (p : Pg) : (followM p g d m).2.2.2.Small (N + 8519680) := by
  have hm := h.mono (M := N + 8519680) (by omega)
  unfold followM
  split
  · exact hm
  split
  · exact hm
  split
  · exact hm
  split
  · exact hm
  split
  · exact hm
  split
  · exact hm
  split
  · exact hm
  · exact commit_small N hg h _
theorem px_base {w1 : World} {X : Nat → Prop} (h : PgX w1 W pb l b p g d X) (hb : Below w.heap.size w w1) : PgX w W pb l b p g d X := by
  obtain ⟨⟨F, G, K, nv, sv, h1, h2, h3, h4⟩, hb1, hx⟩ := h
  exact ⟨⟨F, G, K, nv, sv, h1, h2, h3, fun k hk => ⟨Nat.le_trans hb.size (h4 k hk).1, (h4 k hk).2⟩⟩, hb.trans (hb1.mono hb.size), hx⟩
theorem db0 : Db exG0 newM [] := ⟨exG0_calm, rfl, by decide, fun n a b => by simp at b; omega, fun s hs => by cases hs⟩
theorem strRow_nil (w : World) (base : Nat) : StrRow w base (.slice none 0 0) [] := World.ownsRow_nil _ _ _ _
theorem ShIn.ok (h : ShIn w m v) (hb : Below w.heap.size w W) (X : Nat → Prop) : ShOk w W X m v := by
  refine ⟨(h.kept hb).at', fun b off n cap e hne => .inl ?_, h.n, h.big, h.wf⟩
  rcases h.at' with ⟨-, h1⟩ | ⟨q, o, c, e2, hc⟩
  · exact absurd h1 hne
  · rw [e] at e2
    injection e2 with e2
    injection e2 with e2
    injection e2 with e2
    subst e2
    exact lt_of_cell (hc 0 (by cases hi : m.imgs with | nil => exact absurd hi hne | cons x r => simp)).1
theorem sat_of_row {v : Value} {base : Nat} {l : List Img} (h : ImgRow W base v l) : SImgsAt W v l := by
  obtain ⟨ao, cap, rfl, hc⟩ := h.get
  by_cases h0 : l = []
  · exact .inl ⟨⟨ao, cap, by rw [h0]; rfl⟩, h0⟩
  · obtain ⟨q, rfl, -, -, -, -⟩ := hc 0 (by cases hi : l with | nil => exact absurd hi h0 | cons x r => simp)
    refine .inr ⟨q, 0, cap, rfl, fun j hj => ?_⟩
    obtain ⟨q', e, -, -, c1, c2⟩ := hc j hj
    injection e with e
    injection e with e
    subst e
    rw [Nat.zero_add]
    exact ⟨c1, c2⟩
theorem refSame_self {b1 b2 : Nat} {v1 v2 : Value} (a : Sh) (h1 : ImgRow W b1 v1 a.imgs) (h2 : ImgRow W b2 v2 a.imgs) (n1 : a.imgs.length ≤ 9223372036854775807) :
    Calls Tryz.prog 21 #[shipV a v1, shipV a v2] W fun e w' => e = .returned (.bool true) ∧ Below W.heap.size W w' := by
  have := refSame_any a a v1 v2 W (sat_of_row h1) (sat_of_row h2) n1 n1
  rw [sameB_self] at this
  exact this
structure FoRel (w wr : World) (pb l b i : Nat) (g : Lg) (d : Dsk) (L : List (List UInt8)) (vs : Value) : Prop where
  row : StrRow wr w.heap.size vs L
  good : Good L
  db : Db g d L
  small : d.Small (100 + 8519680 * i)
  px : PgX w wr pb l b p0 g d (fun k => vs.ownBlock = some k)
end
end Go.Proofs.YtdinjghfjmmjoaaGreat
namespace Go.Proofs.YtdinjghfjmmjoaaGreat
open Go.RowKit Go.Maps
set_option linter.unusedVariables false
set_option linter.unusedSimpArgs false
set_option maxRecDepth 20000

section
set_option maxHeartbeats 8000000 in
set_option maxRecDepth 20000 in
theorem follows_any (w : World) (v : Value) (lst : List (Sh × Value)) (h : ShipsIn w v lst) : Calls Tryz.prog 5 #[v] w fun e w' => e = .returned (.bool true) ∧ Below w.heap.size w w' := by
  obtain ⟨ao, cap, rfl, hc⟩ := h.at'
  have hlen := h.len
  obtain ⟨n, hn⟩ : ∃ n, n = lst.length := ⟨_, rfl⟩
  rw [← hn] at hlen ⊢
  have WK := hid (works_any w)
  have FR := hid (fun W => fresh_any W)
  have HC := hid hc
  have Hn := hid hn
  have HEach := hid h.each
  clear h hc hn
  by_cases h30 : 30 < n
  · have b1 : decide (30 < n) = true := by simpa using h30
    go_enter Tryz.func5, Tryz.ntmps5
    go_wp2_with (first
      | (go_at_call 8; refine (WK.out).mono ?_; rintro e w1 ⟨rfl, hb1⟩; have HB1 := hid hb1; clear hb1)
      | go_in)
    go_ret
    exact ⟨rfl, HB1.out⟩
  have b1 : decide (30 < n) = false := by simpa using h30
  have hn30 : n ≤ 30 := by omega
  clear h30
  go_enter Tryz.func5, Tryz.ntmps5
  go_wp2_with (first
    | (go_at_call 8; refine (WK.out).mono ?_; rintro e w1 ⟨rfl, hb1⟩; have HB1 := hid hb1; clear hb1)
    | (go_at_call 7; refine (FR.out _).mono ?_; rintro e w2 ⟨pb, l, b, rfl, hp2⟩; have HP2 := hid hp2; clear hp2)
    | go_in)
  have hp2 : PgX w w2 pb l b p0 exG0 newM (fun _ => False) := (px_base HP2.out HB1.out).to (fun k hk => hk.elim)
  have h0 : FoRel w w2 pb l b 0 exG0 newM [] (.slice none 0 0) := ⟨strRow_nil _ _, .inl rfl, db0, by simpa using new_small, hp2.to (fun k hk => by cases hk)⟩
  have H0 := hid h0
  have HB2 := hid hp2.bel
  clear hp2 h0 HP2
  go_loopw [5, 30] (fun v5 v30 wr => ∃ (i : Nat) (g : Lg) (d : Dsk) (L : List (List UInt8)), i ≤ n ∧ v30 = .int .i64 (i : Int) ∧ FoRel w wr pb l b i g d L v5) (fun _ v30 _ => n - (intOf v30).toNat)
  case atStart => exact ⟨0, _, _, _, Nat.zero_le _, rfl, H0.out⟩
  case round =>
    obtain ⟨i, g, d, L, hi, rfl, hf⟩ := hrel
    by_cases hlt : i < n
    · have hil : i < lst.length := by have := Hn.out; omega
      obtain ⟨q, o, hao, hq, hcl⟩ := HC.out i hil
      have hsh := HEach.out lst[i] (List.getElem_mem hil)
      obtain ⟨⟨m, vm⟩, hx⟩ : ∃ x, x = lst[i] := ⟨_, rfl⟩
      rw [← hx] at hcl hsh
      dsimp only at hcl hsh
      subst hao
      have hbw := hf.px.bel
      have hsi : ShIn wr m vm := hsh.kept hbw
      have hk0 : 0 ≤ m.k := hsh.wf.2.2.1
      obtain ⟨aov, capv, rfl⟩ := imgs_shape hsh.at'
      unfold shCells at hcl
      have c0 : wr.cell? ⟨q, o + i * 6, none⟩ = some (.int .u8 m.kind) := (hbw.cell (p := ⟨q, o + i * 6, none⟩) hq).trans (hcl 0 _ rfl)
      have c1 : wr.cell? ⟨q, o + i * 6 + 1, none⟩ = some (.int .u64 m.epoch) := (hbw.cell (p := ⟨q, o + i * 6 + 1, none⟩) hq).trans (hcl 1 _ rfl)
      have c2 : wr.cell? ⟨q, o + i * 6 + 2, none⟩ = some (.int .u64 m.k) := (hbw.cell (p := ⟨q, o + i * 6 + 2, none⟩) hq).trans (hcl 2 _ rfl)
      have c3 : wr.cell? ⟨q, o + i * 6 + 3, none⟩ = some (.bool m.full) := (hbw.cell (p := ⟨q, o + i * 6 + 3, none⟩) hq).trans (hcl 3 _ rfl)
      have c4 : wr.cell? ⟨q, o + i * 6 + 4, none⟩ = some (.int .i64 m.pages) := (hbw.cell (p := ⟨q, o + i * 6 + 4, none⟩) hq).trans (hcl 4 _ rfl)
      have c5 : wr.cell? ⟨q, o + i * 6 + 5, none⟩ = some (.slice aov m.imgs.length capv) := (hbw.cell (p := ⟨q, o + i * 6 + 5, none⟩) hq).trans (hcl 5 _ rfl)
      have hokg := hf.px.oks.1
      obtain ⟨g', d', hfo, hD', hG'⟩ := follow_db hf.db hf.good hokg m
      have hsm' := follow_small (m := m) (N := 100 + 8519680 * i) (by rw [hf.db.pages]; have := hf.db.many; omega) hf.small p0
      rw [hfo] at hsm'
      dsimp only at hsm'
      have HF := hid hf
      have HsW := hid hsh
      have HD := hid hD'
      have HG := hid hG'
      have Hfo := hid hfo
      have HSM := hid hsm'
      have hi9 : (i : Int) < 9223372036854775807 := by omega
      have hiN : (i : Int) < (n : Int) := by omega
      have hw : IntKind.i64.wrap ((i : Int) + 1) = (i : Int) + 1 := IntWalk.i64_in _ (by omega)
      have HsI := hid hsi
      have Hi30 := hid (show i < 30 by omega)
      have Hk0 := hid hk0
      clear hf hcl hsh hbw hsi hD' hG' hfo hsm' hokg hx H0
      go_upto_region 12 with fail
      have hbA := (Below.refl wr.heap.size wr).alloc (Nat.le_refl _) (.cells (shCells m (.slice aov m.imgs.length capv)) 31)
      have hzA := heap_alloc_new wr (.cells (shCells m (.slice aov m.imgs.length capv)) 31)
      obtain ⟨WA, hWA⟩ : ∃ WA, WA = wr.alloc (.cells (shCells m (.slice aov m.imgs.length capv)) 31) := ⟨_, rfl⟩
      rw [← hWA] at hbA hzA
      unfold shCells at hWA hzA
      rw [← hWA]
      obtain ⟨xb, hxb⟩ : ∃ xb, xb = wr.heap.size := ⟨_, rfl⟩
      rw [← hxb] at hzA ⊢
      have GR := hid (great_any (HsI.out.kept hbA))
      have hxl : xb < WA.heap.size := lt_of_block hzA
      have HBA := hid hbA
      have HzA := hid hzA
      have HWA := hid hWA
      have Hxb := hid hxb
      have Hxl := hid hxl
      obtain ⟨a0, a1, a2, a3, a4, a5, af⟩ := cells6 hzA
      clear hbA hzA hWA hxb hxl
      unfold shipV at GR
      cases hgr : greatB m with
      | true =>
        have GR' := GR.out
        unfold GreatGave at GR'
        rw [hgr] at GR'
        replace GR := hid GR'
        clear hgr GR'
        go_wp2_with (first
          | (go_at_call 24; refine (GR.out).mono ?_; rintro e w3 ⟨rfl, hb3⟩; have HB3 := hid hb3; clear hb3)
          | go_in)
        go_ret
        exact ⟨rfl, HF.out.px.bel.trans ((HBA.out.trans (HB3.out.mono HBA.out.size)).mono HF.out.px.bel.size)⟩
      | false =>
        have GR' := GR.out
        unfold GreatGave at GR'
        rw [hgr] at GR'
        replace GR := hid GR'
        clear hgr GR'
        go_upto_region 14 with (first
          | (go_at_call 24; refine (GR.out).mono ?_; rintro e w3 ⟨rfl, hb3⟩; have HB3 := hid hb3; clear hb3)
          | go_in)
        have hbw3 : Below wr.heap.size wr w3 := HBA.out.trans (HB3.out.mono HBA.out.size)
        have hz3 := (HB3.out.block xb Hxl.out).trans HzA.out
        have hx3 : xb < w3.heap.size := lt_of_block hz3
        have RF := hid (rfollow_any (W := w3) (row_keep HF.out.row (fun k hk => hbw3.block k (row_base HF.out.row hk).2)) HF.out.good HF.out.db.many HF.out.db.len (Nat.le_trans HF.out.px.bel.size hbw3.size) (HsI.out.kept hbw3) Hk0.out)
        have HBW3 := hid hbw3
        have HZ3 := hid hz3
        have HX3 := hid hx3
        clear hbw3 hz3 hx3 a0 a1 a2 a3 a4 a5 af
        obtain ⟨a0, a1, a2, a3, a4, a5, af⟩ := cells6 HZ3.out
        obtain ⟨L', hL'⟩ : ∃ L', L' = (followL L m).1 := ⟨_, rfl⟩
        obtain ⟨E', hE'⟩ : ∃ E', E' = (followL L m).2 := ⟨_, rfl⟩
        have RF' := RF.out
        unfold shipV RFollowGave at RF'
        rw [← hL', ← hE'] at RF'
        replace RF := hid RF'
        have HD' := HD.out
        have HG' := HG.out
        have Hfo' := Hfo.out
        rw [← hL'] at HD' HG'
        rw [← hE'] at Hfo'
        replace HD := hid HD'
        replace HG := hid HG'
        replace Hfo := hid Hfo'
        clear RF' hL' hE' HD' HG' Hfo'
        go_upto_region 16 with (first
          | (go_at_call 25; refine (RF.out).mono ?_; rintro e w4 ⟨v', rfl, hr4, hv4, hb4⟩; have HR4 := hid hr4; have HV4 := hid hv4; have HB4 := hid hb4; clear hr4 hv4 hb4)
          | go_in)
        have hbwr4 : Below wr.heap.size wr w4 := HBW3.out.trans (HB4.out.mono HBW3.out.size)
        have hp4 : PgX w w4 pb l b p0 g d (fun k => v'.ownBlock = some k) := px_add HF.out.px hbwr4 (fun k hk => by
          rcases HV4.out with e | e
          · rw [e] at hk; exact .inl hk
          · exact .inr (Nat.le_trans HBW3.out.size (e k hk))) (fun k hk => (row_base HR4.out hk).2)
        have FA := follow_any hp4 (ShIn.ok HsW.out hp4.bel _) (100 + 8519680 * i) HF.out.small (by have := Hi30.out; omega)
        unfold FollowGave shipV at FA
        rw [Hfo.out] at FA
        dsimp only at FA
        have hz4 := (HB4.out.block xb HX3.out).trans HZ3.out
        have FA := hid FA
        have HP4 := hid hp4
        clear a0 a1 a2 a3 a4 a5 af hbwr4 hp4
        obtain ⟨a0, a1, a2, a3, a4, a5, af⟩ := cells6 hz4
        clear hz4
        have hdb := HD.out
        have hst := st_db hdb.w
        have ST := hid (fun (W5 : World) (hp : PgX w W5 pb l b p0 g' d' (fun k => v'.ownBlock = some k)) => (show Calls Tryz.prog 20 #[.pointer (some ⟨pb, 0, none⟩)] W5 fun e w' => ∃ v, e = .returned (.tuple #[v, .bool true]) ∧ StrRow w' W5.heap.size v L' ∧ Below W5.heap.size W5 w' from by
          have := state_any hp hst.1
          rw [hst.2] at this
          exact this))
        have HV := hid (fun (W5 : World) (X : Nat → Prop) (hp : PgX w W5 pb l b p0 g' d' X) => (show Calls Tryz.prog 14 #[.pointer (some ⟨pb, 0, none⟩)] W5 fun e w' => e = .returned (.tuple #[.int .u64 (commL L'), .int .i64 0]) ∧ PgX w w' pb l b p0 g' d' X ∧ ∀ k, X k → w'.heap[k]? = W5.heap[k]? from by
          have := have_any hp
          rw [have_db hdb.w HG.out] at this
          exact this))
        have SN := hid (fun (W5 : World) (X : Nat → Prop) (hp : PgX w W5 pb l b p0 g' d' X) => (show Calls Tryz.prog 15 #[.pointer (some ⟨pb, 0, none⟩), .int .u64 7] W5 (ShGave w W5 pb l b p0 g' d' X (if commL L' = 0 then (sh0, 4) else (⟨1, 7, commL L', true, (L'.length : Int), imgsOf L'⟩, 0))) from by
          have := snap_any hp hst.1 7
          rw [snap_db hdb.w HG.out] at this
          exact this))
        clear hdb hst
        go_upto_region 18 with (first
          | (go_at_call 12; refine (FA.out).mono ?_; rintro e w5 ⟨rfl, hp5, hk5⟩; have HR5 := hid (row_keep HR4.out hk5); have HP5 := hid hp5; clear hp5 hk5)
          | go_in)
        clear a0 a1 a2 a3 a4 a5 af
        go_upto_region 20 with (first
          | (go_at_call 20; refine (ST.out _ HP5.out).mono ?_; rintro e w6 ⟨v6, rfl, hr6, hb6⟩; have HR6 := hid hr6; have HR6s := hid (row_keep HR5.out (fun k hk => hb6.block k (row_base HR5.out hk).2)); have HB6 := hid hb6; clear hr6 hb6)
          | (go_at_call 26; refine (rcommits_any HR6s.out HG.out (Nat.le_trans HD.out.many (by decide))).mono ?_; rintro e w7 ⟨rfl, hb7⟩; have HB7 := hid hb7; clear hb7)
          | go_in)
        have hb57 : Below w5.heap.size w5 w7 := HB6.out.trans (HB7.out.mono HB6.out.size)
        have hp7 : PgX w w7 pb l b p0 g' d' (fun k => v'.ownBlock = some k ∨ v6.ownBlock = some k) := px_add HP5.out hb57 (fun k hk => hk.imp id (fun e => (row_base HR6.out e).1)) (fun k hk => hk.elim (fun e => Nat.lt_of_lt_of_le (row_base HR5.out e).2 hb57.size) (fun e => Nat.lt_of_lt_of_le (row_base HR6.out e).2 HB7.out.size))
        have hr7 := row_keep HR6s.out (fun k hk => HB7.out.block k (row_base HR6s.out hk).2)
        have hr7b := row_keep HR6.out (fun k hk => HB7.out.block k (row_base HR6.out hk).2)
        have HP7 := hid hp7
        have HR7 := hid hr7
        have HR7b := hid hr7b
        clear hb57 hp7 hr7 hr7b
        go_upto_region 21 with (first
          | (go_at_call 14; refine (HV.out _ _ HP7.out).mono ?_; rintro e w8 ⟨rfl, hp8, hk8⟩; have HP8 := hid hp8; have HR8 := hid (row_keep HR7.out (fun k hk => hk8 k (.inl hk))); have HR8b := hid (row_keep HR7b.out (fun k hk => hk8 k (.inr hk))); clear hp8 hk8)
          | go_in)
        have SM := hid (same_eq HR8b.out HR8.out (Nat.le_trans HD.out.many (by decide)))
        go_upto_region 23 with (first
          | (go_at_call 27; refine (SM.out).mono ?_; rintro e w9 ⟨rfl, hb9⟩; have HB9 := hid hb9; clear hb9)
          | go_in)
        have hp9 : PgX w w9 pb l b p0 g' d' (fun k => v'.ownBlock = some k) := (HP8.out.below HB9.out).to (fun k hk => .inl hk)
        have SQ := hid (SN.out _ _ hp9)
        have hr9 := row_keep HR8.out (fun k hk => HB9.out.block k (row_base HR8.out hk).2)
        have HR9 := hid hr9
        have Hp9 := hid hp9
        clear hp9 hr9
        by_cases hk0 : commL L' = 0
        · have SQ' := SQ.out
          rw [if_pos hk0] at SQ'
          unfold ShGave shipV sh0 at SQ'
          dsimp only at SQ'
          replace SQ := hid SQ'
          have bk : (commL L' == 0) = true := by simp [hk0]
          clear SQ' hk0
          go_wp2_with (first
            | (go_at_call 15; refine (SQ.out).mono ?_; rintro e w10 ⟨v10, rfl, hr10, hp10, hk10⟩; obtain ⟨ao10, cap10, rfl, -⟩ := hr10.get; have HP10 := hid hp10; have HR10 := hid (row_keep HR9.out hk10); clear hr10 hp10 hk10)
            | go_in)
          go_roundw
          case rel =>
            have hb := (Below.refl w10.heap.size w10).alloc (Nat.le_refl _) (.cells #[.int .u8 0, .int .u64 0, .int .u64 0, .bool false, .int .i64 0, .slice ao10 ([] : List Img).length cap10] 31)
            exact ⟨i + 1, g', d', L', hlt, by simp, ⟨row_keep HR10.out (fun k hk => hb.block k (row_base HR10.out hk).2), HG.out, HD.out, by have := HSM.out; rwa [show 100 + 8519680 * (i + 1) = 100 + 8519680 * i + 8519680 by omega], (HP10.out.below hb).to (fun k hk => .inl hk)⟩⟩
          case measure => (simp [intOf]) <;> omega
        · have SQ' := SQ.out
          rw [if_neg hk0] at SQ'
          unfold ShGave shipV at SQ'
          dsimp only at SQ'
          replace SQ := hid SQ'
          have bk : (commL L' == 0) = false := by simp [hk0]
          clear SQ' hk0
          go_upto_region 27 with (first
            | (go_at_call 15; refine (SQ.out).mono ?_; rintro e w10 ⟨v10, rfl, hr10, hp10, hk10⟩; obtain ⟨ao10, cap10, rfl, -⟩ := hr10.get; have HP10 := hid hp10; have HR10 := hid (row_keep HR9.out hk10); have HI10 := hid hr10; clear hr10 hp10 hk10)
            | go_in)
          have hb11 := (Below.refl w10.heap.size w10).alloc (Nat.le_refl _) (.cells #[.int .u8 1, .int .u64 7, .int .u64 (commL L'), .bool true, .int .i64 (L'.length : Int), .slice ao10 (imgsOf L').length cap10] 31)
          have hz11 := heap_alloc_new w10 (.cells #[.int .u8 1, .int .u64 7, .int .u64 (commL L'), .bool true, .int .i64 (L'.length : Int), .slice ao10 (imgsOf L').length cap10] 31)
          obtain ⟨fb, hfb⟩ : ∃ fb, fb = w10.heap.size := ⟨_, rfl⟩
          obtain ⟨w11, hw11⟩ : ∃ w11, w11 = w10.alloc (.cells #[.int .u8 1, .int .u64 7, .int .u64 (commL L'), .bool true, .int .i64 (L'.length : Int), .slice ao10 (imgsOf L').length cap10] 31) := ⟨_, rfl⟩
          rw [← hw11] at hb11 hz11 ⊢
          rw [← hfb] at hz11 ⊢
          have hr11 := row_keep HR10.out (fun k hk => hb11.block k (row_base HR10.out hk).2)
          have hi11 := row_keep HI10.out (fun k hk => hb11.block k (row_base HI10.out hk).2)
          have hr11d : StrRow w11.drew w.heap.size v' L' := row_keep hr11 (fun k hk => rfl)
          have FU := hid (rfull_any hr11d HG.out HD.out.many 7)
          obtain ⟨c0, c1, c2, c3, c4, c5, -⟩ := cells6 hz11
          have HR11 := hid hr11
          have HI11 := hid hi11
          have HB11 := hid hb11
          have HZ11 := hid hz11
          have Hfl := hid (lt_of_block hz11)
          have hS := And.intro c0 (And.intro c1 (And.intro c2 (And.intro c3 (And.intro c4 c5))))
          clear hb11 hz11 hw11 hfb hr11 hi11 hr11d c0 c1 c2 c3 c4 c5
          refine wp_region_held_drew (S := fun Wx => Wx.cell? ⟨fb, 0, none⟩ = some (.int .u8 1) ∧ Wx.cell? ⟨fb, 1, none⟩ = some (.int .u64 7) ∧ Wx.cell? ⟨fb, 2, none⟩ = some (.int .u64 (commL L')) ∧ Wx.cell? ⟨fb, 3, none⟩ = some (.bool true) ∧ Wx.cell? ⟨fb, 4, none⟩ = some (.int .i64 (L'.length : Int)) ∧ Wx.cell? ⟨fb, 5, none⟩ = some (.slice ao10 (imgsOf L').length cap10)) (by kernel_rfl) hS (fun hHeld => ?_)
          clear hS
          refine held_take (v := ?av0) 0 rfl (by kernel_rfl) (by kernel_rfl) (by kernel_rfl) (fun _ _ _ h => h) (by rfl) hHeld ?ay0 ?ar0
          case ay0 => (intro W hSw; obtain ⟨y0, y1, y2, y3, y4, y5⟩ := hSw; go_simp; with_reducible rfl)
          simp only [Act.put, List.setIfInBounds_toArray, List.set_cons_zero, List.set_cons_succ]
          refine held_take (v := ?av1) 1 rfl (by kernel_rfl) (by kernel_rfl) (by kernel_rfl) (fun _ _ _ h => h) (by rfl) hHeld ?ay1 ?ar1
          case ay1 => (intro W hSw; obtain ⟨y0, y1, y2, y3, y4, y5⟩ := hSw; go_simp; with_reducible rfl)
          simp only [Act.put, List.setIfInBounds_toArray, List.set_cons_zero, List.set_cons_succ]
          refine held_take (v := ?av2) 2 rfl (by kernel_rfl) (by kernel_rfl) (by kernel_rfl) (fun _ _ _ h => h) (by rfl) hHeld ?ay2 ?ar2
          case ay2 => (intro W hSw; obtain ⟨y0, y1, y2, y3, y4, y5⟩ := hSw; go_simp; with_reducible rfl)
          simp only [Act.put, List.setIfInBounds_toArray, List.set_cons_zero, List.set_cons_succ]
          refine held_take (v := ?av3) 3 rfl (by kernel_rfl) (by kernel_rfl) (by kernel_rfl) (fun _ _ _ h => h) (by rfl) hHeld ?ay3 ?ar3
          case ay3 => (intro W hSw; obtain ⟨y0, y1, y2, y3, y4, y5⟩ := hSw; go_simp; with_reducible rfl)
          simp only [Act.put, List.setIfInBounds_toArray, List.set_cons_zero, List.set_cons_succ]
          refine held_take (v := ?av4) 4 rfl (by kernel_rfl) (by kernel_rfl) (by kernel_rfl) (fun _ _ _ h => h) (by rfl) hHeld ?ay4 ?ar4
          case ay4 => (intro W hSw; obtain ⟨y0, y1, y2, y3, y4, y5⟩ := hSw; go_simp; with_reducible rfl)
          simp only [Act.put, List.setIfInBounds_toArray, List.set_cons_zero, List.set_cons_succ]
          refine held_one 5 (by kernel_rfl) rfl (fun K hK => ?_)
          go_simp
          refine (FU.out).mono ?_
          rintro e w12 ⟨v12, rfl, hrow12, hb12⟩
          obtain ⟨a12, cap12, rfl, -⟩ := hrow12.get
          have hb12' : Below w11.heap.size w11 w12 := below_undrew hb12
          have hS12 : w12.cell? ⟨fb, 0, none⟩ = some (.int .u8 1) ∧ w12.cell? ⟨fb, 1, none⟩ = some (.int .u64 7) ∧ w12.cell? ⟨fb, 2, none⟩ = some (.int .u64 (commL L')) ∧ w12.cell? ⟨fb, 3, none⟩ = some (.bool true) ∧ w12.cell? ⟨fb, 4, none⟩ = some (.int .i64 (L'.length : Int)) ∧ w12.cell? ⟨fb, 5, none⟩ = some (.slice ao10 (imgsOf L').length cap10) := by
            obtain ⟨d0, d1, d2, d3, d4, d5, -⟩ := cells6 ((hb12'.block fb Hfl.out).trans HZ11.out)
            exact ⟨d0, d1, d2, d3, d4, d5⟩
          have SB := hid (refSame_self ⟨1, 7, commL L', true, (L'.length : Int), imgsOf L'⟩ (row_keep HI11.out (fun k hk => hb12'.block k (row_base HI11.out hk).2)) hrow12 (by rw [imgsOf_length]; exact Nat.le_trans HD.out.many (by decide)))
          have HB12 := hid hb12'
          have Hrow12 := hid hrow12
          have HS12 := hid hS12
          clear hrow12 hb12 hb12' hS12
          unfold shipV at SB
          refine hK.out _ _ (HS12.out) (fun hHeld => ?_)
          clear hK K
          try simp only [Act.put, List.setIfInBounds_toArray, List.set_cons_zero, List.set_cons_succ]
          refine held_one 6 (by kernel_rfl) rfl (fun K hK => ?_)
          go_simp
          refine (SB.out).mono ?_
          rintro e w13 ⟨rfl, hb13⟩
          have hS13 : w13.cell? ⟨fb, 0, none⟩ = some (.int .u8 1) ∧ w13.cell? ⟨fb, 1, none⟩ = some (.int .u64 7) ∧ w13.cell? ⟨fb, 2, none⟩ = some (.int .u64 (commL L')) ∧ w13.cell? ⟨fb, 3, none⟩ = some (.bool true) ∧ w13.cell? ⟨fb, 4, none⟩ = some (.int .i64 (L'.length : Int)) ∧ w13.cell? ⟨fb, 5, none⟩ = some (.slice ao10 (imgsOf L').length cap10) := by
            have h12 := (HB12.out.block fb Hfl.out).trans HZ11.out
            obtain ⟨d0, d1, d2, d3, d4, d5, -⟩ := cells6 ((hb13.block fb (lt_of_block h12)).trans h12)
            exact ⟨d0, d1, d2, d3, d4, d5⟩
          have HB13 := hid hb13
          have HS13 := hid hS13
          clear hb13 hS13
          refine hK.out _ _ (HS13.out) (fun hHeld => ?_)
          clear hK K
          try simp only [Act.put, List.setIfInBounds_toArray, List.set_cons_zero, List.set_cons_succ]
          refine held_take (v := ?cv7) 7 rfl (by kernel_rfl) (by kernel_rfl) (by kernel_rfl) (fun _ _ _ h => h) (by rfl) hHeld ?cy7 ?cr7
          case cy7 => (intro W hSw; obtain ⟨y0, y1, y2, y3, y4, y5⟩ := hSw; go_simp; with_reducible rfl)
          simp only [Act.put, List.setIfInBounds_toArray, List.set_cons_zero, List.set_cons_succ]
          refine held_take (v := ?cv8) 8 rfl (by kernel_rfl) (by kernel_rfl) (by kernel_rfl) (fun _ _ _ h => h) (by rfl) hHeld ?cy8 ?cr8
          case cy8 => (intro W hSw; obtain ⟨y0, y1, y2, y3, y4, y5⟩ := hSw; go_simp; with_reducible rfl)
          simp only [Act.put, List.setIfInBounds_toArray, List.set_cons_zero, List.set_cons_succ]
          clear hHeld
          refine wpAnyH_done (by kernel_rfl) ?_ _
          go_wp2_with fail
          go_roundw
          case rel =>
            have hb : Below w10.heap.size w10 w13 := HB11.out.trans ((HB12.out.trans (HB13.out.mono HB12.out.size)).mono HB11.out.size)
            exact ⟨i + 1, g', d', L', hlt, by simp, ⟨row_keep HR10.out (fun k hk => hb.block k (row_base HR10.out hk).2), HG.out, HD.out, by have := HSM.out; rwa [show 100 + 8519680 * (i + 1) = 100 + 8519680 * i + 8519680 by omega], (HP10.out.below hb).to (fun k hk => .inl hk)⟩⟩
          case measure => (simp [intOf]) <;> omega
    · obtain rfl : n = i := by omega
      have hgo : ¬ n < n := Nat.lt_irrefl n
      have HF := hid hf
      clear hf
      go_wp2_with fail
      go_ret
      exact ⟨rfl, HF.out.px.bel⟩
end
end Go.Proofs.YtdinjghfjmmjoaaGreat
