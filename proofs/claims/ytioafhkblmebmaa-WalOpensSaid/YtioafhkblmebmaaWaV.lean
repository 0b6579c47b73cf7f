/- A step's images. -/
import Derived.Test.YtioafhkblmebmaaWaT
namespace Go.Proofs.Ytioafhkblmebmaa
open Go.RowKit Go.Maps
set_option linter.unusedVariables false
set_option linter.unusedSimpArgs false

def putCells (p : PutM) : List Value := [.int .i64 p.page, .int .u8 (p.x.toNat : Int), .int .i64 p.short]
/-- Puts in memory. -/
def PutsIn (w : World) (ia : Option Addr) (l : List PutM) : Prop :=
  ∀ k (hk : k < l.length), ∃ q o, ia = some ⟨q, o, none⟩ ∧ q < w.heap.size ∧ ∀ j u, (putCells l[k])[j]? = some u → w.cell? ⟨q, o + k * 3 + j, none⟩ = some u
theorem PutsIn.below {w w' : World} {ia : Option Addr} {l : List PutM} (h : PutsIn w ia l) (hb : Below w.heap.size w w') : PutsIn w' ia l := fun k hk => by
  obtain ⟨q, o, h1, h2, h3⟩ := h k hk
  exact ⟨q, o, h1, Nat.lt_of_lt_of_le h2 hb.size, fun j u hj => (hb.cell (p := ⟨q, _, none⟩) h2).trans (h3 j u hj)⟩
def cutAt (short : Int) : Nat := 512 - (min (max short 0) 512).toNat
def imgOf (p : PutM) : Img := ⟨p.page, (pageOf p.x).take (cutAt p.short)⟩
def imgsV (l : List Img) : List Value := l.flatMap imgCells
theorem imgsV_snoc (l : List Img) (x : Img) : imgsV (l ++ [x]) = imgsV l ++ imgCells x := by simp [imgsV]
theorem imgsV_append (l m : List Img) : imgsV (l ++ m) = imgsV l ++ imgsV m := by simp [imgsV]
theorem imgsV_length : ∀ l : List Img, (imgsV l).length = l.length * 2
  | [] => rfl
  | x :: r => by
    have e : imgsV (x :: r) = imgCells x ++ imgsV r := rfl
    rw [e, List.length_append, imgsV_length r, List.length_cons]
    show 2 + _ = _
    omega
theorem imgCells_one (x : Img) : ∀ u ∈ imgCells x, u.oneCell' = true := by
  intro u hu
  simp only [imgCells, List.mem_cons, List.not_mem_nil, or_false] at hu
  rcases hu with rfl | rfl <;> rfl
theorem imgsV_one (l : List Img) : ∀ u ∈ imgsV l, u.oneCell' = true := by
  intro u hu
  obtain ⟨x, -, hx⟩ := List.mem_flatMap.1 hu
  exact imgCells_one x u hx
theorem imgsV_get : ∀ (l : List Img) (k : Nat) (h : k < l.length), (imgsV l)[k * 2]? = some (.int .i64 l[k].page) ∧ (imgsV l)[k * 2 + 1]? = some (.string (bs l[k].data))
  | x :: r, 0, _ => ⟨rfl, rfl⟩
  | x :: r, k + 1, h => by
    have e : imgsV (x :: r) = imgCells x ++ imgsV r := rfl
    have hl : (imgCells x).length = 2 := rfl
    have := imgsV_get r k (by simpa using h)
    rw [e, List.getElem?_append_right (by rw [hl]; omega), List.getElem?_append_right (by rw [hl]; omega), hl]
    rw [show (k + 1) * 2 - 2 = k * 2 by omega, show (k + 1) * 2 + 1 - 2 = k * 2 + 1 by omega]
    exact this
/-- An own row of images. -/
def ImgRow (w : World) (base : Nat) (v : Value) (l : List Img) : Prop := w.ownsRow base 53 2 v l.length (imgsV l)
theorem imgRow_nil (w : World) (base : Nat) : ImgRow w base (.slice none 0 0) [] := World.ownsRow_nil _ _ _ _
theorem ImgRow.get {w : World} {base : Nat} {v : Value} {l : List Img} (h : ImgRow w base v l) : ∃ ao cap, v = .slice ao l.length cap ∧ ∀ k (hk : k < l.length), ∃ q, ao = some ⟨q, 0, none⟩ ∧ base ≤ q ∧ q < w.heap.size ∧ w.cell? ⟨q, k * 2, none⟩ = some (.int .i64 l[k].page) ∧ w.cell? ⟨q, k * 2 + 1, none⟩ = some (.string (bs l[k].data)) := by
  obtain ⟨ao, cap, rfl, hc⟩ := row_slice h
  refine ⟨ao, cap, rfl, fun k hk => ?_⟩
  obtain ⟨c0, c1⟩ := imgsV_get l k hk
  obtain ⟨q, rfl, h0⟩ := hc (k * 2) _ (by omega) c0
  obtain ⟨q1, e1, h1⟩ := hc (k * 2 + 1) _ (by omega) c1
  obtain rfl : q = q1 := by simpa using e1
  have hb := row_base h (g := q) rfl
  exact ⟨q, rfl, hb.1, hb.2, h0, h1⟩
theorem ImgRow.at {w : World} {base : Nat} {v : Value} {l : List Img} (h : ImgRow w base v l) : ImgsAt w v l := by
  obtain ⟨ao, cap, rfl, hc⟩ := h.get
  refine ⟨ao, cap, rfl, fun k hk => ?_⟩
  obtain ⟨q, h1, -, h3, h4, h5⟩ := hc k hk
  exact ⟨q, h1, h3, h4, h5⟩
theorem ImgRow.keep {w w' : World} {base : Nat} {v : Value} {l : List Img} (h : ImgRow w base v l) (hk : ∀ k, base ≤ k → k < w.heap.size → w'.heap[k]? = w.heap[k]?) : ImgRow w' base v l :=
  row_keep h fun j hj => hk j (row_base h hj).1 (row_base h hj).2
theorem ImgRow.below {w w' : World} {base : Nat} {v : Value} {l : List Img} (h : ImgRow w base v l) (hb : Below w.heap.size w w') : ImgRow w' base v l := h.keep fun k _ hk => hb.block k hk

set_option maxHeartbeats 4000000 in
set_option maxRecDepth 20000 in
theorem images_any (w : World) (x : WOp) (hp : PutsIn w x.ia x.imgs) (hl : x.imgs.length ≤ 1048576) :
    Calls Try.prog 13 #[.agg (wopCells x).toArray] w fun e w' => ∃ v, e = .returned v ∧ ImgRow w' w.heap.size v (x.imgs.map imgOf) ∧ Below w.heap.size w w' := by
  obtain ⟨n, hn⟩ : ∃ n, n = x.imgs.length := ⟨_, rfl⟩
  obtain ⟨L, hL⟩ : ∃ L, L = x.imgs := ⟨_, rfl⟩
  obtain ⟨A, hA⟩ : ∃ A, A = x.ia := ⟨_, rfl⟩
  unfold wopCells
  rw [← hL] at hp hn hl ⊢
  rw [← hA] at hp ⊢
  rw [← hn] at hl ⊢
  clear hL hA
  have Hn := hid hn
  have HP := hid hp
  have Hl := hid hl
  have HB := hid (Below.refl w.heap.size w)
  obtain ⟨i0, hi0, hz0, hz1, hz2⟩ := info_parts (P := Try.prog) (e := 53) (z := .agg #[.int .i64 0, .string ⟨#[]⟩]) (size := 2) (bytes := 24) (by kernel_rfl)
  clear hn hp hl
  go_enter Try.func13, Try.ntmps13
  go_wp2_with fail
  go_loopw [3, 10] (fun v3 v10 wr => ∃ i : Nat, i ≤ n ∧ v10 = .int .i64 (i : Int) ∧ ImgRow wr w.heap.size v3 ((L.take i).map imgOf) ∧ Below w.heap.size w wr) (fun _ v10 _ => n - (intOf v10).toNat)
  case atStart => exact ⟨0, Nat.zero_le _, rfl, imgRow_nil _ _, HB.out.alloc (Nat.le_refl _) _⟩
  case round =>
    obtain ⟨i, hi, rfl, hrow, hbw⟩ := hrel
    have Hrow := hid hrow
    have HBw := hid hbw
    have hi3 : (i : Int) < 1048577 := by have := Hl.out; omega
    by_cases hlt : i < n
    · have hil : i < L.length := by have := Hn.out; omega
      obtain ⟨q, o, hia, hq, hcell⟩ := HP.out i hil
      subst hia
      obtain ⟨y, hy⟩ : ∃ y, y = L[i] := ⟨_, rfl⟩
      rw [← hy] at hcell
      have cc := fun j u hj => (hbw.cell (p := ⟨q, o + i * 3 + j, none⟩) hq).trans (hcell j u hj)
      have c0 := cc 0 _ rfl
      have c1 := cc 1 _ rfl
      have c2 := cc 2 _ rfl
      rw [Nat.add_zero] at c0
      have PG := hid (lpage_any y.x)
      obtain ⟨pg, hpg⟩ : ∃ pg, pg = pageOf y.x := ⟨_, rfl⟩
      rw [← hpg] at PG
      have hpl : pg.length = 512 := by rw [hpg]; exact pageOf_length _
      obtain ⟨m, hm⟩ : ∃ m, m = cutAt y.short := ⟨_, rfl⟩
      have hm5 : m ≤ 512 := by rw [hm]; unfold cutAt; omega
      have hmi : 512 - min (max y.short 0) 512 = (m : Int) := by rw [hm]; unfold cutAt; omega
      have hwm : IntKind.i64.wrap (512 - min (max y.short 0) 512) = (m : Int) := by rw [hmi]; exact IntWalk.i64_in _ (by omega)
      have Hy := hid hy
      have Himg := hid (show imgOf y = ⟨y.page, pg.take m⟩ by unfold imgOf; rw [← hpg, ← hm])
      have Hmi := hid hmi
      have Hwm := hid hwm
      clear hy hcell cc hbw hrow hpg hm hmi hwm
      go_upto_region 6 with (first
        | (go_at_call 25; refine (PG.out _).mono ?_; rintro e w2 ⟨rfl, hb2⟩; have Hb2 := hid hb2; clear hb2)
        | go_in)
      have hx5 : w2.heap[wr.heap.size]? = some (.cells #[.int .i64 y.page, .int .u8 (y.x.toNat : Int), .int .i64 y.short] 96 (0, 0)) := (Hb2.out.block _ (by simp)).trans (heap_alloc_new wr _)
      have hb02 : Below wr.heap.size wr w2 := then_below ((Below.refl _ wr).alloc (Nat.le_refl _) _) Hb2.out
      have hrow2 := Hrow.out.below hb02
      have hbel2 : Below w.heap.size w w2 := HBw.out.trans (hb02.mono HBw.out.size)
      have hx5lt := lt_of_block hx5
      have hnown : some wr.heap.size ≠ Value.ownBlock u3 := fun e => by have := (row_base Hrow.out e.symm).2; omega
      have HX5 := hid hx5
      have HR2 := hid hrow2
      have HBel2 := hid hbel2
      have HNown := hid hnown
      clear hx5 hb02 hrow2 hbel2 hnown c0 c1 c2 Hb2 Hrow HBw PG
      have hwm := Hwm.out
      have hm5i : (m : Int) ≤ 512 := by omega
      refine wp_region_held_drew (S := fun W => W.cell? ⟨wr.heap.size, 0, none⟩ = some (.int .i64 y.page) ∧ W.cell? ⟨wr.heap.size, 2, none⟩ = some (.int .i64 y.short)) (by kernel_rfl) ⟨(cell_of_block HX5.out 0).trans rfl, (cell_of_block HX5.out 2).trans rfl⟩ (fun hHeld => ?_)
      refine held_take (v := ?pv0) 0 rfl (by kernel_rfl) (by kernel_rfl) (by kernel_rfl) (fun _ _ _ h => h) (by rfl) hHeld ?py0 ?pr0
      case py0 => (intro W hSw; obtain ⟨y0, y1⟩ := hSw; go_simp; with_reducible rfl)
      simp only [Act.put, List.setIfInBounds_toArray, List.set_cons_zero, List.set_cons_succ]
      refine held_take (v := ?pv1) 1 rfl (by kernel_rfl) (by kernel_rfl) (by kernel_rfl) (fun _ _ _ h => h) (by rfl) hHeld ?py1 ?pr1
      case py1 => (intro W hSw; obtain ⟨y0, y1⟩ := hSw; go_simp; with_reducible rfl)
      simp only [Act.put, List.setIfInBounds_toArray, List.set_cons_zero, List.set_cons_succ]
      refine held_take (v := ?pv2) 2 rfl (by kernel_rfl) (by kernel_rfl) (by kernel_rfl) (fun _ _ _ h => h) (by rfl) hHeld ?py2 ?pr2
      case py2 => (intro W hSw; obtain ⟨y0, y1⟩ := hSw; go_simp; with_reducible rfl)
      simp only [Act.put, List.setIfInBounds_toArray, List.set_cons_zero, List.set_cons_succ]
      refine held_take (v := ?pv3) 3 rfl (by kernel_rfl) (by kernel_rfl) (by kernel_rfl) (fun _ _ _ h => h) (by rfl) hHeld ?py3 ?pr3
      case py3 => (intro W hSw; obtain ⟨y0, y1⟩ := hSw; go_simp; with_reducible rfl)
      simp only [Act.put, List.setIfInBounds_toArray, List.set_cons_zero, List.set_cons_succ]
      refine held_take (v := ?pv4) 4 rfl (by kernel_rfl) (by kernel_rfl) (by kernel_rfl) (fun _ _ _ h => h) (by rfl) hHeld ?py4 ?pr4
      case py4 => (intro W hSw; obtain ⟨y0, y1⟩ := hSw; go_simp; with_reducible rfl)
      simp only [Act.put, List.setIfInBounds_toArray, List.set_cons_zero, List.set_cons_succ]
      refine held_take (v := ?pv5) 5 rfl (by kernel_rfl) (by kernel_rfl) (by kernel_rfl) (fun _ _ _ h => h) (by rfl) hHeld ?py5 ?pr5
      case py5 => (intro W hSw; obtain ⟨y0, y1⟩ := hSw; go_simp; with_reducible rfl)
      simp only [Act.put, List.setIfInBounds_toArray, List.set_cons_zero, List.set_cons_succ]
      refine held_take (v := ?pv6) 6 rfl (by kernel_rfl) (by kernel_rfl) (by kernel_rfl) (fun _ _ _ h => h) (by rfl) hHeld ?py6 ?pr6
      case py6 => (intro W hSw; obtain ⟨y0, y1⟩ := hSw; go_simp; with_reducible rfl)
      simp only [Act.put, List.setIfInBounds_toArray, List.set_cons_zero, List.set_cons_succ]
      refine held_take (v := ?pv7) 7 rfl (by kernel_rfl) (by kernel_rfl) (by kernel_rfl) (fun _ _ _ h => h) (by rfl) hHeld ?py7 ?pr7
      case py7 => (intro W hSw; obtain ⟨y0, y1⟩ := hSw; go_simp; with_reducible rfl)
      simp only [Act.put, List.setIfInBounds_toArray, List.set_cons_zero, List.set_cons_succ]
      refine held_take (v := ?pv8) 8 rfl (by kernel_rfl) (by kernel_rfl) (by kernel_rfl) (fun _ _ _ h => h) (by rfl) hHeld ?py8 ?pr8
      case py8 => (intro W hSw; obtain ⟨y0, y1⟩ := hSw; go_simp; with_reducible rfl)
      simp only [Act.put, List.setIfInBounds_toArray, List.set_cons_zero, List.set_cons_succ]
      refine held_take (v := ?pv9) 9 rfl (by kernel_rfl) (by kernel_rfl) (by kernel_rfl) (fun _ _ _ h => h) (by rfl) hHeld ?py9 ?pr9
      case py9 => (intro W hSw; obtain ⟨y0, y1⟩ := hSw; go_simp; with_reducible rfl)
      simp only [Act.put, List.setIfInBounds_toArray, List.set_cons_zero, List.set_cons_succ]
      refine held_take (v := ?pv10) 10 rfl (by kernel_rfl) (by kernel_rfl) (by kernel_rfl) (fun _ _ _ h => h) (by rfl) hHeld ?py10 ?pr10
      case py10 => (intro W hSw; obtain ⟨y0, y1⟩ := hSw; go_simp; with_reducible rfl)
      simp only [Act.put, List.setIfInBounds_toArray, List.set_cons_zero, List.set_cons_succ]
      refine held_take (v := ?pv11) 11 rfl (by kernel_rfl) (by kernel_rfl) (by kernel_rfl) (fun _ _ _ h => h) (by rfl) hHeld ?py11 ?pr11
      case py11 => (intro W hSw; obtain ⟨y0, y1⟩ := hSw; go_simp; with_reducible rfl)
      simp only [Act.put, List.setIfInBounds_toArray, List.set_cons_zero, List.set_cons_succ]
      refine held_take (v := ?pv12) 12 rfl (by kernel_rfl) (by kernel_rfl) (by kernel_rfl) (fun _ _ _ h => h) (by rfl) hHeld ?py12 ?pr12
      case py12 => (intro W hSw; obtain ⟨y0, y1⟩ := hSw; go_simp; with_reducible rfl)
      simp only [Act.put, List.setIfInBounds_toArray, List.set_cons_zero, List.set_cons_succ]
      refine held_take (v := ?pv13) 13 rfl (by kernel_rfl) (by kernel_rfl) (by kernel_rfl) (fun _ _ _ h => h) (by rfl) hHeld ?py13 ?pr13
      case py13 => (intro W hSw; obtain ⟨y0, y1⟩ := hSw; go_simp; with_reducible rfl)
      simp only [Act.put, List.setIfInBounds_toArray, List.set_cons_zero, List.set_cons_succ]
      refine held_take (v := ?pv14) 14 rfl (by kernel_rfl) (by kernel_rfl) (by kernel_rfl) (fun _ _ _ h => h) (by rfl) hHeld ?py14 ?pr14
      case py14 => (intro W hSw; obtain ⟨y0, y1⟩ := hSw; go_simp; with_reducible rfl)
      simp only [Act.put, List.setIfInBounds_toArray, List.set_cons_zero, List.set_cons_succ]
      refine held_one 15 (by kernel_rfl) rfl (fun K hK => ?_)
      go_simp
      have hx7 : ((w2.alloc (.cells #[.int .i64 y.page, .string (bs (pg.take m))] 53)).drew).heap[w2.heap.size]? = some (.cells #[.int .i64 y.page, .string (bs (pg.take m))] 53 (0, 0)) := heap_alloc_new w2 _
      have hb7 : Below w2.heap.size w2 ((w2.alloc (.cells #[.int .i64 y.page, .string (bs (pg.take m))] 53)).drew) := ((Below.refl _ w2).alloc (Nat.le_refl _) _).drew
      have hs7 : ((w2.alloc (.cells #[.int .i64 y.page, .string (bs (pg.take m))] 53)).drew).heap.size = w2.heap.size + 1 := by simp
      obtain ⟨w7, hw7⟩ : ∃ w7, w7 = (w2.alloc (.cells #[.int .i64 y.page, .string (bs (pg.take m))] 53)).drew := ⟨_, rfl⟩
      rw [← hw7] at hx7 hb7 hs7
      have h7eq : (w2.drew.alloc (.cells #[.int .i64 y.page, .string (bs (pg.take m))] 53)) = w7 := hw7.symm
      first | rw [h7eq] | rw [← hw7]
      have h57 := (hb7.block _ hx5lt).trans HX5.out
      have hrow7 : ImgRow w7 w.heap.size u3 ((L.take i).map imgOf) := HR2.out.below hb7
      have hbel7 : Below w.heap.size w w7 := HBel2.out.trans (hb7.mono HBel2.out.size)
      clear hw7 h7eq
      refine hK.out _ _ (⟨(cell_of_block h57 0).trans rfl, (cell_of_block h57 2).trans rfl⟩) (fun hHeld => ?_)
      clear hK K
      try simp only [Act.put, List.setIfInBounds_toArray, List.set_cons_zero, List.set_cons_succ]
      have hll : ((L.take i).map imgOf).length = i := by have := Hn.out; simp; omega
      have hrow7' : w7.ownsRow w.heap.size 53 2 u3 i (imgsV ((L.take i).map imgOf)) := by
        have := hrow7
        unfold ImgRow at this
        rwa [hll] at this
      refine held_one 16 (by kernel_rfl) rfl (fun K hK => ?_)
      refine step_append_lies _ (by rfl) _ _ 36 (by rfl) w.heap.size 53 i0 _ 2 24 Try.underlying36 hi0 hz0 hz1 hz2 rfl (by omega) u3 i (imgsV ((L.take i).map imgOf)) (by rfl) hrow7' ⟨w2.heap.size, 0, none⟩ 1 1 (imgCells ⟨y.page, pg.take m⟩) (by rfl) (by rfl) (World.news_of_block (w := w7) (cs := (imgCells ⟨y.page, pg.take m⟩).toArray) (t := 53) (fr := (0, 0)) hx7) (imgCells_one _) (by omega) (by unfold maxLen; omega) (by omega) (by have := hbel7.size; omega) (w2.heap.size + 1) hs7 ?_
      intro g8 cap8 w8 hown8 hgrow8 hat8 hlt8
      have h58 := (hgrow8.block _ (by rw [hs7]; omega) HNown.out).trans h57
      have hbel8 : Below w.heap.size w w8 := hbel7.grown hgrow8 hbel7.size (fun j hj => (row_base hrow7 hj).1)
      have hown8' : ImgRow w8 w.heap.size (.slice (some ⟨g8, 0, none⟩) (i + 1) cap8) ((L.take (i + 1)).map imgOf) := by
        have e : (L.take (i + 1)).map imgOf = (L.take i).map imgOf ++ [⟨y.page, pg.take m⟩] := by
          rw [List.take_succ_eq_append_getElem hil, List.map_append, ← Hy.out, List.map_cons, List.map_nil, Himg.out]
        unfold ImgRow
        rw [e, imgsV_snoc, List.length_append, hll]
        exact hown8
      have REL := hid (And.intro hown8' hbel8)
      refine hK.out _ _ (⟨(cell_of_block h58 0).trans rfl, (cell_of_block h58 2).trans rfl⟩) (fun hHeld => ?_)
      clear hK K
      try simp only [Act.put, List.setIfInBounds_toArray, List.set_cons_zero, List.set_cons_succ]
      clear hx7 hb7 hs7 h57 hrow7 hbel7 hll hrow7' hown8 hgrow8 hat8 hlt8 hbel8 hown8'
      refine held_one 17 (by kernel_rfl) rfl (fun K hK => ?_)
      go_simp
      refine hK.out _ _ (⟨(cell_of_block h58 0).trans rfl, (cell_of_block h58 2).trans rfl⟩) (fun hHeld => ?_)
      clear hK K
      try simp only [Act.put, List.setIfInBounds_toArray, List.set_cons_zero, List.set_cons_succ]
      clear h58 hHeld
      refine wpAnyH_done (by kernel_rfl) ?_ _
      go_wp2_with fail
      go_roundw
      case rel => exact ⟨i + 1, hlt, by simp, REL.out.1, REL.out.2⟩
      case measure => (simp [intOf]) <;> omega
    · obtain rfl : n = i := by omega
      go_wp2_with fail
      go_ret
      refine ⟨_, rfl, ?_, HBw.out⟩
      have := Hrow.out
      rwa [List.take_of_length_le (by have := Hn.out; omega)] at this
end Go.Proofs.Ytioafhkblmebmaa
