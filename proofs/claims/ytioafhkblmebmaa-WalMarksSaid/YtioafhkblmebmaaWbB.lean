/- The law WalMarks. -/
import Derived.Test.YtioafhkblmebmaaWaX
namespace Go.Proofs.Ytioafhkblmebmaa
open Go.RowKit Go.Maps
set_option linter.unusedVariables false
set_option linter.unusedSimpArgs false

def frImg (f : Fr) : Img := ⟨f.page, f.data⟩
theorem frsOf_imgs (pages : Int) (l : List Img) : (frsOf pages l).map frImg = l := by
  apply List.ext_getElem
  · simp [frsOf_length]
  · intro i h1 h2
    rw [List.getElem_map, frsOf_get pages l i h2]
    rfl
def strsV (l : List (List UInt8)) : List Value := l.map fun s => .string (bs s)
theorem strsV_snoc (l : List (List UInt8)) (s : List UInt8) : strsV (l ++ [s]) = strsV l ++ [.string (bs s)] := by simp [strsV]
theorem strsV_length (l : List (List UInt8)) : (strsV l).length = l.length := by simp [strsV]
theorem strsV_one (l : List (List UInt8)) : ∀ u ∈ strsV l, u.oneCell' = true := by
  intro u hu
  obtain ⟨s, -, rfl⟩ := List.mem_map.1 hu
  rfl
/-- An own row of strings. -/
def StrRow (w : World) (base : Nat) (v : Value) (l : List (List UInt8)) : Prop := w.ownsRow base 9 1 v l.length (strsV l)
theorem strRow_nil (w : World) (base : Nat) : StrRow w base (.slice none 0 0) [] := World.ownsRow_nil _ _ _ _
theorem StrRow.get {w : World} {base : Nat} {v : Value} {l : List (List UInt8)} (h : StrRow w base v l) : ∃ ao cap, v = .slice ao l.length cap ∧ ∀ k (hk : k < l.length), ∃ q, ao = some ⟨q, 0, none⟩ ∧ w.cell? ⟨q, k, none⟩ = some (.string (bs l[k])) := by
  obtain ⟨ao, cap, rfl, hc⟩ := row_slice h
  refine ⟨ao, cap, rfl, fun k hk => ?_⟩
  obtain ⟨q, rfl, h0⟩ := hc k (.string (bs l[k])) (by omega) (by simp [strsV, hk])
  exact ⟨q, rfl, h0⟩
/-- Rows of images and of strings lie apart. -/
theorem rows_apart {w : World} {B1 B2 : Nat} {v1 v2 : Value} {la : List Img} {wl : List (List UInt8)} (h1 : ImgRow w B1 v1 la) (h2 : StrRow w B2 v2 wl) {k : Nat} (e1 : v1.ownBlock = some k) (e2 : v2.ownBlock = some k) : False := by
  rcases h1.2 with ⟨rfl, -⟩ | ⟨g, cap, cur, rfl, -, hg, -⟩
  · cases e1
  rcases h2.2 with ⟨rfl, -⟩ | ⟨g2, cap2, cur2, rfl, -, hg2, -⟩
  · cases e2
  injection e1 with e1
  injection e2 with e2
  subst e1
  subst e2
  rw [hg] at hg2
  injection hg2 with hg2
  injection hg2 with _ h5 _
  exact absurd h5 (by decide)
/-- The pages 1 to c at a mark. -/
def wasOf (l : List Fr) (m : Nat) (c : Nat) : List (List UInt8) := (List.range c).map fun (n : Nat) => pageL l ((n : Int) + 1) m
theorem wasOf_succ (l : List Fr) (m c : Nat) : wasOf l m (c + 1) = wasOf l m c ++ [pageL l ((c : Int) + 1) m] := by simp [wasOf, List.range_succ]
theorem wasOf_length (l : List Fr) (m c : Nat) : (wasOf l m c).length = c := by simp [wasOf]
theorem wasOf_append (l k : List Fr) (m c : Nat) (h : m ≤ l.length) : wasOf (l ++ k) m c = wasOf l m c := by
  unfold wasOf
  apply List.map_congr_left
  intro n _
  exact pageL_append l k _ m h
def rowsX (v8 v10 : Value) : Nat → Prop := fun k => v8.ownBlock = some k ∨ v10.ownBlock = some k
/-- A log, the row of all images, the row of pages. -/
structure MI (w W : World) (lb b : Nat) (g : Lg) (d : Dsk) (la : List Img) (ws : List (List UInt8)) (v8 v10 : Value) : Prop where
  log : MkX w W lb b g d (rowsX v8 v10)
  all : ImgRow W w.heap.size v8 la
  was : StrRow W w.heap.size v10 ws
section
variable {w W W' : World} {lb b : Nat} {g g' : Lg} {d d' : Dsk} {la : List Img} {ws : List (List UInt8)} {v8 v10 : Value}
theorem StrRow.keep {base : Nat} {v : Value} (h : StrRow W base v ws) (hk : ∀ k, v.ownBlock = some k → W'.heap[k]? = W.heap[k]?) : StrRow W' base v ws := row_keep h fun j hj => hk j hj
theorem MI.below (h : MI w W lb b g d la ws v8 v10) (hb : Below W.heap.size W W') : MI w W' lb b g d la ws v8 v10 :=
  ⟨h.log.below hb, h.all.below hb, h.was.keep fun k hk => hb.block k (row_base h.was hk).2⟩
theorem MI.did (h : MI w W lb b g d la ws v8 v10) (hm : MkX w W' lb b g' d' (rowsX v8 v10)) (hx : ∀ k, rowsX v8 v10 k → W'.heap[k]? = W.heap[k]?) : MI w W' lb b g' d' la ws v8 v10 :=
  ⟨hm, row_keep h.all fun j hj => hx j (.inl hj), row_keep h.was fun j hj => hx j (.inr hj)⟩
theorem rowsX_lt (h1 : ImgRow W w.heap.size v8 la) (h2 : StrRow W w.heap.size v10 ws) : ∀ k, rowsX v8 v10 k → k < W.heap.size := fun k hk => hk.elim (fun e => (row_base h1 e).2) (fun e => (row_base h2 e).2)
theorem MI.push (h : MI w W lb b g d la ws v8 v10) {v' : Value} {s : List UInt8} (hown : W'.ownsRow w.heap.size 9 1 v' (ws.length + 1) (strsV ws ++ [.string (bs s)])) (hg : W.grownBy W' v10.ownBlock) (hb : v'.ownBlock = v10.ownBlock ∨ v'.ownBlock = some W.heap.size) : MI w W' lb b g d la (ws ++ [s]) v8 v' := by
  have hall : ImgRow W' w.heap.size v8 la := row_keep h.all fun j hj => hg.block j (row_base h.all hj).2 fun e => rows_apart h.all h.was hj e.symm
  have hwas : StrRow W' w.heap.size v' (ws ++ [s]) := by
    unfold StrRow
    rw [strsV_snoc, List.length_append]
    exact hown
  exact ⟨h.log.grow hg (fun k e => .inr e) (fun k e => (row_base h.was e).1) (fun k hk => hk.elim (fun e => .inl (.inl e)) (fun e => hb.elim (fun f => .inl (.inr (f.symm.trans e))) (fun f => .inr (Nat.le_of_eq (by rw [f] at e; injection e))))) (rowsX_lt hall hwas), hall, hwas⟩
theorem MI.pushAll (h : MI w W lb b g d la ws v8 v10) {v' : Value} {x : List Img} (hown : W'.ownsRow w.heap.size 53 2 v' (la.length + x.length) (imgsV la ++ imgsV x)) (hg : W.grownBy W' v8.ownBlock) (hb : v'.ownBlock = v8.ownBlock ∨ v'.ownBlock = some W.heap.size) : MI w W' lb b g d (la ++ x) ws v' v10 := by
  have hwas : StrRow W' w.heap.size v10 ws := row_keep h.was fun j hj => hg.block j (row_base h.was hj).2 fun e => rows_apart h.all h.was e.symm hj
  have hall : ImgRow W' w.heap.size v' (la ++ x) := by
    unfold ImgRow
    rw [imgsV_append, List.length_append]
    exact hown
  exact ⟨h.log.grow hg (fun k e => .inl e) (fun k e => (row_base h.all e).1) (fun k hk => hk.elim (fun e => hb.elim (fun f => .inl (.inl (f.symm.trans e))) (fun f => .inr (Nat.le_of_eq (by rw [f] at e; injection e)))) (fun e => .inl (.inr e))) (rowsX_lt hall hwas), hall, hwas⟩
end
/-- What is so ahead of step i. -/
structure MR (w W : World) (lb b : Nat) (g : Lg) (d : Dsk) (wl : List (List UInt8)) (mk at_ : Int) (v8 v10 : Value) (i : Nat) : Prop where
  mi : MI w W lb b g d (g.list.map frImg) wl v8 v10
  small : d.Small (100 + 131072 * i)
  zero : d.now 0 = []
  mark : wl = [] ∨ ∃ m : Nat, mk = (m : Int) ∧ m ≤ g.list.length ∧ wl = wasOf g.list m 10
  fresh : (i : Int) ≤ at_ → wl = []
theorem app_pos {pages : Int} {x : List Img} {g : Lg} {d : Dsk} (h : (lappendM pages x g d).1 = 0) : 0 < x.length := by
  rcases Nat.eq_zero_or_pos x.length with h0 | h0
  · unfold lappendM at h
    split at h
    · cases h
    · rw [if_pos (.inr (.inr h0))] at h
      cases h
  · exact h0
theorem exG0_list : exG0.list = [] := rfl
attribute [local irreducible] exG0

set_option maxHeartbeats 8000000 in
set_option maxRecDepth 20000 in
theorem marks_any (w : World) (v : Value) (l : List WOp) (h : ScriptAt w v l) (at_ : Int) (hat : -9223372036854775808 ≤ at_ ∧ at_ ≤ 9223372036854775807) : Calls Try.prog 4 #[v, .int .i64 at_] w fun e w' => e = .returned (.bool true) ∧ Below w.heap.size w w' := by
  have HS := hid h
  have Hat := hid hat
  obtain ⟨ao, cap, rfl, hc⟩ := h.ops
  clear hc h hat
  obtain ⟨n, hn⟩ : ∃ n, n = l.length := ⟨_, rfl⟩
  have Hn := hid hn
  rw [← hn] at HS ⊢
  clear hn
  go_enter Try.func4, Try.ntmps4
  go_upto_region 12 with (first
    | (go_at_call 7; refine (works_any _).mono ?_; rintro e w1 ⟨rfl, hb1⟩; have Hb1 := hid hb1; have HS1 := hid (HS.out.below hb1); clear hb1 HS)
    | (go_at_call 8; refine (heavy_any _ _ l HS1.out.ops HS1.out.len).mono ?_; rintro e w2 ⟨r, rfl, hr, hb2⟩; have Hr := hid hr; have Hb2 := hid (Hb1.out.trans (hb2.mono Hb1.out.size)); have HS2 := hid (HS1.out.below hb2); clear hb2 HS1 hr)
    | (go_at_call 10; refine (mk_new _).mono ?_; rintro e w4 ⟨b, rfl, hd4⟩; have Hd4 := hid hd4; clear hd4)
    | (go_at_call 11; refine (mk_open Hd4.out ex_open).mono ?_; rintro e w5 ⟨lb, rfl, hm5⟩; have Hm5 := hid hm5; clear hm5)
    | go_in)
  · go_ret
    exact ⟨rfl, Hb2.out⟩
  · go_ret
    exact ⟨rfl, Hb2.out⟩
  have HL := hid (Hr.out (Bool.eq_false_iff.2 (by assumption)))
  clear Hr Hb1
  obtain ⟨i0, hi0, hz0, hz1, hz2⟩ := info_parts (P := Try.prog) (e := 53) (z := .agg #[.int .i64 0, .string ⟨#[]⟩]) (size := 2) (bytes := 24) (by kernel_rfl)
  obtain ⟨s0, hs0, hy0, hy1, hy2⟩ := info_parts (P := Try.prog) (e := 9) (z := .string ⟨#[]⟩) (size := 1) (bytes := 16) (by kernel_rfl)
  go_wp2_with fail
  go_loopw [8, 9, 10, 41] (fun v8 v9 v10 v41 wr => ∃ (i : Nat) (g : Lg) (d : Dsk) (wl : List (List UInt8)) (mk : Int), i ≤ n ∧ v41 = .int .i64 (i : Int) ∧ v9 = .int .i64 mk ∧ MR w2 wr lb b g d wl mk at_ v8 v10 i) (fun _ _ _ v41 _ => n - (intOf v41).toNat)
  case atStart => exact ⟨0, exG0, newM, [], -1, Nat.zero_le _, rfl, rfl, ⟨⟨Hm5.out.x.to (fun k hk => by rcases hk with h | h <;> cases h), by rw [exG0_list]; exact imgRow_nil _ _, strRow_nil _ _⟩, new_small, rfl, .inl rfl, fun _ => rfl⟩⟩
  case round =>
    obtain ⟨i, g, d, wl, mk, hi, rfl, rfl, hmr⟩ := hrel
    have HM := hid hmr.mi
    have Hsm := hid hmr.small
    have Hz := hid hmr.zero
    have Hmark := hid hmr.mark
    have Hfr := hid hmr.fresh
    have hn80 : n ≤ 80 := by have := HL.out.1; have := Hn.out; omega
    have hi3 : (i : Int) < 81 := by omega
    by_cases hlt : i < n
    · have hil : i < l.length := by have := Hn.out; omega
      obtain ⟨q1, o, hao, hq1, hcell⟩ := HS2.out.ops.get hil
      subst hao
      obtain ⟨y, hy⟩ : ∃ y, y = l[i] := ⟨_, rfl⟩
      have hyl : y ∈ l := by rw [hy]; exact List.getElem_mem hil
      rw [← hy] at hcell
      have cc := fun j u hj => (HM.out.log.bel.cell (p := ⟨q1, o + i * 8 + j, none⟩) hq1).trans (hcell j u hj)
      have c0 := cc 0 _ rfl
      have c1 := cc 1 _ rfl
      have c2 := cc 2 _ rfl
      have c3 := cc 3 _ rfl
      have c4 := cc 4 _ rfl
      have c5 := cc 5 _ rfl
      have c6 := cc 6 _ rfl
      have c7 := cc 7 _ rfl
      rw [Nat.add_zero] at c0
      have HPw := hid (HS2.out.puts y hyl)
      have HPy := hid (show PutsIn wr y.ia y.imgs from HPw.out.below HM.out.log.bel)
      have hyi : y.imgs.length ≤ 300 := HL.out.2 y hyl
      clear hy hyl hcell cc hmr
      by_cases hk : y.kind = 0
      · have k0 : (y.kind == 0) = true := by simp [hk]
        obtain ⟨X, hX⟩ : ∃ X, X = y.imgs.map imgOf := ⟨_, rfl⟩
        have hXl : X.length ≤ 300 := by rw [hX]; simpa using hyi
        obtain ⟨gt, hgt⟩ : ∃ gt, gt = (lappendM y.pages X g d).2.1 := ⟨_, rfl⟩
        obtain ⟨dt, hdt⟩ : ∃ dt, dt = (lappendM y.pages X g d).2.2 := ⟨_, rfl⟩
        obtain ⟨e1, he1⟩ : ∃ e1, e1 = (lappendM y.pages X g d).1 := ⟨_, rfl⟩
        have AP : ∀ W, MkX w2 W lb b g d (fun k => rowsX u8 u10 k ∨ k = wr.heap.size) → ∀ v, ImgsAt W v (y.imgs.map imgOf) → Calls Try.prog 12 #[.pointer (some ⟨lb, 0, none⟩), .int .i64 y.pages, v] W fun e w' => e = .returned (.int .i64 e1) ∧ MkX w2 w' lb b gt dt (fun k => rowsX u8 u10 k ∨ k = wr.heap.size) ∧ (∀ k, rowsX u8 u10 k ∨ k = wr.heap.size → w'.heap[k]? = W.heap[k]?) := fun W hm v hv => by
          rw [he1, hgt, hdt, hX]
          rw [hX] at hXl
          exact mkx_append hm _ Hsm.out (by omega) y.pages v _ hv (by omega)
        have AP := hid AP
        have hl := app_list y.pages X g d
        rw [← hgt, ← he1] at hl
        have Hts := hid (show dt.Small (100 + 131072 * (i + 1)) by rw [hdt]; exact app_small _ _ _ _ _ _ (by omega) Hsm.out)
        have Htz := hid (show dt.now 0 = [] by rw [hdt, app_now0]; exact Hz.out)
        have Htm := hid (show wl = [] ∨ ∃ m : Nat, mk = (m : Int) ∧ m ≤ gt.list.length ∧ wl = wasOf gt.list m 10 by
          rcases Hmark.out with h | ⟨m, h1, h2, h3⟩
          · exact .inl h
          · refine .inr ⟨m, h1, ?_⟩
            rw [hl]
            split
            · exact ⟨by simp; omega, by rw [wasOf_append _ _ _ _ h2]; exact h3⟩
            · exact ⟨h2, h3⟩)
        have hgl : g.list.length ≤ 256 := HM.out.log.mk'.okLg.many
        clear hk Hz Hmark
        by_cases he0 : e1 = 0
        · have hpos := app_pos (he1.symm.trans he0)
          have b0 : (e1 == 0) = true := by simp [he0]
          rw [if_pos he0] at hl
          have hla := hid (show g.list.map frImg ++ X = gt.list.map frImg by rw [hl, List.map_append, frsOf_imgs])
          have HX := hid hX
          have hlen0 : (g.list.map frImg).length + X.length ≤ 556 := by rw [List.length_map]; omega
          have hlen1 : (g.list.map frImg).length + X.length ≤ maxLen := by unfold maxLen; omega
          have hlen2 : ((g.list.map frImg).length + X.length) * 24 ≤ 140737488355328 := by omega
          clear hl hgt hdt he1 hX he0
          go_upto_region 15 with fail
          have hbox : (wr.alloc (.cells (wopCells y).toArray 34)).heap[wr.heap.size]? = some (.cells (wopCells y).toArray 34 (0, 0)) := heap_alloc_new wr _
          have hb1 : Below wr.heap.size wr (wr.alloc (.cells (wopCells y).toArray 34)) := (Below.refl _ wr).alloc (Nat.le_refl _) _
          change Code.wp _ _ _ _ (wr.alloc (.cells (wopCells y).toArray 34))
          obtain ⟨w6, hw6⟩ : ∃ w6, w6 = wr.alloc (.cells (wopCells y).toArray 34) := ⟨_, rfl⟩
          rw [← hw6] at hbox hb1 ⊢
          have HPy6 := hid (HPy.out.below hb1.drew)
          have HM6 := hid (HM.out.below hb1.drew)
          have Hbx6 := hid (fun k (hk : rowsX u8 u10 k) => rowsX_lt HM.out.all HM.out.was k hk)
          have H6 := hid (show MkX w2 w6.drew lb b g d (fun k => rowsX u8 u10 k ∨ k = wr.heap.size) from HM.out.log.add hb1.drew (fun k hk => hk.elim .inl fun e => .inr (Nat.le_of_eq e.symm)) (fun k hk => hk.elim (fun e => Nat.lt_of_lt_of_le (Hbx6.out k e) hb1.size) (fun e => by rw [e]; exact lt_of_block (w := w6.drew) hbox)))
          have Hbox := hid hbox
          have hbd : ∀ j, w6.drew.cell? ⟨wr.heap.size, j, none⟩ = (wopCells y)[j]? := fun j => (cell_of_block (w := w6.drew) hbox j).trans (by simp)
          clear hw6 hbox hb1 c0 c1 c2 c3 c4 c5 c6 c7 HPy HM
          refine wp_region_held_drew (S := fun W => W.cell? ⟨wr.heap.size, 0, none⟩ = some (.int .i64 y.kind) ∧ W.cell? ⟨wr.heap.size, 1, none⟩ = some (.int .i64 y.pages) ∧ W.cell? ⟨wr.heap.size, 2, none⟩ = some (.int .i64 y.n) ∧ W.cell? ⟨wr.heap.size, 3, none⟩ = some (.int .i64 y.file) ∧ W.cell? ⟨wr.heap.size, 4, none⟩ = some (.slice y.ia y.imgs.length y.icap) ∧ W.cell? ⟨wr.heap.size, 5, none⟩ = some (.bool y.space) ∧ W.cell? ⟨wr.heap.size, 6, none⟩ = some (.slice y.ka y.keep.length y.kcap) ∧ W.cell? ⟨wr.heap.size, 7, none⟩ = some (.string (bs y.s))) (by kernel_rfl) ⟨hbd 0, hbd 1, hbd 2, hbd 3, hbd 4, hbd 5, hbd 6, hbd 7⟩ (fun hHeld => ?_)
          clear hbd
          refine held_take (v := ?pv0) 0 rfl (by kernel_rfl) (by kernel_rfl) (by kernel_rfl) (fun _ _ _ h => h) (by rfl) hHeld ?py0 ?pr0
          case py0 => (intro W hSw; obtain ⟨y0, y1, y2, y3, y4, y5, y6, y7⟩ := hSw; go_simp; with_reducible rfl)
          simp only [Act.put, List.setIfInBounds_toArray, List.set_cons_zero, List.set_cons_succ]
          refine held_take (v := ?pv1) 1 rfl (by kernel_rfl) (by kernel_rfl) (by kernel_rfl) (fun _ _ _ h => h) (by rfl) hHeld ?py1 ?pr1
          case py1 => (intro W hSw; obtain ⟨y0, y1, y2, y3, y4, y5, y6, y7⟩ := hSw; go_simp; with_reducible rfl)
          simp only [Act.put, List.setIfInBounds_toArray, List.set_cons_zero, List.set_cons_succ]
          refine held_take (v := ?pv2) 2 rfl (by kernel_rfl) (by kernel_rfl) (by kernel_rfl) (fun _ _ _ h => h) (by rfl) hHeld ?py2 ?pr2
          case py2 => (intro W hSw; obtain ⟨y0, y1, y2, y3, y4, y5, y6, y7⟩ := hSw; go_simp; with_reducible rfl)
          simp only [Act.put, List.setIfInBounds_toArray, List.set_cons_zero, List.set_cons_succ]
          refine held_take (v := ?pv3) 3 rfl (by kernel_rfl) (by kernel_rfl) (by kernel_rfl) (fun _ _ _ h => h) (by rfl) hHeld ?py3 ?pr3
          case py3 => (intro W hSw; obtain ⟨y0, y1, y2, y3, y4, y5, y6, y7⟩ := hSw; go_simp; with_reducible rfl)
          simp only [Act.put, List.setIfInBounds_toArray, List.set_cons_zero, List.set_cons_succ]
          refine held_take (v := ?pv4) 4 rfl (by kernel_rfl) (by kernel_rfl) (by kernel_rfl) (fun _ _ _ h => h) (by rfl) hHeld ?py4 ?pr4
          case py4 => (intro W hSw; obtain ⟨y0, y1, y2, y3, y4, y5, y6, y7⟩ := hSw; go_simp; with_reducible rfl)
          simp only [Act.put, List.setIfInBounds_toArray, List.set_cons_zero, List.set_cons_succ]
          refine held_take (v := ?pv5) 5 rfl (by kernel_rfl) (by kernel_rfl) (by kernel_rfl) (fun _ _ _ h => h) (by rfl) hHeld ?py5 ?pr5
          case py5 => (intro W hSw; obtain ⟨y0, y1, y2, y3, y4, y5, y6, y7⟩ := hSw; go_simp; with_reducible rfl)
          simp only [Act.put, List.setIfInBounds_toArray, List.set_cons_zero, List.set_cons_succ]
          refine held_take (v := ?pv6) 6 rfl (by kernel_rfl) (by kernel_rfl) (by kernel_rfl) (fun _ _ _ h => h) (by rfl) hHeld ?py6 ?pr6
          case py6 => (intro W hSw; obtain ⟨y0, y1, y2, y3, y4, y5, y6, y7⟩ := hSw; go_simp; with_reducible rfl)
          simp only [Act.put, List.setIfInBounds_toArray, List.set_cons_zero, List.set_cons_succ]
          refine held_take (v := ?pv7) 7 rfl (by kernel_rfl) (by kernel_rfl) (by kernel_rfl) (fun _ _ _ h => h) (by rfl) hHeld ?py7 ?pr7
          case py7 => (intro W hSw; obtain ⟨y0, y1, y2, y3, y4, y5, y6, y7⟩ := hSw; go_simp; with_reducible rfl)
          simp only [Act.put, List.setIfInBounds_toArray, List.set_cons_zero, List.set_cons_succ]
          refine held_one 8 (by kernel_rfl) rfl (fun K hK => ?_)
          go_simp
          refine (images_any _ y HPy6.out (by omega)).mono ?_
          rintro e w7 ⟨v7, rfl, hv7, hb7⟩
          have H7 := hid (H6.out.below hb7)
          have HM7 := hid (HM6.out.below hb7)
          have HV7 := hid hv7
          have hbx7 := (hb7.block _ (lt_of_block (w := w6.drew) Hbox.out)).trans Hbox.out
          have hbd7 : ∀ j, w7.cell? ⟨wr.heap.size, j, none⟩ = (wopCells y)[j]? := fun j => (cell_of_block hbx7 j).trans (by simp)
          have Hbx7 := hid hbx7
          clear hv7 hb7 hbx7 H6 HPy6 HM6 Hbx6
          try dsimp only
          refine hK.out _ _ (⟨hbd7 0, hbd7 1, hbd7 2, hbd7 3, hbd7 4, hbd7 5, hbd7 6, hbd7 7⟩) (fun hHeld => ?_)
          clear hK K
          try simp only [Act.put, List.setIfInBounds_toArray, List.set_cons_zero, List.set_cons_succ]
          clear hbd7
          refine held_one 9 (by kernel_rfl) rfl (fun K hK => ?_)
          go_simp
          refine (AP.out _ H7.out v7 HV7.out.at).mono ?_
          rintro e w8 ⟨rfl, hm8, hx8⟩
          have HT := hid (HM7.out.did (hm8.to fun k hk => .inl hk) (fun k hk => hx8 k (.inl hk)))
          have hbd8 : ∀ j, w8.cell? ⟨wr.heap.size, j, none⟩ = (wopCells y)[j]? := fun j => (cell_of_block ((hx8 _ (.inr rfl)).trans Hbx7.out) j).trans (by simp)
          clear hm8 H7 HV7 hx8 HM7 AP Hbox Hbx7
          try dsimp only
          refine hK.out _ _ (⟨hbd8 0, hbd8 1, hbd8 2, hbd8 3, hbd8 4, hbd8 5, hbd8 6, hbd8 7⟩) (fun hHeld => ?_)
          clear hK K
          try simp only [Act.put, List.setIfInBounds_toArray, List.set_cons_zero, List.set_cons_succ]
          refine held_take (v := ?pbv10) 10 rfl (by kernel_rfl) (by kernel_rfl) (by kernel_rfl) (fun _ _ _ h => h) (by rfl) hHeld ?pby10 ?pbr10
          case pby10 => (intro W hSw; obtain ⟨y0, y1, y2, y3, y4, y5, y6, y7⟩ := hSw; go_simp; with_reducible rfl)
          simp only [Act.put, List.setIfInBounds_toArray, List.set_cons_zero, List.set_cons_succ]
          refine held_take (v := ?pbv11) 11 rfl (by kernel_rfl) (by kernel_rfl) (by kernel_rfl) (fun _ _ _ h => h) (by rfl) hHeld ?pby11 ?pbr11
          case pby11 => (intro W hSw; obtain ⟨y0, y1, y2, y3, y4, y5, y6, y7⟩ := hSw; go_simp; with_reducible rfl)
          simp only [Act.put, List.setIfInBounds_toArray, List.set_cons_zero, List.set_cons_succ]
          clear hHeld
          refine wpAnyH_done (by kernel_rfl) ?_ _
          have HPw8 := hid (HPw.out.below HT.out.log.bel)
          have d0 := hbd8 0
          have d1 := hbd8 1
          have d2 := hbd8 2
          have d3 := hbd8 3
          have d4 := hbd8 4
          have d5 := hbd8 5
          have d6 := hbd8 6
          have d7 := hbd8 7
          simp only [wopCells, List.getElem?_cons_zero, List.getElem?_cons_succ] at d0 d1 d2 d3 d4 d5 d6 d7
          clear hbd8
          go_upto_region 17 with (first
            | (go_at_call 13; refine (images_any _ y HPw8.out (by omega)).mono ?_; rintro e w9 ⟨v9, rfl, hv9, hb9⟩; rw [← HX.out] at hv9; obtain ⟨ao9, cap9, rfl, hg9⟩ := hv9.get; obtain ⟨q9, hq9, -, -, -⟩ := hg9 0 hpos; subst hq9; have HV9 := hid hv9; have HT9 := hid (HT.out.below hb9); clear hv9 hb9 hg9 d0 d1 d2 d3 d4 d5 d6 d7)
            | (at_builtin; refine wpList_append_own_at _ rfl _ _ 36 rfl w2.heap.size 53 i0 _ 2 24 Try.underlying36 hi0 hz0 hz1 hz2 rfl (by omega) _ (g.list.map frImg).length (imgsV (g.list.map frImg)) rfl HT9.out.all ⟨q9, 0, none⟩ X.length cap9 (imgsV X) rfl (imgsV_length _) (World.ownsRow.cells (show World.ownsRow _ _ _ _ _ _ _ from HV9.out) rfl) (imgsV_one _) hlen1 hlen2 HT9.out.log.bel.size ?_; intro V8 w10 hown10 hgrow10 hnil10 hblk10; have HT10 := hid (HT9.out.pushAll hown10 hgrow10 hblk10); clear hown10 hgrow10 hnil10 hblk10)
            | go_in)
          replace HT := hid (show MI w2 w10 lb b gt dt (gt.list.map frImg) wl V8 u10 by rw [← hla.out]; exact HT10.out)
          clear HT10 HT9 HV9 hla HX hlen0 hlen1 hlen2 hpos
          by_cases hia : (i : Int) = at_
          · have hia1 : ((i : Int) == at_) = true := by simp [hia]
            have hwl : wl = [] := Hfr.out (by omega)
            subst hwl
            have Hia := hid hia
            obtain ⟨m, hm⟩ : ∃ m, m = gt.list.length := ⟨_, rfl⟩
            have MA := mk_mark HT.out.log.mk'
            rw [← hm] at MA
            have MA := hid MA
            have hm256 : m ≤ 256 := by rw [hm]; exact HT.out.log.mk'.okLg.many
            have Hm := hid hm
            clear hia hm
            go_wp2_with (first
              | (go_at_call 15; refine (MA.out).mono ?_; rintro e w9 ⟨rfl, hw⟩; obtain rfl := hw.symm)
              | go_in)
            go_loopw [13, 10] (fun v13 v10 wq => ∃ j : Nat, j ≤ 10 ∧ v13 = .int .i64 ((j : Int) + 1) ∧ MI w2 wq lb b gt dt (gt.list.map frImg) (wasOf gt.list m j) V8 v10) (fun v13 _ _ => 11 - (intOf v13).toNat)
            case atStart => exact ⟨0, by omega, rfl, HT.out⟩
            case round =>
              obtain ⟨j, hj, rfl, hmi⟩ := hrel
              have HI := hid hmi
              by_cases hj10 : j < 10
              · have hjle : (j : Int) + 1 ≤ 10 := by omega
                have PA := mk_page hmi.log.mk' ((j : Int) + 1) (m : Int)
                rw [pageM_none Htz.out _ m (by omega) (by omega) (by have := Hm.out; omega)] at PA
                obtain ⟨s, hs⟩ : ∃ s, s = pageL gt.list ((j : Int) + 1) m := ⟨_, rfl⟩
                rw [← hs] at PA
                dsimp only at PA
                obtain ⟨ws, hws⟩ : ∃ ws, ws = wasOf gt.list m j := ⟨_, rfl⟩
                rw [← hws] at HI
                have Hwsl := hid (show ws.length = j by rw [hws, wasOf_length])
                have Hws := hid hws
                have Hs := hid hs
                have PA := hid PA
                have hjw : IntKind.i64.wrap ((j : Int) + 1 + 1) = (j : Int) + 1 + 1 := IntWalk.i64_in _ (by omega)
                clear hs hws hmi
                go_wp2_with (first
                  | (go_at_call 19; refine (PA.out).mono ?_; rintro e wp ⟨rfl, hbp⟩; have HP2 := hid (HI.out.below hbp); clear hbp)
                  | (at_builtin; refine wpList_append_own_at _ rfl _ _ 44 rfl w2.heap.size 9 s0 _ 1 16 Try.underlying44 hs0 hy0 hy1 hy2 rfl (by omega) _ ws.length (strsV ws) rfl ((HP2.out.below ((Below.refl _ wp).alloc (Nat.le_refl _) (.cells #[.string (bs s)] 9))).was) ⟨wp.heap.size, 0, none⟩ 1 1 [.string (bs s)] rfl (by simp) (World.news_of_block (cs := #[.string (bs s)]) (t := 9) (fr := (0, 0)) (heap_alloc_new wp _)) (by intro u hu; rw [List.mem_singleton.1 hu]; rfl) (by have := Hwsl.out; unfold maxLen; omega) (by have := Hwsl.out; omega) (by have := HP2.out.log.bel.size; simp; omega) ?_; intro v' w7 hown7 hgrow7 hnil7 hblk7; have HI7 := hid ((HP2.out.below ((Below.refl _ wp).alloc (Nat.le_refl _) (.cells #[.string (bs s)] 9))).push hown7 hgrow7 hblk7); clear hown7 hgrow7 hnil7 hblk7)
                  | go_in)
                go_roundw
                case rel => exact ⟨j + 1, hj10, by simp, by rw [wasOf_succ, ← Hs.out, ← Hws.out]; exact HI7.out⟩
                case measure => (simp [intOf]) <;> omega
              · obtain rfl : j = 10 := by omega
                have hjle : ¬ (((10 : Nat) : Int) + 1 ≤ 10) := by omega
                clear hmi
                go_wp2_with fail
                go_roundw
                case rel => exact ⟨i + 1, gt, dt, wasOf gt.list m 10, m, hlt, by simp, rfl, ⟨HI.out, Hts.out, Htz.out, .inr ⟨m, rfl, by have := Hm.out; omega, rfl⟩, fun e => by have := Hia.out; omega⟩⟩
                case measure => (simp [intOf]) <;> omega
          · have hia1 : ((i : Int) == at_) = false := by simp [hia]
            clear hia
            go_wp2_with fail
            go_roundw
            case rel => exact ⟨i + 1, gt, dt, wl, mk, hlt, by simp, rfl, ⟨HT.out, Hts.out, Htz.out, Htm.out, fun e => Hfr.out (by omega)⟩⟩
            case measure => (simp [intOf]) <;> omega
        · have b0 : (e1 == 0) = false := by simp [he0]
          rw [if_neg he0] at hl
          have hla := hid (show g.list.map frImg = gt.list.map frImg by rw [hl])
          clear hl hgt hdt he1 hX he0
          go_upto_region 15 with fail
          have hbox : (wr.alloc (.cells (wopCells y).toArray 34)).heap[wr.heap.size]? = some (.cells (wopCells y).toArray 34 (0, 0)) := heap_alloc_new wr _
          have hb1 : Below wr.heap.size wr (wr.alloc (.cells (wopCells y).toArray 34)) := (Below.refl _ wr).alloc (Nat.le_refl _) _
          change Code.wp _ _ _ _ (wr.alloc (.cells (wopCells y).toArray 34))
          obtain ⟨w6, hw6⟩ : ∃ w6, w6 = wr.alloc (.cells (wopCells y).toArray 34) := ⟨_, rfl⟩
          rw [← hw6] at hbox hb1 ⊢
          have HPy6 := hid (HPy.out.below hb1.drew)
          have HM6 := hid (HM.out.below hb1.drew)
          have Hbx6 := hid (fun k (hk : rowsX u8 u10 k) => rowsX_lt HM.out.all HM.out.was k hk)
          have H6 := hid (show MkX w2 w6.drew lb b g d (fun k => rowsX u8 u10 k ∨ k = wr.heap.size) from HM.out.log.add hb1.drew (fun k hk => hk.elim .inl fun e => .inr (Nat.le_of_eq e.symm)) (fun k hk => hk.elim (fun e => Nat.lt_of_lt_of_le (Hbx6.out k e) hb1.size) (fun e => by rw [e]; exact lt_of_block (w := w6.drew) hbox)))
          have Hbox := hid hbox
          have hbd : ∀ j, w6.drew.cell? ⟨wr.heap.size, j, none⟩ = (wopCells y)[j]? := fun j => (cell_of_block (w := w6.drew) hbox j).trans (by simp)
          clear hw6 hbox hb1 c0 c1 c2 c3 c4 c5 c6 c7 HPy HM
          refine wp_region_held_drew (S := fun W => W.cell? ⟨wr.heap.size, 0, none⟩ = some (.int .i64 y.kind) ∧ W.cell? ⟨wr.heap.size, 1, none⟩ = some (.int .i64 y.pages) ∧ W.cell? ⟨wr.heap.size, 2, none⟩ = some (.int .i64 y.n) ∧ W.cell? ⟨wr.heap.size, 3, none⟩ = some (.int .i64 y.file) ∧ W.cell? ⟨wr.heap.size, 4, none⟩ = some (.slice y.ia y.imgs.length y.icap) ∧ W.cell? ⟨wr.heap.size, 5, none⟩ = some (.bool y.space) ∧ W.cell? ⟨wr.heap.size, 6, none⟩ = some (.slice y.ka y.keep.length y.kcap) ∧ W.cell? ⟨wr.heap.size, 7, none⟩ = some (.string (bs y.s))) (by kernel_rfl) ⟨hbd 0, hbd 1, hbd 2, hbd 3, hbd 4, hbd 5, hbd 6, hbd 7⟩ (fun hHeld => ?_)
          clear hbd
          refine held_take (v := ?qv0) 0 rfl (by kernel_rfl) (by kernel_rfl) (by kernel_rfl) (fun _ _ _ h => h) (by rfl) hHeld ?qy0 ?qr0
          case qy0 => (intro W hSw; obtain ⟨y0, y1, y2, y3, y4, y5, y6, y7⟩ := hSw; go_simp; with_reducible rfl)
          simp only [Act.put, List.setIfInBounds_toArray, List.set_cons_zero, List.set_cons_succ]
          refine held_take (v := ?qv1) 1 rfl (by kernel_rfl) (by kernel_rfl) (by kernel_rfl) (fun _ _ _ h => h) (by rfl) hHeld ?qy1 ?qr1
          case qy1 => (intro W hSw; obtain ⟨y0, y1, y2, y3, y4, y5, y6, y7⟩ := hSw; go_simp; with_reducible rfl)
          simp only [Act.put, List.setIfInBounds_toArray, List.set_cons_zero, List.set_cons_succ]
          refine held_take (v := ?qv2) 2 rfl (by kernel_rfl) (by kernel_rfl) (by kernel_rfl) (fun _ _ _ h => h) (by rfl) hHeld ?qy2 ?qr2
          case qy2 => (intro W hSw; obtain ⟨y0, y1, y2, y3, y4, y5, y6, y7⟩ := hSw; go_simp; with_reducible rfl)
          simp only [Act.put, List.setIfInBounds_toArray, List.set_cons_zero, List.set_cons_succ]
          refine held_take (v := ?qv3) 3 rfl (by kernel_rfl) (by kernel_rfl) (by kernel_rfl) (fun _ _ _ h => h) (by rfl) hHeld ?qy3 ?qr3
          case qy3 => (intro W hSw; obtain ⟨y0, y1, y2, y3, y4, y5, y6, y7⟩ := hSw; go_simp; with_reducible rfl)
          simp only [Act.put, List.setIfInBounds_toArray, List.set_cons_zero, List.set_cons_succ]
          refine held_take (v := ?qv4) 4 rfl (by kernel_rfl) (by kernel_rfl) (by kernel_rfl) (fun _ _ _ h => h) (by rfl) hHeld ?qy4 ?qr4
          case qy4 => (intro W hSw; obtain ⟨y0, y1, y2, y3, y4, y5, y6, y7⟩ := hSw; go_simp; with_reducible rfl)
          simp only [Act.put, List.setIfInBounds_toArray, List.set_cons_zero, List.set_cons_succ]
          refine held_take (v := ?qv5) 5 rfl (by kernel_rfl) (by kernel_rfl) (by kernel_rfl) (fun _ _ _ h => h) (by rfl) hHeld ?qy5 ?qr5
          case qy5 => (intro W hSw; obtain ⟨y0, y1, y2, y3, y4, y5, y6, y7⟩ := hSw; go_simp; with_reducible rfl)
          simp only [Act.put, List.setIfInBounds_toArray, List.set_cons_zero, List.set_cons_succ]
          refine held_take (v := ?qv6) 6 rfl (by kernel_rfl) (by kernel_rfl) (by kernel_rfl) (fun _ _ _ h => h) (by rfl) hHeld ?qy6 ?qr6
          case qy6 => (intro W hSw; obtain ⟨y0, y1, y2, y3, y4, y5, y6, y7⟩ := hSw; go_simp; with_reducible rfl)
          simp only [Act.put, List.setIfInBounds_toArray, List.set_cons_zero, List.set_cons_succ]
          refine held_take (v := ?qv7) 7 rfl (by kernel_rfl) (by kernel_rfl) (by kernel_rfl) (fun _ _ _ h => h) (by rfl) hHeld ?qy7 ?qr7
          case qy7 => (intro W hSw; obtain ⟨y0, y1, y2, y3, y4, y5, y6, y7⟩ := hSw; go_simp; with_reducible rfl)
          simp only [Act.put, List.setIfInBounds_toArray, List.set_cons_zero, List.set_cons_succ]
          refine held_one 8 (by kernel_rfl) rfl (fun K hK => ?_)
          go_simp
          refine (images_any _ y HPy6.out (by omega)).mono ?_
          rintro e w7 ⟨v7, rfl, hv7, hb7⟩
          have H7 := hid (H6.out.below hb7)
          have HM7 := hid (HM6.out.below hb7)
          have HV7 := hid hv7
          have hbx7 := (hb7.block _ (lt_of_block (w := w6.drew) Hbox.out)).trans Hbox.out
          have hbd7 : ∀ j, w7.cell? ⟨wr.heap.size, j, none⟩ = (wopCells y)[j]? := fun j => (cell_of_block hbx7 j).trans (by simp)
          have Hbx7 := hid hbx7
          clear hv7 hb7 hbx7 H6 HPy6 HM6 Hbx6
          try dsimp only
          refine hK.out _ _ (⟨hbd7 0, hbd7 1, hbd7 2, hbd7 3, hbd7 4, hbd7 5, hbd7 6, hbd7 7⟩) (fun hHeld => ?_)
          clear hK K
          try simp only [Act.put, List.setIfInBounds_toArray, List.set_cons_zero, List.set_cons_succ]
          clear hbd7
          refine held_one 9 (by kernel_rfl) rfl (fun K hK => ?_)
          go_simp
          refine (AP.out _ H7.out v7 HV7.out.at).mono ?_
          rintro e w8 ⟨rfl, hm8, hx8⟩
          have HT := hid (HM7.out.did (hm8.to fun k hk => .inl hk) (fun k hk => hx8 k (.inl hk)))
          have hbd8 : ∀ j, w8.cell? ⟨wr.heap.size, j, none⟩ = (wopCells y)[j]? := fun j => (cell_of_block ((hx8 _ (.inr rfl)).trans Hbx7.out) j).trans (by simp)
          clear hm8 H7 HV7 hx8 HM7 AP Hbox Hbx7
          try dsimp only
          refine hK.out _ _ (⟨hbd8 0, hbd8 1, hbd8 2, hbd8 3, hbd8 4, hbd8 5, hbd8 6, hbd8 7⟩) (fun hHeld => ?_)
          clear hK K
          try simp only [Act.put, List.setIfInBounds_toArray, List.set_cons_zero, List.set_cons_succ]
          refine held_take (v := ?qbv10) 10 rfl (by kernel_rfl) (by kernel_rfl) (by kernel_rfl) (fun _ _ _ h => h) (by rfl) hHeld ?qby10 ?qbr10
          case qby10 => (intro W hSw; obtain ⟨y0, y1, y2, y3, y4, y5, y6, y7⟩ := hSw; go_simp; with_reducible rfl)
          simp only [Act.put, List.setIfInBounds_toArray, List.set_cons_zero, List.set_cons_succ]
          refine held_take (v := ?qbv11) 11 rfl (by kernel_rfl) (by kernel_rfl) (by kernel_rfl) (fun _ _ _ h => h) (by rfl) hHeld ?qby11 ?qbr11
          case qby11 => (intro W hSw; obtain ⟨y0, y1, y2, y3, y4, y5, y6, y7⟩ := hSw; go_simp; with_reducible rfl)
          simp only [Act.put, List.setIfInBounds_toArray, List.set_cons_zero, List.set_cons_succ]
          clear hHeld
          refine wpAnyH_done (by kernel_rfl) ?_ _
          clear hbd8
          rw [hla.out] at HT
          clear hla
          by_cases hia : (i : Int) = at_
          · have hia1 : ((i : Int) == at_) = true := by simp [hia]
            have hwl : wl = [] := Hfr.out (by omega)
            subst hwl
            have Hia := hid hia
            obtain ⟨m, hm⟩ : ∃ m, m = gt.list.length := ⟨_, rfl⟩
            have MA := mk_mark HT.out.log.mk'
            rw [← hm] at MA
            have MA := hid MA
            have hm256 : m ≤ 256 := by rw [hm]; exact HT.out.log.mk'.okLg.many
            have Hm := hid hm
            clear hia hm
            go_wp2_with (first
              | (go_at_call 15; refine (MA.out).mono ?_; rintro e w9 ⟨rfl, hw⟩; obtain rfl := hw.symm)
              | go_in)
            go_loopw [13, 10] (fun v13 v10 wq => ∃ j : Nat, j ≤ 10 ∧ v13 = .int .i64 ((j : Int) + 1) ∧ MI w2 wq lb b gt dt (gt.list.map frImg) (wasOf gt.list m j) u8 v10) (fun v13 _ _ => 11 - (intOf v13).toNat)
            case atStart => exact ⟨0, by omega, rfl, HT.out⟩
            case round =>
              obtain ⟨j, hj, rfl, hmi⟩ := hrel
              have HI := hid hmi
              by_cases hj10 : j < 10
              · have hjle : (j : Int) + 1 ≤ 10 := by omega
                have PA := mk_page hmi.log.mk' ((j : Int) + 1) (m : Int)
                rw [pageM_none Htz.out _ m (by omega) (by omega) (by have := Hm.out; omega)] at PA
                obtain ⟨s, hs⟩ : ∃ s, s = pageL gt.list ((j : Int) + 1) m := ⟨_, rfl⟩
                rw [← hs] at PA
                dsimp only at PA
                obtain ⟨ws, hws⟩ : ∃ ws, ws = wasOf gt.list m j := ⟨_, rfl⟩
                rw [← hws] at HI
                have Hwsl := hid (show ws.length = j by rw [hws, wasOf_length])
                have Hws := hid hws
                have Hs := hid hs
                have PA := hid PA
                have hjw : IntKind.i64.wrap ((j : Int) + 1 + 1) = (j : Int) + 1 + 1 := IntWalk.i64_in _ (by omega)
                clear hs hws hmi
                go_wp2_with (first
                  | (go_at_call 19; refine (PA.out).mono ?_; rintro e wp ⟨rfl, hbp⟩; have HP2 := hid (HI.out.below hbp); clear hbp)
                  | (at_builtin; refine wpList_append_own_at _ rfl _ _ 44 rfl w2.heap.size 9 s0 _ 1 16 Try.underlying44 hs0 hy0 hy1 hy2 rfl (by omega) _ ws.length (strsV ws) rfl ((HP2.out.below ((Below.refl _ wp).alloc (Nat.le_refl _) (.cells #[.string (bs s)] 9))).was) ⟨wp.heap.size, 0, none⟩ 1 1 [.string (bs s)] rfl (by simp) (World.news_of_block (cs := #[.string (bs s)]) (t := 9) (fr := (0, 0)) (heap_alloc_new wp _)) (by intro u hu; rw [List.mem_singleton.1 hu]; rfl) (by have := Hwsl.out; unfold maxLen; omega) (by have := Hwsl.out; omega) (by have := HP2.out.log.bel.size; simp; omega) ?_; intro v' w7 hown7 hgrow7 hnil7 hblk7; have HI7 := hid ((HP2.out.below ((Below.refl _ wp).alloc (Nat.le_refl _) (.cells #[.string (bs s)] 9))).push hown7 hgrow7 hblk7); clear hown7 hgrow7 hnil7 hblk7)
                  | go_in)
                go_roundw
                case rel => exact ⟨j + 1, hj10, by simp, by rw [wasOf_succ, ← Hs.out, ← Hws.out]; exact HI7.out⟩
                case measure => (simp [intOf]) <;> omega
              · obtain rfl : j = 10 := by omega
                have hjle : ¬ (((10 : Nat) : Int) + 1 ≤ 10) := by omega
                clear hmi
                go_wp2_with fail
                go_roundw
                case rel => exact ⟨i + 1, gt, dt, wasOf gt.list m 10, m, hlt, by simp, rfl, ⟨HI.out, Hts.out, Htz.out, .inr ⟨m, rfl, by have := Hm.out; omega, rfl⟩, fun e => by have := Hia.out; omega⟩⟩
                case measure => (simp [intOf]) <;> omega
          · have hia1 : ((i : Int) == at_) = false := by simp [hia]
            clear hia
            go_wp2_with fail
            go_roundw
            case rel => exact ⟨i + 1, gt, dt, wl, mk, hlt, by simp, rfl, ⟨HT.out, Hts.out, Htz.out, Htm.out, fun e => Hfr.out (by omega)⟩⟩
            case measure => (simp [intOf]) <;> omega
      · have k0 : (y.kind == 0) = false := by simp [hk]
        clear hk HPy
        obtain ⟨gt, hgt⟩ : ∃ gt, gt = g := ⟨_, rfl⟩
        obtain ⟨dt, hdt⟩ : ∃ dt, dt = d := ⟨_, rfl⟩
        subst hgt
        subst hdt
        go_upto_region 15 with fail
        have hbox : (wr.alloc (.cells (wopCells y).toArray 34)).heap[wr.heap.size]? = some (.cells (wopCells y).toArray 34 (0, 0)) := heap_alloc_new wr _
        have hb1 : Below wr.heap.size wr (wr.alloc (.cells (wopCells y).toArray 34)) := (Below.refl _ wr).alloc (Nat.le_refl _) _
        change Code.wp _ _ _ _ (wr.alloc (.cells (wopCells y).toArray 34))
        obtain ⟨w6, hw6⟩ : ∃ w6, w6 = wr.alloc (.cells (wopCells y).toArray 34) := ⟨_, rfl⟩
        rw [← hw6] at hbox hb1 ⊢
        have d0 : w6.cell? ⟨wr.heap.size, 0, none⟩ = some (.int .i64 y.kind) := (cell_of_block hbox 0).trans rfl
        have HT6 := hid (HM.out.below hb1)
        clear hw6 hbox hb1 c0 c1 c2 c3 c4 c5 c6 c7
        go_quiet (fail)
        have HT := hid (HT6.out.below (show Below w6.heap.size w6 (w6.drewN nq) from ⟨rfl, rfl, rfl, Nat.le_refl _, fun _ _ => rfl⟩))
        obtain ⟨wq6, hwq6⟩ : ∃ wq6, wq6 = w6.drewN nq := ⟨_, rfl⟩
        rw [← hwq6] at HT ⊢
        clear hwq6 HT6 d0
        have Hts := hid (show dt.Small (100 + 131072 * (i + 1)) from Hsm.out.mono (by omega))
        have Htz := Hz
        have Htm := Hmark
        clear Hz Hmark HM Hsm
        by_cases hia : (i : Int) = at_
        · have hia1 : ((i : Int) == at_) = true := by simp [hia]
          have hwl : wl = [] := Hfr.out (by omega)
          subst hwl
          have Hia := hid hia
          obtain ⟨m, hm⟩ : ∃ m, m = gt.list.length := ⟨_, rfl⟩
          have MA := mk_mark HT.out.log.mk'
          rw [← hm] at MA
          have MA := hid MA
          have hm256 : m ≤ 256 := by rw [hm]; exact HT.out.log.mk'.okLg.many
          have Hm := hid hm
          clear hia hm
          go_wp2_with (first
            | (go_at_call 15; refine (MA.out).mono ?_; rintro e w9 ⟨rfl, hw⟩; obtain rfl := hw.symm)
            | go_in)
          go_loopw [13, 10] (fun v13 v10 wq => ∃ j : Nat, j ≤ 10 ∧ v13 = .int .i64 ((j : Int) + 1) ∧ MI w2 wq lb b gt dt (gt.list.map frImg) (wasOf gt.list m j) u8 v10) (fun v13 _ _ => 11 - (intOf v13).toNat)
          case atStart => exact ⟨0, by omega, rfl, HT.out⟩
          case round =>
            obtain ⟨j, hj, rfl, hmi⟩ := hrel
            have HI := hid hmi
            by_cases hj10 : j < 10
            · have hjle : (j : Int) + 1 ≤ 10 := by omega
              have PA := mk_page hmi.log.mk' ((j : Int) + 1) (m : Int)
              rw [pageM_none Htz.out _ m (by omega) (by omega) (by have := Hm.out; omega)] at PA
              obtain ⟨s, hs⟩ : ∃ s, s = pageL gt.list ((j : Int) + 1) m := ⟨_, rfl⟩
              rw [← hs] at PA
              dsimp only at PA
              obtain ⟨ws, hws⟩ : ∃ ws, ws = wasOf gt.list m j := ⟨_, rfl⟩
              rw [← hws] at HI
              have Hwsl := hid (show ws.length = j by rw [hws, wasOf_length])
              have Hws := hid hws
              have Hs := hid hs
              have PA := hid PA
              have hjw : IntKind.i64.wrap ((j : Int) + 1 + 1) = (j : Int) + 1 + 1 := IntWalk.i64_in _ (by omega)
              clear hs hws hmi
              go_wp2_with (first
                | (go_at_call 19; refine (PA.out).mono ?_; rintro e wp ⟨rfl, hbp⟩; have HP2 := hid (HI.out.below hbp); clear hbp)
                | (at_builtin; refine wpList_append_own_at _ rfl _ _ 44 rfl w2.heap.size 9 s0 _ 1 16 Try.underlying44 hs0 hy0 hy1 hy2 rfl (by omega) _ ws.length (strsV ws) rfl ((HP2.out.below ((Below.refl _ wp).alloc (Nat.le_refl _) (.cells #[.string (bs s)] 9))).was) ⟨wp.heap.size, 0, none⟩ 1 1 [.string (bs s)] rfl (by simp) (World.news_of_block (cs := #[.string (bs s)]) (t := 9) (fr := (0, 0)) (heap_alloc_new wp _)) (by intro u hu; rw [List.mem_singleton.1 hu]; rfl) (by have := Hwsl.out; unfold maxLen; omega) (by have := Hwsl.out; omega) (by have := HP2.out.log.bel.size; simp; omega) ?_; intro v' w7 hown7 hgrow7 hnil7 hblk7; have HI7 := hid ((HP2.out.below ((Below.refl _ wp).alloc (Nat.le_refl _) (.cells #[.string (bs s)] 9))).push hown7 hgrow7 hblk7); clear hown7 hgrow7 hnil7 hblk7)
                | go_in)
              go_roundw
              case rel => exact ⟨j + 1, hj10, by simp, by rw [wasOf_succ, ← Hs.out, ← Hws.out]; exact HI7.out⟩
              case measure => (simp [intOf]) <;> omega
            · obtain rfl : j = 10 := by omega
              have hjle : ¬ (((10 : Nat) : Int) + 1 ≤ 10) := by omega
              clear hmi
              go_wp2_with fail
              go_roundw
              case rel => exact ⟨i + 1, gt, dt, wasOf gt.list m 10, m, hlt, by simp, rfl, ⟨HI.out, Hts.out, Htz.out, .inr ⟨m, rfl, by have := Hm.out; omega, rfl⟩, fun e => by have := Hia.out; omega⟩⟩
              case measure => (simp [intOf]) <;> omega
        · have hia1 : ((i : Int) == at_) = false := by simp [hia]
          clear hia
          go_wp2_with fail
          go_roundw
          case rel => exact ⟨i + 1, gt, dt, wl, mk, hlt, by simp, rfl, ⟨HT.out, Hts.out, Htz.out, Htm.out, fun e => Hfr.out (by omega)⟩⟩
          case measure => (simp [intOf]) <;> omega
    · obtain rfl : n = i := by omega
      obtain ⟨wlen, hwlen⟩ : ∃ k, k = wl.length := ⟨_, rfl⟩
      obtain ⟨qo, qc, hu10, hq10⟩ := hmr.mi.was.get
      rw [← hwlen] at hu10
      subst hu10
      have Hwlen := hid hwlen
      have Hq10 := hid hq10
      have hw10 : wlen ≤ 10 := by
        rcases Hmark.out with h | ⟨m, -, -, h⟩
        · rw [hwlen, h]; simp
        · rw [hwlen, h, wasOf_length]; exact Nat.le_refl _
      clear hwlen hq10 hmr
      go_wp2_with fail
      go_loopw [87] (fun v87 wq => ∃ j : Nat, j ≤ wlen ∧ v87 = .int .i64 (j : Int) ∧ Below wr.heap.size wr wq) (fun v87 _ => wlen - (intOf v87).toNat)
      case atStart => exact ⟨0, Nat.zero_le _, rfl, Below.refl _ _⟩
      case round =>
        obtain ⟨j, hj, rfl, hbq⟩ := hrel
        have HI := hid (HM.out.below hbq)
        have Hbq := hid hbq
        by_cases hj10 : j < wlen
        · have hj10i : (j : Int) < (wlen : Int) := by omega
          obtain ⟨q9, e9, hc9⟩ := Hq10.out j (by rw [← Hwlen.out]; exact hj10)
          subst e9
          have hc9q := (hbq.cell (p := ⟨q9, j, none⟩) (row_base HM.out.was rfl).2).trans hc9
          obtain ⟨m, hmk, hm, hwl⟩ := Hmark.out.resolve_left (fun e => by have := Hwlen.out; rw [e] at this; simp at this; omega)
          have hsj : wl[j]'(by rw [← Hwlen.out]; exact hj10) = pageL g.list ((j : Int) + 1) m := by simp only [hwl, wasOf, List.getElem_map, List.getElem_range]
          have PA := mk_page HI.out.log.mk' ((j : Int) + 1) (m : Int)
          rw [pageM_none Hz.out _ m (by omega) (by omega) hm] at PA
          rw [hsj] at hc9q
          obtain ⟨s, hs⟩ : ∃ s, s = pageL g.list ((j : Int) + 1) m := ⟨_, rfl⟩
          rw [← hs] at PA hc9q
          dsimp only at PA
          subst hmk
          have PA := hid PA
          have hss : (s == s) = true := by simp
          have hjw : IntKind.i64.wrap ((j : Int) + 1) = (j : Int) + 1 := IntWalk.i64_in _ (by omega)
          clear hc9 hwl hsj hs hbq hm
          go_wp2_with (first
            | (go_at_call 19; refine (PA.out).mono ?_; rintro e wp ⟨rfl, hbp⟩; have Hbq2 := hid (Hbq.out.trans (hbp.mono Hbq.out.size)); clear hbp)
            | go_in)
          go_roundw
          case rel => exact ⟨j + 1, hj10, by simp, Hbq2.out⟩
          case measure => (simp [intOf]) <;> omega
        · obtain rfl : j = wlen := by omega
          obtain ⟨z, hz'⟩ : ∃ z, z = g.list.length := ⟨_, rfl⟩
          have MA : ∀ W, Mk w2 W lb b g d → Calls Try.prog 15 #[.pointer (some ⟨lb, 0, none⟩)] W fun e w' => e = .returned (.int .i64 (z : Int)) ∧ w' = W := fun W hm => by
            have := mk_mark hm
            rw [← hz'] at this
            exact this
          have FR : ∀ W, Mk w2 W lb b g d → Calls Try.prog 20 #[.pointer (some ⟨lb, 0, none⟩), .int .i64 0, .int .i64 (z : Int)] W fun e w' => ∃ v, e = .returned (.tuple #[v, .int .i64 0]) ∧ w'.ownsRow W.heap.size 51 3 v z (frsCells g.list) ∧ Below W.heap.size W w' := fun W hm => by
            have := mk_frames hm
            rw [← hz'] at this
            exact this
          have MA := hid MA
          have FR := hid FR
          obtain ⟨ao8, cap8, hu8, hg8⟩ := HI.out.all.get
          have hll : (g.list.map frImg).length = z := by rw [List.length_map, hz']
          rw [hll] at hu8
          subst hu8
          have Hg8 := hid hg8
          have Hz' := hid hz'
          have hz256 : z ≤ 256 := by rw [hz']; exact HM.out.log.mk'.okLg.many
          clear hg8 hll hz' hbq
          go_upto_region 35 with (first
            | (go_at_call 15; refine (MA.out _ HI.out.log.mk').mono ?_; rintro e w9 ⟨rfl, hw⟩; obtain rfl := hw.symm)
            | (go_at_call 20; refine (FR.out _ HI.out.log.mk').mono ?_; rintro e w9 ⟨v9, rfl, hv9, hb9⟩; obtain ⟨ao9, cap9, rfl, hg9⟩ := row_slice hv9; have Hv9 := hid hv9; have Hg9 := hid hg9; have Hb9 := hid hb9; clear hv9 hg9 hb9)
            | go_in)
          have HI9 := hid (HI.out.below Hb9.out)
          clear HI
          go_wp2_with fail
          go_loopw [126] (fun v126 wq => ∃ j : Nat, j ≤ z ∧ v126 = .int .i64 (j : Int) ∧ Below w9.heap.size w9 wq) (fun v126 _ => z - (intOf v126).toNat)
          case atStart => exact ⟨0, Nat.zero_le _, rfl, Below.refl _ _⟩
          case round =>
            obtain ⟨j, hj, rfl, hbq⟩ := hrel
            have Hbq9 := hid hbq
            by_cases hjz : j < z
            · have hjzi : (j : Int) < (z : Int) := by omega
              have hjl : j < g.list.length := by rw [← Hz'.out]; exact hjz
              obtain ⟨f0, f1, f2⟩ := frsCells_get g.list j hjl
              obtain ⟨q9, e9, g0⟩ := Hg9.out (j * 3) _ (by omega) f0
              subst e9
              obtain ⟨q9b, e9b, g1⟩ := Hg9.out (j * 3 + 1) _ (by omega) f1
              obtain rfl : q9 = q9b := by simpa using e9b
              obtain ⟨q9c, e9c, g2⟩ := Hg9.out (j * 3 + 2) _ (by omega) f2
              obtain rfl : q9 = q9c := by simpa using e9c
              have hq9 : q9 < w9.heap.size := (row_base Hv9.out (g := q9) rfl).2
              obtain ⟨q8, e8, -, hq8, a0, a1⟩ := Hg8.out j (by rw [List.length_map]; exact hjl)
              subst e8
              rw [List.getElem_map] at a0 a1
              obtain ⟨f, hf⟩ : ∃ f, f = g.list[j] := ⟨_, rfl⟩
              rw [← hf] at g0 g1 g2 a0 a1
              change World.cell? _ _ = some (Value.int .i64 f.page) at a0
              change World.cell? _ _ = some (Value.string (bs f.data)) at a1
              obtain ⟨fp, hfp⟩ : ∃ x, x = f.page := ⟨_, rfl⟩
              obtain ⟨fd, hfd⟩ : ∃ x, x = f.data := ⟨_, rfl⟩
              obtain ⟨fc, hfc⟩ : ∃ x, x = f.commit := ⟨_, rfl⟩
              rw [← hfp] at g0 a0
              rw [← hfd] at g2 a1
              rw [← hfc] at g1
              have k0 := (hbq.cell (p := ⟨q9, j * 3, none⟩) hq9).trans g0
              have k1 := (hbq.cell (p := ⟨q9, j * 3 + 1, none⟩) hq9).trans g1
              have k2 := (hbq.cell (p := ⟨q9, j * 3 + 2, none⟩) hq9).trans g2
              have hq8' := Nat.lt_of_lt_of_le hq8 Hb9.out.size
              have m0 := (hbq.cell (p := ⟨q8, j * 2, none⟩) hq8').trans ((Hb9.out.cell (p := ⟨q8, j * 2, none⟩) hq8).trans a0)
              have m1 := (hbq.cell (p := ⟨q8, j * 2 + 1, none⟩) hq8').trans ((Hb9.out.cell (p := ⟨q8, j * 2 + 1, none⟩) hq8).trans a1)
              have hq8q := Nat.lt_of_lt_of_le hq8' hbq.size
              clear g0 g1 g2 hf hfp hfd hfc e9b e9c f0 f1 f2 a0 a1
              go_upto_region 40 with fail
              have hbox : (wr.alloc (.cells #[.int .i64 fp, .int .i64 fc, .string (bs fd)] 51)).heap[wr.heap.size]? = some (.cells #[.int .i64 fp, .int .i64 fc, .string (bs fd)] 51 (0, 0)) := heap_alloc_new wr _
              have hb1 : Below wr.heap.size wr (wr.alloc (.cells #[.int .i64 fp, .int .i64 fc, .string (bs fd)] 51)) := (Below.refl _ wr).alloc (Nat.le_refl _) _
              obtain ⟨w6, hw6⟩ : ∃ w6, w6 = wr.alloc (.cells #[.int .i64 fp, .int .i64 fc, .string (bs fd)] 51) := ⟨_, rfl⟩
              rw [← hw6] at hbox hb1 ⊢
              have d0 : w6.cell? ⟨wr.heap.size, 0, none⟩ = some (.int .i64 fp) := (cell_of_block hbox 0).trans rfl
              have d1 : w6.cell? ⟨wr.heap.size, 1, none⟩ = some (.int .i64 fc) := (cell_of_block hbox 1).trans rfl
              have d2 : w6.cell? ⟨wr.heap.size, 2, none⟩ = some (.string (bs fd)) := (cell_of_block hbox 2).trans rfl
              have n0 := (hb1.cell (p := ⟨q8, j * 2, none⟩) hq8q).trans m0
              have n1 := (hb1.cell (p := ⟨q8, j * 2 + 1, none⟩) hq8q).trans m1
              have hb6 := hid (Hbq9.out.trans (hb1.mono Hbq9.out.size))
              have hff : (fd == fd) = true := by simp
              have hfn : (fd != fd) = false := by simp
              have hpn : (fp != fp) = false := by simp
              clear hw6 hbox hb1 k0 k1 k2 m0 m1 hbq
              go_quiet (fail)
              have Hb7 := hid (hb6.out.trans (show Below w9.heap.size w6 (w6.drewN nq) from ⟨rfl, rfl, rfl, Nat.le_refl _, fun _ _ => rfl⟩))
              obtain ⟨wq6, hwq6⟩ : ∃ wq6, wq6 = w6.drewN nq := ⟨_, rfl⟩
              rw [← hwq6] at Hb7 ⊢
              clear hwq6 d0 d1 d2 n0 n1
              go_wp2_with fail
              go_roundw
              case rel => exact ⟨j + 1, hjz, by simp, Hb7.out⟩
              case measure => (simp [intOf]) <;> omega
            · obtain rfl : j = z := by omega
              go_wp2_with fail
              go_ret
              exact ⟨rfl, Hb2.out.trans ((HI9.out.log.bel.trans (Hbq9.out.mono HI9.out.log.bel.size)).mono Hb2.out.size)⟩
end Go.Proofs.Ytioafhkblmebmaa
