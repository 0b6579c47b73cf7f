import Derived.Test.YtjacmfdbmfemkaaGreatUnA
import Derived.Test.YtjacmfdbmfemkaaGreatUsC
set_option linter.unusedVariables false
set_option linter.unusedSimpArgs false
namespace Go.Proofs.YtjacmfdbmfemkaaGreat
open Go.RowKit Go.Maps
set_option maxRecDepth 20000
def sh0 : Sh := ⟨0, 0, 0, false, 0, []⟩
def imgsOf (L : List (List UInt8)) : List Img := L.mapIdx fun i s => ⟨(i : Int) + 1, s⟩
theorem imgsOf_length (L : List (List UInt8)) : (imgsOf L).length = L.length := by simp [imgsOf]
def mapImgs (f : Int → Option (List UInt8)) : List Img := (keysOf f).map fun q => ⟨q, (f q).getD []⟩
theorem mapImgs_length (f : Int → Option (List UInt8)) : (mapImgs f).length = (keysOf f).length := by unfold mapImgs; rw [List.length_map]
def pgsR (p : Pg) (g : Lg) (d : Dsk) (n : Nat) : List (List UInt8) := (List.range n).map fun (i : Nat) => (preadM p g d ((i : Int) + 1)).1
def stL (p : Pg) (g : Lg) (d : Dsk) : List (List UInt8) := pgsR p g d (ppagesM p g).toNat
def stOk (p : Pg) (g : Lg) (d : Dsk) : Prop := ∀ k : Nat, (k : Int) < ppagesM p g → (preadM p g d ((k : Int) + 1)).2 = 0
theorem pgsR_length (p : Pg) (g : Lg) (d : Dsk) (n : Nat) : (pgsR p g d n).length = n := by simp [pgsR]
theorem pgsR_succ (p : Pg) (g : Lg) (d : Dsk) (n : Nat) : pgsR p g d (n + 1) = pgsR p g d n ++ [(preadM p g d ((n : Int) + 1)).1] := by
 unfold pgsR
 rw [List.range_succ, List.map_append]
 rfl
theorem imgsOf_succ (p : Pg) (g : Lg) (d : Dsk) (n : Nat) : imgsOf (pgsR p g d (n + 1)) = imgsOf (pgsR p g d n) ++ [⟨(n : Int) + 1, (preadM p g d ((n : Int) + 1)).1⟩] := by
 unfold imgsOf
 rw [pgsR_succ, List.mapIdx_append, pgsR_length]
 simp
def snapM (p : Pg) (g : Lg) (d : Dsk) (ep : Int) : Sh × Int :=
 if (ureadyM p g d).2 ≠ 0 then (sh0, (ureadyM p g d).2)
 else if (ureadyM p g d).1.commits = 0 then (sh0, 4)
 else (⟨1, ep, (ureadyM p g d).1.commits, true, ppagesM p g, imgsOf (stL p g d)⟩, 0)
def logStep (k : Int) (s : (Int → Option (List UInt8)) × Option Sh) (f : Fr) : (Int → Option (List UInt8)) × Option Sh :=
 if f.commit = 0 then (fun q => if q = f.page then some f.data else s.1 q, s.2)
 else (fun _ => none, if (takeH ((if (1 : Int) = f.page then some f.data else s.1 1).getD [])).2 = 0 ∧ (takeH ((if (1 : Int) = f.page then some f.data else s.1 1).getD [])).1.commits = k then some ⟨1, 0, k, false, f.commit, mapImgs fun q => if q = f.page then some f.data else s.1 q⟩ else s.2)
def loggedF (l : List Fr) (k : Int) : (Int → Option (List UInt8)) × Option Sh := l.foldl (logStep k) (fun _ => none, none)
def loggedM (g : Lg) (k : Int) : Option Sh := (loggedF g.list k).2
theorem loggedF_snoc (l : List Fr) (f : Fr) (k : Int) : loggedF (l ++ [f]) k = logStep k (loggedF l k) f := by unfold loggedF; rw [List.foldl_append]; rfl
def nextM (p : Pg) (g : Lg) (d : Dsk) (ep k : Int) : Sh × Int :=
 if (ureadyM p g d).2 ≠ 0 then (sh0, (ureadyM p g d).2)
 else if (ureadyM p g d).1.commits ≤ k then (sh0, 4)
 else match loggedM g (IntKind.u64.wrap (k + 1)) with
  | some m => ({ m with epoch := ep }, 0)
  | none => snapM p g d ep
def putAllM (p : Pg) (l : List Img) : Pg := l.foldl (fun p x => (pwriteM p x.page x.data).2) p
theorem putAllM_snoc (p : Pg) (l : List Img) (x : Img) : putAllM p (l ++ [x]) = (pwriteM (putAllM p l) x.page x.data).2 := by unfold putAllM; rw [List.foldl_append]; rfl
def followM (p : Pg) (g : Lg) (d : Dsk) (m : Sh) : Int × Pg × Lg × Dsk :=
 if mayB m = false ∨ m.kind ≠ 1 then (2, p, g, d)
 else if (ureadyM p g d).2 ≠ 0 then ((ureadyM p g d).2, p, g, d)
 else if m.k ≤ (ureadyM p g d).1.commits then (4, p, g, d)
 else if m.full = false ∧ m.k ≠ IntKind.u64.wrap ((ureadyM p g d).1.commits + 1) then (5, p, g, d)
 else match m.imgs with
  | [] => (7, p, g, d)
  | x :: _ => if x.page ≠ 1 then (7, p, g, d)
   else if (takeH x.data).2 ≠ 0 ∨ (takeH x.data).1.commits ≠ m.k then (7, p, g, d)
   else pcommitM (putAllM (presizeM (beginM p g).2 m.pages).2 m.imgs) g d
def turnGM (p : Pg) (g : Lg) (d : Dsk) (n : Int) (c : UInt8) : Int × Pg × Lg × Dsk :=
 if (spBeginM p g d).1 ≠ 0 then ((spBeginM p g d).1, (spBeginM p g d).2, g, d)
 else spCommitM (pwriteM (if ppagesM (spBeginM p g d).2 g < n then (presizeM (spBeginM p g d).2 n).2 else (spBeginM p g d).2) n (pageOf c)).2 g d
end Go.Proofs.YtjacmfdbmfemkaaGreat
namespace Go.Proofs.YtjacmfdbmfemkaaGreat
open Go.RowKit Go.Maps
set_option maxRecDepth 20000
theorem row_lower {w : World} {base b2 n size : Nat} {e : TypeId} {v : Value} {xs : List Value} (h : w.ownsRow base e size v n xs) (hb : b2 ≤ base) : w.ownsRow b2 e size v n xs := by
 refine ⟨h.1, h.2.imp id ?_⟩
 rintro ⟨g, cap, cur, e, hb2, r⟩
 exact ⟨g, cap, cur, e, Nat.le_trans hb hb2, r⟩
theorem ImgRow.lower {w : World} {base b2 : Nat} {v : Value} {l : List Img} (h : ImgRow w base v l) (hb : b2 ≤ base) : ImgRow w b2 v l := row_lower h hb
set_option maxHeartbeats 4000000 in
set_option maxRecDepth 20000 in
theorem gathered_any (w : World) (mb : Nat) (f : Int → Option (List UInt8)) (h : WrAt w mb f) (hf : ∀ p s, f p = some s → 1 ≤ p ∧ p ≤ 256) :
  Calls Tryz.prog 128 #[.map (some mb)] w fun e w' => ∃ v, e = .returned v ∧ ImgRow w' w.heap.size v (mapImgs f) ∧ Below w.heap.size w w' := by
 have hkb : (keysOf f).length ≤ 256 := keysOf_length _
 have htl : (mapImgs f).length = (keysOf f).length := mapImgs_length f
 have Htl := hid htl
 obtain ⟨i0, hi0, hz0, hz1, hz2⟩ := info_parts (P := Tryz.prog) (e := 145) (z := .agg #[.int .i64 0, .string ⟨#[]⟩]) (size := 2) (bytes := 24) (by kernel_rfl)
 have SK := hid (sorted_keys h hf)
 have H := hid h
 clear h htl
 go_enter Tryz.func128, Tryz.ntmps128
 go_upto_region 3 with (first
  | (go_at_call 115; refine (keys_any mb _).mono ?_; rintro e w2 ⟨rfl, rfl⟩)
  | (go_at_call 53; refine (SK.out).mono ?_; rintro e w2 ⟨ao, cap, rfl, hc, hb⟩; have HC := hid hc; have HB2 := hid hb; clear hc hb SK)
  | go_in)
 go_wp2_with fail
 go_loopw [3, 10] (fun v3 v10 wr => ∃ i : Nat, i ≤ (keysOf f).length ∧ v10 = .int .i64 (i : Int) ∧ ImgRow wr w2.heap.size v3 ((mapImgs f).take i) ∧ Below w2.heap.size w2 wr) (fun _ v10 _ => (keysOf f).length - (intOf v10).toNat)
 case atStart => exact ⟨0, Nat.zero_le _, rfl, imgRow_nil _ _, Below.refl _ _⟩
 case round =>
  obtain ⟨i, hi, rfl, hrow, hbw⟩ := hrel
  have Hrow := hid hrow
  have HBw := hid hbw
  have hb1w : Below w.heap.size w wr := HB2.out.trans (hbw.mono HB2.out.size)
  have hwrw := H.out.keep (hb1w.block mb H.out.lt)
  have HB1w := hid hb1w
  clear hrow hb1w
  by_cases hlt : i < (keysOf f).length
  ·have hlti : (i : Int) < ((keysOf f).length : Int) := by omega
   obtain ⟨q, rfl, hq, hcq⟩ := HC.out i hlt
   have hcw := (hbw.cell (p := ⟨q, i, none⟩) hq).trans hcq
   obtain ⟨y, hy⟩ : ∃ y, y = (keysOf f)[i] := ⟨_, rfl⟩
   rw [← hy] at hcw
   have hyr : 1 ≤ y ∧ y ≤ 256 := (keysOf_mem.1 (by rw [hy]; exact List.getElem_mem hlt)).1
   have LK := says_look1 hwrw (p := y) (by omega)
   obtain ⟨s, hs⟩ : ∃ s, s = (f y).getD [] := ⟨_, rfl⟩
   rw [← hs] at LK
   have Hys := hid (And.intro hy hs)
   have hll : ((mapImgs f).take i).length = i := by rw [List.length_take, Htl.out]; omega
   clear hcq hy hs hbw hwrw
   go_wp2_with (first
    | (at_builtin; refine wpList_append_own_at _ rfl _ _ 23 rfl w2.heap.size 145 i0 _ 2 24 Tryz.underlying23 hi0 hz0 hz1 hz2 rfl (by omega) _ ((mapImgs f).take i).length (imgsV ((mapImgs f).take i)) rfl (Hrow.out.below ((Below.refl _ wr).alloc (Nat.le_refl _) (.cells #[.int .i64 y, .string (bs s)] 145))) ⟨wr.heap.size, 0, none⟩ 1 1 (imgCells ⟨y, s⟩) rfl rfl (World.news_of_block (cs := #[.int .i64 y, .string (bs s)]) (t := 145) (fr := (0, 0)) (heap_alloc_new wr _)) (imgCells_one _) (by unfold maxLen; omega) (by omega) (by have := HBw.out.size; simp; omega) ?_; intro v' w7 hown7 hgrow7 hnil7 hblk7; have Hown7 := hid hown7; have HB7 := hid ((HBw.out.alloc HBw.out.size (.cells #[.int .i64 y, .string (bs s)] 145)).grown hgrow7 (by simp; have := HBw.out.size; omega) (fun j hj => (row_base Hrow.out hj).1)); clear hown7 hgrow7 hnil7 hblk7)
    | go_in)
   go_roundw
   case rel =>
    refine ⟨i + 1, hlt, by simp, ?_, HB7.out⟩
    have hil : i < (mapImgs f).length := by rw [Htl.out]; exact hlt
    have e1 : (mapImgs f)[i]? = some ⟨y, s⟩ := by
     unfold mapImgs
     rw [List.getElem?_map, List.getElem?_eq_getElem hlt, ← Hys.out.1, Option.map_some, ← Hys.out.2]
    have e : (mapImgs f)[i] = ⟨y, s⟩ := by
     rw [List.getElem?_eq_getElem hil] at e1
     exact Option.some.inj e1
    rw [List.take_succ_eq_append_getElem hil, e]
    unfold ImgRow
    rw [imgsV_snoc, List.length_append]
    exact Hown7.out
   case measure => (simp [intOf]) <;> omega
  ·obtain rfl : i = (keysOf f).length := by omega
   have hrowT : ImgRow wr w2.heap.size u3 (mapImgs f) := by
    have := Hrow.out
    rwa [List.take_of_length_le (by rw [Htl.out]; exact Nat.le_refl _)] at this
   have HrowT := hid hrowT
   clear hrowT hbw
   go_wp2_with fail
   go_ret
   exact ⟨_, rfl, HrowT.out.lower HB2.out.size, HB1w.out⟩
def shCells (m : Sh) (v : Value) : Array Value := #[.int .u8 m.kind, .int .u64 m.epoch, .int .u64 m.k, .bool m.full, .int .i64 m.pages, v]
section
variable {w W W' : World} {pb l b : Nat} {p p' : Pg} {g g' : Lg} {d d' : Dsk} {X X' : Nat → Prop}
def ShGave (w W : World) (pb l b : Nat) (p : Pg) (g : Lg) (d : Dsk) (X : Nat → Prop) (R : Sh × Int) (e : Ending) (w' : World) : Prop :=
 ∃ v, e = .returned (.tuple #[shipV R.1 v, .int .i64 R.2]) ∧ ImgRow w' W.heap.size v R.1.imgs ∧ PgX w w' pb l b p g d (fun k => X k ∨ v.ownBlock = some k) ∧ ∀ k, X k → w'.heap[k]? = W.heap[k]?
theorem six_set (w : World) (z : Nat) (a0 a1 a2 a3 a4 a5 : Value) (S : Nat → Prop) (W0 : World) (h : Frm S W0 w) (hz : S z ∨ W0.heap.size ≤ z) : Frm S W0 ((((((w.setCell ⟨z, 0, none⟩ a0).setCell ⟨z, 1, none⟩ a1).setCell ⟨z, 2, none⟩ a2).setCell ⟨z, 3, none⟩ a3).setCell ⟨z, 4, none⟩ a4).setCell ⟨z, 5, none⟩ a5) := by
 iterate 6 refine Frm.setCell ?_ hz _
 exact h
theorem heap_set6 {w : World} {M : Nat} {T : TypeId} {a0 a1 a2 a3 a4 a5 : Value} (h : w.heap[M]? = some (.cells #[a0, a1, a2, a3, a4, a5] T (0, 0))) (b0 b1 b2 b3 b4 b5 : Value) :
  ((((((w.setCell ⟨M, 0, none⟩ b0).setCell ⟨M, 1, none⟩ b1).setCell ⟨M, 2, none⟩ b2).setCell ⟨M, 3, none⟩ b3).setCell ⟨M, 4, none⟩ b4).setCell ⟨M, 5, none⟩ b5).heap[M]? = some (.cells #[b0, b1, b2, b3, b4, b5] T (0, 0)) := by
 rw [heap_setCell_same (heap_setCell_same (heap_setCell_same (heap_setCell_same (heap_setCell_same (heap_setCell_same h 0 b0) 1 b1) 2 b2) 3 b3) 4 b4) 5 b5]
 rfl
theorem shGave_nil {X1 : Nat → Prop} {R : Sh × Int} {zb : Nat} {w1 w5 : World} (hR : R.1.imgs = []) (h1 : PgX w w1 pb l b p g d (fun k => X k ∨ k = zb)) (hk : ∀ k, X k → w1.heap[k]? = W.heap[k]?) (hzw : w.heap.size ≤ zb) (hzX : ∀ k, X k → k ≠ zb) (hf : Frm (fun k => k = zb) w1 w5) : ShGave w W pb l b p g d X R (.returned (.tuple #[shipV R.1 (.slice none 0 0), .int .i64 R.2])) w5 := by
 have hq := px_put (X := X) h1 (.inr rfl) hzw hf (fun k hk => ⟨.inl hk, hzX k hk⟩)
 refine ⟨_, rfl, by rw [hR]; exact imgRow_nil _ _, hq.1.to (fun k hk => hk.elim id (fun e => by cases e)), fun k hk1 => (hq.2 k hk1).trans (hk k hk1)⟩
theorem row_type {w : World} {base M n size : Nat} {e T : TypeId} {v : Value} {xs : List Value} {cs : Array Value} {fr : Nat × Nat} (h : w.ownsRow base e size v n xs) (hM : w.heap[M]? = some (.cells cs T fr)) (hT : T ≠ e) : v.ownBlock ≠ some M := by
 intro ho
 rcases h.2 with ⟨rfl, -⟩ | ⟨g, cap, cur, rfl, -, hg, -⟩
 ·cases ho
 ·have e : g = M := by injection ho
  rw [e, hM] at hg
  injection hg with hg
  injection hg with _ h2 _
  exact hT h2
theorem shGave_all {R : Sh × Int} {zb : Nat} {w1 wr w5 : World} {v : Value} (h1 : PgX w w1 pb l b p g d (fun k => X k ∨ k = zb)) (hk : ∀ k, X k → w1.heap[k]? = W.heap[k]?) (hW : W.heap.size ≤ w1.heap.size) (hzw : w.heap.size ≤ zb) (hz1 : zb < w1.heap.size) (hzX : ∀ k, X k → k ≠ zb) (hb : Below w1.heap.size w1 wr) (hr : ImgRow wr w1.heap.size v R.1.imgs) (hf : Frm (fun k => k = zb) wr w5) :
  ShGave w W pb l b p g d X R (.returned (.tuple #[shipV R.1 v, .int .i64 R.2])) w5 := by
 have hown : ∀ k, v.ownBlock = some k → w1.heap.size ≤ k ∧ k < wr.heap.size := fun k e => row_base hr e
 have h2 := px_add (X' := fun k => (X k ∨ v.ownBlock = some k) ∨ k = zb) h1 hb (fun k hk => by
  rcases hk with (hk | hk) | hk
  ·exact .inl (.inl hk)
  ·exact .inr (hown k hk).1
  ·exact .inl (.inr hk)) (fun k hk => by
  rcases hk with (hk | hk) | hk
  ·exact Nat.lt_of_lt_of_le (h1.xlt k (.inl hk)) hb.size
  ·exact (hown k hk).2
  ·have := hb.size; omega)
 have hq := px_put (X := fun k => X k ∨ v.ownBlock = some k) h2 (.inr rfl) hzw hf (fun k hk => ⟨.inl hk, fun e => by
  rcases hk with hk | hk
  ·exact hzX k hk e
  ·have := hown k hk; omega⟩)
 refine ⟨v, rfl, ?_, hq.1, fun k hk1 => (hq.2 k (.inl hk1)).trans ((hb.block k (h1.xlt k (.inl hk1))).trans (hk k hk1))⟩
 have h3 : ImgRow w5 w1.heap.size v R.1.imgs := row_keep hr (fun k e => hf.block k (hown k e).2 (fun e2 => by have := hown k e; omega))
 exact h3.lower hW
set_option maxHeartbeats 400000 in
set_option maxRecDepth 20000 in
theorem snap_any (h : PgX w W pb l b p g d X) (hok : stOk p g d) (ep : Int) :
  Calls Tryz.prog 86 #[.pointer (some ⟨pb, 0, none⟩), .int .u64 ep] W (ShGave w W pb l b p g d X (snapM p g d ep)) := by
 have hz := heap_alloc_new W (.cells #[.int .u8 0, .int .u64 0, .int .u64 0, .bool false, .int .i64 0, .slice none 0 0] 25)
 have hb := (Below.refl W.heap.size W).alloc (Nat.le_refl _) (.cells #[.int .u8 0, .int .u64 0, .int .u64 0, .bool false, .int .i64 0, .slice none 0 0] 25)
 have hxa := px_add (X' := fun k => X k ∨ k = W.heap.size) h hb (fun k hk => hk.elim .inl (fun e => .inr (Nat.le_of_eq e.symm))) (fun k hk => hk.elim (fun e => Nat.lt_of_lt_of_le (h.xlt k e) hb.size) (fun e => by rw [e]; exact lt_of_block hz))
 have SR := uready_any hxa
 have hwf := (ureadyM_wf p g d).len
 have hzX := hid (fun k (hk : X k) => (Nat.ne_of_lt (h.xlt k hk) : k ≠ W.heap.size))
 obtain ⟨Q, hQ⟩ : ∃ Q, Q = ureadyM p g d := ⟨_, rfl⟩
 unfold snapM
 rw [← hQ] at hwf SR ⊢
 obtain ⟨H, E⟩ := Q
 obtain ⟨f, c, k, r0, r1, r2, r3, r4, r5, r6, r7, rfl⟩ := hdr_form hwf
 unfold hdrV hdrCells at SR
 simp only [List.map_cons, List.map_nil] at SR
 replace SR := hid SR
 have HX := hid h
 have HB := hid hb
 have Hz := hid hz
 have HOK := hid hok
 dsimp only
 clear hQ hwf h hz hb hxa hok
 by_cases he : E = 0
 rotate_left
 ·have b1 : (E != 0) = true := by simp [he]
  rw [if_pos he]
  clear he HOK
  go_enter Tryz.func86, Tryz.ntmps86
  go_wp2_with (first
   | (go_at_call 52; refine (SR.out).mono ?_; rintro e w1 ⟨rfl, hx, hk⟩; have HX1 := hid hx; have HK1 := hid (fun k hk1 => (hk k (.inl hk1)).trans (HB.out.block k (HX.out.xlt k hk1)) : ∀ k, X k → w1.heap[k]? = W.heap[k]?); have hzl := lt_of_block ((hk W.heap.size (.inr rfl)).trans Hz.out); obtain ⟨z0, z1, z2, z3, z4, z5, zf⟩ := cells6 ((hk W.heap.size (.inr rfl)).trans Hz.out); clear hx hk)
   | go_in)
  refine bodyPost_ret (v := .tuple #[shipV sh0 (.slice none 0 0), .int .i64 E]) (by simp [results, Tryz.results86, go_sem, shipV, sh0, z0, z1, z2, z3, z4, z5, zf, hzl]) rfl ?_
  refine shGave_nil (w1 := w1) (X1 := X) (R := (sh0, E)) rfl HX1.out HK1.out HX.out.bel.size hzX.out ?_
  exact (six_set _ _ _ _ _ _ _ _ (fun k => k = W.heap.size) _ (Frm.refl _ _) (.inl rfl)).alloc _
 have b1 : (E != 0) = false := by simp [he]
 rw [if_neg (by simpa using he)]
 clear he
 by_cases hk0 : k = 0
 ·have b2 : (k == 0) = true := by simp [hk0]
  rw [if_pos hk0]
  clear hk0 HOK
  go_enter Tryz.func86, Tryz.ntmps86
  go_wp2_with (first
   | (go_at_call 52; refine (SR.out).mono ?_; rintro e w1 ⟨rfl, hx, hk⟩; have HX1 := hid hx; have HK1 := hid (fun k hk1 => (hk k (.inl hk1)).trans (HB.out.block k (HX.out.xlt k hk1)) : ∀ k, X k → w1.heap[k]? = W.heap[k]?); have hzl := lt_of_block ((hk W.heap.size (.inr rfl)).trans Hz.out); obtain ⟨z0, z1, z2, z3, z4, z5, zf⟩ := cells6 ((hk W.heap.size (.inr rfl)).trans Hz.out); clear hx hk)
   | go_in)
  refine bodyPost_ret (v := .tuple #[shipV sh0 (.slice none 0 0), .int .i64 4]) (by simp [results, Tryz.results86, go_sem, shipV, sh0, z0, z1, z2, z3, z4, z5, zf, hzl]) rfl ?_
  refine shGave_nil (w1 := w1) (X1 := X) (R := (sh0, 4)) rfl HX1.out HK1.out HX.out.bel.size hzX.out ?_
  exact (six_set _ _ _ _ _ _ _ _ (fun k => k = W.heap.size) _ (Frm.refl _ _) (.inl rfl)).alloc _
 have b2 : (k == 0) = false := by simp [hk0]
 rw [if_neg hk0]
 clear hk0
 go_enter Tryz.func86, Tryz.ntmps86
 go_upto_region 6 with (first
  | (go_at_call 52; refine (SR.out).mono ?_; rintro e w1 ⟨rfl, hx, hk⟩; have HX1 := hid hx; have HK1 := hid (fun k hk1 => (hk k (.inl hk1)).trans (HB.out.block k (HX.out.xlt k hk1)) : ∀ k, X k → w1.heap[k]? = W.heap[k]?); have HZ1 := hid ((hk W.heap.size (.inr rfl)).trans Hz.out); have hzl := lt_of_block HZ1.out; clear hx hk)
  | go_in)
 have hbx := heap_alloc_new w1 (.cells #[.int .i64 f, .int .i64 c, .int .u64 k, .int .i64 r0, .int .i64 r1, .int .i64 r2, .int .i64 r3, .int .i64 r4, .int .i64 r5, .int .i64 r6, .int .i64 r7] 114)
 have hb2 := (Below.refl w1.heap.size w1).alloc (Nat.le_refl _) (.cells #[.int .i64 f, .int .i64 c, .int .u64 k, .int .i64 r0, .int .i64 r1, .int .i64 r2, .int .i64 r3, .int .i64 r4, .int .i64 r5, .int .i64 r6, .int .i64 r7] 114)
 obtain ⟨xb, hxb⟩ : ∃ xb, xb = w1.heap.size := ⟨_, rfl⟩
 obtain ⟨w2, hw2⟩ : ∃ w2, w2 = w1.alloc (.cells #[.int .i64 f, .int .i64 c, .int .u64 k, .int .i64 r0, .int .i64 r1, .int .i64 r2, .int .i64 r3, .int .i64 r4, .int .i64 r5, .int .i64 r6, .int .i64 r7] 114) := ⟨_, rfl⟩
 rw [← hw2] at hbx hb2 ⊢
 rw [← hxb] at hbx ⊢
 have hpr := ppages_range HX.out
 obtain ⟨P, hP⟩ : ∃ P : Nat, ppagesM p g = (P : Int) := ⟨(ppagesM p g).toNat, by omega⟩
 have PG : ∀ w9, Below w1.heap.size w1 w9 → Calls Tryz.prog 43 #[.pointer (some ⟨pb, 0, none⟩)] w9 fun e w' => e = .returned (.int .i64 (P : Int)) ∧ Below w9.heap.size w9 w' := fun w9 hb9 => by
  have := px_pages (HX1.out.below hb9)
  rw [hP] at this
  exact this.mono fun e w' hh => ⟨hh.1, by rw [hh.2]; exact Below.refl _ _⟩
 have hPn : (ppagesM p g).toNat = P := by omega
 have hP2 : P ≤ 256 := by omega
 have PG := hid PG
 have HB2 := hid hb2
 have Hbx := hid hbx
 have HPn := hid hPn
 have HP := hid hP
 clear hbx hb2 hw2 hxb hP hPn hpr hzl
 refine region_block [0, 1, 2, 3, 4, 5] 6 7 [] _ (.cells #[.int .u8 0, .int .u64 0, .int .u64 0, .bool false, .int .i64 0, .slice none 0 0] 25) ?af (by kernel_rfl) (by kernel_rfl) (by kernel_rfl) rfl (fun _ _ => by kernel_rfl) ?_ ?_
 rotate_left
 ·intro W9 hW9
  have c2 : W9.cell? ⟨xb, 2, none⟩ = some (.int .u64 k) := (cell_of_block ((hW9.block xb (lt_of_block Hbx.out)).trans Hbx.out) 2).trans rfl
  have r2 := fun d os => cell_regrown c2 d os
  have hb9 : Below w1.heap.size w1 W9 := HB2.out.trans (hW9.mono HB2.out.size)
  have P2 := hid (fun d os => PG.out (Sort.grow (redrawn W9 d) os) (hb9.trans ((below_regrown W9 d os).mono hb9.size)))
  clear c2 hW9 hb9
  simp only [pick, List.getElem?_cons_succ, List.getElem?_cons_zero]
  repeat (go_big_quiet_step ((go_at_call 43; with_reducible exact Calls.regrown_of (P2.out _ _))))
  refine wpQuiet_nil ?_
  exact rfl
 ·intro M w3 hb3 hM2 hM
  simp only [pick, List.getElem?_cons_succ, List.getElem?_cons_zero]
  obtain ⟨m0, m1, m2, m3, m4, m5, mf⟩ := cells6 hM
  have HM := hid hM
  clear hM
  go_wp2_with fail
  have hM4 := heap_set6 HM.out (.int .u8 1) (.int .u64 ep) (.int .u64 k) (.bool true) (.int .i64 (P : Int)) (.slice none 0 0)
  have hb4 : Below w2.heap.size w2 ((((((w3.setCell ⟨M, 0, none⟩ (.int .u8 1)).setCell ⟨M, 1, none⟩ (.int .u64 ep)).setCell ⟨M, 2, none⟩ (.int .u64 k)).setCell ⟨M, 3, none⟩ (.bool true)).setCell ⟨M, 4, none⟩ (.int .i64 (P : Int))).setCell ⟨M, 5, none⟩ (.slice none 0 0)) := by
   iterate 6 refine Below.setCell ?_ hM2 _
   exact hb3
  obtain ⟨w4, hw4⟩ : ∃ w4, w4 = (((((w3.setCell ⟨M, 0, none⟩ (.int .u8 1)).setCell ⟨M, 1, none⟩ (.int .u64 ep)).setCell ⟨M, 2, none⟩ (.int .u64 k)).setCell ⟨M, 3, none⟩ (.bool true)).setCell ⟨M, 4, none⟩ (.int .i64 (P : Int))).setCell ⟨M, 5, none⟩ (.slice none 0 0) := ⟨_, rfl⟩
  rw [← hw4] at hM4 hb4 ⊢
  have HM4 := hid hM4
  have HB4 := hid hb4
  have HM2 := hid hM2
  obtain ⟨i0, hi, hz0, hz1, hz2⟩ := info_parts (P := Tryz.prog) (e := 145) (z := .agg #[.int .i64 0, .string ⟨#[]⟩]) (size := 2) (bytes := 24) (by kernel_rfl)
  have HOk := hid (fun (j : Nat) (hj : j < P) => HOK.out j (by rw [HP.out]; omega))
  clear hM4 hb4 hw4 hb3 hM2 m0 m1 m2 m3 m4 m5 mf
  go_loopw [9] (fun v9 wr => ∃ (i : Nat) (vi : Value), i ≤ P ∧ v9 = .int .i64 ((i : Int) + 1) ∧ wr.heap[M]? = some (.cells #[.int .u8 1, .int .u64 ep, .int .u64 k, .bool true, .int .i64 (P : Int), vi] 25 (0, 0)) ∧ ImgRow wr w2.heap.size vi (imgsOf (pgsR p g d i)) ∧ Below w2.heap.size w2 wr) (fun v9 _ => P + 1 - (intOf v9).toNat)
  case atStart => exact ⟨0, .slice none 0 0, Nat.zero_le _, rfl, HM4.out, imgRow_nil _ _, HB4.out⟩
  case round =>
   obtain ⟨i, vi, hi1, rfl, hMr, hrow, hbw⟩ := hrel
   have HBw := hid hbw
   have Hrow := hid hrow
   have HMr := hid hMr
   have hb12 : Below w1.heap.size w1 wr := HB2.out.trans (hbw.mono HB2.out.size)
   have hm := HX1.out.below hb12
   have Hb12 := hid hb12
   have PA := px_read hm ((i : Int) + 1) (by omega)
   obtain ⟨pg, hpg⟩ : ∃ pg, pg = preadM p g d ((i : Int) + 1) := ⟨_, rfl⟩
   rw [← hpg] at PA
   have PA := hid PA
   have Hpg := hid hpg
   have hMl := lt_of_block hMr
   have hneM : vi.ownBlock ≠ some M := row_type hrow hMr (by decide)
   have HneM := hid hneM
   obtain ⟨_, _, _, _, n4, n5, nf⟩ := cells6 hMr
   clear hm hbw hrow hpg hMr hb12 hneM
   by_cases hlt : i < P
   ·have hlt1 : i + 1 ≤ P := hlt
    have hle1 : decide ((i : Int) + 1 ≤ (P : Int)) = true := by simp; omega
    have hwi : IntKind.i64.wrap ((i : Int) + 1 + 1) = (i : Int) + 1 + 1 := IntWalk.i64_in _ (by omega)
    have hpe1 : (pg.2 != 0) = false := by
     rw [Hpg.out, HOk.out i hlt]
     rfl
    obtain ⟨s, hs⟩ : ∃ s, s = pg.1 := ⟨_, rfl⟩
    rw [← hs] at PA
    have PA := hid PA.out
    have Hs := hid hs
    clear hs
    go_wp2_with (first
     | (go_at_call 48; refine (PA.out).mono ?_; rintro e w5 ⟨rfl, hb5⟩; have HB5 := hid hb5; have hM5 := (hb5.block M hMl).trans HMr.out; have HM5 := hid hM5; obtain ⟨_, _, _, _, _, q5, qf⟩ := cells6 hM5; have hM5l := lt_of_block hM5; clear hb5 hM5 n4 n5 nf)
     | (at_builtin; refine wpList_append_own_at _ rfl _ _ 23 rfl w2.heap.size 145 i0 _ 2 24 Tryz.underlying23 hi hz0 hz1 hz2 rfl (by omega) _ (imgsOf (pgsR p g d i)).length (imgsV (imgsOf (pgsR p g d i))) rfl (row_keep Hrow.out (fun x hx => (Below.heap_alloc w5 _ x (Nat.lt_of_lt_of_le (row_base Hrow.out hx).2 HB5.out.size)).trans (HB5.out.block x (row_base Hrow.out hx).2))) ⟨w5.heap.size, 0, none⟩ 1 1 (imgCells ⟨(i : Int) + 1, s⟩) rfl rfl (World.news_of_block (cs := #[.int .i64 ((i : Int) + 1), .string (bs s)]) (t := 145) (fr := (0, 0)) (heap_alloc_new w5 _)) (imgCells_one _) (by unfold maxLen; rw [imgsOf_length, pgsR_length]; omega) (by rw [imgsOf_length, pgsR_length]; omega) (by have h1 := HBw.out.size; have h2 := HB5.out.size; simp; omega) ?_; intro v' w7 hown7 hgrow7 hnil7 hblk7; obtain ⟨gq, cq, rfl⟩ := (row_form hown7).resolve_left (fun e => by have := e.2; omega); have Hown7 := hid hown7; have Hgrow7 := hid hgrow7; have hM7 := (hgrow7.block M (by simp; omega) (fun e => HneM.out e.symm)).trans ((Below.heap_alloc w5 _ M hM5l).trans HM5.out); have HM7 := hid hM7; obtain ⟨_, _, _, _, _, r5', rf'⟩ := cells6 hM7; clear hown7 hgrow7 hnil7 hblk7 hM7)
     | go_in)
    go_roundw
    case rel =>
     refine ⟨i + 1, _, hlt, by simp, (heap_setCell_same HM7.out 5 _).trans rfl, ?_, ?_⟩
     ·have hn7 := row_type Hown7.out HM7.out (by decide)
      have := row_keep (w' := w7.setCell ⟨M, 5, none⟩ (.slice (some ⟨gq, 0, none⟩) ((imgsOf (pgsR p g d i)).length + 1) cq)) Hown7.out (fun x hx => Below.heap_setCell _ ⟨M, 5, none⟩ _ x (fun e => hn7 (by rw [hx]; exact congrArg some e)))
      unfold ImgRow
      rw [imgsOf_succ, imgsV_snoc, List.length_append, ← Hpg.out, ← Hs.out]
      exact this
     ·exact (((HBw.out.trans (HB5.out.mono HBw.out.size)).alloc (by have := HBw.out.size; have := HB5.out.size; omega) _).grown Hgrow7.out (by have h1 := HBw.out.size; have h2 := HB5.out.size; simp; omega) (fun j hj => (row_base Hrow.out hj).1)).setCell HM2.out _
    case measure => (simp [intOf]) <;> omega
   ·obtain rfl : P = i := by omega
    have hlt1 : ¬ (P + 1 ≤ P) := by omega
    obtain ⟨z0, z1, z2, z3, z4, z5, zf⟩ := cells6 ((Hb12.out.block W.heap.size (lt_of_block HZ1.out)).trans HZ1.out)
    obtain ⟨n0, n1, n2, n3, n4', n5', nf'⟩ := cells6 HMr.out
    have hzl : W.heap.size < wr.heap.size := Nat.lt_of_lt_of_le (lt_of_block HZ1.out) Hb12.out.size
    have hW1 : W.heap.size ≤ w1.heap.size := Nat.le_of_lt (lt_of_block HZ1.out)
    have hrow1 : ImgRow wr w1.heap.size vi (imgsOf (pgsR p g d P)) := Hrow.out.lower HB2.out.size
    have Hrow1 := hid hrow1
    have HW1 := hid hW1
    obtain ⟨ao, cap, rfl, -⟩ := hrow1.get
    clear PA hi hrow1 hW1
    go_wp2_with fail
    refine bodyPost_ret (v := .tuple #[shipV ⟨1, ep, k, true, (P : Int), imgsOf (pgsR p g d P)⟩ (.slice ao (imgsOf (pgsR p g d P)).length cap), .int .i64 0]) (by simp [results, Tryz.results86, go_sem, shipV, z0, z1, z2, z3, z4, z5, zf]) rfl ?_
    unfold stL
    rw [HPn.out, HP.out]
    refine shGave_all (w1 := w1) (wr := wr) (R := (⟨1, ep, k, true, (P : Int), imgsOf (pgsR p g d P)⟩, 0)) HX1.out HK1.out HW1.out HX.out.bel.size (lt_of_block HZ1.out) hzX.out Hb12.out Hrow1.out ?_
    exact six_set _ _ _ _ _ _ _ _ (fun k => k = W.heap.size) _ (Frm.refl _ _) (.inl rfl)
end
end Go.Proofs.YtjacmfdbmfemkaaGreat
