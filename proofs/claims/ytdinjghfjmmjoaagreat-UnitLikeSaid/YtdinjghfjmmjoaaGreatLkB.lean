/- For the lifts: arguments one by one, and that they all read as they did. -/
import Derived.Test.YtdinjghfjmmjoaaGreatHeld
import Derived.Test.YtdinjghfjmmjoaaGreatRows
import Derived.ProofKit
import Derived.SizedLaws
import Derived.OpenShut
import Derived.Deep.Fields
import Derived.Deep.Slices
import Derived.Test.YtdinjghfjmmjoaaGreatUvC
import Derived.Test.YtdinjghfjmmjoaaGreatNxE
import Derived.Test.YtdinjghfjmmjoaaGreatLkA
set_option linter.unusedVariables false
set_option linter.unusedSimpArgs false
namespace Go.Proofs.YtdinjghfjmmjoaaGreat
open Go.ChangeShapes Go.WideShapes Go.ChangeAt Go.RowKit Go.Deep
set_option maxRecDepth 20000
theorem own : ownKnob Tryz.prog.godebug = none := by kernel_rfl
theorem laidOut : laidOutB Tryz.prog = true := by kernel_rfl
section
variable {H : Type} {enc : TypeId × Value → H} {w : World} {base : Nat} {sp : Nat → Bool} {held : Bool}
theorem open_cells_struct {ts : TypeId} {fs : Array Field} {fuel : Nat} {cs : List Value} {x : DataW H × List MemPlace} (hs : Tryz.prog.underlying ts = some (.struct fs))
  (hone : oneCellFields Tryz.prog fs = true) (hC : Tryz.prog.cellsOf ts = fs.size) (h : DataW.trod enc Tryz.prog w base sp held fuel ts cs = some x) :
  cs.length = fs.size ∧ ∃ n, ∀ (i : Nat) (f : Field), fs[i]? = some f → ∃ y, DataW.trod enc Tryz.prog w base sp held n f.type [cs.getD i undef] = some y := by
 obtain ⟨xs, n, _, _, hl, hx, hf⟩ := DataW.trod_struct hs h
 rw [hC] at hl
 refine ⟨hl, n, fun i f hi => ?_⟩
 have hlt : i < fs.size := (Array.getElem?_eq_some_iff.1 hi).1
 obtain ⟨ho, hc⟩ := hone_of hone i f hi
 have := hf i f hi
 rw [ho, hc, take1_drop cs i undef (by omega), List.getElem?_eq_getElem (by omega)] at this
 exact ⟨_, this⟩
theorem trod_each : ∀ {ts : List TypeId} {vs : List Value} {ds : List (DataW H)} {ps : List MemPlace}, DataW.TrodAll enc Tryz.prog w base sp held ts vs ds ps →
  vs.length = ts.length ∧ ∀ (i : Nat) (t : TypeId) (v : Value), ts[i]? = some t → vs[i]? = some v → ∃ d p, DataW.Trod enc Tryz.prog w base sp held t v d p
 | [], vs, ds, ps, h => by
  obtain ⟨rfl, rfl, rfl⟩ := trodAll_nil h
  exact ⟨rfl, fun i t v ht _ => by simp at ht⟩
 | t :: ts, vs, ds, ps, h => by
  obtain ⟨v, vs', d, ds', p, q, rfl, rfl, rfl, h1, h2⟩ := trodAll_cons h
  obtain ⟨e1, e2⟩ := trod_each h2
  refine ⟨by simp [e1], fun i t' v' ht hv => ?_⟩
  cases i with
  | zero =>
   simp only [List.getElem?_cons_zero, Option.some.injEq] at ht hv
   subst ht hv
   exact ⟨d, p, h1⟩
  | succ i =>
   simp only [List.getElem?_cons_succ] at ht hv
   exact e2 i t' v' ht hv
theorem trod_ds : ∀ {ts : List TypeId} {vs : List Value} {ds : List (DataW H)} {ps : List MemPlace}, DataW.TrodAll enc Tryz.prog w base sp held ts vs ds ps → ds.length = ts.length
 | [], vs, ds, ps, h => by
  obtain ⟨rfl, rfl, rfl⟩ := trodAll_nil h
  rfl
 | t :: ts, vs, ds, ps, h => by
  obtain ⟨v, vs', d, ds', p, q, rfl, rfl, rfl, h1, h2⟩ := trodAll_cons h
  simp [trod_ds h2]
end
def readB (P : Program) (ts : List TypeId) : Bool := ts.all fun t => P.readableRec t && decide (t < P.types.size)
theorem below_all {H : Type} {enc : TypeId × Value → H} {P : Program} {W W' : World} (hl : laidOutB P = true) (hb : Below W.heap.size W W') : ∀ {ts : List TypeId} {vs : List Value} {ds : List (DataW H)} {ps : List MemPlace}, readB P ts = true →
  DataW.TrodAll enc P W 0 (fun _ => true) true ts vs ds ps → (∀ x ∈ ps, x.block < W.heap.size) → DataW.TrodAll enc P W' 0 (fun b => decide (b < W.heap.size)) true ts vs ds ps
 | [], vs, ds, ps, _, h, _ => by
  obtain ⟨rfl, rfl, rfl⟩ := trodAll_nil h
  exact trodAll_mk0
 | t :: ts, vs, ds, ps, hr, h, hlt => by
  obtain ⟨v, vs', d, ds', p, q, rfl, rfl, rfl, h1, h2⟩ := trodAll_cons h
  simp only [readB, List.all_cons, Bool.and_eq_true, decide_eq_true_eq] at hr
  exact trodAll_cons_mk (Below.trod hl hr.1.1 hr.1.2 h1 hb (fun x hx => hlt x (by simp [hx]))) (below_all hl hb (by simpa [readB] using hr.2) h2 (fun x hx => hlt x (by simp [hx])))
theorem args_one {a : Array Value} (h : a.toList.length = 1) : ∃ v0, a = #[v0] := by
 obtain ⟨l⟩ := a
 match l, h with
 | [v0], _ => exact ⟨v0, rfl⟩
theorem list_one {α : Type} {l : List α} (h : l.length = 1) : ∃ d0, l = [d0] := by
 match l, h with
 | [d0], _ => exact ⟨d0, rfl⟩
theorem u8_wf {n : Int} (h : (Lit.int .u8 n).wf = true) : 0 ≤ n ∧ n < 256 := by
 have h' : (decide ((0 : Int) ≤ n) && decide (n ≤ 255)) = true := h
 simp at h'
 omega
theorem u8_of {n : Int} (h : (Lit.int .u8 n).wf = true) : ∃ b : UInt8, n = (b.toNat : Int) := by
 have h' := u8_wf h
 exact ⟨UInt8.ofNat n.toNat, by simp; omega⟩
end Go.Proofs.YtdinjghfjmmjoaaGreat
namespace Go.Proofs.YtdinjghfjmmjoaaGreat
open Go.ChangeShapes Go.WideShapes Go.ChangeAt Go.RowKit Go.Deep
set_option maxRecDepth 20000
set_option maxRecDepth 20000
instance : Inhabited Img := ⟨⟨0, []⟩⟩
instance : Inhabited (Sh × Value) := ⟨(⟨0, 0, 0, false, 0, []⟩, undef)⟩
def ShipsAt (w : World) (v : Value) (l : List (Sh × Value)) : Prop :=
 ∃ ao cap, v = .slice ao l.length cap ∧ ∀ k (hk : k < l.length), ∃ q o, ao = some ⟨q, o, none⟩ ∧ q < w.heap.size ∧ ∀ j u, (shCells l[k].1 l[k].2)[j]? = some u → w.cell? ⟨q, o + k * 6 + j, none⟩ = some u
structure ShipsIn (w : World) (v : Value) (l : List (Sh × Value)) : Prop where
 at' : ShipsAt w v l
 len : l.length ≤ 9223372036854775807
 each : ∀ x ∈ l, ShIn w x.1 x.2
theorem lt_of_cell {w : World} {a : Addr} {v : Value} (h : w.cell? a = some v) : a.block < w.heap.size := by
 rcases Nat.lt_or_ge a.block w.heap.size with h1 | h1
 ·exact h1
 ·unfold World.cell? at h
  rw [Array.getElem?_eq_none h1] at h
  simp at h
section
variable {H : Type} {enc : TypeId × Value → H} {w : World} {base : Nat} {sp : Nat → Bool} {held : Bool}
end
end Go.Proofs.YtdinjghfjmmjoaaGreat
namespace Go.Proofs.YtdinjghfjmmjoaaGreat
open Go.RowKit Go.Maps
set_option maxRecDepth 20000
section
variable {w W W' : World} {pb l b : Nat} {p : Pg} {g : Lg} {d : Dsk} {X : Nat → Prop} {m : Sh} {v : Value} {L : List (List UInt8)}
theorem st_db (hD : DbW g d L) : stOk p0 g d ∧ stL p0 g d = L := by
 have hP := db_pages (p := p0) hD rfl
 have hrd := fun n h1 h2 => db_read (p := p0) hD rfl n h1 h2
 refine ⟨fun k hk => ?_, ?_⟩
 ·rw [hP] at hk
  have := hrd (k + 1) (by omega) (by omega)
  rw [show (((k + 1 : Nat) : Int)) = (k : Int) + 1 by omega] at this
  rw [this]
 ·unfold stL pgsR
  rw [hP, Int.toNat_natCast]
  apply List.ext_getElem
  ·simp
  ·intro i h1 h2
   have := hrd (i + 1) (by omega) (by omega)
   rw [show (((i + 1 : Nat) : Int)) = (i : Int) + 1 by omega] at this
   simp only [List.getElem_map, List.getElem_range]
   rw [this]
   simp only [Nat.add_sub_cancel]
   rw [List.getD_eq_getElem?_getD, List.getElem?_eq_getElem h2]
   rfl
theorem have_db (hD : DbW g d L) (hL : Good L) : haveM p0 g d = (commL L, 0) := by
 obtain ⟨h, e1, e2⟩ := uready_db (p := p0) hD hL rfl
 unfold haveM
 rw [e1, if_neg (by simp), e2]
theorem snap_db (hD : DbW g d L) (hL : Good L) (ep : Int) : snapM p0 g d ep = if commL L = 0 then (sh0, 4) else (⟨1, ep, commL L, true, (L.length : Int), imgsOf L⟩, 0) := by
 obtain ⟨h, e1, e2⟩ := uready_db (p := p0) hD hL rfl
 unfold snapM
 rw [e1, if_neg (by simp), (st_db hD).2, db_pages hD rfl]
 dsimp only
 rw [e2]
theorem follow_small {N : Nat} (hg : g.head.pages ≤ 256) (h : d.Small N) (p : Pg) : (followM p g d m).2.2.2.Small (N + 8519680) := by
 have hm := h.mono (M := N + 8519680) (by omega)
 unfold followM
 split
 ·exact hm
 split
 ·exact hm
 split
 ·exact hm
 split
 ·exact hm
 split
 ·exact hm
 split
 ·exact hm
 split
 ·exact hm
 ·exact commit_small N hg h _
theorem px_base {w1 : World} {X : Nat → Prop} (h : PgX w1 W pb l b p g d X) (hb : Below w.heap.size w w1) : PgX w W pb l b p g d X := by
 obtain ⟨⟨F, G, K, nv, sv, h1, h2, h3, h4⟩, hb1, hx⟩ := h
 exact ⟨⟨F, G, K, nv, sv, h1, h2, h3, fun k hk => ⟨Nat.le_trans hb.size (h4 k hk).1, (h4 k hk).2⟩⟩, hb.trans (hb1.mono hb.size), hx⟩
theorem db0 : Db exG0 newM [] := ⟨exG0_calm, rfl, by decide, fun n a b => by simp at b; omega, fun s hs => by cases hs⟩
theorem strRow_nil (w : World) (base : Nat) : StrRow w base (.slice none 0 0) [] := World.ownsRow_nil _ _ _ _
structure FoRel (w wr : World) (pb l b i : Nat) (g : Lg) (d : Dsk) (L : List (List UInt8)) (vs : Value) : Prop where
 row : StrRow wr w.heap.size vs L
 good : Good L
 db : Db g d L
 small : d.Small (100 + 8519680 * i)
 px : PgX w wr pb l b p0 g d (fun k => vs.ownBlock = some k)
end
end Go.Proofs.YtdinjghfjmmjoaaGreat
namespace Go.Proofs.YtdinjghfjmmjoaaGreat
open Go.RowKit Go.Maps
set_option maxRecDepth 20000
section
end
end Go.Proofs.YtdinjghfjmmjoaaGreat
/- Plain laws of UnitLike: the one that is followed: what Next and Snap tell, behind any commits and checkpoints. -/
namespace Go.Proofs.YtdinjghfjmmjoaaGreat
open Go.RowKit Go.Maps
set_option maxRecDepth 20000
section
variable {T : List (List (List UInt8))} {m : Sh} {k j : Nat} {M L : List (List UInt8)} {g : Lg} {d : Dsk}
theorem getD_left {α : Type} {S : List α} {x z : α} {i : Nat} (h : i < S.length) : (S ++ [x]).getD i z = S.getD i z := by
 rw [List.getD_eq_getElem?_getD, List.getElem?_append_left h, ← List.getD_eq_getElem?_getD]
theorem getD_new {α : Type} (S : List α) (x z : α) : (S ++ [x]).getD S.length z = x := by simp [List.getD_eq_getElem?_getD]
theorem Says.more (h : Says T m k) (M : List (List UInt8)) : Says (T ++ [M]) m k := by
 have hk := h.kT
 have e1 : (T ++ [M]).getD k [] = T.getD k [] := getD_left hk
 have e2 : (T ++ [M]).getD (k - 1) [] = T.getD (k - 1) [] := getD_left (by omega)
 exact ⟨h.kind, h.num, h.k1, by simp; omega, by rw [e1]; exact h.pages, by rw [e1, e2]; exact h.imgs⟩
theorem told_more (h : Told T) (hn : T.length ≤ 999) (hg : Good M) (hc : commL M = (T.length : Int)) (h1 : 1 ≤ M.length) (hf : M.length ≤ 21) (hl : ∀ s ∈ M, s.length = 512) : Told (T ++ [M]) := by
 have hl2 : (T ++ [M]).length = T.length + 1 := by simp
 have h0 := h.some
 refine ⟨by omega, by rw [getD_left h0]; exact h.zero, by omega, fun j hj => ?_, fun j hj => ?_, fun j hj1 hj => ?_, fun j hj => ?_, fun j hj => ?_⟩
 all_goals by_cases e : j < T.length
 ·rw [getD_left e]; exact h.good j e
 ·obtain rfl : j = T.length := by omega
  rw [getD_new]; exact hg
 ·rw [getD_left e]; exact h.comm j e
 ·obtain rfl : j = T.length := by omega
  rw [getD_new]; exact hc
 ·rw [getD_left e]; exact h.one j hj1 e
 ·obtain rfl : j = T.length := by omega
  rw [getD_new]; exact h1
 ·rw [getD_left e]; exact h.few j e
 ·obtain rfl : j = T.length := by omega
  rw [getD_new]; exact hf
 ·rw [getD_left e]; exact h.len j e
 ·obtain rfl : j = T.length := by omega
  rw [getD_new]; exact hl
theorem told_new : Told [[]] :=
 ⟨by decide, rfl, by decide, fun j hj => by
  obtain rfl : j = 0 := by simpa using hj
  exact .inl rfl, fun j hj => by
  obtain rfl : j = 0 := by simpa using hj
  rfl, fun j h1 hj => by
  obtain rfl : j = 0 := by simpa using hj
  omega, fun j hj => by
  obtain rfl : j = 0 := by simpa using hj
  decide, fun j hj s hs => by
  obtain rfl : j = 0 := by simpa using hj
  cases hs⟩
structure Teller (g : Lg) (d : Dsk) (L : List (List UInt8)) (T : List (List (List UInt8))) : Prop where
 db : Db g d L
 told : Told T
 last : T.getD (T.length - 1) [] = L
 clear : ∀ k : Nat, (loggedF g.list ((k : Int) + 1)).1 = fun _ => none
 units : ∀ k : Nat, ∀ m, (loggedF g.list ((k : Int) + 1)).2 = some m → Says T m (k + 1) ∧ m.full = false ∧ m.epoch = 0
theorem teller_new : Teller exG0 newM [] [[]] := ⟨db0, told_new, rfl, fun k => rfl, fun k m h => by cases h⟩
theorem Teller.good (h : Teller g d L T) : Good L := by rw [← h.last]; exact h.told.good _ (by have := h.told.some; omega)
theorem Teller.few (h : Teller g d L T) : L.length ≤ 21 := by rw [← h.last]; exact h.told.few _ (by have := h.told.some; omega)
theorem Teller.comm (h : Teller g d L T) : commL L = ((T.length - 1 : Nat) : Int) := by rw [← h.last]; exact h.told.comm _ (by have := h.told.some; omega)
theorem teller_check (h : Teller g d L T) (hg : g.Ok) : ∃ g' d', lcheckM g d = (0, g', d') ∧ Teller g' d' L T := by
 obtain ⟨e, hk⟩ := check_calm h.db.calm hg
 obtain ⟨r, hr⟩ : ∃ r, r = lcheckM g d := ⟨_, rfl⟩
 rw [← hr] at e hk ⊢
 obtain ⟨e0, g', d'⟩ := r
 dsimp only at e hk
 subst e
 have hp := h.db.pages
 have hm := h.db.many
 refine ⟨g', d', rfl, ⟨⟨hk.calm, ?_, hm, fun n n1 n2 => ?_, h.db.len⟩, h.told, h.last, fun k => ?_, fun k m e => ?_⟩⟩
 ·rw [hk.pages, hp]
 ·exact (hk.page n n1 (by omega)).trans (h.db.page n n1 n2)
 ·rw [hk.list]
  rfl
 ·rw [hk.list] at e
  cases e
theorem turn_says (h : Teller g d L T) {hd : Hdr} {M' : List (List UInt8)} {t1 : Tr} {pz : Pg} (hT : Tx pz g d t1 (hdrPg hd :: M')) (h1 : (t1.wr 1).isSome = true) (hcm : hd.commits = (T.length : Int)) (hh : HdOk hd) :
  Says (T ++ [hdrPg hd :: M']) ⟨1, 0, (T.length : Int), false, t1.pages, trImgs t1⟩ T.length := by
 have h0 := h.told.some
 have hfew : (hdrPg hd :: M').length ≤ 256 := by have := hT.pages; have := hT.ok.pages; omega
 refine ⟨rfl, rfl, by omega, by simp, by rw [getD_new]; exact hT.pages, fun n => (t1.wr n).isSome, ?_, h1, (fun e => by cases e), fun _ n n1 n2 => ?_⟩
 ·rw [getD_new]
  show trImgs t1 = _
  unfold imgsF
  have hK : ∀ q : Int, (t1.wr q).isSome = true ↔ q ∈ (((List.range 257).map fun (i : Nat) => (i : Int)).filter fun q => (t1.wr q).isSome) := fun q => by
   rw [List.mem_filter]
   refine ⟨fun e => ⟨?_, e⟩, fun e => e.2⟩
   obtain ⟨s, hs⟩ := Option.isSome_iff_exists.1 e
   have := hT.ok.dom q s hs
   have := hT.ok.pages
   exact List.mem_map.2 ⟨q.toNat, List.mem_range.2 (by omega), by omega⟩
  rw [tr_unit hT hfew _ hK]
  unfold unitI
  refine List.filter_congr fun x hx => ?_
  rw [Bool.eq_iff_iff, decide_eq_true_eq]
  exact (hK x.page).symm
 ·rw [getD_new] at n2 ⊢
  rcases hT.page n n1 n2 with e | ⟨e1, e2, e3⟩
  ·left
   show (t1.wr n).isSome = true
   rw [e]
   rfl
  ·right
   have hp := h.db.pages
   have e4 : (T ++ [hdrPg hd :: M']).getD (T.length - 1) [] = L := by rw [getD_left (by omega), h.last]
   rw [e4]
   have e5 := h.db.page n n1 (by omega)
   rw [e5] at e3
   exact ⟨by omega, (congrArg (fun x => x.1) e3).symm⟩
theorem teller_turn (h : Teller g d L T) (hg : g.Ok) (hn9 : T.length ≤ 999) {n : Nat} (hn : 2 ≤ n ∧ n ≤ 21) (c : UInt8) :
  ∃ g' d' M, turnGM p0 g d n c = (0, p0, g', d') ∧ Teller g' d' M (T ++ [M]) := by
 obtain ⟨g', d', hd, M, t1, F, e1, e2, e3, e4, e5, ⟨e6, e6b, -⟩, ⟨pz, e7⟩, e8, e9⟩ := turn_db h.db h.good hg hn h.few c
 have h0 := h.told.some
 have hcm : hd.commits = (T.length : Int) := by
  rw [e4, h.comm]
  rw [IntWalk.u64_in _ (by omega)]
  omega
 have hmany : (hdrPg hd :: M).length ≤ 21 := by rw [List.length_cons, e5]; have := h.few; omega
 have hcl : commL (hdrPg hd :: M) = (T.length : Int) := by
  show (takeH (hdrPg hd)).1.commits = _
  rw [takeH_put e3.may e3.wf]
  exact hcm
 have hF : ∀ k : Nat, (loggedF F ((k : Int) + 1)).1 = fun _ => none := fun k => by
  rcases e6b with rfl | rfl
  ·exact h.clear k
  ·rfl
 have hlg : ∀ k : Nat, loggedF g'.list ((k : Int) + 1) = (fun _ => none, if hd.commits = (k : Int) + 1 then some ⟨1, 0, (k : Int) + 1, false, t1.pages, trImgs t1⟩ else (loggedF F ((k : Int) + 1)).2) := fun k => by
  rw [e6]
  exact logged_commit e7 e3 e8 _ (hF k)
 refine ⟨g', d', hdrPg hd :: M, e1, ⟨e2, told_more h.told hn9 (.inr ⟨hd, M, rfl, e3⟩) hcl (by simp) hmany e2.len, ?_, fun k => by rw [hlg], fun k m hm => ?_⟩⟩
 ·rw [List.length_append]
  exact getD_new T _ _
 ·rw [hlg] at hm
  dsimp only at hm
  by_cases hk : hd.commits = (k : Int) + 1
  ·rw [if_pos hk] at hm
   injection hm with hm
   subst hm
   have hk1 : k + 1 = T.length := by omega
   have := turn_says h e7 e8 hcm e3
   rw [← hk1] at this
   exact ⟨by rw [show ((k : Int) + 1) = ((k + 1 : Nat) : Int) by omega]; exact this, rfl, rfl⟩
  ·rw [if_neg hk] at hm
   rcases e6b with rfl | rfl
   ·obtain ⟨a, b⟩ := h.units k m hm
    exact ⟨a.more _, b⟩
   ·cases hm
theorem says_full (h : Teller g d L T) (hT1 : 1 < T.length) (ep : Int) : Says T ⟨1, ep, commL L, true, (L.length : Int), imgsOf L⟩ (T.length - 1) := by
 refine ⟨rfl, h.comm, by omega, by omega, by rw [h.last], fun _ => true, ?_, rfl, fun _ _ => rfl, (fun e => by cases e)⟩
 rw [h.last, imgsF_all fun _ => rfl]
theorem teller_snap (h : Teller g d L T) (ep : Int) : snapM p0 g d ep = if T.length = 1 then (sh0, 4) else (⟨1, ep, commL L, true, (L.length : Int), imgsOf L⟩, 0) := by
 have h0 := h.told.some
 rw [snap_db h.db.w h.good ep, h.comm]
 by_cases e : T.length = 1
 ·rw [if_pos (by omega), if_pos e]
 ·rw [if_neg (by omega), if_neg e]
theorem teller_next (h : Teller g d L T) (ep : Int) (k : Nat) :
  (T.length ≤ k + 1 ∧ nextM p0 g d ep k = (sh0, 4)) ∨ (k + 1 < T.length ∧ ∃ m j, nextM p0 g d ep k = (m, 0) ∧ Says T m j ∧ m.epoch = ep ∧ k < j ∧ (m.full = true ∨ j = k + 1)) := by
 have h0 := h.told.some
 have hmany := h.told.many
 obtain ⟨hd, e1, e2⟩ := uready_db (p := p0) h.db.w h.good rfl
 rw [h.comm] at e2
 unfold nextM
 rw [e1, if_neg (by simp), e2]
 by_cases h1 : T.length ≤ k + 1
 ·rw [if_pos (by omega)]
  exact .inl ⟨h1, rfl⟩
 ·rw [if_neg (by omega)]
  refine .inr ⟨by omega, ?_⟩
  have hw : IntKind.u64.wrap ((k : Int) + 1) = (k : Int) + 1 := IntWalk.u64_in _ (by omega)
  rw [hw]
  unfold loggedM
  cases hm : (loggedF g.list ((k : Int) + 1)).2 with
  | some m =>
   obtain ⟨a, b, c⟩ := h.units k m hm
   exact ⟨{ m with epoch := ep }, k + 1, rfl, ⟨a.kind, a.num, a.k1, a.kT, a.pages, a.imgs⟩, rfl, by omega, .inr rfl⟩
  | none =>
   dsimp only
   rw [teller_snap h, if_neg (by omega)]
   exact ⟨_, T.length - 1, rfl, says_full h (by omega) ep, rfl, by omega, .inl rfl⟩
end
end Go.Proofs.YtdinjghfjmmjoaaGreat
