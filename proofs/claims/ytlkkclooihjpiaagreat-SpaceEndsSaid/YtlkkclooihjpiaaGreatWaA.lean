import Derived.Test.YtlkkclooihjpiaaGreatFrF
import Derived.Test.YtlkkclooihjpiaaGreatDkL
import Derived.Laws.OwnMore
set_option linter.unusedVariables false
set_option linter.unusedSimpArgs false
namespace Go.Proofs.YtlkkclooihjpiaaGreat
open Go.RowKit
set_option maxRecDepth 20000
theorem hdB_eq (h : Hd) : hdB h = wordC ++ (eight h.number ++ (four h.frames ++ four h.pages)) := by simp [hdB]
theorem hdL_eq (h : Hd) : hdL h = hdB h ++ (textOf (sumAdd (0, 0) (hdB h)) ++ zeros 32) := by simp [hdL]
theorem hdMay_bd {h : Hd} (hm : hdMay h = true) : (0 ≤ h.frames ∧ h.frames ≤ 256) ∧ (0 ≤ h.pages ∧ h.pages ≤ 256) := by
 simp only [hdMay, Bool.and_eq_true] at hm
 exact ⟨inB_true.1 hm.1, inB_true.1 hm.2⟩
theorem four_of_num (l : List UInt8) (h : l.length = 4) : four (num l) = l := by
 have b : 0 ≤ num l ∧ num l < 4294967296 := by
  have := num4_bd l
  rwa [List.take_of_length_le (by omega)] at this
 exact num_inj _ _ (by rw [h]; rfl) (num_four _ b.1 b.2)
theorem eight_of_num (l : List UInt8) (h : l.length = 8) : eight (num l) = l := by
 have b : 0 ≤ num l ∧ num l < 18446744073709551616 := by
  have := num8_lt l
  rwa [List.take_of_length_le (by omega)] at this
 exact num_inj _ _ (by rw [h]; rfl) (num_eight _ b.1 b.2)
theorem tkHd_ok (s : List UInt8) (hl : s.length = 64) (h : (tkHd s).2 = 0) : s = hdL (tkHd s).1 ∧ hdMay (tkHd s).1 = true := by
 unfold tkHd at *
 rw [if_neg (by omega)] at h ⊢
 cases hb : hdBad s
 ·rw [hb] at h
  simp only [Bool.false_eq_true, if_false] at h ⊢
  by_cases ht : ((s.drop 24).take 8 == textOf (sumAdd (0, 0) (s.take 24))) = true
  ·rw [if_pos ht]
   unfold hdBad at hb
   simp only [Bool.or_eq_false_iff, Bool.not_eq_false', beq_iff_eq] at hb ht
   obtain ⟨h1, h2, h3, h4⟩ := hb
   have hm : hdMay (hdOf s) = true := by simp [hdMay, h3, h4]
   refine ⟨?_, hm⟩
   have e1 : eight (hdOf s).number = (s.drop 8).take 8 := eight_of_num _ (by simp; omega)
   have e2 : four (hdOf s).frames = (s.drop 16).take 4 := four_of_num _ (by simp; omega)
   have e3 : four (hdOf s).pages = (s.drop 20).take 4 := four_of_num _ (by simp; omega)
   have eB : hdB (hdOf s) = s.take 24 := by
    rw [hdB_eq, e1, e2, e3, ← h1]
    rw [show (24 : Nat) = 8 + (8 + (4 + 4)) from rfl, List.take_add, List.take_add (i := 8), List.take_add (i := 4), List.drop_drop, List.drop_drop]
   rw [hdL_eq, eB, ← ht, ← h2]
   conv => lhs; rw [← List.take_append_drop 24 s, ← List.take_append_drop 8 (s.drop 24), List.drop_drop]
   rw [List.take_of_length_le (l := s.drop (24 + 8)) (by simp; omega)]
  ·rw [if_neg ht] at h
   exact absurd h (by decide)
 ·rw [hb] at h
  exact absurd h (by simp)
end Go.Proofs.YtlkkclooihjpiaaGreat
namespace Go.Proofs.YtlkkclooihjpiaaGreat
open Go.RowKit
set_option maxRecDepth 20000
end Go.Proofs.YtlkkclooihjpiaaGreat
namespace Go.Proofs.YtlkkclooihjpiaaGreat
open Go.RowKit Go.Maps
set_option maxRecDepth 20000
section
variable {w : World} {b : Nat} {F : Foot} {d : Dsk} {nm sm : Nat → Option Nat} {lv : Value} {am : Nat}
end
section
variable {w : World} {b : Nat} {F : Foot} {d : Dsk}
end
end Go.Proofs.YtlkkclooihjpiaaGreat
namespace Go.Proofs.YtlkkclooihjpiaaGreat
open Go.RowKit Go.Maps
set_option maxRecDepth 20000
structure Lg where
 head : Hd
 has : Bool
 list : List Fr
 pair : Int × Int
 torn : Bool
 off : Bool
structure Lg.Ok (g : Lg) : Prop where
 num : HdWf g.head
 pages : 0 ≤ g.head.pages ∧ g.head.pages ≤ 256
 frames : 0 ≤ g.head.frames ∧ g.head.frames ≤ 256
 pair : PairWf g.pair
 many : g.list.length ≤ 256
 data : ∀ f ∈ g.list, frOk f = true
def frCells (f : Fr) : List Value := [.int .i64 f.page, .int .i64 f.commit, .string (bs f.data)]
def frsCells (l : List Fr) : List Value := l.flatMap frCells
theorem frsCells_length : ∀ l : List Fr, (frsCells l).length = l.length * 3
 | [] => rfl
 | f :: r => by
  have := frsCells_length r
  simp only [frsCells, List.flatMap_cons, List.length_append, List.length_cons] at this ⊢
  rw [this]
  simp [frCells]
  omega
theorem frsCells_snoc (l : List Fr) (f : Fr) : frsCells (l ++ [f]) = frsCells l ++ frCells f := by simp [frsCells]
theorem frsCells_append (l k : List Fr) : frsCells (l ++ k) = frsCells l ++ frsCells k := by simp [frsCells]
theorem frCells_one (f : Fr) : ∀ u ∈ frCells f, u.oneCell' = true := by
 intro u hu
 simp only [frCells, List.mem_cons, List.not_mem_nil, or_false] at hu
 rcases hu with rfl | rfl | rfl <;> rfl
theorem frsCells_one (l : List Fr) : ∀ u ∈ frsCells l, u.oneCell' = true := by
 intro u hu
 obtain ⟨f, _, h⟩ := List.mem_flatMap.1 hu
 exact frCells_one f u h
theorem frsCells_get : ∀ (l : List Fr) (k : Nat) (h : k < l.length), (frsCells l)[k * 3]? = some (.int .i64 l[k].page) ∧ (frsCells l)[k * 3 + 1]? = some (.int .i64 l[k].commit) ∧ (frsCells l)[k * 3 + 2]? = some (.string (bs l[k].data))
 | f :: r, 0, _ => ⟨rfl, rfl, rfl⟩
 | f :: r, k + 1, h => by
  have := frsCells_get r k (by simpa using h)
  have e : frsCells (f :: r) = frCells f ++ frsCells r := rfl
  have h3 : (frCells f).length = 3 := rfl
  rw [e, List.getElem?_append_right (by omega), List.getElem?_append_right (by omega), List.getElem?_append_right (by omega)]
  have e0 : (k + 1) * 3 - (frCells f).length = k * 3 := by omega
  have e1 : (k + 1) * 3 + 1 - (frCells f).length = k * 3 + 1 := by omega
  have e2 : (k + 1) * 3 + 2 - (frCells f).length = k * 3 + 2 := by omega
  rw [e0, e1, e2]
  simpa using this
def logCells (b : Nat) (g : Lg) (lv : Value) : List Value :=
 [.pointer (some ⟨b, 0, none⟩), .int .u64 g.head.number, .int .i64 g.head.frames, .int .i64 g.head.pages, .bool g.has, lv, .int .u32 g.pair.1, .int .u32 g.pair.2, .bool g.torn, .bool g.off]
structure LogMem (w : World) (l b : Nat) (F : Foot) (G : Nat → Prop) (g : Lg) (lv : Value) : Prop where
 blk : w.heap[l]? = some (.cells (logCells b g lv).toArray 110 (0, 0))
 row : w.ownsRow 0 118 3 lv g.list.length (frsCells g.list)
 rown : ∀ k, lv.ownBlock = some k → G k
 lown : G l
 gout : ∀ k, G k → ¬ F.own k ∧ ¬ F.sh k
 glt : ∀ k, G k → k < w.heap.size
 ok : g.Ok
structure LgAt (w : World) (l b : Nat) (F : Foot) (G : Nat → Prop) (g : Lg) (d : Dsk) : Prop where
 disk : DiskAt w b F d
 log : ∃ lv, LogMem w l b F G g lv
structure LgStep (F F' : Foot) (G G' : Nat → Prop) (w w' : World) : Prop where
 frm : Frm (fun k => F.own k ∨ G k) w w'
 own : ∀ k, F'.own k → F.own k ∨ w.heap.size ≤ k
 sh : ∀ k, F'.sh k → F.sh k ∨ w.heap.size ≤ k
 gr : ∀ k, G' k → G k ∨ w.heap.size ≤ k
theorem LgStep.refl (F : Foot) (G : Nat → Prop) (w : World) : LgStep F F G G w w := ⟨Frm.refl _ _, fun _ h => .inl h, fun _ h => .inl h, fun _ h => .inl h⟩
theorem LgStep.trans {F F' F'' : Foot} {G G' G'' : Nat → Prop} {a b c : World} (h : LgStep F F' G G' a b) (k : LgStep F' F'' G' G'' b c) : LgStep F F'' G G'' a c :=
 ⟨h.frm.then k.frm (fun i hi h1 => h1.elim (fun h1 => .inl ((h.own i h1).resolve_right (by omega))) (fun h1 => .inr ((h.gr i h1).resolve_right (by omega)))),
  fun i h1 => (k.own i h1).elim (h.own i) (fun h2 => .inr (Nat.le_trans h.frm.size h2)),
  fun i h1 => (k.sh i h1).elim (h.sh i) (fun h2 => .inr (Nat.le_trans h.frm.size h2)),
  fun i h1 => (k.gr i h1).elim (h.gr i) (fun h2 => .inr (Nat.le_trans h.frm.size h2))⟩
theorem LgStep.below {F : Foot} {G : Nat → Prop} {w w' : World} (h : Below w.heap.size w w') : LgStep F F G G w w' := ⟨Frm.of_below h, fun _ h => .inl h, fun _ h => .inl h, fun _ h => .inl h⟩
theorem LgStep.of_foot {F F' : Foot} {G : Nat → Prop} {w w' : World} (h : FootStep F F' w w') : LgStep F F' G G w w' := ⟨h.frm.mono fun _ h => .inl h, h.own, h.sh, fun _ h => .inl h⟩
def LgDid (w : World) (l b : Nat) (F : Foot) (G : Nat → Prop) (g' : Lg) (d' : Dsk) (w' : World) : Prop := ∃ F' G', LgAt w' l b F' G' g' d' ∧ LgStep F F' G G' w w'
section
variable {w w' : World} {l b : Nat} {F F' : Foot} {G : Nat → Prop} {g : Lg} {d d' : Dsk} {lv : Value}
theorem LogMem.keep (h : LogMem w l b F G g lv) (hk : ∀ k, G k → w'.heap[k]? = w.heap[k]?) (hs : w.heap.size ≤ w'.heap.size) (hF : ∀ k, k < w.heap.size → (F'.own k → F.own k) ∧ (F'.sh k → F.sh k)) : LogMem w' l b F' G g lv :=
 ⟨(hk l h.lown).trans h.blk, row_keep h.row fun k hg => hk k (h.rown k hg), h.rown, h.lown, fun k hg => ⟨fun h1 => (h.gout k hg).1 ((hF k (h.glt k hg)).1 h1), fun h1 => (h.gout k hg).2 ((hF k (h.glt k hg)).2 h1)⟩,
  fun k hg => Nat.lt_of_lt_of_le (h.glt k hg) hs, h.ok⟩
theorem LgAt.ok (h : LgAt w l b F G g d) : g.Ok := by obtain ⟨_, h⟩ := h.log; exact h.ok
theorem LgAt.lt (h : LgAt w l b F G g d) : l < w.heap.size := by obtain ⟨_, h⟩ := h.log; exact lt_of_block h.blk
theorem LgAt.below (h : LgAt w l b F G g d) (hb : Below w.heap.size w w') : LgAt w' l b F G g d := by
 obtain ⟨lv, h1⟩ := h.log
 exact ⟨h.disk.below hb, lv, h1.keep (fun k hk => hb.block k (h1.glt k hk)) hb.size fun k _ => ⟨id, id⟩⟩
theorem LogMem.disk (h : LogMem w l b F G g lv) (hs : FootStep F F' w w') : LogMem w' l b F' G g lv :=
 h.keep (fun k hk => hs.frm.block k (h.glt k hk) (h.gout k hk).1) hs.frm.size fun k hk => ⟨fun h1 => (hs.own k h1).resolve_right (by omega), fun h1 => (hs.sh k h1).resolve_right (by omega)⟩
theorem LgAt.did (h : LgAt w l b F G g d) (hd : Did w b F d' w') : LgDid w l b F G g d' w' := by
 obtain ⟨F', h1, h2⟩ := hd
 obtain ⟨lv, h3⟩ := h.log
 exact ⟨F', G, ⟨h1, lv, h3.disk h2⟩, LgStep.of_foot h2⟩
theorem LgAt.other {b2 : Nat} {F2 F2' : Foot} {G2 G2' : Nat → Prop} (h : LgAt w l b F G g d) (hs : LgStep F2 F2' G2 G2' w w') (hd : ∀ k, F.own k ∨ F.sh k ∨ G k → ¬ F2.own k ∧ ¬ G2 k) : LgAt w' l b F G g d := by
 obtain ⟨lv, h1⟩ := h.log
 have hk : ∀ k, F.own k ∨ F.sh k ∨ G k → k < w.heap.size → w'.heap[k]? = w.heap[k]? := fun k h2 h3 => hs.frm.block k h3 (fun e => e.elim (hd k h2).1 (hd k h2).2)
 exact ⟨h.disk.keep (fun k h2 => hk k (h2.elim .inl (fun h => .inr (.inl h))) (h2.elim (h.disk.olt k) (h.disk.slt k))) hs.frm.size, lv, h1.keep (fun k h2 => hk k (.inr (.inr h2)) (h1.glt k h2)) hs.frm.size fun k _ => ⟨id, id⟩⟩
theorem LogMem.cell (h : LogMem w l b F G g lv) (o : Nat) : w.cell? ⟨l, o, none⟩ = (logCells b g lv)[o]? := by rw [cell_of_block h.blk]; simp
theorem LogMem.free (h : LogMem w l b F G g lv) (o : Nat) : w.frozen? ⟨l, o, none⟩ = false := free_of_block h.blk o
theorem LogMem.row_block (h : LogMem w l b F G g lv) {k : Nat} (hk : lv.ownBlock = some k) : ∃ cur, w.heap[k]? = some (.cells cur 118 (0, 0)) := by
 rcases h.row.2 with ⟨rfl, _⟩ | ⟨g', cap, cur, rfl, _, hh, _⟩
 ·cases hk
 ·cases hk; exact ⟨cur, hh⟩
theorem LogMem.ne_row (h : LogMem w l b F G g lv) {k : Nat} (hk : lv.ownBlock = some k) : k ≠ l := by
 obtain ⟨cur, hh⟩ := h.row_block hk
 intro e
 rw [e, h.blk] at hh
 injection hh with hh
 injection hh with h1 h2 h3
 exact absurd h2 (by decide)
theorem LogMem.turn {g' : Lg} (h : LogMem w l b F G g lv) (hf : Frm (fun k => k = l) w w') (hb : w'.heap[l]? = some (.cells (logCells b g' lv).toArray 110 (0, 0))) (hl : g'.list = g.list) (ho : g'.Ok) : LogMem w' l b F G g' lv := by
 refine ⟨hb, ?_, h.rown, h.lown, h.gout, fun k hg => Nat.lt_of_lt_of_le (h.glt k hg) hf.size, ho⟩
 rw [hl]
 exact row_keep h.row fun k hk => hf.block k (h.glt k (h.rown k hk)) (h.ne_row hk)
theorem LgAt.turn {g' : Lg} (h : LgAt w l b F G g d) (hf : Frm (fun k => k = l) w w') (hb : ∀ lv, LogMem w l b F G g lv → w'.heap[l]? = some (.cells (logCells b g' lv).toArray 110 (0, 0))) (hl : g'.list = g.list) (ho : g'.Ok) :
  LgDid w l b F G g' d w' := by
 obtain ⟨lv, h1⟩ := h.log
 have old : ∀ k, F.own k ∨ F.sh k → k < w.heap.size → w'.heap[k]? = w.heap[k]? := fun k h2 h3 => hf.block k h3 (fun e => by
  have := h1.gout l h1.lown
  subst e
  exact h2.elim this.1 this.2)
 exact ⟨F, G, ⟨h.disk.keep (fun k h2 => old k h2 (h2.elim (h.disk.olt k) (h.disk.slt k))) hf.size, lv, h1.turn hf (hb lv h1) hl ho⟩, hf.mono (fun k hk => .inr (hk ▸ h1.lown)), fun _ h => .inl h, fun _ h => .inl h, fun _ h => .inl h⟩
theorem LgDid.trans {g1 g2 : Lg} {d1 d2 : Dsk} {w1 w2 : World} {F1 : Foot} {G1 : Nat → Prop} (h : LgStep F F1 G G1 w w1) (k : LgDid w1 l b F1 G1 g2 d2 w2) : LgDid w l b F G g2 d2 w2 := by
 obtain ⟨F2, G2, h1, h2⟩ := k
 exact ⟨F2, G2, h1, h.trans h2⟩
theorem LgDid.same (h : LgAt w l b F G g d) : LgDid w l b F G g d w := ⟨F, G, h, LgStep.refl _ _ _⟩
theorem LgDid.ofBelow (h : LgAt w l b F G g d) (hb : Below w.heap.size w w') : LgDid w l b F G g d w' := ⟨F, G, h.below hb, LgStep.below hb⟩
end
theorem wnoughts_any (k : Nat) (w : World) (hk : k ≤ 1000) :
  Calls Tryz.prog 51 #[.int .i64 (k : Int)] w fun e w' => e = .returned (.string (bs (List.replicate k 0))) ∧ Below w.heap.size w w' := by
 have R := fun W => Tryz.strings_Repeat (bs [0]) k W (by omega) (by rw [bs_size]; simp; omega)
 have e0 : ByteArray.mk #[0] = bs [0] := rfl
 go_enter Tryz.func51, Tryz.ntmps51
 go_wp2_with fail
 refine (R _).mono ?_
 rintro e w1 ⟨rfl, hb1⟩
 go_wp2_with fail
 go_ret
 exact ⟨ret_str (repeat_one 0 k), hb1⟩
section
variable {w : World} {l b : Nat} {F : Foot} {G : Nat → Prop} {g : Lg} {d : Dsk}
theorem mark_any (h : LgAt w l b F G g d) : Calls Tryz.prog 58 #[.pointer (some ⟨l, 0, none⟩)] w fun e w' => e = .returned (.int .i64 g.list.length) ∧ w' = w := by
 obtain ⟨lv, h⟩ := h.log
 have c := h.cell 5
 simp only [logCells, List.getElem?_cons_succ, List.getElem?_cons_zero] at c
 rcases h.row.2 with ⟨rfl, h0⟩ | ⟨k, cap, cur, rfl, -⟩
 ·have hz : (g.list.length : Int) = 0 := by omega
  rw [hz]
  clear h h0 hz
  go_enter Tryz.func58, Tryz.ntmps58
  go_wp2_with fail
  go_ret
  exact ⟨rfl, rfl⟩
 ·obtain ⟨n, hn⟩ : ∃ n, n = g.list.length := ⟨_, rfl⟩
  rw [← hn] at c ⊢
  clear h hn
  go_enter Tryz.func58, Tryz.ntmps58
  go_wp2_with fail
  go_ret
  exact ⟨rfl, rfl⟩
theorem pages_any (h : LgAt w l b F G g d) : Calls Tryz.prog 27 #[.pointer (some ⟨l, 0, none⟩)] w fun e w' => e = .returned (.int .i64 g.head.pages) ∧ w' = w := by
 obtain ⟨lv, h⟩ := h.log
 have c := h.cell 3
 simp only [logCells, List.getElem?_cons_succ, List.getElem?_cons_zero] at c
 clear h
 go_enter Tryz.func27, Tryz.ntmps27
 go_wp2_with fail
 go_ret
 exact ⟨rfl, rfl⟩
def lreadyM (g : Lg) : Int := if g.off then 32 else 0
theorem lready_any (h : LgAt w l b F G g d) : Calls Tryz.prog 99 #[.pointer (some ⟨l, 0, none⟩)] w fun e w' => e = .returned (.int .i64 (lreadyM g)) ∧ w' = w := by
 obtain ⟨lv, h⟩ := h.log
 have c := h.cell 9
 simp only [logCells, List.getElem?_cons_succ, List.getElem?_cons_zero] at c
 clear h
 unfold lreadyM
 cases ho : g.off <;> rw [ho] at c
 all_goals
  go_enter Tryz.func99, Tryz.ntmps99
  go_wp2_with fail
  go_ret
  exact ⟨rfl, rfl⟩
end
section
variable (w : World)
end
end Go.Proofs.YtlkkclooihjpiaaGreat
