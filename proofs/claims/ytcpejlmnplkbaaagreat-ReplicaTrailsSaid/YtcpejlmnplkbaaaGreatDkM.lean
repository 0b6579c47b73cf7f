import Derived.Test.YtcpejlmnplkbaaaGreatFrF
import Derived.Test.YtcpejlmnplkbaaaGreatDkL
import Derived.Laws.OwnMore
set_option linter.unusedVariables false
set_option linter.unusedSimpArgs false
namespace Go.Proofs.YtcpejlmnplkbaaaGreat
open Go.RowKit
set_option maxRecDepth 20000
theorem hdB_eq (h : Hd) : hdB h = wordC ++ (eight h.number ++ (four h.frames ++ four h.pages)) := by simp [hdB]
theorem hdL_eq (h : Hd) : hdL h = hdB h ++ (textOf (sumAdd (0, 0) (hdB h)) ++ zeros 32) := by simp [hdL]
theorem four_of_num (l : List UInt8) (h : l.length = 4) : four (num l) = l := by
 have b : 0 ≤ num l ∧ num l < 4294967296 := by
  have := num4_bd l
  rwa [List.take_of_length_le (by omega)] at this
 exact num_inj _ _ (by rw [h]; rfl) (num_four _ b.1 b.2)
theorem eight_of_num (l : List UInt8) (h : l.length = 8) : eight (num l) = l := by
 have b : 0 ≤ num l ∧ num l < 18446744073709551616 := by
  have := num8_lt l
  rwa [List.take_of_length_le (by omega)] at this
 exact num_inj _ _ (by rw [h]; rfl) (num_eight _ b.1 b.2)
theorem tkHd_ok (s : List UInt8) (hl : s.length = 64) (h : (tkHd s).2 = 0) : s = hdL (tkHd s).1 ∧ hdMay (tkHd s).1 = true := by
 unfold tkHd at *
 rw [if_neg (by omega)] at h ⊢
 cases hb : hdBad s
 ·rw [hb] at h
  simp only [Bool.false_eq_true, if_false] at h ⊢
  by_cases ht : ((s.drop 24).take 8 == textOf (sumAdd (0, 0) (s.take 24))) = true
  ·rw [if_pos ht]
   unfold hdBad at hb
   simp only [Bool.or_eq_false_iff, Bool.not_eq_false', beq_iff_eq] at hb ht
   obtain ⟨h1, h2, h3, h4⟩ := hb
   have hm : hdMay (hdOf s) = true := by simp [hdMay, h3, h4]
   refine ⟨?_, hm⟩
   have e1 : eight (hdOf s).number = (s.drop 8).take 8 := eight_of_num _ (by simp; omega)
   have e2 : four (hdOf s).frames = (s.drop 16).take 4 := four_of_num _ (by simp; omega)
   have e3 : four (hdOf s).pages = (s.drop 20).take 4 := four_of_num _ (by simp; omega)
   have eB : hdB (hdOf s) = s.take 24 := by
    rw [hdB_eq, e1, e2, e3, ← h1]
    rw [show (24 : Nat) = 8 + (8 + (4 + 4)) from rfl, List.take_add, List.take_add (i := 8), List.take_add (i := 4), List.drop_drop, List.drop_drop]
   rw [hdL_eq, eB, ← ht, ← h2]
   conv => lhs; rw [← List.take_append_drop 24 s, ← List.take_append_drop 8 (s.drop 24), List.drop_drop]
   rw [List.take_of_length_le (l := s.drop (24 + 8)) (by simp; omega)]
  ·rw [if_neg ht] at h
   exact absurd h (by decide)
 ·rw [hb] at h
  exact absurd h (by simp)
theorem frOk_facts {f : Fr} (h : frOk f = true) : frMay f = true ∧ f.data.length = 512 ∧ (1 ≤ f.page ∧ f.page ≤ 256) ∧ (0 ≤ f.commit ∧ f.commit ≤ 256) := by
 simp only [frOk, Bool.and_eq_true, decide_eq_true_eq] at h
 have h1 := h.1
 simp only [frMay, Bool.and_eq_true] at h1
 exact ⟨h.1, h.2, inB_true.1 h1.1, inB_true.1 h1.2⟩
end Go.Proofs.YtcpejlmnplkbaaaGreat
namespace Go.Proofs.YtcpejlmnplkbaaaGreat
open Go.RowKit Go.Maps
set_option maxRecDepth 20000
section
variable {w : World} {b : Nat} {F : Foot} {d : Dsk} {nm sm : Nat → Option Nat} {lv : Value} {am : Nat}
end
section
variable {w : World} {b : Nat} {F : Foot} {d : Dsk}
end
structure Lg where
 head : Hd
 has : Bool
 list : List Fr
 pair : Int × Int
 torn : Bool
 off : Bool
structure Lg.Ok (g : Lg) : Prop where
 num : HdWf g.head
 pages : 0 ≤ g.head.pages ∧ g.head.pages ≤ 256
 frames : 0 ≤ g.head.frames ∧ g.head.frames ≤ 256
 pair : PairWf g.pair
 many : g.list.length ≤ 256
 data : ∀ f ∈ g.list, frOk f = true
def frCells (f : Fr) : List Value := [.int .i64 f.page, .int .i64 f.commit, .string (bs f.data)]
def frsCells (l : List Fr) : List Value := l.flatMap frCells
theorem frsCells_length : ∀ l : List Fr, (frsCells l).length = l.length * 3
 | [] => rfl
 | f :: r => by
  have := frsCells_length r
  simp only [frsCells, List.flatMap_cons, List.length_append, List.length_cons] at this ⊢
  rw [this]
  simp [frCells]
  omega
theorem frsCells_snoc (l : List Fr) (f : Fr) : frsCells (l ++ [f]) = frsCells l ++ frCells f := by simp [frsCells]
theorem frsCells_append (l k : List Fr) : frsCells (l ++ k) = frsCells l ++ frsCells k := by simp [frsCells]
theorem frCells_one (f : Fr) : ∀ u ∈ frCells f, u.oneCell' = true := by
 intro u hu
 simp only [frCells, List.mem_cons, List.not_mem_nil, or_false] at hu
 rcases hu with rfl | rfl | rfl <;> rfl
theorem frsCells_one (l : List Fr) : ∀ u ∈ frsCells l, u.oneCell' = true := by
 intro u hu
 obtain ⟨f, _, h⟩ := List.mem_flatMap.1 hu
 exact frCells_one f u h
theorem frsCells_get : ∀ (l : List Fr) (k : Nat) (h : k < l.length), (frsCells l)[k * 3]? = some (.int .i64 l[k].page) ∧ (frsCells l)[k * 3 + 1]? = some (.int .i64 l[k].commit) ∧ (frsCells l)[k * 3 + 2]? = some (.string (bs l[k].data))
 | f :: r, 0, _ => ⟨rfl, rfl, rfl⟩
 | f :: r, k + 1, h => by
  have := frsCells_get r k (by simpa using h)
  have e : frsCells (f :: r) = frCells f ++ frsCells r := rfl
  have h3 : (frCells f).length = 3 := rfl
  rw [e, List.getElem?_append_right (by omega), List.getElem?_append_right (by omega), List.getElem?_append_right (by omega)]
  have e0 : (k + 1) * 3 - (frCells f).length = k * 3 := by omega
  have e1 : (k + 1) * 3 + 1 - (frCells f).length = k * 3 + 1 := by omega
  have e2 : (k + 1) * 3 + 2 - (frCells f).length = k * 3 + 2 := by omega
  rw [e0, e1, e2]
  simpa using this
def logCells (b : Nat) (g : Lg) (lv : Value) : List Value :=
 [.pointer (some ⟨b, 0, none⟩), .int .u64 g.head.number, .int .i64 g.head.frames, .int .i64 g.head.pages, .bool g.has, lv, .int .u32 g.pair.1, .int .u32 g.pair.2, .bool g.torn, .bool g.off]
structure LogMem (w : World) (l b : Nat) (F : Foot) (G : Nat → Prop) (g : Lg) (lv : Value) : Prop where
 blk : w.heap[l]? = some (.cells (logCells b g lv).toArray 178 (0, 0))
 row : w.ownsRow 0 186 3 lv g.list.length (frsCells g.list)
 rown : ∀ k, lv.ownBlock = some k → G k
 lown : G l
 gout : ∀ k, G k → ¬ F.own k ∧ ¬ F.sh k
 glt : ∀ k, G k → k < w.heap.size
 ok : g.Ok
structure LgAt (w : World) (l b : Nat) (F : Foot) (G : Nat → Prop) (g : Lg) (d : Dsk) : Prop where
 disk : DiskAt w b F d
 log : ∃ lv, LogMem w l b F G g lv
structure LgStep (F F' : Foot) (G G' : Nat → Prop) (w w' : World) : Prop where
 frm : Frm (fun k => F.own k ∨ G k) w w'
 own : ∀ k, F'.own k → F.own k ∨ w.heap.size ≤ k
 sh : ∀ k, F'.sh k → F.sh k ∨ w.heap.size ≤ k
 gr : ∀ k, G' k → G k ∨ w.heap.size ≤ k
theorem LgStep.refl (F : Foot) (G : Nat → Prop) (w : World) : LgStep F F G G w w := ⟨Frm.refl _ _, fun _ h => .inl h, fun _ h => .inl h, fun _ h => .inl h⟩
theorem LgStep.trans {F F' F'' : Foot} {G G' G'' : Nat → Prop} {a b c : World} (h : LgStep F F' G G' a b) (k : LgStep F' F'' G' G'' b c) : LgStep F F'' G G'' a c :=
 ⟨h.frm.then k.frm (fun i hi h1 => h1.elim (fun h1 => .inl ((h.own i h1).resolve_right (by omega))) (fun h1 => .inr ((h.gr i h1).resolve_right (by omega)))),
  fun i h1 => (k.own i h1).elim (h.own i) (fun h2 => .inr (Nat.le_trans h.frm.size h2)),
  fun i h1 => (k.sh i h1).elim (h.sh i) (fun h2 => .inr (Nat.le_trans h.frm.size h2)),
  fun i h1 => (k.gr i h1).elim (h.gr i) (fun h2 => .inr (Nat.le_trans h.frm.size h2))⟩
theorem LgStep.below {F : Foot} {G : Nat → Prop} {w w' : World} (h : Below w.heap.size w w') : LgStep F F G G w w' := ⟨Frm.of_below h, fun _ h => .inl h, fun _ h => .inl h, fun _ h => .inl h⟩
theorem LgStep.of_foot {F F' : Foot} {G : Nat → Prop} {w w' : World} (h : FootStep F F' w w') : LgStep F F' G G w w' := ⟨h.frm.mono fun _ h => .inl h, h.own, h.sh, fun _ h => .inl h⟩
def LgDid (w : World) (l b : Nat) (F : Foot) (G : Nat → Prop) (g' : Lg) (d' : Dsk) (w' : World) : Prop := ∃ F' G', LgAt w' l b F' G' g' d' ∧ LgStep F F' G G' w w'
section
variable {w w' : World} {l b : Nat} {F F' : Foot} {G : Nat → Prop} {g : Lg} {d d' : Dsk} {lv : Value}
theorem LogMem.keep (h : LogMem w l b F G g lv) (hk : ∀ k, G k → w'.heap[k]? = w.heap[k]?) (hs : w.heap.size ≤ w'.heap.size) (hF : ∀ k, k < w.heap.size → (F'.own k → F.own k) ∧ (F'.sh k → F.sh k)) : LogMem w' l b F' G g lv :=
 ⟨(hk l h.lown).trans h.blk, row_keep h.row fun k hg => hk k (h.rown k hg), h.rown, h.lown, fun k hg => ⟨fun h1 => (h.gout k hg).1 ((hF k (h.glt k hg)).1 h1), fun h1 => (h.gout k hg).2 ((hF k (h.glt k hg)).2 h1)⟩,
  fun k hg => Nat.lt_of_lt_of_le (h.glt k hg) hs, h.ok⟩
theorem LgAt.ok (h : LgAt w l b F G g d) : g.Ok := by obtain ⟨_, h⟩ := h.log; exact h.ok
theorem LgAt.lt (h : LgAt w l b F G g d) : l < w.heap.size := by obtain ⟨_, h⟩ := h.log; exact lt_of_block h.blk
theorem LgAt.below (h : LgAt w l b F G g d) (hb : Below w.heap.size w w') : LgAt w' l b F G g d := by
 obtain ⟨lv, h1⟩ := h.log
 exact ⟨h.disk.below hb, lv, h1.keep (fun k hk => hb.block k (h1.glt k hk)) hb.size fun k _ => ⟨id, id⟩⟩
theorem LogMem.disk (h : LogMem w l b F G g lv) (hs : FootStep F F' w w') : LogMem w' l b F' G g lv :=
 h.keep (fun k hk => hs.frm.block k (h.glt k hk) (h.gout k hk).1) hs.frm.size fun k hk => ⟨fun h1 => (hs.own k h1).resolve_right (by omega), fun h1 => (hs.sh k h1).resolve_right (by omega)⟩
theorem LgAt.did (h : LgAt w l b F G g d) (hd : Did w b F d' w') : LgDid w l b F G g d' w' := by
 obtain ⟨F', h1, h2⟩ := hd
 obtain ⟨lv, h3⟩ := h.log
 exact ⟨F', G, ⟨h1, lv, h3.disk h2⟩, LgStep.of_foot h2⟩
theorem LgAt.other {b2 : Nat} {F2 F2' : Foot} {G2 G2' : Nat → Prop} (h : LgAt w l b F G g d) (hs : LgStep F2 F2' G2 G2' w w') (hd : ∀ k, F.own k ∨ F.sh k ∨ G k → ¬ F2.own k ∧ ¬ G2 k) : LgAt w' l b F G g d := by
 obtain ⟨lv, h1⟩ := h.log
 have hk : ∀ k, F.own k ∨ F.sh k ∨ G k → k < w.heap.size → w'.heap[k]? = w.heap[k]? := fun k h2 h3 => hs.frm.block k h3 (fun e => e.elim (hd k h2).1 (hd k h2).2)
 exact ⟨h.disk.keep (fun k h2 => hk k (h2.elim .inl (fun h => .inr (.inl h))) (h2.elim (h.disk.olt k) (h.disk.slt k))) hs.frm.size, lv, h1.keep (fun k h2 => hk k (.inr (.inr h2)) (h1.glt k h2)) hs.frm.size fun k _ => ⟨id, id⟩⟩
theorem LogMem.cell (h : LogMem w l b F G g lv) (o : Nat) : w.cell? ⟨l, o, none⟩ = (logCells b g lv)[o]? := by rw [cell_of_block h.blk]; simp
theorem LogMem.free (h : LogMem w l b F G g lv) (o : Nat) : w.frozen? ⟨l, o, none⟩ = false := free_of_block h.blk o
theorem LogMem.row_block (h : LogMem w l b F G g lv) {k : Nat} (hk : lv.ownBlock = some k) : ∃ cur, w.heap[k]? = some (.cells cur 186 (0, 0)) := by
 rcases h.row.2 with ⟨rfl, _⟩ | ⟨g', cap, cur, rfl, _, hh, _⟩
 ·cases hk
 ·cases hk; exact ⟨cur, hh⟩
theorem LogMem.ne_row (h : LogMem w l b F G g lv) {k : Nat} (hk : lv.ownBlock = some k) : k ≠ l := by
 obtain ⟨cur, hh⟩ := h.row_block hk
 intro e
 rw [e, h.blk] at hh
 injection hh with hh
 injection hh with h1 h2 h3
 exact absurd h2 (by decide)
theorem LogMem.turn {g' : Lg} (h : LogMem w l b F G g lv) (hf : Frm (fun k => k = l) w w') (hb : w'.heap[l]? = some (.cells (logCells b g' lv).toArray 178 (0, 0))) (hl : g'.list = g.list) (ho : g'.Ok) : LogMem w' l b F G g' lv := by
 refine ⟨hb, ?_, h.rown, h.lown, h.gout, fun k hg => Nat.lt_of_lt_of_le (h.glt k hg) hf.size, ho⟩
 rw [hl]
 exact row_keep h.row fun k hk => hf.block k (h.glt k (h.rown k hk)) (h.ne_row hk)
theorem LgAt.turn {g' : Lg} (h : LgAt w l b F G g d) (hf : Frm (fun k => k = l) w w') (hb : ∀ lv, LogMem w l b F G g lv → w'.heap[l]? = some (.cells (logCells b g' lv).toArray 178 (0, 0))) (hl : g'.list = g.list) (ho : g'.Ok) :
  LgDid w l b F G g' d w' := by
 obtain ⟨lv, h1⟩ := h.log
 have old : ∀ k, F.own k ∨ F.sh k → k < w.heap.size → w'.heap[k]? = w.heap[k]? := fun k h2 h3 => hf.block k h3 (fun e => by
  have := h1.gout l h1.lown
  subst e
  exact h2.elim this.1 this.2)
 exact ⟨F, G, ⟨h.disk.keep (fun k h2 => old k h2 (h2.elim (h.disk.olt k) (h.disk.slt k))) hf.size, lv, h1.turn hf (hb lv h1) hl ho⟩, hf.mono (fun k hk => .inr (hk ▸ h1.lown)), fun _ h => .inl h, fun _ h => .inl h, fun _ h => .inl h⟩
theorem LgDid.trans {g1 g2 : Lg} {d1 d2 : Dsk} {w1 w2 : World} {F1 : Foot} {G1 : Nat → Prop} (h : LgStep F F1 G G1 w w1) (k : LgDid w1 l b F1 G1 g2 d2 w2) : LgDid w l b F G g2 d2 w2 := by
 obtain ⟨F2, G2, h1, h2⟩ := k
 exact ⟨F2, G2, h1, h.trans h2⟩
theorem LgDid.same (h : LgAt w l b F G g d) : LgDid w l b F G g d w := ⟨F, G, h, LgStep.refl _ _ _⟩
theorem LgDid.ofBelow (h : LgAt w l b F G g d) (hb : Below w.heap.size w w') : LgDid w l b F G g d w' := ⟨F, G, h.below hb, LgStep.below hb⟩
end
theorem wnoughts_any (k : Nat) (w : World) (hk : k ≤ 1000) :
  Calls Tryz.prog 92 #[.int .i64 (k : Int)] w fun e w' => e = .returned (.string (bs (List.replicate k 0))) ∧ Below w.heap.size w w' := by
 have R := fun W => Tryz.strings_Repeat (bs [0]) k W (by omega) (by rw [bs_size]; simp; omega)
 have e0 : ByteArray.mk #[0] = bs [0] := rfl
 go_enter Tryz.func92, Tryz.ntmps92
 go_wp2_with fail
 refine (R _).mono ?_
 rintro e w1 ⟨rfl, hb1⟩
 go_wp2_with fail
 go_ret
 exact ⟨ret_str (repeat_one 0 k), hb1⟩
section
variable {w : World} {l b : Nat} {F : Foot} {G : Nat → Prop} {g : Lg} {d : Dsk}
theorem mark_any (h : LgAt w l b F G g d) : Calls Tryz.prog 76 #[.pointer (some ⟨l, 0, none⟩)] w fun e w' => e = .returned (.int .i64 g.list.length) ∧ w' = w := by
 obtain ⟨lv, h⟩ := h.log
 have c := h.cell 5
 simp only [logCells, List.getElem?_cons_succ, List.getElem?_cons_zero] at c
 rcases h.row.2 with ⟨rfl, h0⟩ | ⟨k, cap, cur, rfl, -⟩
 ·have hz : (g.list.length : Int) = 0 := by omega
  rw [hz]
  clear h h0 hz
  go_enter Tryz.func76, Tryz.ntmps76
  go_wp2_with fail
  go_ret
  exact ⟨rfl, rfl⟩
 ·obtain ⟨n, hn⟩ : ∃ n, n = g.list.length := ⟨_, rfl⟩
  rw [← hn] at c ⊢
  clear h hn
  go_enter Tryz.func76, Tryz.ntmps76
  go_wp2_with fail
  go_ret
  exact ⟨rfl, rfl⟩
theorem pages_any (h : LgAt w l b F G g d) : Calls Tryz.prog 74 #[.pointer (some ⟨l, 0, none⟩)] w fun e w' => e = .returned (.int .i64 g.head.pages) ∧ w' = w := by
 obtain ⟨lv, h⟩ := h.log
 have c := h.cell 3
 simp only [logCells, List.getElem?_cons_succ, List.getElem?_cons_zero] at c
 clear h
 go_enter Tryz.func74, Tryz.ntmps74
 go_wp2_with fail
 go_ret
 exact ⟨rfl, rfl⟩
def lreadyM (g : Lg) : Int := if g.off then 32 else 0
theorem lready_any (h : LgAt w l b F G g d) : Calls Tryz.prog 131 #[.pointer (some ⟨l, 0, none⟩)] w fun e w' => e = .returned (.int .i64 (lreadyM g)) ∧ w' = w := by
 obtain ⟨lv, h⟩ := h.log
 have c := h.cell 9
 simp only [logCells, List.getElem?_cons_succ, List.getElem?_cons_zero] at c
 clear h
 unfold lreadyM
 cases ho : g.off <;> rw [ho] at c
 all_goals
  go_enter Tryz.func131, Tryz.ntmps131
  go_wp2_with fail
  go_ret
  exact ⟨rfl, rfl⟩
end
section
variable (w : World)
end
end Go.Proofs.YtcpejlmnplkbaaaGreat
/- A disk's Read. -/
namespace Go.Proofs.YtcpejlmnplkbaaaGreat
open Go.RowKit Go.Maps
set_option maxRecDepth 20000
set_option maxRecDepth 20000 in
theorem lookup_sec {w : World} {m : Option Nat} {l : List Sec} (h : FileAt w m l) (hs : ∀ s ∈ l, s.length = 64) (hl : l.length ≤ 8192) {i : Nat} (hi : i < l.length) :
  (Instr.lookup 134 (.map m) (.int .i64 (i : Int)) false).run Tryz.prog w = .ok (secV l[i]) w := by
 cases m with
 | none => cases (show l = [] from h); simp at hi
 | some b =>
  obtain ⟨D, hown, hh⟩ := h
  obtain ⟨v, ps, hrun, hR⟩ := hown.lookup (t := 134) (e := 210) keyI Tryz.underlying134 (z := secV nought) (by kernel_rfl) (secElem_mk nought_length) (key := .int .i64 (i : Int)) (kl := ik i) (keyOf_int_mk Tryz.underlying3 (WalkArith.wf_i64 (by omega)))
  obtain ⟨s, h1, rfl, h3⟩ := secElem_inv hR
  have h4 : D.atKey (ik i) dNought = .lit (.string s) := (Prod.mk.inj h3).1
  rw [hh.at_ i hi] at h4
  have h5 : l[i] = s := by injection h4 with h4; injection h4
  rw [hrun, h5]
theorem exec_lookup {P : Program} {o : Oper} {a : Act} {w : World} {t : TypeId} {x y : Operand} {u k v : Value} (ho : o.op = .lookup t x y false) (hx : a.eval x = u) (hy : a.eval y = k) (h : (Instr.lookup t u k false).run P w = .ok v w) :
  (execOp a.eval o).run P w = .ok (.value v) w := by
 unfold execOp
 simp only [ho, hx, hy, Sem.run_bind, h, Result.andThen_ok, Sem.run_pure]
def readM (d : Dsk) (f a n : Int) : List UInt8 × Int :=
 if readyM d f ≠ 0 then ([], readyM d f)
 else if a < 0 ∨ n < 0 ∨ ((d.now f.toNat).length : Int) < a ∨ ((d.now f.toNat).length : Int) - a < n then ([], 5)
 else ((((d.now f.toNat).drop a.toNat).take n.toNat).flatten, 0)
theorem flat_take {l : List Sec} (hs : ∀ s ∈ l, s.length = 64) {a i : Nat} (h : a + i ≤ l.length) : (((l.drop a).take i).flatten).length = 64 * i := by
 induction i with
 | zero => simp
 | succ i ih =>
  have h1 : i < (l.drop a).length := by simp; omega
  rw [List.take_succ_eq_append_getElem h1, List.flatten_append, List.length_append, ih (by omega)]
  have := hs ((l.drop a)[i]) (List.mem_of_mem_drop (List.getElem_mem h1))
  simp only [List.flatten_cons, List.flatten_nil, List.append_nil, this]
  omega
section
variable {w : World} {b : Nat} {F : Foot} {d : Dsk}
set_option maxHeartbeats 1000000 in
set_option maxRecDepth 20000 in
theorem read_main (h : DiskAt w b F d) (k a n : Nat) (hk : k < 8) (ho : d.off = false) (hn : a + n ≤ (d.now k).length) :
  Calls Tryz.prog 94 #[.pointer (some ⟨b, 0, none⟩), .int .i64 (k : Int), .int .i64 (a : Int), .int .i64 (n : Int)] w fun e w' => e = .returned (.tuple #[.string (bs (((d.now k).drop a).take n).flatten), .int .i64 0]) ∧ Below w.heap.size w w' := by
 have R := ready_any h (k : Int)
 have hr0 : readyM d (k : Int) = 0 := by unfold readyM; rw [ho, if_neg (by simp), if_pos (by omega)]
 rw [hr0] at R
 obtain ⟨nm, sm, lv, am, hmem⟩ := id h
 obtain ⟨l, hl⟩ : ∃ l, l = d.now k := ⟨_, rfl⟩
 have hfa := hmem.now k hk
 have hsec := hmem.ok.ns k hk
 have hlen := hmem.ok.nl k hk
 obtain ⟨a0, a1, af0, af1⟩ := now_here hmem hk
 rw [← hl] at hn hfa hsec hlen a0 ⊢
 obtain ⟨z, hz⟩ : ∃ z : Int, z = (l.length : Int) := ⟨_, rfl⟩
 rw [← hz] at a0
 have hk8 : (k : Int) < 8 := by omega
 have c1 : decide ((a : Int) < 0) = false := by simp
 have c2 : decide ((n : Int) < 0) = false := by simp
 have c3 : decide (z < (a : Int)) = false := by simp only [decide_eq_false_iff_not]; omega
 have hw : IntKind.i64.wrap (z - (a : Int)) = z - (a : Int) := IntWalk.i64_in _ (by omega)
 have hw2 : IntKind.i64.wrap ((a : Int) + (n : Int)) = (a : Int) + (n : Int) := IntWalk.i64_in _ (by omega)
 have c4 : decide (z - (a : Int) < (n : Int)) = false := by simp only [decide_eq_false_iff_not]; omega
 have HM := hid hmem
 have HFA := hid hfa
 have HSEC := hid hsec
 have HLEN := hid hlen
 have HN := hid hn
 have R := hid R
 clear hmem hfa hsec hlen hl hr0 h hz hn
 go_enter Tryz.func94, Tryz.ntmps94
 go_wp2_with (first | (go_at_call 117; refine (R.out).mono ?_; rintro e w1 ⟨rfl, rfl⟩) | go_in)
 go_loopw [12, 11] (fun v12 v11 wr => ∃ i : Nat, v12 = .int .i64 ((a : Int) + (i : Int)) ∧ i ≤ n ∧ wr.ownsRow w1.heap.size 5 1 v11 (64 * i) (cellsOf ((l.drop a).take i).flatten) ∧ Below w1.heap.size w1 wr) (fun v12 _ _ => a + n - (intOf v12).toNat)
 case atStart => exact ⟨0, rfl, Nat.zero_le _, World.ownsRow_nil _ _ _ _, Below.refl _ _⟩
 case round =>
  obtain ⟨i, rfl, hin, hrow, hbel⟩ := hrel
  have Hrow := hid hrow
  have Hbel := hid hbel
  clear hrow hbel
  by_cases hlt : i < n
  ·have hil : a + i < l.length := by have := HN.out; omega
   obtain ⟨s, hs⟩ : ∃ s, s = l[a + i] := ⟨_, rfl⟩
   have Hs := hid hs
   have Hs64 := hid (show s.length = 64 from HSEC.out s (hs ▸ List.getElem_mem _))
   have hlook := lookup_sec (w := wr) (HFA.out.keep (fun x hx => Hbel.out.block x (HM.out.slt x (HM.out.nsh k hk x hx)))) HSEC.out HLEN.out hil
   rw [← hs, Int.natCast_add] at hlook
   have Hlook := hid hlook
   have hmr := (Hbel.out.block b (lt_of_block HM.out.blk)).trans HM.out.blk
   have hcell : wr.cell? ⟨b, k * 2 + 1, none⟩ = some (.map (nm k)) := (cell_of_block hmr _).trans (by simpa using (now_cells d nm sm lv am hk).2)
   have hlt2 : decide ((a : Int) + (i : Int) < (a : Int) + (n : Int)) = true := by simp only [decide_eq_true_eq]; omega
   have hw3 : IntKind.i64.wrap ((a : Int) + (i : Int) + 1) = (a : Int) + (i : Int) + 1 := IntWalk.i64_in _ (by have := HLEN.out; omega)
   clear hs hlook a0 a1 af0 af1 c1 c2 c3 c4 hw
   go_upto_region 10 with fail
   refine wp_region_lit ?_
   refine wpList_value (w' := wr) rfl (.pointer (some ⟨b, 0, none⟩)) (by go_simp) ?_
   simp only [Act.put, zl0, zl1, zl2]
   refine wpList_value (w' := wr) rfl (.int .i64 (k : Int)) (by go_simp) ?_
   simp only [Act.put, zl0, zl1, zl2]
   refine wpList_value (w' := wr) rfl (.pointer (some ⟨b, 0, none⟩)) (by go_simp) ?_
   simp only [Act.put, zl0, zl1, zl2]
   refine wpList_value (w' := wr) rfl (.pointer (some ⟨b, 0, none⟩)) (by go_simp) ?_
   simp only [Act.put, zl0, zl1, zl2]
   refine wpList_value (w' := wr) rfl (.pointer (some ⟨b, k * 2, none⟩)) (by go_simp) ?_
   simp only [Act.put, zl0, zl1, zl2]
   refine wpList_value (w' := wr) rfl (.pointer (some ⟨b, k * 2 + 1, none⟩)) (by go_simp) ?_
   simp only [Act.put, zl0, zl1, zl2]
   refine wpList_value (w' := wr) rfl (.map (nm k)) (by go_simp) ?_
   simp only [Act.put, zl0, zl1, zl2]
   refine wpList_value (w' := wr) rfl (.int .i64 ((a : Int) + (i : Int))) (by go_simp) ?_
   simp only [Act.put, zl0, zl1, zl2]
   refine wpList_value (w' := wr) rfl (secV s) (exec_lookup rfl rfl rfl Hlook.out) ?_
   simp only [Act.put, zl0, zl1, zl2]
   refine wpList_value rfl (.pointer (some ⟨wr.heap.size, 0, none⟩)) (w' := wr.alloc (.cells (cellsOf nought).toArray 210)) (by kernel_rfl) ?_
   simp only [Act.put, zl0, zl1, zl2]
   refine wpList_skip rfl (exec_store rfl rfl rfl (run_storeAt_new wr 210 _ _ (by rw [List.size_toArray, cellsOf_length, Hs64.out]; kernel_rfl) (by rw [List.size_toArray, List.size_toArray, cellsOf_length, cellsOf_length, Hs64.out]; rfl) (all_oneCell_toArray (cellsOf_one s)))) ?_
   refine wpList_nil ?_
   simp only [Act.put, zl0, zl1, zl2]
   obtain ⟨B, hB⟩ : ∃ B, B = wr.heap.size := ⟨_, rfl⟩
   rw [← hB]
   have hBn := heap_alloc_new wr (.cells (cellsOf s).toArray 210)
   rw [← hB] at hBn
   have hbelA := Hbel.out.alloc Hbel.out.size (.cells (cellsOf s).toArray 210)
   have hrowA := row_keep Hrow.out (w' := wr.alloc (.cells (cellsOf s).toArray 210)) (fun x hx => Below.heap_alloc wr _ x (row_base Hrow.out hx).2)
   obtain ⟨wa, hwa⟩ : ∃ wa, wa = wr.alloc (.cells (cellsOf s).toArray 210) := ⟨_, rfl⟩
   rw [← hwa] at hBn hbelA hrowA ⊢
   have HBn := hid hBn
   have HbelA := hid hbelA
   have HrowA := hid hrowA
   clear hBn hbelA hrowA hwa hB Hbel Hrow Hlook hcell hmr
   go_upto_region 11 with fail
   refine wp_region_lit ?_
   refine wpList_value (w' := wa) rfl _ rfl ?_
   simp only [Act.put, zl0, zl1, zl2]
   refine wpList_value (w' := wa) rfl (.slice (some ⟨B, 0, none⟩) 64 64) (by go_simp) ?_
   simp only [Act.put, zl0, zl1, zl2]
   obtain ⟨i0, hi, hz0, hz1, hz2⟩ := info_parts (P := Tryz.prog) (e := 5) (z := .int .u8 0) (size := 1) (bytes := 1) (by kernel_rfl)
   refine wpList_append_own_at _ rfl _ _ 117 (by rfl) w1.heap.size 5 i0 _ 1 1 Tryz.underlying117 hi hz0 hz1 hz2 rfl (by omega) _ (64 * i) (cellsOf ((l.drop a).take i).flatten) (by rfl) HrowA.out ⟨B, 0, none⟩ 64 64 (cellsOf s) (by rfl) (by simp [cellsOf_length, Hs64.out]) (World.news_of_block (cs := (cellsOf s).toArray) (t := 210) (fr := (0, 0)) HBn.out) (cellsOf_one s) (by have := HLEN.out; unfold maxLen; omega) (by have := HLEN.out; omega) HbelA.out.size ?_
   intro v' w7 hown7 hgrow7 _ hat7
   have Hown7 := hid hown7
   have Hbel7 := hid (HbelA.out.grown hgrow7 HbelA.out.size (fun j hj => (row_base HrowA.out hj).1))
   clear hown7 hgrow7 hat7
   simp only [Act.put, zl0, zl1, zl2]
   go_wp2_with fail
   go_roundw
   case rel =>
    refine ⟨i + 1, by rw [Int.natCast_add, Int.add_assoc]; rfl, by omega, ?_, Hbel7.out⟩
    rw [List.take_succ_eq_append_getElem (by simp; omega), List.flatten_append, cellsOf_append, show 64 * (i + 1) = 64 * i + 64 by omega]
    have e : (l.drop a)[i]'(by simp; omega) = s := by rw [Hs.out]; simp
    rw [e]
    simpa using Hown7.out
   case measure => simp only [intOf]; omega
  ·obtain rfl : i = n := by omega
   have hlt' : decide ((a : Int) + (i : Int) < (a : Int) + (i : Int)) = false := by simp
   have hflen := flat_take HSEC.out HN.out
   have Hflen := hid hflen
   have hconv := run_convert_own (P := Tryz.prog) wr 117 9 5 Tryz.underlying117 Tryz.underlying5 Tryz.underlying9 w1.heap.size _ (64 * i) _ Hrow.out
   clear hflen a0 a1 af0 af1 c1 c2 c3 c4 hw
   go_wp2_with fail
   go_ret2
   exact ⟨rfl, Hbel.out⟩
set_option maxRecDepth 20000 in
theorem read_any (h : DiskAt w b F d) (f a n : Int) (ha : -9223372036854775808 ≤ a ∧ a ≤ 9223372036854775807) :
  Calls Tryz.prog 94 #[.pointer (some ⟨b, 0, none⟩), .int .i64 f, .int .i64 a, .int .i64 n] w fun e w' => e = .returned (.tuple #[.string (bs (readM d f a n).1), .int .i64 (readM d f a n).2]) ∧ Below w.heap.size w w' := by
 have R := ready_any h f
 by_cases hr : readyM d f = 0
 ·obtain ⟨ho, hf0, hf8⟩ := ready_zero hr
  obtain ⟨k, rfl⟩ : ∃ k : Nat, f = k := ⟨f.toNat, by omega⟩
  have hk : k < 8 := by omega
  by_cases hb : a < 0 ∨ n < 0 ∨ ((d.now k).length : Int) < a ∨ ((d.now k).length : Int) - a < n
  ·have e : readM d k a n = ([], 5) := by unfold readM; rw [if_neg (by simpa using hr), Int.toNat_natCast, if_pos hb]
   rw [e]
   rw [hr] at R
   obtain ⟨nm0, sm0, lv0, am0, h0⟩ := id h
   have hlen := h0.ok.nl k hk
   have c0 := (h0.cell (k * 2)).trans (now_cells d nm0 sm0 lv0 am0 hk).1
   obtain ⟨z, hz⟩ : ∃ z : Int, z = (d.now k).length := ⟨_, rfl⟩
   rw [← hz] at c0 hb
   have R := hid R
   have hk8 : (k : Int) < 8 := by omega
   clear h0 e hr h
   by_cases h1 : a < 0
   ·have h1' : decide (a < 0) = true := by simpa using h1
    clear hb hz
    go_enter Tryz.func94, Tryz.ntmps94
    go_wp2_with (first | (go_at_call 117; refine (R.out).mono ?_; rintro e w1 ⟨rfl, rfl⟩) | go_in)
    go_ret2
    exact ⟨rfl, Below.refl _ _⟩
   ·have h1' : decide (a < 0) = false := by simpa using h1
    by_cases h2 : n < 0
    ·have h2' : decide (n < 0) = true := by simpa using h2
     clear hb hz
     go_enter Tryz.func94, Tryz.ntmps94
     go_wp2_with (first | (go_at_call 117; refine (R.out).mono ?_; rintro e w1 ⟨rfl, rfl⟩) | go_in)
     go_ret2
     exact ⟨rfl, Below.refl _ _⟩
    ·have h2' : decide (n < 0) = false := by simpa using h2
     by_cases h3 : z < a
     ·have h3' : decide (z < a) = true := by simpa using h3
      clear hb hz
      go_enter Tryz.func94, Tryz.ntmps94
      go_wp2_with (first | (go_at_call 117; refine (R.out).mono ?_; rintro e w1 ⟨rfl, rfl⟩) | go_in)
      go_ret2
      exact ⟨rfl, Below.refl _ _⟩
     ·have h3' : decide (z < a) = false := by simpa using h3
      have hw : IntKind.i64.wrap (z - a) = z - a := IntWalk.i64_in _ (by omega)
      have h4' : decide (z - a < n) = true := by simp only [decide_eq_true_eq]; omega
      clear hb hz
      go_enter Tryz.func94, Tryz.ntmps94
      go_wp2_with (first | (go_at_call 117; refine (R.out).mono ?_; rintro e w1 ⟨rfl, rfl⟩) | go_in)
      go_ret2
      exact ⟨rfl, Below.refl _ _⟩
  ·obtain ⟨i, rfl⟩ : ∃ i : Nat, a = i := ⟨a.toNat, by omega⟩
   obtain ⟨j, rfl⟩ : ∃ j : Nat, n = j := ⟨n.toNat, by omega⟩
   have e : readM d k i j = ((((d.now k).drop i).take j).flatten, 0) := by
    unfold readM
    rw [if_neg (by simpa using hr), Int.toNat_natCast, if_neg hb, Int.toNat_natCast, Int.toNat_natCast]
   rw [e]
   exact read_main h k i j hk ho (by omega)
 ·have e : readM d f a n = ([], readyM d f) := by unfold readM; rw [if_pos hr]
  rw [e]
  obtain ⟨r, hr2⟩ : ∃ r, r = readyM d f := ⟨_, rfl⟩
  rw [← hr2] at R ⊢
  rw [← hr2] at hr
  have hrne : (r != 0) = true := by simpa using hr
  have R := hid R
  clear hr2 e hr h
  go_enter Tryz.func94, Tryz.ntmps94
  go_wp2_with (first | (go_at_call 117; refine (R.out).mono ?_; rintro e w1 ⟨rfl, rfl⟩) | go_in)
  go_ret2
  exact ⟨rfl, Below.refl _ _⟩
end
end Go.Proofs.YtcpejlmnplkbaaaGreat
