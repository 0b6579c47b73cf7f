/- BackupPlays: a pager, a disk beside it, the reference's disk, and the law's own blocks. -/
import Derived.Test.YtfkcmgbpgefnnaaGreatBpC
import Derived.Test.YtfkcmgbpgefnnaaGreatBkQ
set_option linter.unusedVariables false
set_option linter.unusedSimpArgs false
namespace Go.Proofs.YtfkcmgbpgefnnaaGreat
open Go.RowKit Go.Maps
set_option maxRecDepth 20000
theorem ref_keep2 {w w' : World} {b : Nat} {F : Foot} {d : Dsk} (h : Rf.RefAt w b F d) (hk : ∀ k, F.own k ∨ F.sh k → w'.heap[k]? = w.heap[k]?) : Rf.RefAt w' b F d := by
 obtain ⟨nv, sv, lv, av, h⟩ := h
 exact ⟨nv, sv, lv, av, ⟨(hk b (.inl h.bown)).trans h.blk, fun f hf => row_keep (h.now f hf) fun g hg => hk g (.inr (h.nsh f hf g hg)), fun f hf => row_keep (h.sure f hf) fun g hg => hk g (.inr (h.ssh f hf g hg)), h.nsh, h.ssh,
  row_keep h.row fun g hg => hk g (.inl (h.rown g hg)), h.rown, h.arm.keep fun g hg => hk g (.inl (h.aown g hg)), h.aown, h.bown, h.apart, fun k hk1 => lt_keep (hk k (.inl hk1)) (h.olt k hk1), fun k hk1 => lt_keep (hk k (.inr hk1)) (h.slt k hk1), h.ok⟩⟩
structure BPs (w W : World) (a : PgD) (db : Nat) (d : Dsk) (rd : Nat) (r : Dsk) (X : Nat → Prop) : Prop where
 ex : ∃ R : Nat → Prop, PD w W a db d (fun k => X k ∨ R k) ∧ (∃ G, Rf.RefAt W rd G r ∧ ∀ k, G.own k ∨ G.sh k → R k) ∧ ∀ k, R k → ¬ X k ∧ w.heap.size ≤ k
section
variable {w W W' : World} {a a' : PgD} {db rd : Nat} {d d' r r' : Dsk} {X X' E : Nat → Prop}
theorem BPs.bel (h : BPs w W a db d rd r X) : Below w.heap.size w W := by obtain ⟨R, h1, -⟩ := h.ex; exact h1.bel
theorem BPs.xlt (h : BPs w W a db d rd r X) : ∀ k, X k → k < W.heap.size := by obtain ⟨R, h1, -⟩ := h.ex; exact fun k hk => h1.xlt k (.inl hk)
theorem BPs.pg (h : BPs w W a db d rd r X) : PgAtX w W a X := by
 obtain ⟨R, h1, -⟩ := h.ex
 exact (h1.to (X' := X) (fun k hk => .inl hk)).pg
theorem BPs.dsk (h : BPs w W a db d rd r X) : MkD w W db d := by obtain ⟨R, h1, -⟩ := h.ex; exact h1.dsk
theorem BPs.left (h : BPs w W a db d rd r X) : ∃ R : Nat → Prop, (∀ k, R k → ¬ X k ∧ k < W.heap.size) ∧ PD w W a db d (fun k => X k ∨ R k) ∧
  ∀ w' a' d' (E X' : Nat → Prop), (∀ k, E k → X k) → PD w w' a' db d' (fun k => X' k ∨ R k) → (∀ k, R k → ¬ X' k) → (∀ k, X k ∨ R k → ¬ E k → w'.heap[k]? = W.heap[k]?) → BPs w w' a' db d' rd r X' := by
 obtain ⟨R, h1, ⟨G, hG, hGR⟩, hR⟩ := h.ex
 exact ⟨R, fun k hk => ⟨(hR k hk).1, h1.xlt k (.inr hk)⟩, h1, fun w' a' d' E X' hE hp hRX hk => ⟨R, hp, ⟨G, ref_keep2 hG (fun k hk1 => hk k (.inr (hGR k hk1)) (fun e => (hR k (hGR k hk1)).1 (hE k e))), hGR⟩, fun k hk1 => ⟨hRX k hk1, (hR k hk1).2⟩⟩⟩
theorem BPs.right (h : BPs w W a db d rd r X) : ∃ Y : Nat → Prop, (∀ k, Y k → ¬ X k ∧ k < W.heap.size) ∧ RkX w W rd r (fun k => X k ∨ Y k) ∧
  ∀ w' r' (E X' : Nat → Prop), (∀ k, E k → X k) → RkX w w' rd r' (fun k => X' k ∨ Y k) → (∀ k, Y k → ¬ X' k) → (∀ k, X k ∨ Y k → ¬ E k → w'.heap[k]? = W.heap[k]?) → BPs w w' a db d rd r' X' := by
 obtain ⟨R, h1, ⟨G, hG, hGR⟩, hR⟩ := h.ex
 obtain ⟨⟨S, T, s1, t1, st, tx⟩, hb, hx⟩ := h1
 refine ⟨fun k => S k ∨ T k, fun k hk => ⟨fun e => ?_, hk.elim (s1.lt k) (t1.lt k)⟩, ⟨⟨G, hG, fun k hk => ⟨fun e => ?_, (hR k (hGR k hk)).2⟩⟩, hb, fun k hk => ?_⟩, fun w' r' E X' hE hr hYX hk => ?_⟩
 ·rcases hk with hk | hk
  ·exact (st k hk).2 (.inl e)
  ·exact tx k hk (.inl e)
 ·rcases e with e | e | e
  ·exact (hR k (hGR k hk)).1 e
  ·exact (st k e).2 (.inr (hGR k hk))
  ·exact tx k e (.inr (hGR k hk))
 ·rcases hk with hk | hk | hk
  ·exact hx k (.inl hk)
  ·exact s1.lt k hk
  ·exact t1.lt k hk
 ·obtain ⟨⟨G', hG', hGX⟩, hb', hx'⟩ := hr
  have hEn : ∀ k, S k ∨ T k → ¬ E k := fun k hk e => by
   rcases hk with hk | hk
   ·exact (st k hk).2 (.inl (hE k e))
   ·exact tx k hk (.inl (hE k e))
  obtain ⟨nv, sv, lv, av, hm⟩ := id hG'
  refine ⟨fun k => G'.own k ∨ G'.sh k, ⟨⟨S, T, s1.keep (fun k hk1 => hk k (.inr (.inl hk1)) (hEn k (.inl hk1))), t1.keep (fun k hk1 => hk k (.inr (.inr hk1)) (hEn k (.inr hk1))), fun k hk1 => ⟨(st k hk1).1, fun e => ?_⟩, fun k hk1 e => ?_⟩, hb', fun k hk1 => ?_⟩, ⟨G', hG', fun k hk1 => hk1⟩, fun k hk1 => ⟨fun e => (hGX k hk1).1 (.inl e), (hGX k hk1).2⟩⟩
  ·rcases e with e | e
   ·exact hYX k (.inl hk1) e
   ·exact (hGX k e).1 (.inr (.inl hk1))
  ·rcases e with e | e
   ·exact hYX k (.inr hk1) e
   ·exact (hGX k e).1 (.inr (.inr hk1))
  ·rcases hk1 with e | e
   ·exact hx' k (.inl e)
   ·exact e.elim (hm.olt k) (hm.slt k)
theorem BPs.add (h : BPs w W a db d rd r X) (hb : Below W.heap.size W W') (hx : ∀ k, X' k → X k ∨ W.heap.size ≤ k) (hlt : ∀ k, X' k → k < W'.heap.size) : BPs w W' a db d rd r X' := by
 obtain ⟨R, h1, ⟨G, hG, hGR⟩, hR⟩ := h.ex
 refine ⟨R, h1.add hb (fun k hk => ?_) (fun k hk => ?_), ⟨G, hG.below hb, hGR⟩, fun k hk => ⟨fun e => ?_, (hR k hk).2⟩⟩
 ·rcases hk with e | e
  ·exact (hx k e).imp .inl id
  ·exact .inl (.inr e)
 ·rcases hk with e | e
  ·exact hlt k e
  ·exact Nat.lt_of_lt_of_le (h1.xlt k (.inr e)) hb.size
 ·rcases hx k e with e2 | e2
  ·exact (hR k hk).1 e2
  ·have := h1.xlt k (.inr hk); omega
theorem BPs.below (h : BPs w W a db d rd r X) (hb : Below W.heap.size W W') : BPs w W' a db d rd r X := h.add hb (fun k hk => .inl hk) (fun k hk => Nat.lt_of_lt_of_le (h.xlt k hk) hb.size)
end
end Go.Proofs.YtfkcmgbpgefnnaaGreat
/- Plain laws: what a crash may leave of a disk's files. -/
namespace Go.Proofs.YtfkcmgbpgefnnaaGreat
open Go.RowKit Go.Maps
set_option maxRecDepth 20000
def May (d : Dsk) (k i : Nat) (s : Sec) : Prop := s = (d.sure k).getD i nought ∨ s = (d.now k).getD i nought ∨ ∃ c ∈ d.loose, c.file = k ∧ c.cut = false ∧ c.at_ = i ∧ c.bytes = s
structure Alike (d d' : Dsk) : Prop where
 now : d'.now = d.now
 sure : d'.sure = d.sure
 loose : d'.loose = d.loose
theorem Alike.refl (d : Dsk) : Alike d d := ⟨rfl, rfl, rfl⟩
theorem alike_meets (d : Dsk) : Alike d (meetsM d).2 := ⟨rfl, rfl, rfl⟩
theorem does_cut_getD {l : List Sec} {c : Chg} {i : Nat} (h : c.cut = true) (hi : i < c.at_) : (doesM l c).getD i nought = l.getD i nought := by
 rw [doesM_cut h]
 simp only [List.getD_eq_getElem?_getD]
 rw [List.getElem?_take_of_lt hi]
section
variable {d : Dsk} {keep : List Bool}
theorem crN_step (m : Nat) : (∃ c ∈ d.loose, crN d keep (m + 1) = put (crN d keep m) c.file (doesM (crN d keep m c.file) c)) ∨ crN d keep (m + 1) = crN d keep m := by
 show (∃ c ∈ d.loose, (match d.loose[m]? with | some c => if keep.getD m false then put (crN d keep m) c.file (doesM (crN d keep m c.file) c) else crN d keep m | none => crN d keep m) = _) ∨ (match d.loose[m]? with | some c => if keep.getD m false then put (crN d keep m) c.file (doesM (crN d keep m c.file) c) else crN d keep m | none => crN d keep m) = _
 cases hc : d.loose[m]? with
 | none => exact .inr rfl
 | some c =>
  have hm : c ∈ d.loose := List.mem_of_getElem? hc
  dsimp only
  split
  ·exact .inl ⟨c, hm, rfl⟩
  ·exact .inr rfl
theorem crash_same (k : Nat) (hc : ∀ c ∈ d.loose, c.file ≠ k) : ∀ m, crN d keep m k = d.sure k
 | 0 => rfl
 | m + 1 => by
  rcases crN_step (d := d) (keep := keep) m with ⟨c, hm, e⟩ | e
  ·rw [e, put_other _ _ (fun h => hc c hm h.symm)]
   exact crash_same k hc m
  ·rw [e]
   exact crash_same k hc m
end
section
variable {d d' : Dsk} {k a n : Nat} {s : List UInt8}
theorem wrN_sure : ∀ n, (wrN d k a s n).sure = d.sure
 | 0 => rfl
 | n + 1 => wrN_sure n
theorem wrN_loose_eq : ∀ n, (wrN d k a s n).loose = d.loose ++ (List.range n).map (wrChg k a s)
 | 0 => by simp [wrN]
 | n + 1 => by
  show (wrN d k a s n).loose ++ [_] = _
  rw [wrN_loose_eq n, List.range_succ, List.map_append, List.append_assoc]
  rfl
theorem wrN_mem {c : Chg} (h : c ∈ (wrN d k a s n).loose) : c ∈ d.loose ∨ ∃ i < n, c = wrChg k a s i := by
 rw [wrN_loose_eq] at h
 rcases List.mem_append.1 h with h | h
 ·exact .inl h
 ·obtain ⟨i, hi, rfl⟩ := List.mem_map.1 h
  exact .inr ⟨i, List.mem_range.1 hi, rfl⟩
theorem write_or : ((writeM d (k : Int) (a : Int) s).1 ≠ 0 ∧ Alike d (writeM d (k : Int) (a : Int) s).2) ∨ ((writeM d (k : Int) (a : Int) s).1 = 0 ∧ s.length / 64 ≠ 0 ∧ s.length % 64 = 0 ∧ (writeM d (k : Int) (a : Int) s).2 = wrN (meetsM d).2 k a s (s.length / 64)) := by
 unfold writeM
 split
 ·rename_i h
  exact .inl ⟨h, Alike.refl d⟩
 split
 ·exact .inl ⟨by show (2 : Int) ≠ 0; decide, Alike.refl d⟩
 rename_i h1
 split
 ·exact .inl ⟨by show (5 : Int) ≠ 0; decide, Alike.refl d⟩
 split
 ·rename_i h
  exact .inl ⟨h, alike_meets d⟩
 ·exact .inr ⟨rfl, by omega, by omega, by rw [Int.toNat_natCast, Int.toNat_natCast]⟩
theorem sync_or : ((syncM d (k : Int)).1 ≠ 0 ∧ Alike d (syncM d (k : Int)).2) ∨ ((syncM d (k : Int)).1 = 0 ∧ (syncM d (k : Int)).2 = sureM (meetsM d).2 k) := by
 unfold syncM
 split
 ·rename_i h
  exact .inl ⟨h, Alike.refl d⟩
 split
 ·rename_i h
  exact .inl ⟨h, alike_meets d⟩
 ·exact .inr ⟨rfl, by rw [Int.toNat_natCast]⟩
theorem cut_or : ((cutM d (k : Int) (n : Int)).1 ≠ 0 ∧ Alike d (cutM d (k : Int) (n : Int)).2) ∨ ((cutM d (k : Int) (n : Int)).1 = 0 ∧ n ≤ (d.now k).length ∧ (cutM d (k : Int) (n : Int)).2 = applyM (meetsM d).2 ⟨k, n, true, nought⟩) := by
 unfold cutM
 split
 ·rename_i h
  exact .inl ⟨h, Alike.refl d⟩
 split
 ·exact .inl ⟨by show (5 : Int) ≠ 0; decide, Alike.refl d⟩
 rename_i h1
 split
 ·rename_i h
  exact .inl ⟨h, alike_meets d⟩
 ·refine .inr ⟨rfl, ?_, by rw [Int.toNat_natCast, Int.toNat_natCast]⟩
  rw [Int.toNat_natCast] at h1
  omega
theorem sure_other (d : Dsk) {k i : Nat} (h : i ≠ k) : (sureM d k).sure i = d.sure i := by
 show put d.sure k (d.now k) i = _
 exact put_other _ _ h
end
section
variable {d : Dsk} {keep : List Bool}
end
end Go.Proofs.YtfkcmgbpgefnnaaGreat
/- Plain laws of BackupWhole: what a crash of the destination shows. -/
namespace Go.Proofs.YtfkcmgbpgefnnaaGreat
open Go.RowKit Go.Maps
set_option maxRecDepth 20000
structure NoLog (d : Dsk) : Prop where
 now : d.now 1 = []
 sure : d.sure 1 = []
 loose : ∀ c ∈ d.loose, c.file ≠ 1
structure Lid (d : Dsk) : Prop where
 log : NoLog d
 sure : 8 ≤ (d.sure 0).length
 now : 8 ≤ (d.now 0).length
 cut : ∀ c ∈ d.loose, c.file = 0 → c.cut = true → 8 ≤ c.at_
 lid : ∀ i, i < 8 → ∀ s, May d 0 i s → s = secOf lidL i
structure Opn (d : Dsk) (h : Hdr) (M : List (List UInt8)) : Prop where
 log : NoLog d
 sure : (d.sure 0).length = 8 * (M.length + 1)
 now : (d.now 0).length = 8 * (M.length + 1)
 loose : ∀ c ∈ d.loose, c.file = 0 → c.cut = false ∧ c.at_ < 8
 first : ∀ s, May d 0 0 s → s = secOf lidL 0 ∨ s = secOf (hdrPg h) 0
 rest : ∀ i, 1 ≤ i → i < 8 → ∀ s, May d 0 i s → s = nought
 pages : ∀ n, 1 ≤ n → n ≤ M.length → ∀ j, j < 8 → ∀ s, May d 0 (8 * n + j) s → s = secOf (M.getD (n - 1) []) j
section
variable {d d' : Dsk} {h : Hdr} {M : List (List UInt8)} {keep : List Bool} {a m : Nat} {s : List UInt8}
theorem nolog_first (hl : d.now 1 = []) : firstM d = zeros 64 := by unfold firstM; rw [hl]; rfl
end
end Go.Proofs.YtfkcmgbpgefnnaaGreat
/- Plain laws of BackupWhole: the steps of a backup on a destination that may fail. -/
namespace Go.Proofs.YtfkcmgbpgefnnaaGreat
open Go.RowKit Go.Maps
set_option maxRecDepth 20000
section
variable {d d' : Dsk} {h : Hdr} {M : List (List UInt8)} {a m : Nat} {s : List UInt8}
theorem NoLog.alike (hd : NoLog d) (ha : Alike d d') : NoLog d' := ⟨by rw [ha.now]; exact hd.now, by rw [ha.sure]; exact hd.sure, by rw [ha.loose]; exact hd.loose⟩
theorem NoLog.wr (hd : NoLog d) : NoLog (wrN (meetsM d).2 0 a s m) :=
 ⟨(wrN_now a s (by decide) _ m).trans hd.now, by rw [wrN_sure]; exact hd.sure, fun c hc => by
  rcases wrN_mem hc with hc | ⟨i, hi, rfl⟩
  ·exact hd.loose c hc
  ·show (0 : Nat) ≠ 1
   decide⟩
theorem NoLog.sync (hd : NoLog d) : NoLog (sureM (meetsM d).2 0) :=
 ⟨hd.now, (sure_other _ (by decide)).trans hd.sure, fun c hc => by
  have hc : c ∈ keepsOf 0 d.loose := hc
  unfold keepsOf at hc
  exact hd.loose c (List.mem_filter.1 hc).1⟩
theorem NoLog.cut (hd : NoLog d) {n : Nat} : NoLog (applyM (meetsM d).2 ⟨0, n, true, nought⟩) :=
 ⟨(by show put d.now 0 (doesM (d.now 0) ⟨0, n, true, nought⟩) 1 = []; rw [put_other _ _ (by decide)]; exact hd.now), hd.sure, fun c hc => by
  have hc : c ∈ d.loose ++ [⟨0, n, true, nought⟩] := hc
  rcases List.mem_append.1 hc with hc | hc
  ·exact hd.loose c hc
  ·rw [List.mem_singleton.1 hc]
   show (0 : Nat) ≠ 1
   decide⟩
def Has (d : Dsk) (M : List (List UInt8)) (k : Nat) : Prop := ∀ n, 1 ≤ n → n ≤ M.length → n < k → ∀ j, j < 8 → (d.now 0).getD (8 * n + j) nought = secOf (M.getD (n - 1) []) j
theorem Has.cut {k P : Nat} (hd : Has d M k) (hP : M.length < P) : Has (applyM (meetsM d).2 ⟨0, 8 * P, true, nought⟩) M k := by
 have e0 : (applyM (meetsM d).2 ⟨0, 8 * P, true, nought⟩).now 0 = doesM (d.now 0) ⟨0, 8 * P, true, nought⟩ := by
  show put d.now 0 _ 0 = _
  exact put_same _ _ _
 intro n n1 n2 n3 j hj
 rw [e0, does_cut_getD rfl (show 8 * n + j < 8 * P by omega)]
 exact hd n n1 n2 n3 j hj
end
end Go.Proofs.YtfkcmgbpgefnnaaGreat
/- BackupPlays, plain: the destination has no log, and what is opened is read. -/
namespace Go.Proofs.YtfkcmgbpgefnnaaGreat
open Go.RowKit Go.Maps
set_option maxRecDepth 20000
section
variable {d d' : Dsk} {B : Bk} {p : Pg} {g : Lg} {ds : Dsk}
theorem nolog_new : NoLog newM := ⟨rfl, rfl, fun c hc => by cases hc⟩
theorem nolog_write (h : NoLog d) {a : Int} (ha : 0 ≤ a) (s : List UInt8) : NoLog (writeM d 0 a s).2 := by
 obtain ⟨n, rfl⟩ : ∃ n : Nat, a = (n : Int) := ⟨a.toNat, by omega⟩
 rcases write_or (d := d) (k := 0) (a := n) (s := s) with ⟨-, e⟩ | ⟨-, -, -, e⟩
 ·exact h.alike e
 ·have e : (writeM d 0 (n : Int) s).2 = wrN (meetsM d).2 0 n s (s.length / 64) := e
  rw [e]
  exact h.wr
theorem nolog_sync (h : NoLog d) : NoLog (syncM d 0).2 := by
 rcases sync_or (d := d) (k := 0) with ⟨-, e⟩ | ⟨-, e⟩
 ·exact h.alike e
 ·have e : (syncM d 0).2 = sureM (meetsM d).2 0 := e
  rw [e]
  exact h.sync
theorem nolog_cut (h : NoLog d) {n : Int} (hn : 0 ≤ n) : NoLog (bcutM 0 n d).2 := by
 obtain ⟨m, rfl⟩ : ∃ m : Nat, n = (m : Int) := ⟨n.toNat, by omega⟩
 unfold bcutM
 split
 ·exact h
 rcases cut_or (d := d) (k := 0) (n := m) with ⟨-, e⟩ | ⟨-, -, e⟩
 ·exact h.alike e
 ·have e : (cutM d 0 (m : Int)).2 = applyM (meetsM d).2 ⟨0, m, true, nought⟩ := e
  rw [e]
  exact h.cut
theorem nolog_seq : ∀ (ms : List (Dsk → Int × Dsk)) (d : Dsk), (∀ m ∈ ms, ∀ d, NoLog d → NoLog (m d).2) → NoLog d → NoLog (bseqM ms d).2
 | [], d, _, h => h
 | m :: r, d, hm, h => by
  show NoLog (if (m d).1 ≠ 0 then m d else bseqM r (m d).2 : Int × Dsk).2
  have h1 := hm m (by simp) d h
  split
  ·exact h1
  ·exact nolog_seq r _ (fun m hm1 => hm m (by simp [hm1])) h1
theorem nolog_empty (h : NoLog d) : emptyLogM d = (0, d) := by
 unfold emptyLogM
 rw [if_pos]
 show ((d.now 1).length : Int) = 0
 rw [h.now]
 rfl
theorem nolog_steps (h : NoLog d) : NoLog (bseqM bstepsM d).2 := nolog_seq _ _ (fun m hm d hd => by
 unfold bstepsM at hm
 simp only [List.mem_cons, List.not_mem_nil, or_false] at hm
 rcases hm with rfl | rfl | rfl | rfl
 ·exact nolog_write hd (by decide) _
 ·exact nolog_cut hd (by decide)
 ·exact nolog_sync hd
 ·rw [nolog_empty hd]; exact hd) h
theorem nolog_lid (h : NoLog d) : NoLog (blidM B d).2.2 := by
 have hs : NoLog (bseqM [fun d => writeM d 0 0 lidL, fun d => syncM d 0] d).2 := nolog_seq _ _ (fun m hm d hd => by
  simp only [List.mem_cons, List.not_mem_nil, or_false] at hm
  rcases hm with rfl | rfl
  ·exact nolog_write hd (by decide) _
  ·exact nolog_sync hd) h
 unfold blidM
 split
 ·split
  ·exact hs
  ·exact hs
 ·exact h
theorem nolog_last (h : NoLog d) (s : List UInt8) (hp : 0 ≤ B.pages) (hn : 1 ≤ B.next) : NoLog (blastM s B d).2.2 := by
 have h1 : NoLog (lastC B d).2 := nolog_cut h (by omega)
 have h2 : NoLog (lastY B d).2 := nolog_sync h1
 have h3 : NoLog (lastU s B d).2 := nolog_write h2 (by omega) s
 have h4 : NoLog (lastV s B d).2 := nolog_sync h3
 rw [blast_eq]
 split
 ·exact h1
 split
 ·exact h2
 split
 ·exact h3
 split
 ·exact h4
 ·exact h4
theorem nolog_copy (h : NoLog d) (hk : BkIn B) (hn : B.next ≠ 0) : NoLog (bcopyM p g ds B d).2.2 := by
 have h1 := hk.next.resolve_left hn
 have hp := hk.pages
 unfold bcopyM
 split
 ·exact h
 split
 ·split
  ·exact nolog_write h (by omega) _
  ·exact nolog_write h (by omega) _
 ·exact nolog_last h _ (by omega) h1.1
theorem nolog_copies : ∀ (n : Nat) (B : Bk) (d : Dsk), BkIn B → NoLog d → NoLog (bcopiesM p g ds n B d).2.2
 | 0, B, d, _, h => h
 | n + 1, B, d, hk, h => by
  show NoLog (if B.next ≤ 0 then (0, B, d) else if (bcopyM p g ds B d).1 ≠ 0 then bcopyM p g ds B d else bcopiesM p g ds n (bcopyM p g ds B d).2.1 (bcopyM p g ds B d).2.2 : Int × Bk × Dsk).2.2
  split
  ·exact h
  rename_i h0
  have hc := nolog_copy (p := p) (g := g) (ds := ds) h hk (by omega)
  split
  ·exact hc
  ·rename_i h2
   obtain ⟨o1, -⟩ := bcopy_in (p := p) (g := g) (ds := ds) (d := d) hk (by omega) (by simpa using h2)
   exact nolog_copies n _ _ o1 hc
theorem nolog_step (h : NoLog d) (hk : BkIn B) (hP : 1 ≤ ppagesM p g ∧ ppagesM p g ≤ 256) (n : Int) : NoLog (bstepM p g ds n B d).2.2 := by
 unfold bstepM
 split
 ·exact h
 split
 ·exact h
 split
 ·exact nolog_copies _ _ _ hk h
 split
 ·exact nolog_lid h
 ·refine nolog_copies _ _ _ ?_ (nolog_lid h)
  unfold bkAnew
  refine ⟨hP, .inr ?_⟩
  dsimp only
  split <;> omega
theorem nolog_start (h : NoLog d) : NoLog (bstartM p g ds d).2.2 := by
 unfold bstartM
 split
 ·exact h
 split
 ·exact h
 split
 ·exact h
 split
 ·exact h
 split
 ·exact nolog_steps h
 ·exact nolog_steps h
theorem nolog_crash (h : NoLog d) (keep : List Bool) : NoLog (crashM d keep) := by
 have h1 : (crashM d keep).now 1 = d.sure 1 := crash_same (keep := keep) 1 h.loose d.loose.length
 exact ⟨by rw [h1]; exact h.sure, by show (crashM d keep).now 1 = []; rw [h1]; exact h.sure, fun c hc => by cases hc⟩
theorem nolog_open (ho : d.off = false) (hl : d.now 1 = []) : ∀ g L, openedM d = some (g, L) → stOk p0 g d := by
 intro g L h
 have hfm := nolog_first hl
 by_cases hb : (d.now 0).length % 8 ≠ 0 ∨ 256 < (d.now 0).length / 8
 ·have hlo : lopenM d = (none, 7) := by
   unfold lopenM
   rw [if_neg (by rw [ho]; decide), if_pos hfm, if_pos hb]
  unfold openedM at h
  rw [hlo] at h
  cases h
 ·have hlo : lopenM d = (some ⟨⟨0, 0, ((d.now 0).length / 8 : Nat)⟩, false, [], startP 0, false, false⟩, 0) := by
   unfold lopenM
   rw [if_neg (by rw [ho]; decide), if_pos hfm, if_neg hb]
  obtain ⟨g0, hg0⟩ : ∃ g0 : Lg, g0 = ⟨⟨0, 0, ((d.now 0).length / 8 : Nat)⟩, false, [], startP 0, false, false⟩ := ⟨_, rfl⟩
  rw [← hg0] at hlo
  have hg : g = g0 := by
   rw [opened_some hlo] at h
   split at h
   ·cases h
   ·injection h with h
    injection h with h _
    exact h.symm
  subst hg
  have hP : ppagesM p0 g = (((d.now 0).length / 8 : Nat) : Int) := by rw [hg0]; rfl
  intro k hk
  rw [hP] at hk
  have hk1 : k + 1 ≤ (d.now 0).length / 8 := by omega
  have e : preadM p0 g d ((k : Int) + 1) = (pg (d.now 0) (k + 1), 0) := by
   unfold preadM
   rw [hP, if_neg (by omega)]
   show pageM g d ((k : Int) + 1) ((g.list.length : Nat) : Int) = _
   have e1 : ((k : Int) + 1) = ((k + 1 : Nat) : Int) := by omega
   rw [e1, pageM_calm ho (by omega) (k + 1) _ (by omega) (by omega) (Nat.le_refl _), hg0]
   rfl
  rw [e]
end
end Go.Proofs.YtfkcmgbpgefnnaaGreat
