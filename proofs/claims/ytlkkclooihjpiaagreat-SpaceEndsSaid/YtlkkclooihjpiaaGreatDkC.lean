import Derived.Test.YtlkkclooihjpiaaGreatBase
import Derived.Maps.OwnSet
import Derived.Maps.Ext
import Derived.Maps.RangeWalk
import Derived.MapKept
import Derived.Laws.Externs
import Derived.Deep.MidRow
import Derived.Shelf.SlMaps.Clone
import Derived.Deep.DeepCutAuto
import Derived.Test.YtlkkclooihjpiaaGreatHeld
set_option linter.unusedVariables false
set_option linter.unusedSimpArgs false
namespace Go.Proofs.YtlkkclooihjpiaaGreat
open Go.RowKit Go.Maps
set_option maxRecDepth 20000
abbrev Sec := List UInt8
def nought : Sec := List.replicate 64 0
theorem nought_length : nought.length = 64 := rfl
structure Chg where
 file : Nat
 at_ : Nat
 cut : Bool
 bytes : Sec
deriving DecidableEq
def doesM (l : List Sec) (c : Chg) : List Sec :=
 if c.cut then l.take c.at_ else (l ++ List.replicate (c.at_ + 1 - l.length) nought).set c.at_ c.bytes
theorem doesM_cut {l : List Sec} {c : Chg} (h : c.cut = true) : doesM l c = l.take c.at_ := if_pos h
theorem doesM_write {l : List Sec} {c : Chg} (h : c.cut = false) : doesM l c = (l ++ List.replicate (c.at_ + 1 - l.length) nought).set c.at_ c.bytes := by simp [doesM, h]
theorem doesM_length_write {l : List Sec} {c : Chg} (h : c.cut = false) : (doesM l c).length = max l.length (c.at_ + 1) := by
 rw [doesM_write h]; simp; omega
theorem doesM_length_cut {l : List Sec} {c : Chg} (h : c.cut = true) : (doesM l c).length = min l.length c.at_ := by
 rw [doesM_cut h]; simp; omega
theorem doesM_get_write {l : List Sec} {c : Chg} (h : c.cut = false) (i : Nat) (hi : i < (doesM l c).length) :
  (doesM l c)[i] = if i = c.at_ then c.bytes else if h : i < l.length then l[i] else nought := by
 simp only [doesM_write h]
 rw [List.getElem_set]
 by_cases e : c.at_ = i
 ·rw [if_pos e, if_pos e.symm]
 ·rw [if_neg e, if_neg (fun h => e h.symm), List.getElem_append]
  split
  ·rfl
  ·simp
def secV (s : Sec) : Value := .agg (cellsOf s).toArray
theorem byte_value_inj {a b : UInt8} (h : (a.toNat : Int) = (b.toNat : Int)) : a = b := by
 have : a.toNat = b.toNat := by omega
 exact UInt8.toNat_inj.1 this
theorem cellsOf_inj : ∀ {a b : List UInt8}, cellsOf a = cellsOf b → a = b
 | [], [], _ => rfl
 | [], _ :: _, h => by simp [cellsOf] at h
 | _ :: _, [], h => by simp [cellsOf] at h
 | x :: a, y :: b, h => by
  simp only [cellsOf, List.map_cons, List.cons.injEq, Value.int.injEq, true_and] at h
  rw [byte_value_inj h.1, cellsOf_inj h.2]
theorem secV_inj {a b : Sec} (h : secV a = secV b) : a = b := by
 unfold secV at h
 injection h with h
 exact cellsOf_inj (by simpa using congrArg Array.toList h)
open Classical in
noncomputable def secElem (v : Value) : Option (DataW Unit × List MemPlace) :=
 if h : ∃ s : Sec, s.length = 64 ∧ v = secV s then some (.lit (.string h.choose), []) else none
theorem secElem_mk {s : Sec} (h : s.length = 64) : secElem (secV s) = some (.lit (.string s), []) := by
 have hx : ∃ t : Sec, t.length = 64 ∧ secV s = secV t := ⟨s, h, rfl⟩
 unfold secElem
 rw [dif_pos hx, ← secV_inj hx.choose_spec.2]
theorem secElem_inv {v : Value} {z : DataW Unit × List MemPlace} (h : secElem v = some z) : ∃ s : Sec, s.length = 64 ∧ v = secV s ∧ z = (.lit (.string s), []) := by
 unfold secElem at h
 split at h
 ·rename_i hx
  obtain ⟨h1, h2⟩ := hx.choose_spec
  exact ⟨_, h1, h2, (Option.some.inj h).symm⟩
 ·cases h
def ik (i : Int) : Lit := .int .i64 i
theorem ik_inj {i j : Int} (h : ik i = ik j) : i = j := by injection h
theorem ik_ne {i j : Int} (h : i ≠ j) : ik i ≠ ik j := fun e => h (ik_inj e)
theorem ik_key (i : Int) : WideAt.IsKeyLit (ik i) := trivial
def dNought : DataW Unit := .lit (.string nought)
structure Holds (D : DataW Unit) (l : List Sec) : Prop where
 in_ : ∀ k, Maps.has D k = true → ∃ i : Nat, i < l.length ∧ k = ik i
 at_ : ∀ (i : Nat) (h : i < l.length), D.atKey (ik i) dNought = .lit (.string l[i])
theorem holds_nil : Holds (.map []) [] := ⟨fun k h => (by cases h), fun i h => (by cases h)⟩
theorem Holds.out {D : DataW Unit} {l : List Sec} (h : Holds D l) {i : Nat} (hi : l.length ≤ i) : Maps.has D (ik i) = false := by
 cases hh : Maps.has D (ik i) with
 | false => rfl
 | true =>
  obtain ⟨j, hj, e⟩ := h.in_ _ hh
  have := ik_inj e
  omega
theorem holds_put {D : DataW Unit} {l : List Sec} {c : Chg} (h : Holds D l) (hm : IsMap D) (hc : c.cut = false) : Holds (D.put (ik c.at_) (.lit (.string c.bytes))) (doesM l c) := by
 refine ⟨fun k hk => ?_, fun i hi => ?_⟩
 ·rw [doesM_length_write hc]
  by_cases e : k = ik c.at_
  ·exact ⟨c.at_, by omega, e⟩
  ·rw [has_put_other e] at hk
   obtain ⟨i, hi, e2⟩ := h.in_ k hk
   exact ⟨i, by omega, e2⟩
 ·rw [doesM_get_write hc]
  by_cases e : i = c.at_
  ·subst e
   rw [if_pos rfl, atKey_put_same hm (ik_key _)]
  ·rw [if_neg e, atKey_put_other (ik_ne (by omega))]
   by_cases hl : i < l.length
   ·rw [dif_pos hl]
    exact h.at_ i hl
   ·rw [dif_neg hl]
    exact atKey_of_not_has (h.out (by omega)) _
structure Cutting (D D0 : DataW Unit) (n : Int) (left : Lit → Bool) : Prop where
 has_ : ∀ k, Maps.has D k = (Maps.has D0 k && (left k || match k with | .int .i64 i => decide (i < n) | _ => true))
 at_ : ∀ k z, Maps.has D k = true → D.atKey k z = D0.atKey k z
theorem cutting_start (D0 : DataW Unit) (n : Int) : Cutting D0 D0 n (Maps.has D0) := ⟨fun k => by cases Maps.has D0 k <;> simp, fun _ _ _ => rfl⟩
theorem cutting_keep {D D0 : DataW Unit} {n : Int} {left : Lit → Bool} {i : Int} (h : Cutting D D0 n left) (hi : i < n) : Cutting D D0 n (fun z => left z && !z.sameKey (ik i)) := by
 refine ⟨fun k => ?_, h.at_⟩
 rw [h.has_ k]
 by_cases e : k = ik i
 ·subst e
  simp [ik, hi]
 ·rw [sameKey_ne e]
  simp
theorem cutting_drop {D D0 : DataW Unit} {n : Int} {left : Lit → Bool} {i : Int} (h : Cutting D D0 n left) (hi : ¬ i < n) : Cutting (D.del (ik i)) D0 n (fun z => left z && !z.sameKey (ik i)) := by
 refine ⟨fun k => ?_, fun k z hk => ?_⟩
 ·by_cases e : k = ik i
  ·subst e
   rw [has_del_same, WideAt.sameKey_self (ik_key i)]
   simp [ik, hi]
  ·rw [has_del_other e, h.has_ k, sameKey_ne e]
   simp
 ·by_cases e : k = ik i
  ·subst e
   rw [has_del_same] at hk
   cases hk
  ·rw [has_del_other e] at hk
   rw [atKey_del_other e, h.at_ k z hk]
theorem cutting_end {D D0 : DataW Unit} {left : Lit → Bool} {l : List Sec} {c : Chg} (h : Cutting D D0 c.at_ left) (h0 : Holds D0 l) (hl : ∀ k, left k = false) (hc : c.cut = true) : Holds D (doesM l c) := by
 rw [doesM_cut hc]
 refine ⟨fun k hk => ?_, fun i hi => ?_⟩
 ·rw [h.has_ k, hl k] at hk
  simp only [Bool.false_or, Bool.and_eq_true] at hk
  obtain ⟨i, hi, rfl⟩ := h0.in_ k hk.1
  have h2 := hk.2
  simp only [ik, decide_eq_true_eq] at h2
  exact ⟨i, by simp; omega, rfl⟩
 ·have hi' : i < c.at_ ∧ i < l.length := by simp at hi; omega
  have e1 : (l.take c.at_)[i] = l[i]'hi'.2 := by simp
  rw [e1, ← h0.at_ i hi'.2]
  cases hh : Maps.has D (ik i) with
  | true => exact h.at_ _ _ hh
  | false =>
   rw [atKey_of_not_has hh]
   have hd := h.has_ (ik i)
   rw [hh, hl] at hd
   have : decide ((i : Int) < (c.at_ : Int)) = true := by simp; omega
   simp only [ik, this, Bool.false_or, Bool.and_true] at hd
   exact (atKey_of_not_has hd.symm _).symm
theorem nodup_below : ∀ (n : Nat) (ks : List Nat), ks.Pairwise (· ≠ ·) → (∀ k ∈ ks, k < n) → ks.length ≤ n
 | 0, ks, _, h => by
  cases ks with
  | nil => simp
  | cons a r => exact absurd (h a (by simp)) (by omega)
 | n + 1, ks, hp, h => by
  have h1 := nodup_below n (ks.filter (· != n)) (hp.filter _) (fun k hk => by
   simp only [List.mem_filter, bne_iff_ne, ne_eq] at hk
   have := h k hk.1
   omega)
  have h2 : ks.length ≤ (ks.filter (· != n)).length + 1 := by
   clear h1 h
   induction ks with
   | nil => simp
   | cons a r ih =>
    obtain ⟨hp1, hp2⟩ := List.pairwise_cons.1 hp
    by_cases e : a = n
    ·subst e
     have : r.filter (· != a) = r := List.filter_eq_self.2 (fun x hx => by simpa using (hp1 x hx).symm)
     simp [this]
    ·have e' : (a != n) = true := by simpa using e
     simp only [List.filter_cons, e', if_true, List.length_cons]
     have := ih hp2
     omega
  omega
theorem Holds.size_le {D : DataW Unit} {l : List Sec} (h : Holds D l) (ht : Canon D) : Maps.size D ≤ l.length := by
 obtain ⟨es, rfl, hp0, hkey⟩ := ht
 have hp := apart_of_rising hp0
 have hk : ∀ p ∈ es, ∃ i : Nat, i < l.length ∧ p.1 = ik i := fun p hp' => by
  exact h.in_ p.1 (List.any_eq_true.2 ⟨p, hp', WideAt.sameKey_self (hkey p hp')⟩)
 let num : Lit → Nat := fun k => match k with | .int _ i => i.toNat | _ => 0
 have e : (es.map fun p => num p.1).length ≤ l.length := by
  refine nodup_below _ _ ?_ ?_
  ·rw [List.pairwise_map]
   have : es.Pairwise (fun p q => p ∈ es ∧ q ∈ es ∧ p.1 ≠ q.1) := hp.imp_of_mem fun ha hb h => ⟨ha, hb, h⟩
   refine this.imp ?_
   rintro p q ⟨hp', hq', hne⟩ e
   obtain ⟨i, _, e1⟩ := hk p hp'
   obtain ⟨j, _, e2⟩ := hk q hq'
   rw [e1, e2] at e hne
   simp only [num, ik, Int.toNat_natCast] at e
   exact hne (by rw [e])
  ·intro k hk'
   obtain ⟨p, hp', rfl⟩ := List.mem_map.1 hk'
   obtain ⟨i, hi, e1⟩ := hk p hp'
   rw [e1]
   simpa [num, ik] using hi
 simpa [Maps.size] using e
theorem owns_exact {P : Program} {k : TypeId} {R : Value → Option (DataW Unit × List MemPlace)} {w : World} {b n : Nat} {D : DataW Unit} (h : w.ownsMap P k R b n D) : w.ownsMap P k R b (Maps.size D) D := by
 obtain ⟨es, clock, hb, F, hs, rfl⟩ := h
 exact ⟨es, clock, hb, F, by simp [Maps.size, length_sorted], rfl⟩
theorem keyI : Keyed Tryz.prog 3 := int_keyed Tryz.underlying3
def FileAt (w : World) (m : Option Nat) (l : List Sec) : Prop :=
 match m with
 | none => l = []
 | some b => ∃ D, w.ownsMap Tryz.prog 3 secElem b l.length D ∧ Holds D l
theorem FileAt.keep {w w' : World} {m : Option Nat} {l : List Sec} (h : FileAt w m l) (hk : ∀ b, m = some b → w'.heap[b]? = w.heap[b]?) : FileAt w' m l := by
 cases m with
 | none => exact h
 | some b =>
  obtain ⟨D, ⟨es, clock, hb, r⟩, hh⟩ := h
  exact ⟨D, ⟨es, clock, (hk b rfl).trans hb, r⟩, hh⟩
theorem FileAt.lt {w : World} {b : Nat} {l : List Sec} (h : FileAt w (some b) l) : b < w.heap.size := by
 obtain ⟨D, h, _⟩ := h
 exact h.lt
theorem fileAt_of {w : World} {b n : Nat} {D : DataW Unit} {l : List Sec} (h : w.ownsMap Tryz.prog 3 secElem b n D) (hh : Holds D l) : FileAt w (some b) l :=
 ⟨D, (owns_exact h).mono (hh.size_le (h.canon keyI)), hh⟩
end Go.Proofs.YtlkkclooihjpiaaGreat
namespace Go.Proofs.YtlkkclooihjpiaaGreat
open Go.RowKit Go.Maps
set_option maxRecDepth 20000
set_option maxHeartbeats 2000000 in
theorem clone_sec (b : Nat) (es : Array MapEntry) (clock : Nat) (w : World) (hb : w.heap[b]? = some (.map es clock)) :
  Calls Tryz.prog 49 #[.map (some b)] w fun e w' => e = .returned (.map (some w.heap.size)) ∧ w' = w.alloc (.map es clock) := by
 have hq := fun w => run_eql_map_nil_sl (P := Tryz.prog) w 64 _ _ (some b) Tryz.underlying64
 have ha := fun (w : World) (v : Value) => run_typeAssert_map_sl (P := Tryz.prog) w 64 20 _ _ v Tryz.underlying64
 go_enter Tryz.func49, Tryz.ntmps49
 go_wp2
 rw [run_callFunc_extern Tryz.func74 (by kernel_rfl) (by kernel_rfl) (by kernel_rfl) (e := Extern.MapsClone.clone) (by kernel_rfl), run_maps_clone_sl w 64 hb]
 simp only [Result.andThen]
 rw [Oper.upon_value]
 go_wp2
 go_ret
 exact ⟨rfl, rfl⟩
set_option maxHeartbeats 2000000 in
theorem clone_sec_nil (w : World) :
  Calls Tryz.prog 49 #[.map none] w fun e w' => e = .returned (.map none) ∧ w' = w := by
 have hq := fun w => run_eql_map_nil_sl (P := Tryz.prog) w 64 _ _ none Tryz.underlying64
 go_enter Tryz.func49, Tryz.ntmps49
 go_wp2
 go_ret
 exact ⟨rfl, rfl⟩
def chgCells (c : Chg) : List Value := [.int .i64 c.file, .int .i64 c.at_, .bool c.cut] ++ cellsOf c.bytes
theorem chgCells_length {c : Chg} (h : c.bytes.length = 64) : (chgCells c).length = 67 := by simp [chgCells, cellsOf_length, h]
theorem chgCells_one (c : Chg) : ∀ u ∈ chgCells c, u.oneCell' = true := by
 intro u hu
 rcases List.mem_append.1 hu with h | h
 ·simp only [List.mem_cons, List.not_mem_nil, or_false] at h
  rcases h with rfl | rfl | rfl <;> rfl
 ·exact cellsOf_one _ u h
def chgV (c : Chg) : Value := .agg (chgCells c).toArray
end Go.Proofs.YtlkkclooihjpiaaGreat
namespace Go.Proofs.YtlkkclooihjpiaaGreat
open Go.RowKit Go.Maps
set_option maxRecDepth 20000
structure Mid (w : World) (sz : Int) (m : Option Nat) (cs : Array Value) (l : List Sec) (B5 : Nat) (mo : Option Nat) (wx : World) : Prop where
 h0 : wx.heap[w.heap.size]? = some (.cells #[.int .i64 sz, .map m] 66 (0, 0))
 h1 : wx.heap[w.heap.size + 1]? = some (.cells cs 75 (0, 0))
 h2 : wx.heap[w.heap.size + 1 + 1]? = some (.cells #[.int .i64 0, .map none] 66 (0, 0))
 h5 : wx.heap[B5]? = some (.cells #[.int .i64 sz, .map mo] 66 (0, 0))
 b5 : w.heap.size + 1 + 1 < B5
 fm : ∀ b, m = some b → ∃ o D, mo = some o ∧ wx.ownsMap Tryz.prog 3 secElem b l.length D ∧ wx.ownsMap Tryz.prog 3 secElem o l.length D ∧ Holds D l
 fn : m = none → l = []
 fo : FileAt wx mo l
 bm : ∀ x, m = some x → x < w.heap.size
 bo : ∀ x, mo = some x → w.heap.size ≤ x
 bel : Below w.heap.size w wx
theorem Mid.lt {w : World} {sz : Int} {m : Option Nat} {cs : Array Value} {l : List Sec} {B5 : Nat} {mo : Option Nat} {wx : World} (h : Mid w sz m cs l B5 mo wx) :
  w.heap.size < wx.heap.size ∧ w.heap.size + 1 < wx.heap.size ∧ w.heap.size + 1 + 1 < wx.heap.size ∧ B5 < wx.heap.size :=
 ⟨lt_of_block h.h0, lt_of_block h.h1, lt_of_block h.h2, lt_of_block h.h5⟩
theorem cells2 {W : World} {b : Nat} {T : TypeId} {a0 a1 : Value} (h : W.heap[b]? = some (.cells #[a0, a1] T (0, 0))) :
  W.cell? ⟨b, 0, none⟩ = some a0 ∧ W.cell? ⟨b, 1, none⟩ = some a1 ∧ (∀ o, W.frozen? ⟨b, o, none⟩ = false) := by
 refine ⟨?_, ?_, fun o => by simp [World.frozen?, h]⟩ <;> simp [World.cell?, h]
theorem Mid.ne2 {w : World} {sz : Int} {m : Option Nat} {cs : Array Value} {l : List Sec} {B5 mo : Nat} {wx : World} (h : Mid w sz m cs l B5 (some mo) wx) : mo ≠ w.heap.size + 1 + 1 := by
 obtain ⟨D, ⟨es, clock, hes, -⟩, -⟩ := h.fo
 intro e
 rw [e, h.h2] at hes
 cases hes
theorem five_old (w : World) (a b c d e : Obj) : ∀ k, k < w.heap.size → (((((w.alloc a).alloc b).alloc c).alloc d).alloc e).heap[k]? = w.heap[k]? := fun k hk => by
 rw [Below.heap_alloc _ _ k (by simp; omega), Below.heap_alloc _ _ k (by simp; omega), Below.heap_alloc _ _ k (by simp; omega), Below.heap_alloc _ _ k (by simp; omega), Below.heap_alloc _ _ k hk]
theorem five_at (w : World) (a b c d e : Obj) : let W := (((((w.alloc a).alloc b).alloc c).alloc d).alloc e);
  W.heap[w.heap.size]? = some a ∧ W.heap[w.heap.size + 1]? = some b ∧ W.heap[w.heap.size + 1 + 1]? = some c ∧ W.heap[w.heap.size + 1 + 1 + 1]? = some d ∧ W.heap[w.heap.size + 1 + 1 + 1 + 1]? = some e := by
 have s1 : (w.alloc a).heap.size = w.heap.size + 1 := by simp
 have s2 : ((w.alloc a).alloc b).heap.size = w.heap.size + 1 + 1 := by simp
 have s3 : (((w.alloc a).alloc b).alloc c).heap.size = w.heap.size + 1 + 1 + 1 := by simp
 have s4 : ((((w.alloc a).alloc b).alloc c).alloc d).heap.size = w.heap.size + 1 + 1 + 1 + 1 := by simp
 refine ⟨heap_alloc_old (heap_alloc_old (heap_alloc_old (heap_alloc_old (heap_alloc_new w a)))), heap_alloc_old (heap_alloc_old (heap_alloc_old ?_)), heap_alloc_old (heap_alloc_old ?_), heap_alloc_old ?_, ?_⟩
 ·rw [← s1]; exact heap_alloc_new _ _
 ·rw [← s2]; exact heap_alloc_new _ _
 ·rw [← s3]; exact heap_alloc_new _ _
 ·rw [← s4]; exact heap_alloc_new _ _
theorem five_below (w : World) (a b c d e : Obj) : Below w.heap.size w (((((w.alloc a).alloc b).alloc c).alloc d).alloc e) :=
 (((((Below.refl _ _).alloc (Nat.le_refl _) _).alloc (by simp) _).alloc (by simp; omega) _).alloc (by simp; omega) _).alloc (by simp; omega) _
theorem file_some {w : World} {b : Nat} {es : Array MapEntry} {clock : Nat} {l : List Sec} (h : FileAt w (some b) l) (hes : w.heap[b]? = some (.map es clock)) {w' : World} {b' : Nat} (hb : w'.heap[b']? = some (.map es clock)) : FileAt w' (some b') l := by
 obtain ⟨D, ⟨es2, clock2, h2, r⟩, hh⟩ := h
 rw [hes] at h2
 cases h2
 exact ⟨D, ⟨es, clock, hb, r⟩, hh⟩
theorem file_both {w : World} {b : Nat} {es : Array MapEntry} {clock : Nat} {l : List Sec} (h : FileAt w (some b) l) (hes : w.heap[b]? = some (.map es clock)) {w' : World} {b' : Nat} (hb : w'.heap[b]? = some (.map es clock)) (hb' : w'.heap[b']? = some (.map es clock)) :
  ∀ x, some b = some x → ∃ o D, some b' = some o ∧ w'.ownsMap Tryz.prog 3 secElem x l.length D ∧ w'.ownsMap Tryz.prog 3 secElem o l.length D ∧ Holds D l := by
 rintro x hx
 cases hx
 obtain ⟨D, ⟨es2, clock2, h2, r⟩, hh⟩ := h
 rw [hes] at h2
 cases h2
 exact ⟨b', D, rfl, ⟨es, clock, hb, r⟩, ⟨es, clock, hb', r⟩, hh⟩
theorem mid_one {w : World} {b : Nat} {es : Array MapEntry} {clock : Nat} {l : List Sec} {cs : Array Value} (sz : Int) (h : FileAt w (some b) l) (hes : w.heap[b]? = some (.map es clock)) :
  Mid w sz (some b) cs l (w.heap.size + 1 + 1 + 1 + 1) (some (w.heap.size + 1 + 1 + 1))
   (((((w.alloc (.cells #[.int .i64 sz, .map (some b)] 66)).alloc (.cells cs 75)).alloc (.cells #[.int .i64 0, .map none] 66)).alloc (.map es clock)).alloc (.cells #[.int .i64 sz, .map (some (w.heap.size + 1 + 1 + 1))] 66)).drew := by
 obtain ⟨a0, a1, a2, a3, a4⟩ := five_at w (.cells #[.int .i64 sz, .map (some b)] 66) (.cells cs 75) (.cells #[.int .i64 0, .map none] 66) (.map es clock) (.cells #[.int .i64 sz, .map (some (w.heap.size + 1 + 1 + 1))] 66)
 exact ⟨a0, a1, a2, a4, by omega, file_both h hes ((five_old w _ _ _ _ _ b h.lt).trans hes) a3, fun h => (by cases h), file_some h hes a3, fun x hx => by cases hx; exact h.lt, fun x hx => by cases hx; omega, (five_below w _ _ _ _ _).drew⟩
theorem four_at (w : World) (a b c d : Obj) : let W := ((((w.alloc a).alloc b).alloc c).alloc d);
  W.heap[w.heap.size]? = some a ∧ W.heap[w.heap.size + 1]? = some b ∧ W.heap[w.heap.size + 1 + 1]? = some c ∧ W.heap[w.heap.size + 1 + 1 + 1]? = some d := by
 have s1 : (w.alloc a).heap.size = w.heap.size + 1 := by simp
 have s2 : ((w.alloc a).alloc b).heap.size = w.heap.size + 1 + 1 := by simp
 have s3 : (((w.alloc a).alloc b).alloc c).heap.size = w.heap.size + 1 + 1 + 1 := by simp
 refine ⟨heap_alloc_old (heap_alloc_old (heap_alloc_old (heap_alloc_new w a))), heap_alloc_old (heap_alloc_old ?_), heap_alloc_old ?_, ?_⟩
 ·rw [← s1]; exact heap_alloc_new _ _
 ·rw [← s2]; exact heap_alloc_new _ _
 ·rw [← s3]; exact heap_alloc_new _ _
theorem mid_none {w : World} {l : List Sec} {cs : Array Value} (sz : Int) (h : l = []) :
  Mid w sz none cs l (w.heap.size + 1 + 1 + 1) none
   ((((w.alloc (.cells #[.int .i64 sz, .map none] 66)).alloc (.cells cs 75)).alloc (.cells #[.int .i64 0, .map none] 66)).alloc (.cells #[.int .i64 sz, .map none] 66)).drew := by
 obtain ⟨a0, a1, a2, a3⟩ := four_at w (.cells #[.int .i64 sz, .map none] 66) (.cells cs 75) (.cells #[.int .i64 0, .map none] 66) (.cells #[.int .i64 sz, .map none] 66)
 exact ⟨a0, a1, a2, a3, by omega, fun b hb => (by cases hb), fun _ => h, h, fun x hx => (by cases hx), fun x hx => (by cases hx), (((((Below.refl _ _).alloc (Nat.le_refl _) _).alloc (by simp) _).alloc (by simp; omega) _).alloc (by simp; omega) _).drew⟩
theorem mid_two {w : World} {b : Nat} {es : Array MapEntry} {clock : Nat} {l : List Sec} {cs : Array Value} (sz : Int) (h : FileAt w (some b) l) (hes : w.heap[b]? = some (.map es clock)) :
  Mid w sz (some b) cs l (w.heap.size + 1 + 1 + 1) (some (w.heap.size + 1 + 1 + 1 + 1))
   (((((w.alloc (.cells #[.int .i64 sz, .map (some b)] 66)).alloc (.cells cs 75)).alloc (.cells #[.int .i64 0, .map none] 66)).alloc (.cells #[.int .i64 sz, .map (some (w.heap.size + 1 + 1 + 1 + 1))] 66)).alloc (.map es clock)).drew := by
 obtain ⟨a0, a1, a2, a3, a4⟩ := five_at w (.cells #[.int .i64 sz, .map (some b)] 66) (.cells cs 75) (.cells #[.int .i64 0, .map none] 66) (.cells #[.int .i64 sz, .map (some (w.heap.size + 1 + 1 + 1 + 1))] 66) (.map es clock)
 exact ⟨a0, a1, a2, a3, by omega, file_both h hes ((five_old w _ _ _ _ _ b h.lt).trans hes) a4, fun h => (by cases h), file_some h hes a4, fun x hx => by cases hx; exact h.lt, fun x hx => by cases hx; omega, (five_below w _ _ _ _ _).drew⟩
theorem range_bytes {T : TypeId} {W : World} {b : Nat} {cs : Array Value} {c : Chg} (hb : c.bytes.length = 64) (hcs : cs = (chgCells c).toArray) (h : W.heap[b]? = some (.cells cs T (0, 0))) :
  W.rangeAt b 3 (cellsOf c.bytes) := fun j v hv => by
 rw [cell_of_block h, hcs]
 have e : 3 + j = j + 3 := by omega
 simp only [chgCells, List.getElem?_toArray, List.cons_append, List.nil_append, e, List.getElem?_cons_succ]
 exact hv
theorem mid_put {w : World} {sz z : Int} {m : Option Nat} {cs : Array Value} {l : List Sec} {c : Chg} {B5 mo : Nat} {wx : World} (h : Mid w sz m cs l B5 (some mo) wx) (hb : c.bytes.length = 64) (hcs : cs = (chgCells c).toArray) (hc : c.cut = false)
  (hl : l.length ≤ 8192) (ha : c.at_ ≤ 8192) : ∃ w3, (Instr.mapUpdate 64 (.map (some mo)) (.int .i64 c.at_) (.agg (cellsOf c.bytes).toArray)).run Tryz.prog (wx.setCell ⟨B5, 0, none⟩ (.int .i64 z)).drew = .ok () w3 ∧
   (FileAt w3 (some mo) (doesM l c) ∧ w3.heap[B5]? = some (.cells #[.int .i64 z, .map (some mo)] 66 (0, 0)) ∧ w3.heap[w.heap.size + 1 + 1]? = some (.cells #[.int .i64 0, .map none] 66 (0, 0)) ∧ Below w.heap.size w w3) ∧
   (wx.drew.cell? ⟨w.heap.size + 1, 1, none⟩ = some (.int .i64 c.at_) ∧ wx.drew.cell? ⟨B5, 1, none⟩ = some (.map (some mo)) ∧ wx.drew.rangeAt (w.heap.size + 1) 3 (cellsOf c.bytes)) ∧
   ((wx.setCell ⟨B5, 0, none⟩ (.int .i64 z)).drew.cell? ⟨w.heap.size + 1, 1, none⟩ = some (.int .i64 c.at_) ∧ (wx.setCell ⟨B5, 0, none⟩ (.int .i64 z)).drew.cell? ⟨B5, 1, none⟩ = some (.map (some mo)) ∧ (wx.setCell ⟨B5, 0, none⟩ (.int .i64 z)).drew.rangeAt (w.heap.size + 1) 3 (cellsOf c.bytes)) ∧
   (w3.cell? ⟨w.heap.size + 1, 1, none⟩ = some (.int .i64 c.at_) ∧ w3.cell? ⟨B5, 1, none⟩ = some (.map (some mo)) ∧ w3.rangeAt (w.heap.size + 1) 3 (cellsOf c.bytes)) ∧
   w3.cell? ⟨B5, 0, none⟩ = some (.int .i64 z) := by
 obtain ⟨l0, l1, l2, l5⟩ := h.lt
 have e5 := h.b5
 have hs := h.bel.size
 have hmo := h.bo mo rfl
 obtain ⟨D, hown, hh⟩ := h.fo
 obtain ⟨es, clock, hes, -⟩ := id hown
 have hne : mo ≠ B5 := fun e => by rw [e, h.h5] at hes; cases hes
 have hne1 : mo ≠ w.heap.size + 1 := fun e => by rw [e, h.h1] at hes; cases hes
 have hne2 : mo ≠ w.heap.size + 1 + 1 := fun e => by rw [e, h.h2] at hes; cases hes
 have h5 := heap_setCell_same h.h5 0 (.int .i64 z)
 have h1 := (Below.heap_setCell wx ⟨B5, 0, none⟩ (.int .i64 z) (w.heap.size + 1) (by simp; omega)).trans h.h1
 have h2 := (Below.heap_setCell wx ⟨B5, 0, none⟩ (.int .i64 z) (w.heap.size + 1 + 1) (by simp; omega)).trans h.h2
 have own1 : (wx.setCell ⟨B5, 0, none⟩ (.int .i64 z)).drew.ownsMap Tryz.prog 3 secElem mo l.length D := hown.setCell (a := ⟨B5, 0, none⟩) hne _
 obtain ⟨w3, hrun, hown3, hg⟩ := own1.update keyI Tryz.underlying64 (by unfold maxLen; omega) (keyOf_int_mk Tryz.underlying3 (a := (c.at_ : Int)) (WalkArith.wf_i64 (by omega))) (secElem_mk hb)
 unfold secV at hrun
 have hz : (wx.setCell ⟨B5, 0, none⟩ (.int .i64 z)).drew.heap.size = wx.heap.size := by simp
 have h5' := (hg.block B5 (by rw [hz]; exact l5) (fun e => hne (Option.some.inj e).symm)).trans h5
 have h1' := (hg.block (w.heap.size + 1) (by rw [hz]; exact l1) (fun e => hne1 (Option.some.inj e).symm)).trans h1
 have h2' := (hg.block (w.heap.size + 1 + 1) (by rw [hz]; exact l2) (fun e => hne2 (Option.some.inj e).symm)).trans h2
 have c1 : cs[1]? = some (.int .i64 c.at_) := by rw [hcs]; simp [chgCells]
 refine ⟨w3, hrun, ⟨fileAt_of hown3 (holds_put hh hown.isMap hc), by rw [h5']; rfl, h2', ?_⟩, ⟨?_, ?_, range_bytes hb hcs h.h1⟩, ⟨?_, ?_, range_bytes hb hcs h1⟩, ⟨?_, ?_, range_bytes hb hcs h1'⟩, ?_⟩
 ·exact ((h.bel.setCell (p := ⟨B5, 0, none⟩) (by simp; omega) _).drew).grown hg (by rw [hz]; exact hs) (fun j hj => by cases hj; exact hmo)
 ·exact (cell_of_block h.h1 1).trans c1
 ·exact (cell_of_block h.h5 1).trans rfl
 ·exact (cell_of_block h1 1).trans c1
 ·exact (cell_of_block h5 1).trans rfl
 ·exact (cell_of_block h1' 1).trans c1
 ·exact (cell_of_block h5' 1).trans rfl
 ·exact (cell_of_block h5' 0).trans rfl
theorem three_keep (w : World) (a b c : Obj) {T : TypeId} {x y : Value} (ha : a = .cells #[x, y] T) :
  ((((w.alloc a).alloc b).alloc c).drew.cell? ⟨w.heap.size, 0, none⟩ = some x ∧ (((w.alloc a).alloc b).alloc c).drew.cell? ⟨w.heap.size, 1, none⟩ = some y) ∧
  (∀ o, ((((w.alloc a).alloc b).alloc c).alloc o).drew.cell? ⟨w.heap.size, 0, none⟩ = some x ∧ ((((w.alloc a).alloc b).alloc c).alloc o).drew.cell? ⟨w.heap.size, 1, none⟩ = some y) ∧
  (∀ o p, (((((w.alloc a).alloc b).alloc c).alloc o).alloc p).drew.cell? ⟨w.heap.size, 0, none⟩ = some x ∧ (((((w.alloc a).alloc b).alloc c).alloc o).alloc p).drew.cell? ⟨w.heap.size, 1, none⟩ = some y) := by
 subst ha
 have h0 := heap_alloc_old (o := c) (heap_alloc_old (o := b) (heap_alloc_new w (.cells #[x, y] T)))
 have h1 := fun o => heap_alloc_old (o := o) h0
 have h2 := fun o p => heap_alloc_old (o := p) (h1 o)
 exact ⟨⟨(cells2 h0).1, (cells2 h0).2.1⟩, fun o => ⟨(cells2 (h1 o)).1, (cells2 (h1 o)).2.1⟩, fun o p => ⟨(cells2 (h2 o p)).1, (cells2 (h2 o p)).2.1⟩⟩
structure CutRel (w : World) (sz : Int) (cs : Array Value) (l : List Sec) (B5 mo b r : Nat) (D0 D : DataW Unit) (left : Lit → Bool) (cnt : Nat) (wx : World) : Prop where
 h1 : wx.heap[w.heap.size + 1]? = some (.cells cs 75 (0, 0))
 h2 : wx.heap[w.heap.size + 1 + 1]? = some (.cells #[.int .i64 0, .map none] 66 (0, 0))
 h5 : wx.heap[B5]? = some (.cells #[.int .i64 sz, .map (some mo)] 66 (0, 0))
 hrg : wx.ranges Tryz.prog 3 secElem b r l.length D0 left cnt
 hown : wx.ownsMap Tryz.prog 3 secElem mo l.length D
 bel : Below w.heap.size w wx
theorem CutRel.ne {w : World} {sz : Int} {cs : Array Value} {l : List Sec} {B5 mo b r : Nat} {D0 D : DataW Unit} {left : Lit → Bool} {cnt : Nat} {wx : World} (h : CutRel w sz cs l B5 mo b r D0 D left cnt wx) :
  mo ≠ w.heap.size + 1 ∧ mo ≠ w.heap.size + 1 + 1 ∧ mo ≠ B5 ∧ mo ≠ r ∧ r ≠ w.heap.size + 1 ∧ r ≠ w.heap.size + 1 + 1 ∧ r ≠ B5 := by
 obtain ⟨es, clock, hes, -⟩ := h.hown
 obtain ⟨es2, clock2, since, seen, c0, -, -, -, -, hr, -⟩ := h.hrg
 refine ⟨?_, ?_, ?_, ?_, ?_, ?_, ?_⟩ <;> intro e
 ·rw [e, h.h1] at hes; cases hes
 ·rw [e, h.h2] at hes; cases hes
 ·rw [e, h.h5] at hes; cases hes
 ·rw [e, hr] at hes; cases hes
 ·rw [e, h.h1] at hr; cases hr
 ·rw [e, h.h2] at hr; cases hr
 ·rw [e, h.h5] at hr; cases hr
theorem CutRel.step {w : World} {sz : Int} {cs : Array Value} {l : List Sec} {B5 mo b r : Nat} {D0 D D' : DataW Unit} {left left' : Lit → Bool} {cnt cnt' : Nat} {wx w' : World} (h : CutRel w sz cs l B5 mo b r D0 D left cnt wx)
  {k : Nat} (hg : wx.grownBy w' (some k)) (hk : k = mo ∨ k = r) (hkb : w.heap.size ≤ k) (hrg : w'.ranges Tryz.prog 3 secElem b r l.length D0 left' cnt') (hown : w'.ownsMap Tryz.prog 3 secElem mo l.length D') :
  CutRel w sz cs l B5 mo b r D0 D' left' cnt' w' := by
 obtain ⟨n1, n2, n3, n4, n5, n6, n7⟩ := h.ne
 have old : ∀ i, i < wx.heap.size → i ≠ k → w'.heap[i]? = wx.heap[i]? := fun i hi hne => hg.block i hi (fun e => hne (Option.some.inj e))
 exact ⟨(old _ (lt_of_block h.h1) (by rcases hk with rfl | rfl <;> omega)).trans h.h1, (old _ (lt_of_block h.h2) (by rcases hk with rfl | rfl <;> omega)).trans h.h2, (old _ (lt_of_block h.h5) (by rcases hk with rfl | rfl <;> omega)).trans h.h5,
  hrg, hown, h.bel.grown hg h.bel.size (fun j hj => by cases hj; exact hkb)⟩
theorem mid_made {w : World} {sz : Int} {m : Option Nat} {cs : Array Value} {l : List Sec} {B5 : Nat} {wx : World} (h : Mid w sz m cs l B5 none wx) :
  Mid w sz m cs l B5 (some wx.heap.size) ((wx.setCell ⟨B5, 1, none⟩ (.map (some wx.heap.size))).alloc (.map #[] 0)) := by
 obtain ⟨l0, l1, l2, l5⟩ := h.lt
 have e5 := h.b5
 obtain rfl : l = [] := h.fo
 have hs := h.bel.size
 have hz : (wx.setCell ⟨B5, 1, none⟩ (.map (some wx.heap.size))).heap.size = wx.heap.size := by simp
 have old : ∀ k, k < wx.heap.size → k ≠ B5 → ((wx.setCell ⟨B5, 1, none⟩ (.map (some wx.heap.size))).alloc (.map #[] 0)).heap[k]? = wx.heap[k]? := fun k hk hne => by
  rw [Below.heap_alloc _ _ k (by rw [hz]; exact hk), Below.heap_setCell _ ⟨B5, 1, none⟩ _ k hne]
 refine ⟨(old _ l0 (by omega)).trans h.h0, (old _ l1 (by omega)).trans h.h1, (old _ l2 (by omega)).trans h.h2, ?_, e5, (fun x hx => by obtain ⟨o, D, ho, _⟩ := h.fm x hx; cases ho), fun _ => rfl, ?_, h.bm, fun x hx => by cases hx; exact hs, (h.bel.setCell (p := ⟨B5, 1, none⟩) (by simp; omega) _).alloc (by rw [hz]; exact hs) _⟩
 ·refine heap_alloc_old ?_
  rw [heap_setCell_same h.h5 1 _]
  rfl
 ·refine ⟨.map [], ?_, holds_nil⟩
  have := World.ownsMap_made (wx.setCell ⟨B5, 1, none⟩ (.map (some wx.heap.size))) Tryz.prog 3 secElem
  rwa [hz] at this
set_option maxHeartbeats 1000000 in
set_option maxRecDepth 100000 in
theorem does_any (m : Option Nat) (l : List Sec) (c : Chg) (w : World) (hf : FileAt w m l) (hb : c.bytes.length = 64) (hl : l.length ≤ 8192) (ha : c.at_ ≤ 8192) :
  Calls Tryz.prog 25 #[.agg #[.int .i64 l.length, .map m], chgV c] w fun e w' => ∃ m', e = .returned (.agg #[.int .i64 (doesM l c).length, .map (some m')]) ∧ w.heap.size ≤ m' ∧ FileAt w' (some m') (doesM l c) ∧ Below w.heap.size w w' := by
 unfold chgV
 obtain ⟨cs, hcs⟩ : ∃ cs, cs = (chgCells c).toArray := ⟨_, rfl⟩
 have hcz : cs.size = 67 := by rw [hcs]; simp [chgCells_length hb]
 have c1 : cs[1]? = some (.int .i64 c.at_) := by rw [hcs]; rfl
 have c2 : cs[2]? = some (.bool c.cut) := by rw [hcs]; simp [chgCells]
 rw [← hcs]
 have Hcs := hid hcs
 clear hcs
 go_enter Tryz.func25, Tryz.ntmps25
 go_upto_region 1 with fail
 go_cut [5] from 7 to 12 (fun s5 wx => ∃ B5 mo wy, wy = wx ∧ s5 = .pointer (some ⟨B5, 0, none⟩) ∧ Mid w l.length m cs l B5 mo wy)
 case first =>
  obtain ⟨K0, KA, KB⟩ := three_keep w (.cells #[.int .i64 l.length, .map m] 66) (.cells cs 75) (.cells #[.int .i64 0, .map none] 66) rfl
  have K0 := hid K0
  have KA := hid KA
  have KB := hid KB
  cases m with
  | none =>
   have hl0 : l = [] := hf
   have Hl0 := hid hl0
   clear hf hl0
   go_region_held3 (fun W => W.cell? ⟨w.heap.size, 0, none⟩ = some (.int .i64 l.length) ∧ W.cell? ⟨w.heap.size, 1, none⟩ = some (.map none)) (first | with_reducible exact K0.out | with_reducible exact KA.out _ | with_reducible exact KB.out _ _) (first | (go_at_call 49; refine (clone_sec_nil _).mono ?_; rintro e w4 ⟨rfl, rfl⟩))
   all_goals
    go_wp2_with fail
    go_meet
    exact ⟨_, _, _, rfl, rfl, mid_none _ Hl0.out⟩
  | some b =>
   have hf0 := hf
   obtain ⟨D, ⟨es, clock, hes, -⟩, -⟩ := hf0
   have Hf := hid hf
   have he3 : ∀ o1 o2 o3, (((w.alloc o1).alloc o2).alloc o3).drew.heap[b]? = some (.map es clock) := fun o1 o2 o3 => heap_alloc_old (heap_alloc_old (heap_alloc_old hes))
   have he4 : ∀ o1 o2 o3 o4, ((((w.alloc o1).alloc o2).alloc o3).alloc o4).drew.heap[b]? = some (.map es clock) := fun o1 o2 o3 o4 => heap_alloc_old (heap_alloc_old (heap_alloc_old (heap_alloc_old hes)))
   have He3 := hid he3
   have He4 := hid he4
   have Hes := hid hes
   clear hf he3 he4 hes
   go_region_held3 (fun W => W.cell? ⟨w.heap.size, 0, none⟩ = some (.int .i64 l.length) ∧ W.cell? ⟨w.heap.size, 1, none⟩ = some (.map (some b))) (first | with_reducible exact K0.out | with_reducible exact KA.out _ | with_reducible exact KB.out _ _) (first | (go_at_call 49; refine (clone_sec b es clock _ (by first | with_reducible exact He3.out _ _ _ | with_reducible exact He4.out _ _ _ _)).mono ?_; rintro e w4 ⟨rfl, rfl⟩))
   all_goals
    go_wp2_with fail
    go_meet
    first
     | with_reducible exact ⟨_, _, _, rfl, rfl, mid_one _ Hf.out Hes.out⟩
     | with_reducible exact ⟨_, _, _, rfl, rfl, mid_two _ Hf.out Hes.out⟩
 case rest =>
  obtain ⟨B5, mo, wx, rfl, rfl, hmid⟩ := hcut
  have HM := hid hmid
  obtain ⟨hl0, hl1, hl2, hl5⟩ := hmid.lt
  clear hmid
  obtain ⟨d0, d1, df⟩ := cells2 HM.out.h5
  have e5 := HM.out.b5
  have hq := fun w => run_eql_map_nil_sl (P := Tryz.prog) w 64 _ _ mo Tryz.underlying64
  go_upto_if 15 with fail
  go_cut [] from 13 to 17 (fun wx2 => ∃ mo2 wy, wy = wx2 ∧ Mid w l.length m cs l B5 (some mo2) wy)
  case first =>
   cases mo with
   | some b =>
    go_wp2_with fail
    go_meet
    exact ⟨b, _, rfl, HM.out⟩
   | none =>
    have hmm := @run_makeMap Tryz.prog
    go_wp2_with fail
    go_meet
    exact ⟨wx.heap.size, _, rfl, mid_made HM.out⟩
  case rest =>
   obtain ⟨mo2, w2, rfl, hmid⟩ := hcut
   clear HM hl0 hl1 hl2 hl5 d0 d1 df hq mo wx
   have HM := hid hmid
   obtain ⟨hl0, hl1, hl2, hl5⟩ := hmid.lt
   clear hmid
   obtain ⟨d0, d1, df⟩ := cells2 HM.out.h5
   obtain ⟨b0, b1, bf⟩ := cells2 HM.out.h0
   obtain ⟨r0, r1, rf⟩ := cells2 HM.out.h2
   have q1 := (cell_of_block HM.out.h1 1).trans c1
   have q2 := (cell_of_block HM.out.h1 2).trans c2
   have qf := free_of_block HM.out.h1 1
   cases hc : c.cut with
   | false =>
    rw [hc] at q2
    have Hc := hid hc
    have hr2 := range_bytes hb Hcs.out HM.out.h1
    have hu72 := Tryz.underlying73
    have hi72 : (Tryz.prog.info? 73).map (·.size) = some (cellsOf c.bytes).length := by
     rw [cellsOf_length, hb]; kernel_rfl
    have hwr : IntKind.i64.wrap ((c.at_ : Int) + 1) = (c.at_ : Int) + 1 := IntWalk.i64_in _ (by omega)
    obtain ⟨z, hz⟩ : ∃ z : Int, z = (doesM l c).length := ⟨_, rfl⟩
    have hz' : (if (l.length : Int) < (c.at_ : Int) + 1 then (c.at_ : Int) + 1 else (l.length : Int)) = z := by
     rw [hz, doesM_length_write hc]
     split <;> omega
    have Hz := hid hz
    obtain ⟨w3, hrun, hm3, k0, k1, k2, e0⟩ := mid_put (z := z) HM.out hb Hcs.out hc hl ha
    have K0 := hid k0
    have K1 := hid k1
    have K2 := hid k2
    have Hm3 := hid hm3
    clear hz k0 k1 k2 hm3 hc
    go_upto_region 5 with fail
    refine wp_region_held_drew (S := fun W => W.cell? ⟨w.heap.size + 1, 1, none⟩ = some (.int .i64 c.at_) ∧ W.cell? ⟨B5, 1, none⟩ = some (.map (some mo2)) ∧ W.rangeAt (w.heap.size + 1) 3 (cellsOf c.bytes)) (by kernel_rfl) K0.out (fun hHeld => ?_)
    refine held_take (v := ?v0) 0 rfl (by kernel_rfl) (by kernel_rfl) (by kernel_rfl) (fun _ _ _ h => h) (by rfl) hHeld ?hy0 ?r0
    case hy0 => (intro W hSw; obtain ⟨x1, x2, x3⟩ := hSw; go_simp; with_reducible rfl)
    simp only [Act.put, List.setIfInBounds_toArray, List.set_cons_zero, List.set_cons_succ]
    refine held_take (v := ?v1) 1 rfl (by kernel_rfl) (by kernel_rfl) (by kernel_rfl) (fun _ _ _ h => h) (by rfl) hHeld ?hy1 ?r1
    case hy1 => (intro W hSw; obtain ⟨x1, x2, x3⟩ := hSw; go_simp; with_reducible rfl)
    simp only [Act.put, List.setIfInBounds_toArray, List.set_cons_zero, List.set_cons_succ]
    refine held_take (v := ?v2) 2 rfl (by kernel_rfl) (by kernel_rfl) (by kernel_rfl) (fun _ _ _ h => h) (by rfl) hHeld ?hy2 ?r2
    case hy2 => (intro W hSw; obtain ⟨x1, x2, x3⟩ := hSw; go_simp; with_reducible rfl)
    simp only [Act.put, List.setIfInBounds_toArray, List.set_cons_zero, List.set_cons_succ]
    refine held_take (v := ?v3) 3 rfl (by kernel_rfl) (by kernel_rfl) (by kernel_rfl) (fun _ _ _ h => h) (by rfl) hHeld ?hy3 ?r3
    case hy3 => (intro W hSw; obtain ⟨x1, x2, x3⟩ := hSw; go_simp; with_reducible rfl)
    simp only [Act.put, List.setIfInBounds_toArray, List.set_cons_zero, List.set_cons_succ]
    refine held_take (v := ?v4) 4 rfl (by kernel_rfl) (by kernel_rfl) (by kernel_rfl) (fun _ _ _ h => h) (by rfl) hHeld ?hy4 ?r4
    case hy4 => (intro W hSw; obtain ⟨x1, x2, x3⟩ := hSw; go_simp; with_reducible rfl)
    simp only [Act.put, List.setIfInBounds_toArray, List.set_cons_zero, List.set_cons_succ]
    refine held_take (v := ?v6) 6 rfl (by kernel_rfl) (by kernel_rfl) (by kernel_rfl) (fun _ _ _ h => h) (by rfl) hHeld ?hy6 ?r6
    case hy6 => (intro W hSw; obtain ⟨x1, x2, x3⟩ := hSw; go_simp; with_reducible rfl)
    simp only [Act.put, List.setIfInBounds_toArray, List.set_cons_zero, List.set_cons_succ]
    refine held_take (v := ?v7) 7 rfl (by kernel_rfl) (by kernel_rfl) (by kernel_rfl) (fun _ _ _ h => h) (by rfl) hHeld ?hy7 ?r7
    case hy7 => (intro W hSw; obtain ⟨x1, x2, x3⟩ := hSw; go_simp; with_reducible rfl)
    simp only [Act.put, List.setIfInBounds_toArray, List.set_cons_zero, List.set_cons_succ]
    refine held_take (v := ?v8) 8 rfl (by kernel_rfl) (by kernel_rfl) (by kernel_rfl) (fun _ _ _ h => h) (by rfl) hHeld ?hy8 ?r8
    case hy8 => (intro W hSw; obtain ⟨x1, x2, x3⟩ := hSw; go_simp; with_reducible rfl)
    simp only [Act.put, List.setIfInBounds_toArray, List.set_cons_zero, List.set_cons_succ]
    refine held_take (v := ?v10) 10 rfl (by kernel_rfl) (by kernel_rfl) (by kernel_rfl) (fun _ _ _ h => h) (by rfl) hHeld ?hy10 ?r10
    case hy10 => (intro W hSw; obtain ⟨x1, x2, x3⟩ := hSw; go_simp; with_reducible rfl)
    simp only [Act.put, List.setIfInBounds_toArray, List.set_cons_zero, List.set_cons_succ]
    refine held_take (v := .agg (cellsOf c.bytes).toArray) 11 rfl (by kernel_rfl) (by kernel_rfl) (by kernel_rfl) (fun _ _ _ h => h) (by rfl) hHeld ?hy11 ?r11
    case hy11 =>
     intro W hSw
     obtain ⟨x1, x2, x3⟩ := hSw
     unfold execOp
     simp only [Act.eval, List.getElem?_toArray, List.getElem?_cons_succ, List.getElem?_cons_zero, Array.getD_eq_getD_getElem?, Option.getD_some]
     simp only [run_loadAt_mid W _ _ _ _ _ x3 hu72 rfl hi72, Sem.run_bind, Result.andThen_ok, Sem.run_pure]
    simp only [Act.put, List.setIfInBounds_toArray, List.set_cons_zero, List.set_cons_succ]
    refine held_one 5 (by kernel_rfl) rfl (fun K hK => ?_)
    go_simp
    refine hK.out _ _ K0.out (fun hHeld => ?_)
    clear hK K
    try simp only [Act.put, List.setIfInBounds_toArray, List.set_cons_zero, List.set_cons_succ]
    refine held_take (v := ?v9) 9 rfl (by kernel_rfl) (by kernel_rfl) (by kernel_rfl) (fun _ _ _ h => h) (by rfl) hHeld ?hy9 ?r9
    case hy9 => (intro W hSw; obtain ⟨x1, x2, x3⟩ := hSw; go_simp; with_reducible rfl)
    simp only [Act.put, List.setIfInBounds_toArray, List.set_cons_zero, List.set_cons_succ]
    refine held_take (v := ?v12) 12 rfl (by kernel_rfl) (by kernel_rfl) (by kernel_rfl) (fun _ _ _ h => h) (by rfl) hHeld ?hy12 ?r12
    case hy12 => (intro W hSw; obtain ⟨x1, x2, x3⟩ := hSw; go_simp; with_reducible rfl)
    simp only [Act.put, List.setIfInBounds_toArray, List.set_cons_zero, List.set_cons_succ]
    refine held_one 13 (by kernel_rfl) rfl (fun K hK => ?_)
    go_simp
    refine hK.out _ _ K1.out (fun hHeld => ?_)
    clear hK K
    try simp only [Act.put, List.setIfInBounds_toArray, List.set_cons_zero, List.set_cons_succ]
    refine held_one 14 (by kernel_rfl) rfl (fun K hK => ?_)
    go_simp
    refine hK.out _ _ K2.out (fun hHeld => ?_)
    clear hK K
    try simp only [Act.put, List.setIfInBounds_toArray, List.set_cons_zero, List.set_cons_succ]
    refine wpAnyH_done (by kernel_rfl) ?_ _
    all_goals
     have e1 := K2.out.2.1
     obtain ⟨hfile, h5', h2', hbel⟩ := Hm3.out
     obtain ⟨d0, d1, df⟩ := cells2 h5'
     obtain ⟨r0, r1, rf⟩ := cells2 h2'
     clear hrun
     go_wp2_with fail
     refine bodyPost_ret (v := .agg #[.int .i64 z, .map (some mo2)]) (by simp [results, Tryz.results25, go_sem, r0, r1, rf]) rfl ⟨mo2, by rw [Hz.out], HM.out.bo _ rfl, ?_, ?_⟩
     ·exact (hfile.keep (fun x hx => by rw [Below.heap_setCell _ ⟨_, 1, none⟩ _ x (by cases hx; exact HM.out.ne2), Below.heap_setCell _ ⟨_, 0, none⟩ _ x (by cases hx; exact HM.out.ne2)]))
     ·iterate 2 refine Below.setCell ?_ (by simp; omega) _
      exact hbel
   | true =>
    rw [hc] at q2
    cases m with
    | none =>
     have hl0 : l = [] := HM.out.fn rfl
     have hrg := run_range_nilMap (P := Tryz.prog) w2 64 _ _ Tryz.underlying64
     have hnx : ∀ ty, (Instr.next (.pointer (some ⟨w2.heap.size, 0, none⟩)) false ty).run Tryz.prog (w2.alloc (.mapIter none 0 #[] 0)) = _ := fun ty => run_next_nilMap _ ty 0 0 #[]
     have hbel := HM.out.bel
     have hbo := HM.out.bo mo2 rfl
     have n2 := HM.out.ne2
     have n3 : mo2 ≠ B5 := fun e => by
      obtain ⟨D, ⟨es, clock, hes, -⟩, -⟩ := HM.out.fo
      rw [e, HM.out.h5] at hes
      cases hes
     have Hfile := hid HM.out.fo
     have hz0 : (l.length : Int) = 0 := by rw [hl0]; rfl
     have hd : doesM l c = l := by rw [hl0, doesM_cut hc]; simp
     have Hd := hid hd
     have hmolt := Hfile.out.lt
     clear hd HM
     go_wp2
     refine wp_loop_rounds 1 ?_
     rw [rounds_succ]
     go_wp2
     all_goals
      refine bodyPost_ret (v := .agg #[.int .i64 0, .map (some mo2)]) (by simp [results, Tryz.results25, go_sem, r0, r1, rf, hl2]) rfl ⟨mo2, by rw [Hd.out, hz0], hbo, ?_, ?_⟩
      ·rw [Hd.out]
       refine Hfile.out.keep (fun x hx => ?_)
       cases hx
       rw [Below.heap_alloc _ _ mo2 (by simp; omega), Below.heap_setCell _ ⟨_, 1, none⟩ _ _ n2, Below.heap_setCell _ ⟨_, 0, none⟩ _ _ n2, Below.heap_setCell _ ⟨_, 0, none⟩ _ _ n3]
      ·refine Below.alloc ?_ (by simp; omega) _
       iterate 3 refine Below.setCell ?_ (by simp; omega) _
       exact hbel
    | some b =>
     obtain ⟨o, D, ho, hob, hoo, hh⟩ := HM.out.fm b rfl
     cases ho
     have Hh := hid hh
     clear hh
     go_wp2_with (first
      | (at_range; refine wpList_range_own _ rfl _ 64 rfl 3 73 keyI Tryz.underlying64 secElem b l.length D rfl hob ?_; intro w0 hrg0 hg0 hs0)
      | go_in)
     go_frame
     have hbo := HM.out.bo mo2 rfl
     have hr0 : w.heap.size ≤ w2.heap.size := HM.out.bel.size
     have hblt := HM.out.bm b rfl
     have hrel0 : CutRel w l.length cs l B5 mo2 b w2.heap.size D D (Maps.has D) (Maps.size D) w0 :=
      ⟨(hg0.block _ hl1 (by simp)).trans HM.out.h1, (hg0.block _ hl2 (by simp)).trans HM.out.h2, (hg0.block _ hl5 (by simp)).trans HM.out.h5, hrg0, hoo.kept hg0 (by simp), HM.out.bel.grown hg0 hr0 (fun j hj => by cases hj)⟩
     have Hrel0 := hid hrel0
     clear hrel0 hrg0 hg0 hs0 hob hoo d0 d1 df b0 b1 bf r0 r1 rf q1 q2 qf HM hl0 hl1 hl2 hl5
     obtain ⟨r, hr⟩ : ∃ r, r = w2.heap.size := ⟨_, rfl⟩
     rw [← hr] at Hrel0 hr0 ⊢
     clear hr
     go_loopw [6] (fun _ wr => ∃ left cnt D1, CutRel w l.length cs l B5 mo2 b r D D1 left cnt wr ∧ Cutting D1 D c.at_ left) (fun _ wr => wr.rangeLeft b r)
     case atStart => exact ⟨_, _, _, Hrel0.out, cutting_start _ _⟩
     case round =>
      obtain ⟨left, cnt, D1, hrel, hcutting⟩ := hrel
      have Hcut := hid hcutting
      clear hcutting
      have HR := hid hrel
      have hrg := hrel.hrg
      obtain ⟨n1, n2, n3, n4, n5, n6, n7⟩ := hrel.ne
      clear hrel
      obtain ⟨d0, d1, df⟩ := cells2 HR.out.h5
      obtain ⟨r0, r1, rf⟩ := cells2 HR.out.h2
      have q1 := (cell_of_block HR.out.h1 1).trans c1
      have qf := free_of_block HR.out.h1 1
      go_wp2_with (first
       | (at_next; refine wpList_next_ranges _ rfl _ rfl 3 keyI secElem (Value.int .i64) secV (fun key kl hk => by obtain ⟨x, hx, _⟩ := Maps.keyOf_int_inv Tryz.underlying3 hk; exact ⟨x, hx⟩) (fun v y hv => by obtain ⟨s, _, hs, _⟩ := secElem_inv hv; exact ⟨s, hs⟩) b r l.length D left cnt rfl hrg ?_ ?_)
       | go_in)
      ·intro hc0 hlk
       have hfile : FileAt wr (some mo2) (doesM l c) := fileAt_of HR.out.hown (cutting_end Hcut.out Hh.out hlk hc)
       have Hfile := hid hfile
       have hbel := HR.out.bel
       clear hfile hc0 hlk hrg HR
       by_cases hlt : (c.at_ : Int) < (l.length : Int)
       ·have hz : ((doesM l c).length : Int) = c.at_ := by rw [doesM_length_cut hc]; omega
        have Hz := hid hz
        clear hz
        go_wp2_with fail
        all_goals
         refine bodyPost_ret (v := .agg #[.int .i64 c.at_, .map (some mo2)]) (by simp [results, Tryz.results25, go_sem, r0, r1, rf]) rfl ⟨mo2, by rw [Hz.out], hbo, ?_, ?_⟩
         ·exact (Hfile.out.keep (fun x hx => by cases hx; rw [Below.heap_setCell _ ⟨_, 1, none⟩ _ _ n2, Below.heap_setCell _ ⟨_, 0, none⟩ _ _ n2, Below.heap_setCell _ ⟨_, 0, none⟩ _ _ n3]))
         ·iterate 3 refine Below.setCell ?_ (by simp; omega) _
          exact hbel
       ·have hz : ((doesM l c).length : Int) = l.length := by rw [doesM_length_cut hc]; omega
        have Hz := hid hz
        clear hz
        go_wp2_with fail
        all_goals
         refine bodyPost_ret (v := .agg #[.int .i64 l.length, .map (some mo2)]) (by simp [results, Tryz.results25, go_sem, r0, r1, rf]) rfl ⟨mo2, by rw [Hz.out], hbo, ?_, ?_⟩
         ·exact (Hfile.out.keep (fun x hx => by cases hx; rw [Below.heap_setCell _ ⟨_, 1, none⟩ _ _ n2, Below.heap_setCell _ ⟨_, 0, none⟩ _ _ n2, Below.heap_setCell _ ⟨_, 0, none⟩ _ _ n3]))
         ·iterate 3 refine Below.setCell ?_ (by simp; omega) _
          exact hbel
      ·intro x s kl y ps w1 cnt1 hkey hlk hR hat hrg1 hlt hg1 hs1 hen
       have hkl : kl = ik x := by
        obtain ⟨x', e1, e2, _⟩ := Maps.keyOf_int_inv Tryz.underlying3 hkey
        cases e1
        exact e2
       subst hkl
       have hhas : Maps.has D (ik x) = true := has_true_of_atKey hat
       obtain ⟨i, hi, e⟩ := Hh.out.in_ _ hhas
       obtain rfl : x = (i : Int) := ik_inj e
       have hown1 := HR.out.hown.kept hg1 (by simp; omega)
       by_cases hge : (i : Int) < (c.at_ : Int)
       ·have hge' : decide ((c.at_ : Int) ≤ (i : Int)) = false := by simp; omega
        have HR1 := hid (HR.out.step hg1 (.inr rfl) hr0 hrg1 hown1)
        have Hlt := hid hlt
        have hl1 := hid hrg1.left_eq
        have hl0 := hid hrg.left_eq
        obtain ⟨d0, d1, df⟩ := cells2 HR1.out.h5
        have q1 := (cell_of_block HR1.out.h1 1).trans c1
        clear hlt hg1 hs1 hrg1 hown1 hrg HR hlk hR hat
        go_wp2_with fail
        go_roundw
        case rel => exact ⟨_, _, _, HR1.out, cutting_keep Hcut.out hge⟩
        case measure => rw [hl1.out, hl0.out]; exact Hlt.out
       ·have hge' : decide ((c.at_ : Int) ≤ (i : Int)) = true := by simp; omega
        have hg1b : w.heap.size ≤ w1.heap.size := Nat.le_trans HR.out.bel.size hg1.size
        have Hlt := hid hlt
        have hl1 := hid hrg1.left_eq
        have hl0 := hid hrg.left_eq
        have HR0 := hid (HR.out.step hg1 (.inr rfl) hr0 hrg1 hown1)
        obtain ⟨d0, d1, df⟩ := cells2 HR0.out.h5
        have q1 := (cell_of_block HR0.out.h1 1).trans c1
        have Hrg1 := hid hrg1
        clear hlt hg1 hs1 hrg1 hrg HR hlk hR hat
        go_wp2_with (first
         | (at_delete; refine wpList_delete_own _ rfl _ _ 64 3 rfl 73 keyI Tryz.underlying64 secElem mo2 l.length D1 rfl hown1 _ _ rfl hkey ?_; intro w4 hown4 hturn4)
         | go_in)
        have hg4 := hturn4.grown
        have hrg4 := Hrg1.out.kept hg4 (by simp; omega) (by simp; omega)
        have HR4 := hid (HR0.out.step hg4 (.inl rfl) hbo hrg4 hown4)
        have hl4 := hid hrg4.left_eq
        clear HR0 hg4 hrg4 hown4 hturn4 hown1 Hrg1 d0 d1 df q1
        go_wp2_with fail
        go_roundw
        case rel => exact ⟨_, _, _, HR4.out, cutting_drop Hcut.out (by omega)⟩
        case measure => rw [hl4.out, hl0.out]; exact Hlt.out
end Go.Proofs.YtlkkclooihjpiaaGreat
