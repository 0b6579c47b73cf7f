import Derived.Test.YtlkkclooihjpiaaGreatWaA
import Derived.Test.YtlkkclooihjpiaaGreatDkM
import Derived.Laws.AppendOwnNone
import Derived.Deep.DeepMust
set_option linter.unusedVariables false
set_option linter.unusedSimpArgs false
namespace Go.Proofs.YtlkkclooihjpiaaGreat
open Go.RowKit Go.Maps
set_option maxRecDepth 20000
def lastAt (l : List Fr) (n : Int) : Nat → Option (List UInt8)
 | 0 => none
 | k + 1 => match l[k]? with
  | some f => if f.page = n then some f.data else lastAt l n k
  | none => lastAt l n k
theorem lastAt_hit {l : List Fr} {n : Int} {k : Nat} (hk : k < l.length) (h : l[k].page = n) : lastAt l n (k + 1) = some l[k].data := by
 unfold lastAt
 rw [List.getElem?_eq_getElem hk]
 simp only [h, if_true]
theorem lastAt_miss {l : List Fr} {n : Int} {k : Nat} (hk : k < l.length) (h : ¬ l[k].page = n) : lastAt l n (k + 1) = lastAt l n k := by
 conv => lhs; unfold lastAt
 rw [List.getElem?_eq_getElem hk]
 simp only [h, if_false]
def pageBad (g : Lg) (n mark : Int) : Prop := n < 1 ∨ 256 < n ∨ mark < 0 ∨ (g.list.length : Int) < mark
instance (g : Lg) (n mark : Int) : Decidable (pageBad g n mark) := by unfold pageBad; infer_instance
def pageM (g : Lg) (d : Dsk) (n mark : Int) : List UInt8 × Int :=
 if pageBad g n mark then ([], 5)
 else match lastAt g.list n mark.toNat with
  | some s => (s, 0)
  | none => if ((d.now 0).length : Int) < 8 * n then (zeros 512, 0) else readM d 0 (8 * (n - 1)) 8
theorem row_slice {w : World} {base : Nat} {e : TypeId} {size : Nat} {v : Value} {n : Nat} {xs : List Value} (h : w.ownsRow base e size v n xs) :
  ∃ ao cap, v = .slice ao n cap ∧ (∀ j u, j < n * size → xs[j]? = some u → ∃ g, ao = some ⟨g, 0, none⟩ ∧ w.cell? ⟨g, j, none⟩ = some u) := by
 rcases h.2 with ⟨rfl, rfl⟩ | ⟨g, cap, cur, rfl, -, hg, -, -, -, ht⟩
 ·exact ⟨none, 0, rfl, fun j u hj => by omega⟩
 ·refine ⟨_, cap, rfl, fun j u hj hu => ⟨g, rfl, ?_⟩⟩
  rw [cell_of_block hg]
  rw [← ht, List.getElem?_take, if_pos hj] at hu
  simpa using hu
section
variable {w : World} {l b : Nat} {F : Foot} {G : Nat → Prop} {g : Lg} {d : Dsk}
theorem LogMem.slice {lv : Value} (h : LogMem w l b F G g lv) : ∃ ao cap, lv = .slice ao g.list.length cap ∧ ∀ k (hk : k < g.list.length), ∃ q, ao = some ⟨q, 0, none⟩ ∧ w.cell? ⟨q, k * 3, none⟩ = some (.int .i64 g.list[k].page) ∧ w.cell? ⟨q, k * 3 + 1, none⟩ = some (.int .i64 g.list[k].commit) ∧ w.cell? ⟨q, k * 3 + 2, none⟩ = some (.string (bs g.list[k].data)) := by
 obtain ⟨ao, cap, rfl, hc⟩ := row_slice h.row
 refine ⟨ao, cap, rfl, fun k hk => ?_⟩
 obtain ⟨c0, c1, c2⟩ := frsCells_get g.list k hk
 obtain ⟨q, rfl, h0⟩ := hc (k * 3) _ (by omega) c0
 obtain ⟨q1, e1, h1⟩ := hc (k * 3 + 1) _ (by omega) c1
 obtain ⟨q2, e2, h2⟩ := hc (k * 3 + 2) _ (by omega) c2
 obtain rfl : q = q1 := by simpa using e1
 obtain rfl : q = q2 := by simpa using e2
 exact ⟨q, rfl, h0, h1, h2⟩
set_option maxRecDepth 20000 in
theorem page_bad (h : LgAt w l b F G g d) (n mark : Int) (hb : pageBad g n mark) :
  Calls Tryz.prog 57 #[.pointer (some ⟨l, 0, none⟩), .int .i64 n, .int .i64 mark] w fun e w' => e = .returned (.tuple #[.string (bs []), .int .i64 5]) ∧ w' = w := by
 obtain ⟨lv, h⟩ := h.log
 have c5 := h.cell 5
 simp only [logCells, List.getElem?_cons_succ, List.getElem?_cons_zero] at c5
 obtain ⟨ao, cap, rfl, -⟩ := h.slice
 have hm := h.ok.many
 unfold pageBad at hb
 obtain ⟨z, hz⟩ : ∃ z, z = g.list.length := ⟨_, rfl⟩
 rw [← hz] at c5 hb hm
 clear h hz
 by_cases h1 : n < 1
 ·have h1' : decide (n < 1) = true := by simpa using h1
  clear hb h1
  go_enter Tryz.func57, Tryz.ntmps57
  go_wp2_with fail
  go_ret2
  exact ⟨rfl, rfl⟩
 by_cases h2 : 256 < n
 ·have h1' : decide (n < 1) = false := by simpa using h1
  have h2' : decide (256 < n) = true := by simpa using h2
  clear hb h1 h2
  go_enter Tryz.func57, Tryz.ntmps57
  go_wp2_with fail
  go_ret2
  exact ⟨rfl, rfl⟩
 by_cases h3 : mark < 0
 ·have h1' : decide (n < 1) = false := by simpa using h1
  have h2' : decide (256 < n) = false := by simpa using h2
  have h3' : decide (mark < 0) = true := by simpa using h3
  clear hb h1 h2 h3
  go_enter Tryz.func57, Tryz.ntmps57
  go_wp2_with fail
  go_ret2
  exact ⟨rfl, rfl⟩
 ·have h1' : decide (n < 1) = false := by simpa using h1
  have h2' : decide (256 < n) = false := by simpa using h2
  have h3' : decide (mark < 0) = false := by simpa using h3
  have h4' : decide ((z : Int) < mark) = true := by simp; omega
  clear hb h1 h2 h3
  go_enter Tryz.func57, Tryz.ntmps57
  go_wp2_with fail
  go_ret2
  exact ⟨rfl, rfl⟩
set_option maxHeartbeats 1000000 in
set_option maxRecDepth 20000 in
theorem page_good (h : LgAt w l b F G g d) (n : Int) (m : Nat) (hn1 : 1 ≤ n) (hn2 : n ≤ 256) (hm : m ≤ g.list.length) (r : List UInt8 × Int) (hr : r = match lastAt g.list n m with
  | some s => (s, 0)
  | none => if ((d.now 0).length : Int) < 8 * n then (zeros 512, 0) else readM d 0 (8 * (n - 1)) 8) :
  Calls Tryz.prog 57 #[.pointer (some ⟨l, 0, none⟩), .int .i64 n, .int .i64 (m : Int)] w fun e w' => e = .returned (.tuple #[.string (bs r.1), .int .i64 r.2]) ∧ Below w.heap.size w w' := by
 obtain ⟨lv, hl⟩ := h.log
 have c0 := hl.cell 0
 have c5 := hl.cell 5
 simp only [logCells, List.getElem?_cons_succ, List.getElem?_cons_zero] at c0 c5
 obtain ⟨ao, cap, rfl, hc⟩ := hl.slice
 have hmany := hl.ok.many
 have Hc := hid hc
 have SZ := fun f => hid (size_any h.disk f)
 have RD := hid (read_any h.disk 0 (8 * (n - 1)) 8 (by omega))
 have NT := fun W => wnoughts_any 512 W (by omega)
 obtain ⟨z, hz⟩ : ∃ z, z = g.list.length := ⟨_, rfl⟩
 have Hz := hid hz
 rw [← hz] at c5 hm hmany
 have h1' : decide (n < 1) = false := by simpa using hn1
 have h2' : decide (256 < n) = false := by simpa using hn2
 have h3' : decide ((m : Int) < 0) = false := by simp
 have h4' : ¬ (z < m) := by omega
 have h5 : IntKind.i64.wrap ((m : Int) - 1) = (m : Int) - 1 := IntWalk.i64_in _ (by omega)
 have h6 : IntKind.i64.wrap (8 * n) = 8 * n := IntWalk.i64_in _ (by omega)
 have h7 : IntKind.i64.wrap (n - 1) = n - 1 := IntWalk.i64_in _ (by omega)
 have h8 : IntKind.i64.wrap (8 * (n - 1)) = 8 * (n - 1) := IntWalk.i64_in _ (by omega)
 have S0 := SZ 0
 rw [if_pos (by omega)] at S0
 obtain ⟨q, hq⟩ : ∃ q : Int, q = (d.now 0).length := ⟨_, rfl⟩
 have hq2 : ((d.now (0 : Int).toNat).length : Int) = q := by rw [hq]; rfl
 rw [hq2] at S0
 rw [← hq] at hr
 obtain ⟨rd, hrd⟩ : ∃ rd, rd = readM d 0 (8 * (n - 1)) 8 := ⟨_, rfl⟩
 rw [← hrd] at RD hr
 have Hr := hid hr
 have Hb := hid hn1
 have Hb2 := hid hn2
 have Hm := hid hm
 have Hmany := hid hmany
 clear hl h hc hz hq hq2 hrd SZ hn1 hn2 hm hmany hr
 go_enter Tryz.func57, Tryz.ntmps57
 go_wp2_with fail
 go_loopw [8] (fun v8 wr => ∃ i : Nat, i ≤ m ∧ v8 = .int .i64 ((i : Int) - 1) ∧ wr = w ∧ lastAt g.list n m = lastAt g.list n i) (fun v8 _ => (intOf v8 + 1).toNat)
 case atStart => exact ⟨m, Nat.le_refl _, rfl, rfl, rfl⟩
 case round =>
  obtain ⟨i, him, rfl, hw, hlast⟩ := hrel
  subst hw
  have Hlast := hid hlast
  clear hlast
  cases i with
  | zero =>
   have hge : decide ((0 : Int) ≤ ((0 : Nat) : Int) - 1) = false := by simp
   by_cases hs : q < 8 * n
   ·have hs' : decide (q < 8 * n) = true := by simpa using hs
    obtain rfl : r = (zeros 512, 0) := by rw [Hr.out, Hlast.out]; simp [lastAt, hs]
    clear hs
    go_wp2_with (first
     | (go_at_call 52; refine S0.out.mono ?_; rintro e w1 ⟨rfl, rfl⟩)
     | (go_at_call 51; refine (NT _).mono ?_; rintro e w1 ⟨rfl, hb1⟩)
     | go_in)
    go_ret2
    exact ⟨rfl, hb1⟩
   ·have hs' : decide (q < 8 * n) = false := by simpa using hs
    obtain rfl : r = rd := by rw [Hr.out, Hlast.out]; simp [lastAt, hs]
    clear hs
    go_wp2_with (first
     | (go_at_call 52; refine S0.out.mono ?_; rintro e w1 ⟨rfl, rfl⟩)
     | (go_at_call 53; refine RD.out.mono ?_; rintro e w1 ⟨rfl, hb1⟩)
     | go_in)
    go_ret2
    exact ⟨rfl, hb1⟩
  | succ i =>
   have hil : i < g.list.length := by have := Hz.out; have := Hm.out; omega
   have e1 : ((i + 1 : Nat) : Int) - 1 = (i : Int) := by omega
   rw [e1]
   obtain ⟨p, rfl, f0, -, f2⟩ := Hc.out i hil
   have hiz : i < z := by have := Hz.out; omega
   have h9 : IntKind.i64.wrap ((i : Int) - 1) = (i : Int) - 1 := IntWalk.i64_in _ (by have := Hmany.out; omega)
   obtain ⟨fr, hfr⟩ : ∃ fr, fr = g.list[i] := ⟨_, rfl⟩
   rw [← hfr] at f0 f2
   by_cases hp : fr.page = n
   ·have hp' : (fr.page == n) = true := by simpa using hp
    obtain rfl : r = (fr.data, 0) := by rw [Hr.out, Hlast.out, lastAt_hit hil (by rw [← hfr]; exact hp), hfr]
    clear hp hfr
    go_wp2_with fail
    go_ret2
    exact ⟨by first | trivial | rfl, Below.refl _ _⟩
   ·have hp' : (fr.page == n) = false := by simpa using hp
    have H1 := hid ((Hlast.out).trans (lastAt_miss hil (by rw [← hfr]; exact hp)))
    have Hfr := hid hfr
    clear hp hfr
    go_wp2_with fail
    go_roundw
    case rel => exact ⟨i, by omega, by simp, by trivial, H1.out⟩
    case measure => (simp [intOf]) <;> omega
theorem page_any (h : LgAt w l b F G g d) (n mark : Int) :
  Calls Tryz.prog 57 #[.pointer (some ⟨l, 0, none⟩), .int .i64 n, .int .i64 mark] w fun e w' => e = .returned (.tuple #[.string (bs (pageM g d n mark).1), .int .i64 (pageM g d n mark).2]) ∧ Below w.heap.size w w' := by
 by_cases hb : pageBad g n mark
 ·unfold pageM
  rw [if_pos hb]
  refine (page_bad h n mark hb).mono ?_
  rintro e w1 ⟨rfl, rfl⟩
  exact ⟨rfl, Below.refl _ _⟩
 ·have hb' := hb
  unfold pageBad at hb'
  obtain ⟨m, rfl⟩ : ∃ m : Nat, mark = m := ⟨mark.toNat, by omega⟩
  exact page_good h n m (by omega) (by omega) (by omega) _ (by unfold pageM; rw [if_neg hb, Int.toNat_natCast])
end
end Go.Proofs.YtlkkclooihjpiaaGreat
namespace Go.Proofs.YtlkkclooihjpiaaGreat
open Go.RowKit Go.Maps
set_option maxRecDepth 20000
def framesBad (g : Lg) (a z : Int) : Prop := a < 0 ∨ z < a ∨ (g.list.length : Int) < z
instance (g : Lg) (a z : Int) : Decidable (framesBad g a z) := by unfold framesBad; infer_instance
section
variable {w : World} {l b : Nat} {F : Foot} {G : Nat → Prop} {g : Lg} {d : Dsk}
end
end Go.Proofs.YtlkkclooihjpiaaGreat
namespace Go.Proofs.YtlkkclooihjpiaaGreat
open Go.RowKit Go.Maps
set_option maxRecDepth 20000
abbrev LgM := Lg → Dsk → Int × Lg × Dsk
def lsyncM : LgM := fun g d => ((syncM d 1).1, { g with torn := g.torn && (syncM d 1).1 != 0 }, (syncM d 1).2)
def lputsS (h : Hd) (has : Bool) : List UInt8 := if has then (hdR h).1 else zeros 64
def lputsM (h : Hd) (has : Bool) : LgM := fun g d => ((writeM d 1 0 (lputsS h has)).1, { g with torn := g.torn || (writeM d 1 0 (lputsS h has)).1 == 0 }, (writeM d 1 0 (lputsS h has)).2)
def lstepsM : List LgM → LgM
 | [], g, d => (0, g, d)
 | m :: r, g, d => if (m g d).1 ≠ 0 then ((m g d).1, { (m g d).2.1 with off := (m g d).2.1.off || (m g d).1 == 32 }, (m g d).2.2) else lstepsM r (m g d).2.1 (m g d).2.2
def lmendM : LgM := fun g d => if g.torn then lstepsM [lputsM g.head g.has, lsyncM] g d else (0, g, d)
section
variable {w w' : World} {l b : Nat} {F F' : Foot} {G : Nat → Prop} {g : Lg} {d d' : Dsk} {lv : Value}
theorem LgAt.set_torn (h : LgAt w l b F G g d) (x : Bool) : LgDid w l b F G { g with torn := x } d (w.setCell ⟨l, 8, none⟩ (.bool x)) := by
 have o := h.ok
 exact h.turn ((Frm.refl (fun k => k = l) w).setCell (p := ⟨l, 8, none⟩) (.inl rfl) _) (fun lv h1 => (heap_setCell_same h1.blk 8 _).trans rfl) rfl ⟨o.num, o.pages, o.frames, o.pair, o.many, o.data⟩
theorem LgAt.set_off (h : LgAt w l b F G g d) (x : Bool) : LgDid w l b F G { g with off := x } d (w.setCell ⟨l, 9, none⟩ (.bool x)) := by
 have o := h.ok
 exact h.turn ((Frm.refl (fun k => k = l) w).setCell (p := ⟨l, 9, none⟩) (.inl rfl) _) (fun lv h1 => (heap_setCell_same h1.blk 9 _).trans rfl) rfl ⟨o.num, o.pages, o.frames, o.pair, o.many, o.data⟩
theorem LgAt.cells (h : LgAt w l b F G g d) : ∃ lv, w.cell? ⟨l, 0, none⟩ = some (.pointer (some ⟨b, 0, none⟩)) ∧ w.cell? ⟨l, 1, none⟩ = some (.int .u64 g.head.number) ∧ w.cell? ⟨l, 2, none⟩ = some (.int .i64 g.head.frames) ∧ w.cell? ⟨l, 3, none⟩ = some (.int .i64 g.head.pages) ∧
  w.cell? ⟨l, 4, none⟩ = some (.bool g.has) ∧ w.cell? ⟨l, 5, none⟩ = some lv ∧ w.cell? ⟨l, 6, none⟩ = some (.int .u32 g.pair.1) ∧ w.cell? ⟨l, 7, none⟩ = some (.int .u32 g.pair.2) ∧ w.cell? ⟨l, 8, none⟩ = some (.bool g.torn) ∧ w.cell? ⟨l, 9, none⟩ = some (.bool g.off) ∧ ∀ o, w.frozen? ⟨l, o, none⟩ = false := by
 obtain ⟨lv, h1⟩ := h.log
 exact ⟨lv, h1.cell 0, h1.cell 1, h1.cell 2, h1.cell 3, h1.cell 4, h1.cell 5, h1.cell 6, h1.cell 7, h1.cell 8, h1.cell 9, h1.free⟩
theorem LgDid.at (h : LgDid w l b F G g d w') : ∃ F1 G1, LgAt w' l b F1 G1 g d ∧ LgStep F F1 G G1 w w' := h
theorem did_then {g2 : Lg} {d2 : Dsk} {w1 w2 : World} {F1 : Foot} {G1 : Nat → Prop} (h : LgStep F F1 G G1 w w1) (k : LgDid w1 l b F1 G1 g2 d2 w2) : LgDid w l b F G g2 d2 w2 := LgDid.trans (g1 := g2) (d1 := d2) h k
theorem did_drew {g2 : Lg} {d2 : Dsk} {w2 : World} (k : LgDid w l b F G g2 d2 w2) : LgDid w l b F G g2 d2 w2.drew := by
 obtain ⟨F1, G1, h1, s1⟩ := k
 exact did_then s1 (LgDid.ofBelow h1 ⟨rfl, rfl, rfl, Nat.le_refl _, fun _ _ => rfl⟩)
theorem LgDid.ofSet {g1 g2 : Lg} {d1 : Dsk} {w1 : World} {u : Value} {o : Nat} (h : LgDid w l b F G g1 d1 w1) (hs : ∀ F1 G1, LgAt w1 l b F1 G1 g1 d1 → LgDid w1 l b F1 G1 g2 d1 (w1.setCell ⟨l, o, none⟩ u)) : LgDid w l b F G g2 d1 (w1.setCell ⟨l, o, none⟩ u) := by
 obtain ⟨F1, G1, h1, s1⟩ := h
 exact did_then s1 (hs F1 G1 h1)
set_option maxRecDepth 20000 in
theorem lsync_any (h : LgAt w l b F G g d) (hs : d.Small 1099511527776) :
  Calls Tryz.prog 107 #[.pointer (some ⟨l, 0, none⟩)] w fun e w' => e = .returned (.int .i64 (lsyncM g d).1) ∧ LgDid w l b F G (lsyncM g d).2.1 (lsyncM g d).2.2 w' := by
 have S := sync_any h.disk 1 hs
 unfold lsyncM
 obtain ⟨r, hr⟩ : ∃ r, r = syncM d 1 := ⟨_, rfl⟩
 rw [← hr] at S ⊢
 obtain ⟨e, d1⟩ := r
 simp only at S ⊢
 obtain ⟨lv0, c0, -⟩ := h.cells
 have H := hid h
 have S := hid S
 have E : (e != 0) = decide (e ≠ 0) := by by_cases h : e = 0 <;> simp [h]
 rw [E]
 clear h hs hr E
 obtain ⟨t, ht⟩ : ∃ t, t = g.torn := ⟨_, rfl⟩
 rw [← ht]
 have Ht := hid ht
 clear ht
 by_cases he : e = 0
 all_goals cases t
 all_goals
  have he0 : (e != 0) = decide (e ≠ 0) := by simp [he]
  simp only [he, ne_eq, not_true_eq_false, not_false_eq_true, decide_true, decide_false] at he0
  go_enter Tryz.func107, Tryz.ntmps107
  go_wp2_with (first
   | (go_at_call 105; refine (S.out).mono ?_; rintro e w1 ⟨rfl, hd1⟩; have D := H.out.did hd1; obtain ⟨lv1, -, -, -, -, -, -, -, -, a5, -, af⟩ := (LgDid.at D).choose_spec.choose_spec.1.cells; rw [← Ht.out] at a5; have D := hid D; have a8 := af 8; clear af hd1)
   | go_in)
  go_ret
  refine ⟨by first | rfl | (rw [he]; rfl), ?_⟩
  refine LgDid.ofSet D.out fun F1 G1 h1 => ?_
  simp only [he, ne_eq, not_true_eq_false, not_false_eq_true, decide_true, decide_false, Bool.and_true, Bool.and_false, Bool.true_and, Bool.false_and]
  exact h1.set_torn _
def PutsAt (W : World) (l : Nat) (h : Hd) (has : Bool) (p q r : Nat) : Prop :=
 W.heap[p]? = some (.cells #[.pointer (some ⟨l, 0, none⟩)] 77 (0, 0)) ∧ W.heap[q]? = some (.cells #[.int .u64 h.number, .int .i64 h.frames, .int .i64 h.pages] 104 (0, 0)) ∧ W.heap[r]? = some (.cells #[.bool has] 4 (0, 0))
def putsV (p q r : Nat) : Value := .func (.func 122) #[] #[.pointer (some ⟨r, 0, none⟩), .pointer (some ⟨q, 0, none⟩), .pointer (some ⟨p, 0, none⟩)]
set_option maxRecDepth 20000 in
theorem lputs_any (l : Nat) (h : Hd) (has : Bool) (w : World) :
  Calls Tryz.prog 106 #[.pointer (some ⟨l, 0, none⟩), hdV h, .bool has] w fun e w' => e = .returned (putsV w.heap.size (w.heap.size + 1) (w.heap.size + 1 + 1)) ∧ PutsAt w' l h has w.heap.size (w.heap.size + 1) (w.heap.size + 1 + 1) ∧ Below w.heap.size w w' := by
 have hmf : ∀ (fn : Fn) (first cap : Array Value) (w : World), (Instr.makeFunc fn first cap).run Tryz.prog w = .ok (.func fn first cap) w := fun _ _ _ _ => rfl
 unfold hdV
 go_enter Tryz.func106, Tryz.ntmps106
 go_wp2_with fail
 go_ret
 refine ⟨rfl, ⟨?_, ?_, ?_⟩, ((((Below.refl _ _).alloc (Nat.le_refl _) _).alloc (by simp) _).alloc (by simp <;> omega) _)⟩
 ·exact heap_alloc_old (heap_alloc_old (heap_alloc_new _ _))
 ·exact heap_alloc_old (by have := heap_alloc_new (w.alloc (.cells #[.pointer (some ⟨l, 0, none⟩)] 77)) (.cells #[.int .u64 h.number, .int .i64 h.frames, .int .i64 h.pages] 104); simpa using this)
 ·have := heap_alloc_new ((w.alloc (.cells #[.pointer (some ⟨l, 0, none⟩)] 77)).alloc (.cells #[.int .u64 h.number, .int .i64 h.frames, .int .i64 h.pages] 104)) (.cells #[.bool has] 4)
  simpa using this
theorem hdR_length (h : Hd) : (hdR h).1.length ≤ 64 := by
 unfold hdR
 split
 ·simp [hdL_length]
 ·simp
theorem lputsS_length (h : Hd) (has : Bool) : (lputsS h has).length ≤ 64 := by
 unfold lputsS
 split
 ·exact hdR_length h
 ·simp [zeros]
set_option maxHeartbeats 1000000 in
set_option maxRecDepth 20000 in
theorem lputs1_any (h : LgAt w l b F G g d) (hs : d.Small 1099511527776) (hd : Hd) (has : Bool) (hwf : HdWf hd) (p q r : Nat) (hp : PutsAt w l hd has p q r) (hout : ∀ k, k = p ∨ k = q ∨ k = r → ¬ F.own k ∧ ¬ F.sh k ∧ ¬ G k) :
  Calls Tryz.prog 122 #[.pointer (some ⟨r, 0, none⟩), .pointer (some ⟨q, 0, none⟩), .pointer (some ⟨p, 0, none⟩)] w fun e w' => e = .returned (.int .i64 (lputsM hd has g d).1) ∧ LgDid w l b F G (lputsM hd has g d).2.1 (lputsM hd has g d).2.2 w' := by
 have N := fun W => wnoughts_any 64 W (by omega)
 have P := fun W => putHead_any hd W hwf
 have e0 : ((64 : Nat) : Int) = 64 := rfl
 obtain ⟨cp, cq, cr⟩ := hp
 have p0 := cell_of_block cp 0
 have q0 := cell_of_block cq 0
 have q1 := cell_of_block cq 1
 have q2 := cell_of_block cq 2
 have r0 := cell_of_block cr 0
 simp only [List.getElem?_toArray, List.getElem?_cons_succ, List.getElem?_cons_zero] at p0 q0 q1 q2 r0
 have lp := lt_of_block cp
 have lq := lt_of_block cq
 have lr := lt_of_block cr
 have ll := h.lt
 obtain ⟨lv0, c0, -⟩ := h.cells
 obtain ⟨s, hs1⟩ : ∃ s, s = lputsS hd has := ⟨_, rfl⟩
 have hsl := lputsS_length hd has
 rw [← hs1] at hsl
 have WR : ∀ W, Below w.heap.size w W → Calls Tryz.prog 7 #[.pointer (some ⟨b, 0, none⟩), .int .i64 1, .int .i64 0, .string (bs s)] W fun e w' => e = .returned (.int .i64 (writeM d 1 0 s).1) ∧ LgDid w l b F G g (writeM d 1 0 s).2 w' ∧ w'.cell? ⟨p, 0, none⟩ = some (.pointer (some ⟨l, 0, none⟩)) := fun W hb => by
  refine (write_any (h.disk.below hb) 1 0 s hs (by omega)).mono ?_
  rintro e w3 ⟨rfl, hd3⟩
  refine ⟨rfl, did_then (LgStep.below hb) ((h.below hb).did hd3), ?_⟩
  obtain ⟨F3, -, s3⟩ := hd3
  rw [cell_of_block ((s3.frm.block p (Nat.lt_of_lt_of_le lp hb.size) (hout p (.inl rfl)).1).trans ((hb.block p lp).trans cp))]
  rfl
 unfold lputsM
 rw [← hs1]
 obtain ⟨x, hx⟩ : ∃ x, x = writeM d 1 0 s := ⟨_, rfl⟩
 rw [← hx] at WR ⊢
 obtain ⟨e, d1⟩ := x
 simp only at WR ⊢
 have WR := hid WR
 obtain ⟨t, ht⟩ : ∃ t, t = g.torn := ⟨_, rfl⟩
 rw [← ht]
 have Ht := hid ht
 have HS := hid hs1
 clear ht hs1 hx hout cp cq cr h hs hsl hwf
 by_cases he : e = 0
 all_goals cases t
 all_goals cases has
 all_goals
  have he0 : (e == 0) = decide (e = 0) := by by_cases h : e = 0 <;> simp [h]
  simp only [he, ne_eq, not_true_eq_false, not_false_eq_true, decide_true, decide_false] at he0
  unfold hdV at P
  first | (obtain rfl : s = List.replicate 64 0 := HS.out) | (obtain rfl : s = (hdR hd).1 := HS.out)
  clear HS
  go_enter Tryz.func122, Tryz.ntmps122
  go_wp2_with (first
   | (go_at_call 51; refine (N _).mono ?_; rintro e1 w1 ⟨rfl, hb1⟩; obtain ⟨bc, bf⟩ := bcell hb1; have HB := hid hb1)
   | (go_at_call 123; refine (P _).mono ?_; rintro e1 w2 ⟨rfl, hb2⟩; have HB := hid (then_below HB.out hb2); clear bc bf hb2; obtain ⟨bc, bf⟩ := bcell HB.out)
   | (go_at_call 7; refine (WR.out _ HB.out).mono ?_; rintro e1 w3 ⟨rfl, hd3, x0⟩; have D := hid hd3; obtain ⟨F1, G1, h1, s1⟩ := hd3; obtain ⟨lv1, -, -, -, -, -, -, -, -, a5, -, af⟩ := h1.cells; rw [← Ht.out] at a5; have a8 := af 8; clear af h1 s1 bc bf)
   | go_in)
 all_goals go_still_tail 11, (by kernel_rfl)
 all_goals go_wp2_with fail
 all_goals go_ret
 all_goals
  refine ⟨by first | rfl | (rw [he]; rfl), ?_⟩
  refine LgDid.ofSet (did_drew D.out) fun F1 G1 h1 => ?_
  first
   | (rw [show (e == 0) = true from beq_iff_eq.2 he]; exact h1.set_torn _)
   | (rw [show (e == 0) = false from beq_eq_false_iff_ne.2 he]; exact h1.set_torn _)
end
end Go.Proofs.YtlkkclooihjpiaaGreat
