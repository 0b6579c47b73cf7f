import Derived.Test.YtlkkclooihjpiaaGreatWaG
import Derived.Test.YtlkkclooihjpiaaGreatLast
import Derived.Deep.RegionLawGrows
set_option linter.unusedVariables false
set_option linter.unusedSimpArgs false
namespace Go.Proofs.YtlkkclooihjpiaaGreat
open Go.RowKit Go.Maps
set_option maxRecDepth 20000
structure Img where
 page : Int
 data : List UInt8
def imgBad (x : Img) : Bool := !(inB x.page 1 256) || x.data.length != 512
def frAt (n : Nat) (pages : Int) (i : Nat) (x : Img) : Fr := ⟨x.page, if i + 1 = n then pages else 0, x.data⟩
def frsOf (pages : Int) (l : List Img) : List Fr := l.mapIdx (frAt l.length pages)
theorem frsOf_length (pages : Int) (l : List Img) : (frsOf pages l).length = l.length := by simp [frsOf]
theorem frsOf_get (pages : Int) (l : List Img) (i : Nat) (h : i < l.length) : (frsOf pages l)[i]'(by simpa [frsOf] using h) = frAt l.length pages i l[i] := by simp [frsOf]
def putsN (salt : Int) : List Fr → (Int × Int) → List UInt8 × (Int × Int)
 | [], p => ([], p)
 | f :: r, p => ((putFr p salt f).s ++ (putsN salt r (putFr p salt f).q).1, (putsN salt r (putFr p salt f).q).2)
theorem putsN_snoc (salt : Int) (f : Fr) : ∀ (l : List Fr) (p : Int × Int), putsN salt (l ++ [f]) p = ((putsN salt l p).1 ++ (putFr (putsN salt l p).2 salt f).s, (putFr (putsN salt l p).2 salt f).q)
 | [], p => by simp [putsN]
 | x :: r, p => by
  have := putsN_snoc salt f r (putFr p salt x).q
  simp [putsN, this]
theorem putFr_length (p : Int × Int) (salt : Int) (f : Fr) : (putFr p salt f).s.length ≤ 576 := by
 unfold putFr
 split
 ·rename_i h
  unfold frOk at h
  simp only [Bool.and_eq_true, decide_eq_true_eq] at h
  exact Nat.le_of_eq (frL_length p salt f h.2)
 ·simp
theorem putsN_length (salt : Int) : ∀ (l : List Fr) (p : Int × Int), (putsN salt l p).1.length ≤ 576 * l.length
 | [], p => by simp [putsN]
 | f :: r, p => by
  have h1 := putFr_length p salt f
  have h2 := putsN_length salt r (putFr p salt f).q
  simp only [putsN, List.length_append, List.length_cons]
  omega
theorem putFr_pair (p : Int × Int) (salt : Int) (f : Fr) (h : PairWf p) : PairWf (putFr p salt f).q := by
 unfold putFr
 split
 ·exact sumAdd_bd _ _ (sumAdd_bd _ _ h.1 h.2).1 (sumAdd_bd _ _ h.1 h.2).2
 ·unfold PairWf
  decide
theorem putsN_pair (salt : Int) : ∀ (l : List Fr) (p : Int × Int), PairWf p → PairWf (putsN salt l p).2
 | [], p, h => h
 | f :: r, p, h => putsN_pair salt r _ (putFr_pair p salt f h)
def appHead (g : Lg) (pages : Int) (l : List Img) : Hd := ⟨g.head.number, (g.list.length + l.length : Nat), pages⟩
def appText (g : Lg) (pages : Int) (l : List Img) : List UInt8 × (Int × Int) := putsN g.head.number (frsOf pages l) g.pair
def appSteps (g : Lg) (pages : Int) (l : List Img) : List LgM := [lmendM, lwriteM (appText g pages l).1, lsyncM, lputsM (appHead g pages l) true, lsyncM]
def lappendM (pages : Int) (l : List Img) : LgM := fun g d =>
 if g.off then (32, g, d) else if pages < 1 ∨ 256 < pages ∨ l.length = 0 then (2, g, d) else if l.any imgBad then (2, g, d) else if 256 < g.list.length + l.length then (8, g, d)
 else if (lstepsM (appSteps g pages l) g d).1 ≠ 0 then lstepsM (appSteps g pages l) g d
 else (0, { (lstepsM (appSteps g pages l) g d).2.1 with head := appHead g pages l, has := true, list := (lstepsM (appSteps g pages l) g d).2.1.list ++ frsOf pages l, pair := (appText g pages l).2 }, (lstepsM (appSteps g pages l) g d).2.2)
def ImgsAt (w : World) (v : Value) (l : List Img) : Prop :=
 ∃ ao cap, v = .slice ao l.length cap ∧ ∀ k (hk : k < l.length), ∃ q, ao = some ⟨q, 0, none⟩ ∧ q < w.heap.size ∧ w.cell? ⟨q, k * 2, none⟩ = some (.int .i64 l[k].page) ∧ w.cell? ⟨q, k * 2 + 1, none⟩ = some (.string (bs l[k].data))
section
variable {w w' : World} {l b : Nat} {F F' : Foot} {G : Nat → Prop} {g : Lg} {d d' : Dsk} {lv : Value}
set_option maxRecDepth 20000 in
theorem lappend_off (h : LgAt w l b F G g d) (pages : Int) (v : Value) (ho : g.off = true) :
  Calls Tryz.prog 73 #[.pointer (some ⟨l, 0, none⟩), .int .i64 pages, v] w fun e w' => e = .returned (.int .i64 32) ∧ Below w.heap.size w w' := by
 have R := lready_any (h.below ((Below.refl _ _).alloc (Nat.le_refl _) (.cells #[.pointer (some ⟨l, 0, none⟩)] 77)))
 unfold lreadyM at R
 rw [ho, if_pos rfl] at R
 have R := hid R
 clear h ho
 go_enter Tryz.func73, Tryz.ntmps73
 go_wp2_with (first | (go_at_call 99; refine (R.out).mono ?_; rintro e w1 ⟨rfl, rfl⟩) | go_in)
 go_ret
 exact ⟨rfl, (Below.refl _ _).alloc (Nat.le_refl _) _⟩
set_option maxRecDepth 20000 in
theorem lappend_args (h : LgAt w l b F G g d) (pages : Int) (v : Value) (x : List Img) (hx : ImgsAt w v x) (ho : g.off = false) (hb : pages < 1 ∨ 256 < pages ∨ x.length = 0) :
  Calls Tryz.prog 73 #[.pointer (some ⟨l, 0, none⟩), .int .i64 pages, v] w fun e w' => e = .returned (.int .i64 2) ∧ Below w.heap.size w w' := by
 have R := lready_any (h.below ((Below.refl _ _).alloc (Nat.le_refl _) (.cells #[.pointer (some ⟨l, 0, none⟩)] 77)))
 unfold lreadyM at R
 rw [ho, if_neg (by simp)] at R
 have R := hid R
 obtain ⟨ao, cap, rfl, -⟩ := hx
 obtain ⟨n, hn⟩ : ∃ n, n = x.length := ⟨_, rfl⟩
 rw [← hn] at hb ⊢
 clear h ho hn
 by_cases h1 : pages < 1
 ·have h1' : decide (pages < 1) = true := by simpa using h1
  clear h1 hb
  go_enter Tryz.func73, Tryz.ntmps73
  go_wp2_with (first | (go_at_call 99; refine (R.out).mono ?_; rintro e w1 ⟨rfl, rfl⟩) | go_in)
  go_ret
  exact ⟨rfl, (Below.refl _ _).alloc (Nat.le_refl _) _⟩
 by_cases h2 : 256 < pages
 ·have h1' : decide (pages < 1) = false := by simpa using h1
  have h2' : decide (256 < pages) = true := by simpa using h2
  clear h1 h2 hb
  go_enter Tryz.func73, Tryz.ntmps73
  go_wp2_with (first | (go_at_call 99; refine (R.out).mono ?_; rintro e w1 ⟨rfl, rfl⟩) | go_in)
  go_ret
  exact ⟨rfl, (Below.refl _ _).alloc (Nat.le_refl _) _⟩
 ·have h1' : decide (pages < 1) = false := by simpa using h1
  have h2' : decide (256 < pages) = false := by simpa using h2
  obtain rfl : n = 0 := by omega
  clear h1 h2 hb
  go_enter Tryz.func73, Tryz.ntmps73
  go_wp2_with (first | (go_at_call 99; refine (R.out).mono ?_; rintro e w1 ⟨rfl, rfl⟩) | go_in)
  go_ret
  exact ⟨rfl, (Below.refl _ _).alloc (Nat.le_refl _) _⟩
set_option maxHeartbeats 1000000 in
set_option maxRecDepth 20000 in
theorem lappend_check (h : LgAt w l b F G g d) (pages : Int) (v : Value) (x : List Img) (hx : ImgsAt w v x) (hs : x.length ≤ 1099511627776) (ho : g.off = false) (hp : 1 ≤ pages ∧ pages ≤ 256) (hn : x.length ≠ 0) (hb : x.any imgBad = true) :
  Calls Tryz.prog 73 #[.pointer (some ⟨l, 0, none⟩), .int .i64 pages, v] w fun e w' => e = .returned (.int .i64 2) ∧ Below w.heap.size w w' := by
 have R := lready_any (h.below ((Below.refl _ _).alloc (Nat.le_refl _) (.cells #[.pointer (some ⟨l, 0, none⟩)] 77)))
 unfold lreadyM at R
 rw [ho, if_neg (by simp)] at R
 have R := hid R
 obtain ⟨ao, cap, rfl, hc⟩ := hx
 obtain ⟨n, hnn⟩ : ∃ n, n = x.length := ⟨_, rfl⟩
 have Hn := hid hnn
 rw [← hnn] at hs hn ⊢
 have HC := hid hc
 have HB := hid hb
 have n0 : ((n : Int) == 0) = false := by simp; omega
 have h1' : decide (pages < 1) = false := by simpa using hp.1
 have h2' : decide (256 < pages) = false := by simpa using hp.2
 have HS := hid hs
 have Hw := hid (Below.refl w.heap.size w)
 clear h ho hnn hc hb hp hn hs
 go_enter Tryz.func73, Tryz.ntmps73
 go_wp2_with (first | (go_at_call 99; refine (R.out).mono ?_; rintro e w1 ⟨rfl, rfl⟩) | go_in)
 go_loopw [39] (fun v39 wr => ∃ i : Nat, i ≤ n ∧ v39 = .int .i64 (i : Int) ∧ Below w.heap.size w wr ∧ (∀ k (hk : k < x.length), k < i → imgBad x[k] = false)) (fun v39 _ => n - (intOf v39).toNat)
 case atStart => exact ⟨0, Nat.zero_le _, rfl, (Below.refl _ _).alloc (Nat.le_refl _) _, fun k _ hk => by omega⟩
 case round =>
  obtain ⟨i, hi, rfl, hbw, hall⟩ := hrel
  have HA := hid hall
  have HBw := hid hbw
  clear hall R
  by_cases hlt : i < n
  ·have hil : i < x.length := by have := Hn.out; omega
   obtain ⟨q, rfl, hq, c0, c1⟩ := HC.out i hil
   obtain ⟨y, hy⟩ : ∃ y, y = x[i] := ⟨_, rfl⟩
   rw [← hy] at c0 c1
   have c0 := (hbw.cell (p := ⟨q, i * 2, none⟩) hq).trans c0
   have c1 := (hbw.cell (p := ⟨q, i * 2 + 1, none⟩) hq).trans c1
   have hi3 : (i : Int) < 9223372036854775807 := by have := HS.out; omega
   have Hy := hid hy
   clear hy hbw hi
   by_cases p1 : y.page < 1
   ·have p1' : decide (y.page < 1) = true := by simpa using p1
    clear p1
    go_wp2_with fail
    go_ret
    exact ⟨rfl, HBw.out.alloc HBw.out.size _⟩
   by_cases p2 : 256 < y.page
   ·have p1' : decide (y.page < 1) = false := by simpa using p1
    have p2' : decide (256 < y.page) = true := by simpa using p2
    clear p1 p2
    go_wp2_with fail
    go_ret
    exact ⟨rfl, HBw.out.alloc HBw.out.size _⟩
   have p1' : decide (y.page < 1) = false := by simpa using p1
   have p2' : decide (256 < y.page) = false := by simpa using p2
   obtain ⟨z, hz⟩ : ∃ z : Int, z = y.data.length := ⟨_, rfl⟩
   by_cases p3 : z = 512
   ·have p3' : (z != 512) = false := by simpa using p3
    have Hgood := hid (show imgBad y = false by unfold imgBad inB; simp; omega)
    have hz' : ((y.data.length : Nat) : Int) = z := hz.symm
    clear p1 p2 p3 hz
    go_wp2_with fail
    go_roundw
    case rel => exact ⟨i + 1, by omega, by simp, HBw.out.alloc HBw.out.size _, fun k hk hk2 => by
     by_cases e : k = i
     ·subst e; rw [← Hy.out]; exact Hgood.out
     ·exact HA.out k hk (by omega)⟩
    case measure => (simp [intOf]) <;> omega
   ·have p3' : (z != 512) = true := by simpa using p3
    have hz' : ((y.data.length : Nat) : Int) = z := hz.symm
    clear p1 p2 p3 hz
    go_wp2_with fail
    go_ret
    exact ⟨rfl, HBw.out.alloc HBw.out.size _⟩
  ·exfalso
   obtain ⟨y, hy, hyb⟩ := List.any_eq_true.1 HB.out
   obtain ⟨k, hk, rfl⟩ := List.getElem_of_mem hy
   have := HA.out k hk (by have := Hn.out; omega)
   rw [this] at hyb
   cases hyb
end
end Go.Proofs.YtlkkclooihjpiaaGreat
namespace Go.Proofs.YtlkkclooihjpiaaGreat
open Go.RowKit Go.Maps
set_option maxRecDepth 20000
theorem bld_keep2 {B bb : Nat} {s : List UInt8} {w w' : World} (h : BldF B bb s w) (hk : ∀ (k : Nat) (o : Obj), w.heap[k]? = some o → (k = bb ∨ ∃ c fz, o = .cells c 5 fz) → w'.heap[k]? = some o) : BldF B bb s w' := by
 have one : ∀ p, Lib.BuilderAtF 163 5 B bb p (Lib.byteCells s) w → Lib.BuilderAtF 163 5 B bb p (Lib.byteCells s) w' := by
  rintro p ⟨hB, v, hb, hown, hne⟩
  refine ⟨hB, v, hk bb _ hb (.inl rfl), ⟨hown.1, ?_⟩, hne⟩
  rcases hown.2 with h1 | ⟨g, cap, cur, fz, rfl, h1, h2, h3⟩
  ·exact .inl h1
  ·exact .inr ⟨g, cap, cur, fz, rfl, h1, hk g _ h2 (.inr ⟨_, _, rfl⟩), h3⟩
 exact h.imp (one _) (one _)
theorem bld_grown {B bb base size n : Nat} {s : List UInt8} {e : TypeId} {xs : List Value} {w w2 w' : World} {v : Value} (h : BldF B bb s w) (hr : w.ownsRow base e size v n xs) (he : e ≠ 5) (he2 : e ≠ 163) (h2 : ∀ (k : Nat) (o : Obj), w.heap[k]? = some o → w2.heap[k]? = some o) (hg : w2.grownBy w' v.ownBlock) : BldF B bb s w' := by
 refine bld_keep2 h fun k o ho hk => ?_
 have h3 := h2 k o ho
 refine (hg.block k (lt_of_block h3) fun e1 => ?_).trans h3
 rcases hr.2 with ⟨rfl, _⟩ | ⟨g', cap, cur, rfl, _, hh, _⟩
 ·cases e1
 ·cases e1
  rcases hk with rfl | ⟨c, fz, rfl⟩
  ·obtain ⟨c, hb⟩ := bld_block h
   rw [hb] at hh
   injection hh with hh
   injection hh with _ h5 _
   exact he2 h5.symm
  ·rw [hh] at ho
   injection ho with ho
   injection ho with _ h5 _
   exact he h5
section
variable {w w' : World} {l b : Nat} {F F' : Foot} {G : Nat → Prop} {g : Lg} {d d' : Dsk} {lv : Value}
def Keeps (m : LgM) : Prop := ∀ g d, (m g d).2.1.list = g.list ∧ (m g d).2.1.head = g.head ∧ (m g d).2.1.has = g.has ∧ (m g d).2.1.pair = g.pair
theorem steps_keep : ∀ (ms : List LgM), (∀ m ∈ ms, Keeps m) → Keeps (lstepsM ms)
 | [], _, g, d => ⟨rfl, rfl, rfl, rfl⟩
 | m :: r, h, g, d => by
  have h1 := h m (by simp) g d
  have h2 := steps_keep r (fun x hx => h x (by simp [hx])) (m g d).2.1 (m g d).2.2
  unfold lstepsM
  split
  ·exact h1
  ·exact ⟨h2.1.trans h1.1, h2.2.1.trans h1.2.1, h2.2.2.1.trans h1.2.2.1, h2.2.2.2.trans h1.2.2.2⟩
theorem keeps_sync : Keeps lsyncM := fun _ _ => ⟨rfl, rfl, rfl, rfl⟩
theorem keeps_puts (h : Hd) (has : Bool) : Keeps (lputsM h has) := fun _ _ => ⟨rfl, rfl, rfl, rfl⟩
theorem keeps_write (s : List UInt8) : Keeps (lwriteM s) := fun _ _ => ⟨rfl, rfl, rfl, rfl⟩
theorem keeps_mend : Keeps lmendM := fun g d => by
 unfold lmendM
 split
 ·refine steps_keep _ (fun m hm => ?_) g d
  simp only [List.mem_cons, List.not_mem_nil, or_false] at hm
  rcases hm with rfl | rfl
  ·exact keeps_puts _ _
  ·exact keeps_sync
 ·exact ⟨rfl, rfl, rfl, rfl⟩
theorem keeps_app (g0 : Lg) (pages : Int) (x : List Img) : Keeps (lstepsM (appSteps g0 pages x)) := steps_keep _ (by
 intro m hm
 simp only [appSteps, List.mem_cons, List.not_mem_nil, or_false] at hm
 rcases hm with rfl | rfl | rfl | rfl | rfl
 ·exact keeps_mend
 ·exact keeps_write _
 ·exact keeps_sync
 ·exact keeps_puts _ _
 ·exact keeps_sync)
theorem does_mend (N : Nat) (hN : N + 65536 ≤ 1099511527776) : Does w l b F G G N (.func (.func 100) #[.pointer (some ⟨l, 0, none⟩)] #[]) lmendM :=
 does_of (by decide) (fun g d h => by
  unfold lmendM
  split
  ·simp only [lstepsM]
   split
   ·exact (write_small h).mono (by omega)
   split
   ·exact (sync_small (write_small h)).mono (by omega)
   ·exact (sync_small (write_small h)).mono (by omega)
  ·exact h.mono (by omega)) fun g d W F1 G1 h1 h2 _ => lmend_any h2 N h1 hN
theorem not_withBld {w : World} {G : Nat → Prop} {B bb k : Nat} {cs : Array Value} {T : TypeId} {fr : Nat × Nat} (h : w.heap[k]? = some (.cells cs T fr)) (hT : T ≠ 5) (hk : k ≠ bb) (hG : ¬ G k) : ¬ withBld w G B bb k := by
 rintro (h1 | ⟨_, _, h1 | ⟨c, f, h1⟩⟩)
 ·exact hG h1
 ·exact hk h1
 ·rw [h] at h1
  injection h1 with h1
  injection h1 with _ h2 _
  exact hT h2
theorem does_append1 (N : Nat) (hN : N ≤ 1099511527776) (h : LgAt w l b F G g d) (p B q : Nat) (s : List UInt8) (hsl : s.length ≤ 1099511627776) (cp : w.heap[p]? = some (.cells #[.pointer (some ⟨l, 0, none⟩)] 77 (0, 0))) (hp : ¬ F.own p ∧ ¬ G p) (hB : BldF B q s w) (hBw : B ≤ w.heap.size) (hBo : ∀ k, B ≤ k → ¬ F.own k ∧ ¬ G k) :
  Does w l b F G (withBld w G B q) N (.func (.func 110) #[] #[.pointer (some ⟨p, 0, none⟩), .pointer (some ⟨q, 0, none⟩)]) (lwriteM s) :=
 ⟨_, _, _, rfl, by decide, fun g1 d1 W h1 h2 => ⟨(write_small h1).mono (by omega), by
  obtain ⟨F1, G1, h3, h4⟩ := h2
  refine lappend1_any h3 h4 (h1.mono hN) p B q s hsl ((h4.frm.block p (lt_of_block cp) (fun e => e.elim hp.1 hp.2)).trans cp) ?_ (bld_keep hB fun k hk hk2 => h4.frm.block k hk2 (fun e => e.elim (hBo k hk).1 (hBo k hk).2)) (Nat.le_trans hBw h4.frm.size)
  intro e
  rcases h4.own p e with e | e
  ·exact hp.1 e
  ·have := lt_of_block cp
   omega⟩⟩
set_option maxHeartbeats 4000000 in
set_option maxRecDepth 20000 in
theorem lappend_main (h : LgAt w l b F G g d) (N : Nat) (hsm : d.Small N) (hN : N + 1048576 ≤ 1099511527776) (pages : Int) (v : Value) (x : List Img) (hx : ImgsAt w v x) (hs : x.length ≤ 1099511627776) (ho : g.off = false) (hp : 1 ≤ pages ∧ pages ≤ 256) (hn : x.length ≠ 0) (hb : x.any imgBad = false) :
  Calls Tryz.prog 73 #[.pointer (some ⟨l, 0, none⟩), .int .i64 pages, v] w fun e w' => e = .returned (.int .i64 (lappendM pages x g d).1) ∧ LgDid w l b F G (lappendM pages x g d).2.1 (lappendM pages x g d).2.2 w' := by
 have hbA := (Below.refl w.heap.size w).alloc (Nat.le_refl _) (.cells #[.pointer (some ⟨l, 0, none⟩)] 77)
 have hnew := heap_alloc_new w (.cells #[.pointer (some ⟨l, 0, none⟩)] 77)
 have hz0 : (w.alloc (.cells #[.pointer (some ⟨l, 0, none⟩)] 77)).heap.size = w.heap.size + 1 := by simp
 have h0 := h.below hbA
 have R := lready_any h0
 unfold lreadyM at R
 rw [ho, if_neg (by simp)] at R
 have R := hid R
 obtain ⟨ao, cap, rfl, hc⟩ := hx
 have hc : ∀ k (hk : k < x.length), ∃ q, ao = some ⟨q, 0, none⟩ ∧ q < (w.alloc (.cells #[.pointer (some ⟨l, 0, none⟩)] 77)).heap.size ∧ (w.alloc (.cells #[.pointer (some ⟨l, 0, none⟩)] 77)).cell? ⟨q, k * 2, none⟩ = some (.int .i64 x[k].page) ∧ (w.alloc (.cells #[.pointer (some ⟨l, 0, none⟩)] 77)).cell? ⟨q, k * 2 + 1, none⟩ = some (.string (bs x[k].data)) := fun k hk => by
  obtain ⟨q, hq, h1, h2, h3⟩ := hc k hk
  exact ⟨q, hq, by rw [hz0]; omega, (hbA.cell (p := ⟨q, k * 2, none⟩) h1).trans h2, (hbA.cell (p := ⟨q, k * 2 + 1, none⟩) h1).trans h3⟩
 obtain ⟨n, hnn⟩ : ∃ n, n = x.length := ⟨_, rfl⟩
 have hM : lappendM pages x g d = if 256 < g.list.length + n then (8, g, d)
   else if (lstepsM (appSteps g pages x) g d).1 ≠ 0 then lstepsM (appSteps g pages x) g d
   else (0, { (lstepsM (appSteps g pages x) g d).2.1 with head := appHead g pages x, has := true, list := (lstepsM (appSteps g pages x) g d).2.1.list ++ frsOf pages x, pair := (appText g pages x).2 }, (lstepsM (appSteps g pages x) g d).2.2) := by
  unfold lappendM
  rw [ho, if_neg (by simp), if_neg (by omega), if_neg (by rw [hb]; simp), hnn]
 obtain ⟨M, hMM⟩ : ∃ M, M = lappendM pages x g d := ⟨_, rfl⟩
 rw [← hMM] at hM ⊢
 have HM := hid hM
 have Hn := hid hnn
 rw [← hnn] at hs hn ⊢
 have HC := hid hc
 have HG := hid (show ∀ k (hk : k < x.length), imgBad x[k] = false from fun k hk => by
  have := List.any_eq_false.1 hb _ (List.getElem_mem hk)
  simpa using this)
 have n0 : ((n : Int) == 0) = false := by simp; omega
 have h1' : decide (pages < 1) = false := by simpa using hp.1
 have h2' : decide (256 < pages) = false := by simpa using hp.2
 have HS := hid hs
 have Hp := hid hp
 have Hsm := hid hsm
 have HL := hid h
 have hsize := h.lt
 clear h ho hnn hc hb hp hn hs hM hMM hsm
 go_enter Tryz.func73, Tryz.ntmps73
 go_wp2_with (first | (go_at_call 99; refine (R.out).mono ?_; rintro e w1 ⟨rfl, rfl⟩) | go_in)
 obtain ⟨P3, hP3⟩ : ∃ P3, P3 = w.heap.size := ⟨_, rfl⟩
 obtain ⟨w0, hw0⟩ : ∃ w0, w0 = w.alloc (.cells #[.pointer (some ⟨l, 0, none⟩)] 77) := ⟨_, rfl⟩
 rw [← hw0] at hbA hnew hz0 h0 ⊢
 simp only [← hw0] at HC
 rw [← hP3] at hnew hz0 ⊢
 have H0 := hid h0
 have HBA := hid hbA
 have Hnew := hid hnew
 have Hz0 := hid hz0
 have HP3 := hid hP3
 clear hbA hnew hz0 h0 hP3 hw0 R
 go_loopw [39] (fun v39 wr => ∃ i : Nat, i ≤ n ∧ v39 = .int .i64 (i : Int) ∧ Below w0.heap.size w0 wr) (fun v39 _ => n - (intOf v39).toNat)
 case atStart => exact ⟨0, Nat.zero_le _, rfl, Below.refl _ _⟩
 case round =>
  obtain ⟨i, hi, rfl, hbw⟩ := hrel
  have HBw := hid hbw
  by_cases hlt : i < n
  ·have hil : i < x.length := by have := Hn.out; omega
   obtain ⟨q, rfl, hq, c0, c1⟩ := HC.out i hil
   have hgood := HG.out i hil
   obtain ⟨y, hy⟩ : ∃ y, y = x[i] := ⟨_, rfl⟩
   rw [← hy] at c0 c1 hgood
   have c0 := (hbw.cell (p := ⟨q, i * 2, none⟩) hq).trans c0
   have c1 := (hbw.cell (p := ⟨q, i * 2 + 1, none⟩) hq).trans c1
   have hi3 : (i : Int) < 9223372036854775807 := by have := HS.out; omega
   have hgd : 1 ≤ y.page ∧ y.page ≤ 256 ∧ y.data.length = 512 := by
    unfold imgBad inB at hgood
    simp at hgood
    omega
   obtain ⟨g1, g2, g3⟩ := hgd
   have p1' : decide (y.page < 1) = false := by simpa using g1
   have p2' : decide (256 < y.page) = false := by simpa using g2
   obtain ⟨z, hz⟩ : ∃ z : Int, z = y.data.length := ⟨_, rfl⟩
   have p3' : (z != 512) = false := by simp; omega
   have hz' : ((y.data.length : Nat) : Int) = z := hz.symm
   clear hy hbw hi g1 g2 g3 hgood hz
   go_wp2_with fail
   go_roundw
   case rel => exact ⟨i + 1, by omega, by simp, HBw.out.alloc HBw.out.size _⟩
   case measure => (simp [intOf]) <;> omega
  ·obtain rfl : n = i := by omega
   clear hbw
   obtain ⟨w1, hw1⟩ : ∃ w1, w1 = wr := ⟨_, rfl⟩
   subst hw1
   have H1 := H0.out.below HBw.out
   obtain ⟨lv, hl⟩ := H1.log
   have hmany := hl.ok.many
   obtain ⟨ao5, cap5, rfl, -⟩ := hl.slice
   have c5 := hl.cell 5
   have c6 := hl.cell 6
   have c7 := hl.cell 7
   simp only [logCells, List.getElem?_cons_succ, List.getElem?_cons_zero] at c5 c6 c7
   have p3 := cell_of_block ((HBw.out.block P3 (lt_of_block Hnew.out)).trans Hnew.out) 0
   simp only [List.getElem?_toArray, List.getElem?_cons_zero] at p3
   have p3lt : P3 < w1.heap.size := by have := Hz0.out; have := HBw.out.size; omega
   have llt : l < w1.heap.size := by have := Hz0.out; have := HP3.out; have := HBw.out.size; omega
   obtain ⟨z, hz⟩ : ∃ z, z = g.list.length := ⟨_, rfl⟩
   rw [← hz] at c5 hmany
   have Hz := hid hz
   have h9 : IntKind.i64.wrap (256 - (z : Int)) = 256 - (z : Int) := IntWalk.i64_in _ (by omega)
   by_cases hfull : 256 < z + n
   ·have f1 : decide (256 - (z : Int) < (n : Int)) = true := by simp; omega
    have Hful := hid (show 256 < g.list.length + n by have := Hz.out; omega)
    clear hl hz hmany hfull hlt hi H1
    go_wp2_with fail
    go_ret
    rw [HM.out, if_pos Hful.out]
    exact ⟨rfl, LgDid.ofBelow HL.out (then_below HBA.out HBw.out)⟩
   ·have f1 : decide (256 - (z : Int) < (n : Int)) = false := by simp; omega
    clear hl hz hmany hlt hi H1
    go_wp2_with fail
    obtain ⟨bb, hbb⟩ : ∃ bb, bb = w1.heap.size := ⟨_, rfl⟩
    have hB0 := fresh_bld w1
    have hbb2 : (w1.alloc (.cells #[.pointer none, .slice none 0 0] 163)).heap.size = w1.heap.size + 1 := by simp
    have hB1 : BldF w1.heap.size w1.heap.size [] ((w1.alloc (.cells #[.pointer none, .slice none 0 0] 163)).alloc (.cells #[.int .u32 g.pair.1, .int .u32 g.pair.2] 108)) := bld_keep hB0 fun k _ hk => Below.heap_alloc _ _ k hk
    have hpb := heap_alloc_new (w1.alloc (.cells #[.pointer none, .slice none 0 0] 163)) (.cells #[.int .u32 g.pair.1, .int .u32 g.pair.2] 108)
    have hbel2 : Below w1.heap.size w1 ((w1.alloc (.cells #[.pointer none, .slice none 0 0] 163)).alloc (.cells #[.int .u32 g.pair.1, .int .u32 g.pair.2] 108)) := ((Below.refl _ _).alloc (Nat.le_refl _) _).alloc (by simp) _
    have hsz2 : ((w1.alloc (.cells #[.pointer none, .slice none 0 0] 163)).alloc (.cells #[.int .u32 g.pair.1, .int .u32 g.pair.2] 108)).heap.size = w1.heap.size + 1 + 1 := by simp
    rw [hbb2] at hpb
    obtain ⟨w2, hw2⟩ : ∃ w2, w2 = (w1.alloc (.cells #[.pointer none, .slice none 0 0] 163)).alloc (.cells #[.int .u32 g.pair.1, .int .u32 g.pair.2] 108) := ⟨_, rfl⟩
    rw [← hw2] at hB1 hpb hbel2 hsz2 ⊢
    rw [← hbb] at hB1 hpb hbel2 hsz2 ⊢
    obtain ⟨fs, hfs⟩ : ∃ fs, fs = frsOf pages x := ⟨_, rfl⟩
    obtain ⟨salt, hsalt⟩ : ∃ salt, salt = g.head.number := ⟨_, rfl⟩
    have HB1 := hid hB1
    have Hpb := hid hpb
    have Hbel2 := hid hbel2
    have Hsz2 := hid hsz2
    have Hbb := hid hbb
    have Hfs := hid hfs
    have Hsalt := hid hsalt
    have Hfull := hid hfull
    have HH1 := hid (H0.out.below HBw.out)
    have P3lt := hid p3lt
    have Llt := hid llt
    have Hp3 := hid ((HBw.out.block P3 (lt_of_block Hnew.out)).trans Hnew.out)
    clear hB0 hbb2 hB1 hpb hbel2 hsz2 hw2 hbb hfs hsalt c5 c6 c7 p3 hfull f1 h9 p3lt llt
    go_loopw [11, 73] (fun v11 v73 wx => ∃ i : Nat, i ≤ n ∧ v73 = .int .i64 (i : Int) ∧ BldF bb bb (putsN salt (fs.take i) g.pair).1 wx ∧ wx.heap[bb + 1]? = some (.cells #[.int .u32 (putsN salt (fs.take i) g.pair).2.1, .int .u32 (putsN salt (fs.take i) g.pair).2.2] 108 (0, 0)) ∧
     wx.ownsRow (bb + 1 + 1) 118 3 v11 i (frsCells (fs.take i)) ∧ Below bb w1 wx ∧ bb + 1 + 1 ≤ wx.heap.size) (fun _ v73 _ => n - (intOf v73).toNat)
    case atStart => exact ⟨0, Nat.zero_le _, rfl, HB1.out, Hpb.out, World.ownsRow_nil _ _ _ _, Hbel2.out, by rw [Hsz2.out]; exact Nat.le_refl _⟩
    case round =>
     obtain ⟨i, hi, rfl, hBx, hpx, hrow, hbx, hszx⟩ := hrel
     obtain ⟨T, hT⟩ : ∃ T, T = putsN salt (fs.take i) g.pair := ⟨_, rfl⟩
     rw [← hT] at hBx hpx
     have HT := hid hT
     have HBx := hid hBx
     have Hpx := hid hpx
     have Hrow := hid hrow
     have Hbx := hid hbx
     have Hszx := hid hszx
     clear hT
     by_cases hlt : i < n
     ·have hil : i < x.length := by have := Hn.out; omega
      obtain ⟨q, rfl, hq, c0, c1⟩ := HC.out i hil
      have hgood := HG.out i hil
      obtain ⟨y, hy⟩ : ∃ y, y = x[i] := ⟨_, rfl⟩
      rw [← hy] at c0 c1 hgood
      have hqb : q < bb := by have := HBw.out.size; have := Hbb.out; omega
      have c0 := (hbx.cell (p := ⟨q, i * 2, none⟩) hqb).trans ((HBw.out.cell (p := ⟨q, i * 2, none⟩) hq).trans c0)
      have c1 := (hbx.cell (p := ⟨q, i * 2 + 1, none⟩) hqb).trans ((HBw.out.cell (p := ⟨q, i * 2 + 1, none⟩) hq).trans c1)
      have hgd : 1 ≤ y.page ∧ y.page ≤ 256 ∧ y.data.length = 512 := by
       unfold imgBad inB at hgood
       simp at hgood
       omega
      have Hgd := hid hgd
      have Hy := hid hy
      have hi3 : (i : Int) < 9223372036854775807 := by have := HS.out; omega
      have hww1 : IntKind.i64.wrap ((n : Int) - 1) = (n : Int) - 1 := IntWalk.i64_in _ (by have := HS.out; omega)
      obtain ⟨co, hco⟩ : ∃ co : Int, co = if i + 1 = n then pages else 0 := ⟨_, rfl⟩
      have Hco := hid hco
      clear hgd hgood hy hBx hpx hrow hbx hco hqb
      have FACT := hid (show ∀ c : Int, BldF bb bb T.1 ((wr.alloc (.cells #[.int .i64 y.page, .string (bs y.data)] 144)).alloc (.cells #[.int .i64 y.page, .int .i64 c, .string (bs y.data)] 118)) ∧ ((wr.alloc (.cells #[.int .i64 y.page, .string (bs y.data)] 144)).alloc (.cells #[.int .i64 y.page, .int .i64 c, .string (bs y.data)] 118)).heap[bb + 1]? = some (.cells #[.int .u32 T.2.1, .int .u32 T.2.2] 108 (0, 0)) ∧ ((wr.alloc (.cells #[.int .i64 y.page, .string (bs y.data)] 144)).alloc (.cells #[.int .i64 y.page, .int .i64 c, .string (bs y.data)] 118)).ownsRow (bb + 1 + 1) 118 3 u11 i (frsCells (fs.take i)) ∧ Below bb w1 ((wr.alloc (.cells #[.int .i64 y.page, .string (bs y.data)] 144)).alloc (.cells #[.int .i64 y.page, .int .i64 c, .string (bs y.data)] 118)) ∧ wr.heap.size + 1 + 1 ≤ ((wr.alloc (.cells #[.int .i64 y.page, .string (bs y.data)] 144)).alloc (.cells #[.int .i64 y.page, .int .i64 c, .string (bs y.data)] 118)).heap.size ∧
       ((wr.alloc (.cells #[.int .i64 y.page, .string (bs y.data)] 144)).alloc (.cells #[.int .i64 y.page, .int .i64 c, .string (bs y.data)] 118)).heap[wr.heap.size + 1]? = some (.cells #[.int .i64 y.page, .int .i64 c, .string (bs y.data)] 118 (0, 0)) from fun c =>
       ⟨bld_keep HBx.out fun k _ hk => (Below.heap_alloc _ _ k (by simp; omega)).trans (Below.heap_alloc _ _ k hk), heap_alloc_old (heap_alloc_old Hpx.out), row_keep Hrow.out fun k hk => (Below.heap_alloc _ _ k (by simp; have := (row_base Hrow.out hk).2; omega)).trans (Below.heap_alloc _ _ k (row_base Hrow.out hk).2),
        (Hbx.out.alloc (by have := Hszx.out; omega) _).alloc (by simp; have := Hszx.out; omega) _, by simp, by have := heap_alloc_new (wr.alloc (.cells #[.int .i64 y.page, .string (bs y.data)] 144)) (.cells #[.int .i64 y.page, .int .i64 c, .string (bs y.data)] 118); simpa using this⟩)
      go_upto_if 87 with fail
      obtain ⟨eb, heb⟩ : ∃ eb : Bool, eb = ((i : Int) == (n : Int) - 1) := ⟨_, rfl⟩
      rw [← heb]
      have Heb := hid heb
      clear heb
      go_cut [73] from 73 to 109 (fun v73 wy => ∃ wz, wz = wy ∧ v73 = .int .i64 (i : Int) ∧ BldF bb bb T.1 wz ∧ wz.heap[bb + 1]? = some (.cells #[.int .u32 T.2.1, .int .u32 T.2.2] 108 (0, 0)) ∧ wz.ownsRow (bb + 1 + 1) 118 3 u11 i (frsCells (fs.take i)) ∧ Below bb w1 wz ∧ wr.heap.size + 1 + 1 ≤ wz.heap.size ∧
       wz.heap[wr.heap.size + 1]? = some (.cells #[.int .i64 y.page, .int .i64 co, .string (bs y.data)] 118 (0, 0)))
      case first =>
       cases eb
       ·obtain rfl : co = 0 := by
         have := Heb.out
         rw [Hco.out, if_neg]
         intro h
         simp at this
         omega
        have FA := hid (FACT.out 0)
        clear c0 c1 FACT hi3 hww1
        go_wp2_with fail
        go_meet
        exact ⟨_, rfl, rfl, FA.out⟩
       ·obtain rfl : co = pages := by
         have := Heb.out
         rw [Hco.out, if_pos]
         simp at this
         omega
        have FA := hid (FACT.out co)
        clear c0 c1 FACT hi3 hww1
        go_wp2_with fail
        go_meet
        exact ⟨_, rfl, rfl, FA.out⟩
      case rest =>
       obtain ⟨wz, rfl, rfl, hBz, hpz, hrowz, hbz, hszz, hFz⟩ := hcut
       have Hrl := hid (show ∀ r, u11.ownBlock = some r → r < wr.heap.size from fun r hr => (row_base Hrow.out hr).2)
       clear c0 c1 FACT HBx Hpx Hrow
       have hpwf : PairWf T.2 := by rw [HT.out]; exact putsN_pair _ _ _ HL.out.ok.pair
       have hnum := HL.out.ok.num
       have hlz : w1.heap.size = bb := Hbb.out.symm
       have Hz1 := HH1.out.below (w' := wz) (by rw [hlz]; exact hbz)
       have HSK := hid (show ∀ W, Below wz.heap.size wz W → W.cell? ⟨bb + 1, 0, none⟩ = some (.int .u32 T.2.1) ∧ W.cell? ⟨bb + 1, 1, none⟩ = some (.int .u32 T.2.2) ∧ W.cell? ⟨P3, 0, none⟩ = some (.pointer (some ⟨l, 0, none⟩)) ∧ W.cell? ⟨l, 1, none⟩ = some (.int .u64 g.head.number) ∧ W.cell? ⟨wr.heap.size + 1, 0, none⟩ = some (.int .i64 y.page) ∧ W.cell? ⟨wr.heap.size + 1, 1, none⟩ = some (.int .i64 co) ∧ W.cell? ⟨wr.heap.size + 1, 2, none⟩ = some (.string (bs y.data)) from fun W hW => by
        have b1 := (hW.block _ (lt_of_block hpz)).trans hpz
        have b2 := (hW.block _ (lt_of_block hFz)).trans hFz
        have b3 : wz.heap[P3]? = _ := (hbz.block P3 (by rw [← hlz]; exact P3lt.out)).trans Hp3.out
        have b3 := (hW.block _ (lt_of_block b3)).trans b3
        obtain ⟨lv, -, d1, -⟩ := (Hz1.below hW).cells
        exact ⟨by rw [cell_of_block b1]; rfl, by rw [cell_of_block b1]; rfl, by rw [cell_of_block b3]; rfl, d1, by rw [cell_of_block b2]; rfl, by rw [cell_of_block b2]; rfl, by rw [cell_of_block b2]; rfl⟩)
       obtain ⟨f, hf⟩ : ∃ f : Fr, f = ⟨y.page, co, y.data⟩ := ⟨_, rfl⟩
       have P := fun W => putFr_any T.2 g.head.number f W hpwf hnum.1 hnum.2 (by rw [hf, Hgd.out.2.2]; decide)
       have hokf : frOk f = true := by
        have := Hgd.out
        have := Hp.out
        rw [hf]
        unfold frOk frMay inB
        have h3 : co = pages ∨ co = 0 := by rw [Hco.out]; split <;> simp
        simp
        omega
       have hfs : fs.take (i + 1) = fs.take i ++ [f] := by
        have hfl : i < fs.length := by rw [Hfs.out, frsOf_length]; exact hil
        rw [List.take_succ_eq_append_getElem hfl]
        congr 1
        have e := frsOf_get pages x i hil
        have e2 : fs[i] = (frsOf pages x)[i]'(by rw [frsOf_length]; exact hil) := by simp [Hfs.out]
        rw [e2, e, hf, ← Hy.out]
        unfold frAt
        rw [Hco.out, ← Hn.out]
       obtain ⟨A, hA⟩ : ∃ A, A = putFr T.2 g.head.number f := ⟨_, rfl⟩
       have hAl : A.s.length ≤ 576 := by rw [hA]; exact putFr_length _ _ _
       have hTl : T.1.length ≤ 576 * i := by
        rw [HT.out]
        refine Nat.le_trans (putsN_length _ _ _) (Nat.mul_le_mul_left _ ?_)
        simp
        omega
       have hTn : putsN salt (fs.take (i + 1)) g.pair = (T.1 ++ A.s, A.q) := by rw [hfs, putsN_snoc, ← HT.out, hA, ← Hsalt.out]
       simp only [← hA] at P
       unfold pairV frV at P
       rw [hf] at P
       simp only at P
       have P := hid P
       have HBz := hid hBz
       have Hpz := hid hpz
       have Hrowz := hid hrowz
       have Hbz := hid hbz
       have Hszz := hid hszz
       have HFz := hid hFz
       have Hfsn := hid hfs
       have HTn := hid hTn
       have Hokf := hid hokf
       have HAl := hid hAl
       have HTl := hid hTl
       have Hf := hid hf
       have Hlz := hid hlz
       have Hlt := hid hlt
       have Hil := hid hil
       clear hpwf hnum Hz1 hokf hfs hA hAl hTl hTn hBz hpz hrowz hbz hszz hFz hlz hlt hi3 hww1
       go_upto_region 23 with fail
       go_cut [16, 17, 18, 73] from 73 to 109 (fun v16 v17 v18 v73 wy => ∃ wx k, wx = wy ∧ v73 = .int .i64 (i : Int) ∧ v16 = .string (bs A.s) ∧ v17 = .pointer (some ⟨k, 0, none⟩) ∧ wx.heap[k]? = some (.cells #[.int .u32 A.q.1, .int .u32 A.q.2] 108 (0, 0)) ∧ wz.heap.size ≤ k ∧ Below wz.heap.size wz wx)
       case first =>
        have h0 := HSK.out wz.drew ⟨rfl, rfl, rfl, Nat.le_refl _, fun _ _ => rfl⟩
        refine wp_region_held_drew (S := fun W => W.cell? ⟨bb + 1, 0, none⟩ = some (.int .u32 T.2.1) ∧ W.cell? ⟨bb + 1, 1, none⟩ = some (.int .u32 T.2.2) ∧ W.cell? ⟨P3, 0, none⟩ = some (.pointer (some ⟨l, 0, none⟩)) ∧ W.cell? ⟨l, 1, none⟩ = some (.int .u64 g.head.number) ∧ W.cell? ⟨wr.heap.size + 1, 0, none⟩ = some (.int .i64 y.page) ∧ W.cell? ⟨wr.heap.size + 1, 1, none⟩ = some (.int .i64 co) ∧ W.cell? ⟨wr.heap.size + 1, 2, none⟩ = some (.string (bs y.data))) (by kernel_rfl) h0 (fun hHeld => ?_)
        clear h0
        refine held_take (v := ?pv0) 0 rfl (by kernel_rfl) (by kernel_rfl) (by kernel_rfl) (fun _ _ _ h => h) (by rfl) hHeld ?py0 ?pr0
        case py0 => (intro W hSw; obtain ⟨y0, y1, y2, y3, y4, y5, y6⟩ := hSw; go_simp; with_reducible rfl)
        simp only [Act.put, List.setIfInBounds_toArray, List.set_cons_zero, List.set_cons_succ]
        refine held_take (v := ?pv1) 1 rfl (by kernel_rfl) (by kernel_rfl) (by kernel_rfl) (fun _ _ _ h => h) (by rfl) hHeld ?py1 ?pr1
        case py1 => (intro W hSw; obtain ⟨y0, y1, y2, y3, y4, y5, y6⟩ := hSw; go_simp; with_reducible rfl)
        simp only [Act.put, List.setIfInBounds_toArray, List.set_cons_zero, List.set_cons_succ]
        refine held_take (v := ?pv2) 2 rfl (by kernel_rfl) (by kernel_rfl) (by kernel_rfl) (fun _ _ _ h => h) (by rfl) hHeld ?py2 ?pr2
        case py2 => (intro W hSw; obtain ⟨y0, y1, y2, y3, y4, y5, y6⟩ := hSw; go_simp; with_reducible rfl)
        simp only [Act.put, List.setIfInBounds_toArray, List.set_cons_zero, List.set_cons_succ]
        refine held_take (v := ?pv3) 3 rfl (by kernel_rfl) (by kernel_rfl) (by kernel_rfl) (fun _ _ _ h => h) (by rfl) hHeld ?py3 ?pr3
        case py3 => (intro W hSw; obtain ⟨y0, y1, y2, y3, y4, y5, y6⟩ := hSw; go_simp; with_reducible rfl)
        simp only [Act.put, List.setIfInBounds_toArray, List.set_cons_zero, List.set_cons_succ]
        refine held_take (v := ?pv4) 4 rfl (by kernel_rfl) (by kernel_rfl) (by kernel_rfl) (fun _ _ _ h => h) (by rfl) hHeld ?py4 ?pr4
        case py4 => (intro W hSw; obtain ⟨y0, y1, y2, y3, y4, y5, y6⟩ := hSw; go_simp; with_reducible rfl)
        simp only [Act.put, List.setIfInBounds_toArray, List.set_cons_zero, List.set_cons_succ]
        refine held_take (v := ?pv5) 5 rfl (by kernel_rfl) (by kernel_rfl) (by kernel_rfl) (fun _ _ _ h => h) (by rfl) hHeld ?py5 ?pr5
        case py5 => (intro W hSw; obtain ⟨y0, y1, y2, y3, y4, y5, y6⟩ := hSw; go_simp; with_reducible rfl)
        simp only [Act.put, List.setIfInBounds_toArray, List.set_cons_zero, List.set_cons_succ]
        refine held_take (v := ?pv6) 6 rfl (by kernel_rfl) (by kernel_rfl) (by kernel_rfl) (fun _ _ _ h => h) (by rfl) hHeld ?py6 ?pr6
        case py6 => (intro W hSw; obtain ⟨y0, y1, y2, y3, y4, y5, y6⟩ := hSw; go_simp; with_reducible rfl)
        simp only [Act.put, List.setIfInBounds_toArray, List.set_cons_zero, List.set_cons_succ]
        refine held_both 7 12 (by kernel_rfl) rfl rfl (fun K hK => ?_) (fun K hK => ?_)
        ·go_simp
         refine (P.out _).mono ?_
         rintro e w3 ⟨rfl, hb3⟩
         have hb3 := below_undrew hb3
         have HB3 := hid hb3
         clear hb3
         try dsimp only
         refine hK.out _ _ (HSK.out _ HB3.out) (fun hHeld => ?_)
         clear hK K
         try simp only [Act.put, List.setIfInBounds_toArray, List.set_cons_zero, List.set_cons_succ]
         refine held_take (v := ?qv8) 8 rfl (by kernel_rfl) (by kernel_rfl) (by kernel_rfl) (fun _ _ _ h => h) (by rfl) hHeld ?qy8 ?qr8
         case qy8 => (intro W hSw; obtain ⟨y0, y1, y2, y3, y4, y5, y6⟩ := hSw; go_simp; with_reducible rfl)
         simp only [Act.put, List.setIfInBounds_toArray, List.set_cons_zero, List.set_cons_succ]
         refine held_take (v := ?qv9) 9 rfl (by kernel_rfl) (by kernel_rfl) (by kernel_rfl) (fun _ _ _ h => h) (by rfl) hHeld ?qy9 ?qr9
         case qy9 => (intro W hSw; obtain ⟨y0, y1, y2, y3, y4, y5, y6⟩ := hSw; go_simp; with_reducible rfl)
         simp only [Act.put, List.setIfInBounds_toArray, List.set_cons_zero, List.set_cons_succ]
         refine held_take (v := ?qv10) 10 rfl (by kernel_rfl) (by kernel_rfl) (by kernel_rfl) (fun _ _ _ h => h) (by rfl) hHeld ?qy10 ?qr10
         case qy10 => (intro W hSw; obtain ⟨y0, y1, y2, y3, y4, y5, y6⟩ := hSw; go_simp; with_reducible rfl)
         simp only [Act.put, List.setIfInBounds_toArray, List.set_cons_zero, List.set_cons_succ]
         refine held_take (v := ?qv11) 11 rfl (by kernel_rfl) (by kernel_rfl) (by kernel_rfl) (fun _ _ _ h => h) (by rfl) hHeld ?qy11 ?qr11
         case qy11 => (intro W hSw; obtain ⟨y0, y1, y2, y3, y4, y5, y6⟩ := hSw; go_simp; with_reducible rfl)
         simp only [Act.put, List.setIfInBounds_toArray, List.set_cons_zero, List.set_cons_succ]
         refine held_one 12 (by kernel_rfl) rfl (fun K hK => ?_)
         go_simp
         have hb4 := HB3.out.alloc HB3.out.size (.cells #[.int .u32 0, .int .u32 0] 108)
         have hnew4 := heap_alloc_new w3 (.cells #[.int .u32 A.q.1, .int .u32 A.q.2] 108)
         have hb5 := HB3.out.alloc HB3.out.size (.cells #[.int .u32 A.q.1, .int .u32 A.q.2] 108)
         refine hK.out _ _ (HSK.out _ hb4) (fun hHeld => ?_)
         clear hK K
         try simp only [Act.put, List.setIfInBounds_toArray, List.set_cons_zero, List.set_cons_succ]
         refine held_take (v := ?rv13) 13 rfl (by kernel_rfl) (by kernel_rfl) (by kernel_rfl) (fun _ _ _ h => h) (by rfl) hHeld ?ry13 ?rr13
         case ry13 => (intro W hSw; obtain ⟨y0, y1, y2, y3, y4, y5, y6⟩ := hSw; go_simp; with_reducible rfl)
         simp only [Act.put, List.setIfInBounds_toArray, List.set_cons_zero, List.set_cons_succ]
         refine held_one 14 (by kernel_rfl) rfl (fun K hK => ?_)
         go_simp
         refine hK.out _ _ (HSK.out _ hb5) (fun hHeld => ?_)
         clear hK K
         try simp only [Act.put, List.setIfInBounds_toArray, List.set_cons_zero, List.set_cons_succ]
         refine held_take (v := ?sv15) 15 rfl (by kernel_rfl) (by kernel_rfl) (by kernel_rfl) (fun _ _ _ h => h) (by rfl) hHeld ?sy15 ?sr15
         case sy15 => (intro W hSw; obtain ⟨y0, y1, y2, y3, y4, y5, y6⟩ := hSw; go_simp; with_reducible rfl)
         simp only [Act.put, List.setIfInBounds_toArray, List.set_cons_zero, List.set_cons_succ]
         refine wpAnyH_done (by kernel_rfl) ?_ _
         have hsz3 := HB3.out.size
         clear hHeld hb4
         go_wp2_with fail
         go_meet
         exact ⟨_, _, rfl, rfl, rfl, rfl, hnew4, hsz3, hb5⟩
        ·go_simp
         have hb4 := (Below.refl wz.heap.size wz).alloc (Nat.le_refl _) (.cells #[.int .u32 0, .int .u32 0] 108)
         have hnew4 := heap_alloc_new wz (.cells #[.int .u32 0, .int .u32 0] 108)
         refine hK.out _ _ (HSK.out _ (hb4.drew)) (fun hHeld => ?_)
         clear hK K
         try simp only [Act.put, List.setIfInBounds_toArray, List.set_cons_zero, List.set_cons_succ]
         refine held_one 7 (by kernel_rfl) rfl (fun K hK => ?_)
         go_simp
         refine (P.out _).mono ?_
         rintro e w3 ⟨rfl, hb3⟩
         have hb3 := below_undrew hb3
         have hb5 : Below wz.heap.size wz w3 := hb4.trans (hb3.mono hb4.size)
         have hnew5 := (hb3.block wz.heap.size (by simp)).trans hnew4
         have HB5 := hid hb5
         have HN5 := hid hnew5
         clear hb3 hb5 hb4 hnew4
         try dsimp only
         refine hK.out _ _ (HSK.out _ HB5.out) (fun hHeld => ?_)
         clear hK K
         try simp only [Act.put, List.setIfInBounds_toArray, List.set_cons_zero, List.set_cons_succ]
         refine held_take (v := ?tv8) 8 rfl (by kernel_rfl) (by kernel_rfl) (by kernel_rfl) (fun _ _ _ h => h) (by rfl) hHeld ?ty8 ?tr8
         case ty8 => (intro W hSw; obtain ⟨y0, y1, y2, y3, y4, y5, y6⟩ := hSw; go_simp; with_reducible rfl)
         simp only [Act.put, List.setIfInBounds_toArray, List.set_cons_zero, List.set_cons_succ]
         refine held_take (v := ?tv9) 9 rfl (by kernel_rfl) (by kernel_rfl) (by kernel_rfl) (fun _ _ _ h => h) (by rfl) hHeld ?ty9 ?tr9
         case ty9 => (intro W hSw; obtain ⟨y0, y1, y2, y3, y4, y5, y6⟩ := hSw; go_simp; with_reducible rfl)
         simp only [Act.put, List.setIfInBounds_toArray, List.set_cons_zero, List.set_cons_succ]
         refine held_take (v := ?tv10) 10 rfl (by kernel_rfl) (by kernel_rfl) (by kernel_rfl) (fun _ _ _ h => h) (by rfl) hHeld ?ty10 ?tr10
         case ty10 => (intro W hSw; obtain ⟨y0, y1, y2, y3, y4, y5, y6⟩ := hSw; go_simp; with_reducible rfl)
         simp only [Act.put, List.setIfInBounds_toArray, List.set_cons_zero, List.set_cons_succ]
         refine held_take (v := ?tv11) 11 rfl (by kernel_rfl) (by kernel_rfl) (by kernel_rfl) (fun _ _ _ h => h) (by rfl) hHeld ?ty11 ?tr11
         case ty11 => (intro W hSw; obtain ⟨y0, y1, y2, y3, y4, y5, y6⟩ := hSw; go_simp; with_reducible rfl)
         simp only [Act.put, List.setIfInBounds_toArray, List.set_cons_zero, List.set_cons_succ]
         refine held_take (v := ?tv13) 13 rfl (by kernel_rfl) (by kernel_rfl) (by kernel_rfl) (fun _ _ _ h => h) (by rfl) hHeld ?ty13 ?tr13
         case ty13 => (intro W hSw; obtain ⟨y0, y1, y2, y3, y4, y5, y6⟩ := hSw; go_simp; with_reducible rfl)
         simp only [Act.put, List.setIfInBounds_toArray, List.set_cons_zero, List.set_cons_succ]
         have d0 := cell_of_block hnew5 0
         have d1 := cell_of_block hnew5 1
         have df := free_of_block hnew5
         simp only [List.getElem?_toArray, List.getElem?_cons_succ, List.getElem?_cons_zero] at d0 d1
         clear hnew5
         refine held_one 14 (by kernel_rfl) rfl (fun K hK => ?_)
         go_simp
         have hb6 := (HB5.out.setCell (p := ⟨wz.heap.size, 0, none⟩) (Nat.le_refl _) (.int .u32 A.q.1)).setCell (p := ⟨wz.heap.size, 1, none⟩) (Nat.le_refl _) (.int .u32 A.q.2)
         have hn6 := heap_setCell_same (heap_setCell_same HN5.out 0 (.int .u32 A.q.1)) 1 (.int .u32 A.q.2)
         refine hK.out _ _ (HSK.out _ hb6) (fun hHeld => ?_)
         clear hK K
         try simp only [Act.put, List.setIfInBounds_toArray, List.set_cons_zero, List.set_cons_succ]
         refine held_take (v := ?vv15) 15 rfl (by kernel_rfl) (by kernel_rfl) (by kernel_rfl) (fun _ _ _ h => h) (by rfl) hHeld ?vy15 ?vr15
         case vy15 => (intro W hSw; obtain ⟨y0, y1, y2, y3, y4, y5, y6⟩ := hSw; go_simp; with_reducible rfl)
         simp only [Act.put, List.setIfInBounds_toArray, List.set_cons_zero, List.set_cons_succ]
         refine wpAnyH_done (by kernel_rfl) ?_ _
         clear hHeld d0 d1 df
         go_wp2_with fail
         go_meet
         exact ⟨_, _, rfl, rfl, rfl, rfl, hn6, Nat.le_refl _, hb6⟩
       case rest =>
        obtain ⟨wy, k, rfl, rfl, rfl, rfl, hk, hkz, hby⟩ := hcut
        have hBy := bld_keep HBz.out fun k _ hk => hby.block k hk
        have hpy := (hby.block _ (lt_of_block Hpz.out)).trans Hpz.out
        have hFy := (hby.block _ (lt_of_block HFz.out)).trans HFz.out
        have hrowy := row_keep Hrowz.out fun k hk => hby.block k (row_base Hrowz.out hk).2
        have hbw1 : Below bb w1 wy := Hbz.out.trans (hby.mono (by have := Hbz.out.size; have := Hlz.out; omega))
        have hbsz : bb + 1 + 1 ≤ wy.heap.size := by have := hby.size; have := Hszz.out; have := Hszx.out; omega
        have WSs := writeString_any bb bb T.1 A.s wy hBy (by have := HTl.out; have := HAl.out; have := Hlt.out; have := Hfull.out; omega) (by omega)
        have WSs := hid WSs
        have Hbw1 := hid hbw1
        have Hhk := hid hk
        have Hpy := hid hpy
        have HFy := hid hFy
        have Hrowy := hid hrowy
        have Hbsz := hid hbsz
        have Hkz := hid (show bb + 1 + 1 ≤ k by have := Hszz.out; have := Hszx.out; omega)
        have Hft := hid (show bb + 1 + 1 ≤ wr.heap.size + 1 by have := Hszx.out; omega)
        clear hBy hpy hFy hrowy hbw1 hbsz hk hkz hby HBz Hpz Hrowz Hbz HSK P
        go_upto_region 25 with (first | (go_at_call 88; refine (WSs.out).mono ?_; rintro e w4 ⟨rfl, hB4, hf4⟩) | go_in)
        have hp4 := ws_keeps hf4 Hpy.out (by decide) (by omega)
        have hF4 := ws_keeps hf4 HFy.out (by decide) (by have := Hft.out; omega)
        have hk4 := ws_keeps hf4 Hhk.out (by decide) (by have := Hkz.out; omega)
        have hrow4 := row_keep Hrowy.out (w' := w4) fun r hr => by
         have hb := row_base Hrowy.out hr
         rcases Hrowy.out.2 with ⟨e, _⟩ | ⟨g', cap', cur', e, _, hh, _⟩
         ·rw [e] at hr; cases hr
         ·rw [e] at hr
          cases hr
          exact (ws_keeps hf4 hh (by decide) (by omega)).trans hh.symm
        have hb4 : Below bb w1 w4 := Hbw1.out.trans (ws_below hf4 (by have := Hbsz.out; omega))
        have hsz4 : bb + 1 + 1 ≤ w4.heap.size := Nat.le_trans Hbsz.out hf4.size
        have HB4 := hid hB4
        have Hp4 := hid hp4
        have HF4 := hid hF4
        have Hk4 := hid hk4
        have Hrow4 := hid hrow4
        have Hb4 := hid hb4
        have Hsz4 := hid hsz4
        clear hB4 hf4 hp4 hF4 hk4 hrow4 hb4 hsz4 WSs Hpy HFy Hrowy Hhk Hbw1
        have HSK := hid (show ∀ W : World, W.heap[wr.heap.size + 1]? = w4.heap[wr.heap.size + 1]? → W.heap[k]? = w4.heap[k]? → W.cell? ⟨wr.heap.size + 1, 0, none⟩ = some (.int .i64 y.page) ∧ W.cell? ⟨wr.heap.size + 1, 1, none⟩ = some (.int .i64 co) ∧ W.cell? ⟨wr.heap.size + 1, 2, none⟩ = some (.string (bs y.data)) ∧ W.cell? ⟨k, 0, none⟩ = some (.int .u32 A.q.1) ∧ W.cell? ⟨k, 1, none⟩ = some (.int .u32 A.q.2) from fun W e1 e2 =>
         ⟨by rw [cell_of_block (e1.trans HF4.out)]; rfl, by rw [cell_of_block (e1.trans HF4.out)]; rfl, by rw [cell_of_block (e1.trans HF4.out)]; rfl, by rw [cell_of_block (e2.trans Hk4.out)]; rfl, by rw [cell_of_block (e2.trans Hk4.out)]; rfl⟩)
        refine wp_region_held_drew (S := fun W => W.cell? ⟨wr.heap.size + 1, 0, none⟩ = some (.int .i64 y.page) ∧ W.cell? ⟨wr.heap.size + 1, 1, none⟩ = some (.int .i64 co) ∧ W.cell? ⟨wr.heap.size + 1, 2, none⟩ = some (.string (bs y.data)) ∧ W.cell? ⟨k, 0, none⟩ = some (.int .u32 A.q.1) ∧ W.cell? ⟨k, 1, none⟩ = some (.int .u32 A.q.2)) (by kernel_rfl) (HSK.out w4.drew rfl rfl) (fun hHeld => ?_)
        refine held_take (v := ?wv0) 0 rfl (by kernel_rfl) (by kernel_rfl) (by kernel_rfl) (fun _ _ _ h => h) (by rfl) hHeld ?wy0 ?wr0
        case wy0 => (intro W hSw; obtain ⟨y0, y1, y2, y3, y4⟩ := hSw; go_simp; with_reducible rfl)
        simp only [Act.put, List.setIfInBounds_toArray, List.set_cons_zero, List.set_cons_succ]
        refine held_take (v := ?wv1) 1 rfl (by kernel_rfl) (by kernel_rfl) (by kernel_rfl) (fun _ _ _ h => h) (by rfl) hHeld ?wy1 ?wr1
        case wy1 => (intro W hSw; obtain ⟨y0, y1, y2, y3, y4⟩ := hSw; go_simp; with_reducible rfl)
        simp only [Act.put, List.setIfInBounds_toArray, List.set_cons_zero, List.set_cons_succ]
        refine held_take (v := ?wv4) 4 rfl (by kernel_rfl) (by kernel_rfl) (by kernel_rfl) (fun _ _ _ h => h) (by rfl) hHeld ?wy4 ?wr4
        case wy4 => (intro W hSw; obtain ⟨y0, y1, y2, y3, y4⟩ := hSw; go_simp; with_reducible rfl)
        simp only [Act.put, List.setIfInBounds_toArray, List.set_cons_zero, List.set_cons_succ]
        refine held_one 2 (by kernel_rfl) rfl (fun K hK => ?_)
        go_simp
        have kl4 := lt_of_block Hk4.out
        have fl4 := lt_of_block HF4.out
        have hnew5 := heap_alloc_new w4 (.cells #[.int .i64 y.page, .int .i64 co, .string (bs y.data)] 118)
        have old5 : ∀ (j : Nat) (o : Obj), w4.heap[j]? = some o → (w4.alloc (.cells #[.int .i64 y.page, .int .i64 co, .string (bs y.data)] 118)).drew.heap[j]? = some o := fun j o h => heap_alloc_old h
        have hs5 : (w4.alloc (.cells #[.int .i64 y.page, .int .i64 co, .string (bs y.data)] 118)).drew.heap.size = w4.heap.size + 1 := by simp
        have hbel5 : Below bb w1 (w4.alloc (.cells #[.int .i64 y.page, .int .i64 co, .string (bs y.data)] 118)).drew := (Hb4.out.alloc (by have := Hsz4.out; omega) _).drew
        obtain ⟨w5, hw5⟩ : ∃ w5, w5 = (w4.alloc (.cells #[.int .i64 y.page, .int .i64 co, .string (bs y.data)] 118)).drew := ⟨_, rfl⟩
        have hnew5 : w5.heap[w4.heap.size]? = some (.cells #[.int .i64 y.page, .int .i64 co, .string (bs y.data)] 118 (0, 0)) := by rw [hw5]; exact hnew5
        rw [← hw5] at old5 hs5 hbel5 ⊢
        refine hK.out _ _ (HSK.out w5 ((old5 _ _ HF4.out).trans HF4.out.symm) ((old5 _ _ Hk4.out).trans Hk4.out.symm)) (fun hHeld => ?_)
        clear hK K
        try simp only [Act.put, List.setIfInBounds_toArray, List.set_cons_zero, List.set_cons_succ]
        have hrow5 := row_keep Hrow4.out (w' := w5) fun r hr => by
         obtain ⟨o, ho⟩ : ∃ o, w4.heap[r]? = some o := ⟨_, Array.getElem?_eq_getElem (row_base Hrow4.out hr).2⟩
         exact (old5 r o ho).trans ho.symm
        have Hold5 := hid old5
        have Hnew5 := hid hnew5
        have Hrow5 := hid hrow5
        have Hbel5 := hid hbel5
        have Hs5 := hid hs5
        clear old5 hnew5 hrow5 hw5 hbel5 hs5
        obtain ⟨i0, hi0, hz0, hz1, hz2⟩ := info_parts (P := Tryz.prog) (e := 118) (z := frV ⟨0, 0, []⟩) (size := 3) (bytes := 32) (by kernel_rfl)
        refine held_one 3 (by kernel_rfl) rfl (fun K hK => ?_)
        refine step_append_lies _ (by rfl) _ _ 105 (by rfl) (bb + 1 + 1) 118 i0 _ 3 32 Tryz.underlying105 hi0 hz0 hz1 hz2 rfl (by omega) u11 i (frsCells (fs.take i)) (by rfl) Hrow5.out ⟨w4.heap.size, 0, none⟩ 1 1 (frCells f) (by rfl) (by rfl) (World.news_of_block (w := w5) (cs := (frCells f).toArray) (t := 118) (fr := (0, 0)) (by rw [Hf.out]; exact Hnew5.out)) (frCells_one f) (by omega) (by unfold maxLen; have := Hlt.out; have := Hfull.out; omega) (by have := Hlt.out; have := Hfull.out; omega) (by rw [Hs5.out]; have := Hsz4.out; omega) (w4.heap.size + 1) Hs5.out ?_
        intro g7 cap7 w7 hown7 hgrow7 hat7 hlt7
        have nrow : ∀ j : Nat, j < bb + 1 + 1 ∨ (∃ (cs : Array Value) (T : TypeId), T ≠ 118 ∧ w5.heap[j]? = some (.cells cs T (0, 0))) → some j ≠ u11.ownBlock := fun j hj e => by
         rcases hj with h1 | ⟨cs, T, h1, h2⟩
         ·have := (row_base Hrow5.out e.symm).1
          omega
         ·rcases Hrow5.out.2 with ⟨e2, _⟩ | ⟨g', cap', cur', e2, _, hh, _⟩
          ·rw [e2] at e; cases e
          ·rw [e2] at e
           cases e
           rw [h2] at hh
           injection hh with hh
           injection hh with _ h5 _
           exact h1 h5
        have gr : ∀ (j : Nat) (o : Obj), w4.heap[j]? = some o → some j ≠ u11.ownBlock → w7.heap[j]? = some o := fun j o h1 h2 => (hgrow7.block j (lt_of_block (Hold5.out j o h1)) h2).trans (Hold5.out j o h1)
        have hF7 := gr _ _ HF4.out (fun e => by have := Hrl.out _ e.symm; omega)
        have hk7 := gr _ _ Hk4.out (nrow k (.inr ⟨_, _, by decide, Hold5.out _ _ Hk4.out⟩))
        have hp7 := gr _ _ Hp4.out (nrow (bb + 1) (.inl (by omega)))
        have hB7 := bld_grown HB4.out Hrow4.out (by decide) (by decide) Hold5.out hgrow7
        have hbel7 : Below bb w1 w7 := ⟨hgrow7.os.trans Hbel5.out.os, hgrow7.tape.trans Hbel5.out.tape, hgrow7.output.trans Hbel5.out.output, Nat.le_trans Hbel5.out.size hgrow7.size, fun j hj => (hgrow7.block j (by have := Hs5.out; have := Hsz4.out; omega) (nrow j (.inl (by omega)))).trans (Hbel5.out.block j hj)⟩
        have hsz7 : bb + 1 + 1 ≤ w7.heap.size := by have := hgrow7.size; have := Hs5.out; have := Hsz4.out; omega
        have hrow7 : w7.ownsRow (bb + 1 + 1) 118 3 (.slice (some ⟨g7, 0, none⟩) (i + 1) cap7) (i + 1) (frsCells (fs.take (i + 1))) := by rw [Hfsn.out, frsCells_snoc]; exact hown7
        have HF7 := hid hF7
        have Hk7 := hid hk7
        have Hp7 := hid hp7
        have HB7 := hid hB7
        have Hbel7 := hid hbel7
        have Hsz7 := hid hsz7
        have Hrow7 := hid hrow7
        clear nrow gr hF7 hk7 hp7 hB7 hbel7 hsz7 hrow7 hown7 hgrow7 hat7 hlt7 kl4 fl4
        refine hK.out _ _ (HSK.out w7 (HF7.out.trans HF4.out.symm) (Hk7.out.trans Hk4.out.symm)) (fun hHeld => ?_)
        clear hK K
        try simp only [Act.put, List.setIfInBounds_toArray, List.set_cons_zero, List.set_cons_succ]
        refine held_take (v := ?zv5) 5 rfl (by kernel_rfl) (by kernel_rfl) (by kernel_rfl) (fun _ _ _ h => h) (by rfl) hHeld ?zy5 ?zr5
        case zy5 => (intro W hSw; obtain ⟨y0, y1, y2, y3, y4⟩ := hSw; go_simp; with_reducible rfl)
        simp only [Act.put, List.setIfInBounds_toArray, List.set_cons_zero, List.set_cons_succ]
        have d0 := cell_of_block Hp7.out 0
        have d1 := cell_of_block Hp7.out 1
        have df := free_of_block Hp7.out
        simp only [List.getElem?_toArray, List.getElem?_cons_succ, List.getElem?_cons_zero] at d0 d1
        refine held_one 6 (by kernel_rfl) rfl (fun K hK => ?_)
        go_simp
        have hn8 := heap_setCell_same (heap_setCell_same Hp7.out 0 (.int .u32 A.q.1)) 1 (.int .u32 A.q.2)
        have ot8 : ∀ j : Nat, j ≠ bb + 1 → ((w7.setCell ⟨bb + 1, 0, none⟩ (.int .u32 A.q.1)).setCell ⟨bb + 1, 1, none⟩ (.int .u32 A.q.2)).heap[j]? = w7.heap[j]? := fun j hj => by
         rw [Below.heap_setCell _ ⟨bb + 1, _, none⟩ _ j hj, Below.heap_setCell _ ⟨bb + 1, _, none⟩ _ j hj]
        have hz8 : ((w7.setCell ⟨bb + 1, 0, none⟩ (.int .u32 A.q.1)).setCell ⟨bb + 1, 1, none⟩ (.int .u32 A.q.2)).heap.size = w7.heap.size := by simp
        have hb8 : Below bb w1 ((w7.setCell ⟨bb + 1, 0, none⟩ (.int .u32 A.q.1)).setCell ⟨bb + 1, 1, none⟩ (.int .u32 A.q.2)) := (Hbel7.out.setCell (p := ⟨bb + 1, 0, none⟩) (Nat.le_succ _) _).setCell (p := ⟨bb + 1, 1, none⟩) (Nat.le_succ _) _
        obtain ⟨w8, hw8⟩ : ∃ w8, w8 = (w7.setCell ⟨bb + 1, 0, none⟩ (.int .u32 A.q.1)).setCell ⟨bb + 1, 1, none⟩ (.int .u32 A.q.2) := ⟨_, rfl⟩
        rw [← hw8] at hn8 ot8 hz8 hb8 ⊢
        refine hK.out _ _ (HSK.out w8 ((ot8 _ (by have := Hft.out; omega)).trans (HF7.out.trans HF4.out.symm)) ((ot8 _ (by have := Hkz.out; omega)).trans (Hk7.out.trans Hk4.out.symm))) (fun hHeld => ?_)
        clear hK K
        try simp only [Act.put, List.setIfInBounds_toArray, List.set_cons_zero, List.set_cons_succ]
        have hB8 : BldF bb bb (T.1 ++ A.s) w8 := bld_keep2 HB7.out fun j o ho hj => (ot8 j (fun e => by
         subst e
         rcases hj with e2 | ⟨c, fz, rfl⟩
         ·omega
         ·rw [Hp7.out] at ho
          injection ho with ho
          injection ho with _ h5 _
          exact absurd h5 (by decide))).trans ho
        have hrow8 := row_keep Hrow7.out fun r hr => ot8 r (by have := (row_base Hrow7.out hr).1; omega)
        have REL := hid (show BldF bb bb (putsN salt (fs.take (i + 1)) g.pair).1 w8 ∧ w8.heap[bb + 1]? = some (.cells #[.int .u32 (putsN salt (fs.take (i + 1)) g.pair).2.1, .int .u32 (putsN salt (fs.take (i + 1)) g.pair).2.2] 108 (0, 0)) ∧
         w8.ownsRow (bb + 1 + 1) 118 3 (.slice (some ⟨g7, 0, none⟩) (i + 1) cap7) (i + 1) (frsCells (fs.take (i + 1))) ∧ Below bb w1 w8 ∧ bb + 1 + 1 ≤ w8.heap.size by
          rw [HTn.out]
          exact ⟨hB8, hn8, hrow8, hb8, by rw [hz8]; exact Hsz7.out⟩)
        clear hB8 hn8 hrow8 hb8 hz8 ot8 hw8 d0 d1 df hHeld
        refine wpAnyH_done (by kernel_rfl) ?_ _
        have hlt := Hlt.out
        have hi3 : (i : Int) < 9223372036854775807 := by have := HS.out; omega
        go_wp2_with fail
        go_roundw
        case rel => exact ⟨i + 1, hlt, by simp, REL.out⟩
        case measure => (simp [intOf]) <;> omega
     ·obtain rfl : n = i := by omega
      have hT2 : T = appText g pages x := by
       rw [HT.out, List.take_of_length_le (by rw [Hfs.out, frsOf_length, ← Hn.out]; exact Nat.le_refl _), Hfs.out, Hsalt.out]
       rfl
      have hrow2 : wr.ownsRow (bb + 1 + 1) 118 3 u11 n (frsCells (frsOf pages x)) := by
       have := Hrow.out
       rwa [List.take_of_length_le (by rw [Hfs.out, frsOf_length, ← Hn.out]; exact Nat.le_refl _), Hfs.out] at this
      have hW : Below w1.heap.size w1 wr := by rw [← Hbb.out]; exact hbx
      have HW := HH1.out.below hW
      obtain ⟨lv, hl⟩ := HW.log
      have hmany := hl.ok.many
      obtain ⟨ao6, cap6, rfl, -⟩ := hl.slice
      have c1 := hl.cell 1
      have c5 := hl.cell 5
      simp only [logCells, List.getElem?_cons_succ, List.getElem?_cons_zero] at c1 c5
      rw [← Hz.out] at c5 hmany
      have hp3 := (hW.block P3 P3lt.out).trans Hp3.out
      have p3 := cell_of_block hp3 0
      simp only [List.getElem?_toArray, List.getElem?_cons_zero] at p3
      have hw9 : IntKind.i64.wrap ((z : Int) + (n : Int)) = (z : Int) + (n : Int) := IntWalk.i64_in _ (by have := Hfull.out; omega)
      have HS3 := hid (show ∀ W, Below wr.heap.size wr W → W.cell? ⟨P3, 0, none⟩ = some (.pointer (some ⟨l, 0, none⟩)) ∧ W.cell? ⟨l, 1, none⟩ = some (.int .u64 g.head.number) ∧ W.cell? ⟨l, 5, none⟩ = some (.slice ao6 z cap6) from fun W hW2 => by
       have b1 := (hW2.block _ (lt_of_block hp3)).trans hp3
       have b2 := (hl.keep (w' := W) (F' := F) (fun k hk => hW2.block k (hl.glt k hk)) hW2.size fun _ _ => ⟨id, id⟩)
       exact ⟨by rw [cell_of_block b1]; rfl, b2.cell 1, by rw [Hz.out]; exact b2.cell 5⟩)
      have Hp3r := hid hp3
      clear hl hlt hi hszx hW
      have Hrow2 := hid hrow2
      have HT2 := hid hT2
      have HW2 := hid HW
      clear hrow2 hT2 HW hrow hBx hpx hbx Hrow
      go_upto_region 27 with fail
      refine wp_region_held_drew (S := fun W => W.cell? ⟨P3, 0, none⟩ = some (.pointer (some ⟨l, 0, none⟩)) ∧ W.cell? ⟨l, 1, none⟩ = some (.int .u64 g.head.number) ∧ W.cell? ⟨l, 5, none⟩ = some (.slice ao6 z cap6)) (by kernel_rfl) ⟨p3, c1, c5⟩ (fun hHeld => ?_)
      refine held_take (v := ?p27v0) 0 rfl (by kernel_rfl) (by kernel_rfl) (by kernel_rfl) (fun _ _ _ h => h) (by rfl) hHeld ?p27y0 ?p27r0
      case p27y0 => (intro W hSw; obtain ⟨y0, y1, y2⟩ := hSw; go_simp; with_reducible rfl)
      simp only [Act.put, List.setIfInBounds_toArray, List.set_cons_zero, List.set_cons_succ]
      refine held_take (v := ?p27v1) 1 rfl (by kernel_rfl) (by kernel_rfl) (by kernel_rfl) (fun _ _ _ h => h) (by rfl) hHeld ?p27y1 ?p27r1
      case p27y1 => (intro W hSw; obtain ⟨y0, y1, y2⟩ := hSw; go_simp; with_reducible rfl)
      simp only [Act.put, List.setIfInBounds_toArray, List.set_cons_zero, List.set_cons_succ]
      refine held_take (v := ?p27v2) 2 rfl (by kernel_rfl) (by kernel_rfl) (by kernel_rfl) (fun _ _ _ h => h) (by rfl) hHeld ?p27y2 ?p27r2
      case p27y2 => (intro W hSw; obtain ⟨y0, y1, y2⟩ := hSw; go_simp; with_reducible rfl)
      simp only [Act.put, List.setIfInBounds_toArray, List.set_cons_zero, List.set_cons_succ]
      refine held_take (v := ?p27v3) 3 rfl (by kernel_rfl) (by kernel_rfl) (by kernel_rfl) (fun _ _ _ h => h) (by rfl) hHeld ?p27y3 ?p27r3
      case p27y3 => (intro W hSw; obtain ⟨y0, y1, y2⟩ := hSw; go_simp; with_reducible rfl)
      simp only [Act.put, List.setIfInBounds_toArray, List.set_cons_zero, List.set_cons_succ]
      refine held_take (v := ?p27v4) 4 rfl (by kernel_rfl) (by kernel_rfl) (by kernel_rfl) (fun _ _ _ h => h) (by rfl) hHeld ?p27y4 ?p27r4
      case p27y4 => (intro W hSw; obtain ⟨y0, y1, y2⟩ := hSw; go_simp; with_reducible rfl)
      simp only [Act.put, List.setIfInBounds_toArray, List.set_cons_zero, List.set_cons_succ]
      refine held_take (v := ?p27v5) 5 rfl (by kernel_rfl) (by kernel_rfl) (by kernel_rfl) (fun _ _ _ h => h) (by rfl) hHeld ?p27y5 ?p27r5
      case p27y5 => (intro W hSw; obtain ⟨y0, y1, y2⟩ := hSw; go_simp; with_reducible rfl)
      simp only [Act.put, List.setIfInBounds_toArray, List.set_cons_zero, List.set_cons_succ]
      refine held_take (v := ?p27v6) 6 rfl (by kernel_rfl) (by kernel_rfl) (by kernel_rfl) (fun _ _ _ h => h) (by rfl) hHeld ?p27y6 ?p27r6
      case p27y6 => (intro W hSw; obtain ⟨y0, y1, y2⟩ := hSw; go_simp; with_reducible rfl)
      simp only [Act.put, List.setIfInBounds_toArray, List.set_cons_zero, List.set_cons_succ]
      refine held_take (v := ?p27v7) 7 rfl (by kernel_rfl) (by kernel_rfl) (by kernel_rfl) (fun _ _ _ h => h) (by rfl) hHeld ?p27y7 ?p27r7
      case p27y7 => (intro W hSw; obtain ⟨y0, y1, y2⟩ := hSw; go_simp; with_reducible rfl)
      simp only [Act.put, List.setIfInBounds_toArray, List.set_cons_zero, List.set_cons_succ]
      refine held_take (v := ?p27v8) 8 rfl (by kernel_rfl) (by kernel_rfl) (by kernel_rfl) (fun _ _ _ h => h) (by rfl) hHeld ?p27y8 ?p27r8
      case p27y8 => (intro W hSw; obtain ⟨y0, y1, y2⟩ := hSw; go_simp; with_reducible rfl)
      simp only [Act.put, List.setIfInBounds_toArray, List.set_cons_zero, List.set_cons_succ]
      refine held_take (v := ?p27v9) 9 rfl (by kernel_rfl) (by kernel_rfl) (by kernel_rfl) (fun _ _ _ h => h) (by rfl) hHeld ?p27y9 ?p27r9
      case p27y9 => (intro W hSw; obtain ⟨y0, y1, y2⟩ := hSw; go_simp; with_reducible rfl)
      simp only [Act.put, List.setIfInBounds_toArray, List.set_cons_zero, List.set_cons_succ]
      refine held_take (v := ?p27v10) 10 rfl (by kernel_rfl) (by kernel_rfl) (by kernel_rfl) (fun _ _ _ h => h) (by rfl) hHeld ?p27y10 ?p27r10
      case p27y10 => (intro W hSw; obtain ⟨y0, y1, y2⟩ := hSw; go_simp; with_reducible rfl)
      simp only [Act.put, List.setIfInBounds_toArray, List.set_cons_zero, List.set_cons_succ]
      refine held_take (v := ?p27v11) 11 rfl (by kernel_rfl) (by kernel_rfl) (by kernel_rfl) (fun _ _ _ h => h) (by rfl) hHeld ?p27y11 ?p27r11
      case p27y11 => (intro W hSw; obtain ⟨y0, y1, y2⟩ := hSw; go_simp; with_reducible rfl)
      simp only [Act.put, List.setIfInBounds_toArray, List.set_cons_zero, List.set_cons_succ]
      refine held_take (v := ?p27v12) 12 rfl (by kernel_rfl) (by kernel_rfl) (by kernel_rfl) (fun _ _ _ h => h) (by rfl) hHeld ?p27y12 ?p27r12
      case p27y12 => (intro W hSw; obtain ⟨y0, y1, y2⟩ := hSw; go_simp; with_reducible rfl)
      simp only [Act.put, List.setIfInBounds_toArray, List.set_cons_zero, List.set_cons_succ]
      refine held_take (v := ?p27v13) 13 rfl (by kernel_rfl) (by kernel_rfl) (by kernel_rfl) (fun _ _ _ h => h) (by rfl) hHeld ?p27y13 ?p27r13
      case p27y13 => (intro W hSw; obtain ⟨y0, y1, y2⟩ := hSw; go_simp; with_reducible rfl)
      simp only [Act.put, List.setIfInBounds_toArray, List.set_cons_zero, List.set_cons_succ]
      refine held_take (v := ?p27v14) 14 rfl (by kernel_rfl) (by kernel_rfl) (by kernel_rfl) (fun _ _ _ h => h) (by rfl) hHeld ?p27y14 ?p27r14
      case p27y14 => (intro W hSw; obtain ⟨y0, y1, y2⟩ := hSw; go_simp; with_reducible rfl)
      simp only [Act.put, List.setIfInBounds_toArray, List.set_cons_zero, List.set_cons_succ]
      refine held_one 15 (by kernel_rfl) rfl (fun K hK => ?_)
      go_simp
      refine hK.out _ _ (HS3.out _ (((Below.refl wr.heap.size wr).alloc (Nat.le_refl _) _).drew)) (fun hHeld => ?_)
      clear hK K
      try simp only [Act.put, List.setIfInBounds_toArray, List.set_cons_zero, List.set_cons_succ]
      refine held_one 16 (by kernel_rfl) rfl (fun K hK => ?_)
      go_simp
      have hh0 : ((wr.alloc (.cells #[.int .u64 g.head.number, .int .i64 ((z : Int) + (n : Int)), .int .i64 pages] 104)).drew).heap[wr.heap.size]? = some (.cells #[.int .u64 g.head.number, .int .i64 ((z : Int) + (n : Int)), .int .i64 pages] 104 (0, 0)) := heap_alloc_new wr _
      have hh1 : Below wr.heap.size wr ((wr.alloc (.cells #[.int .u64 g.head.number, .int .i64 ((z : Int) + (n : Int)), .int .i64 pages] 104)).drew) := ((Below.refl wr.heap.size wr).alloc (Nat.le_refl _) _).drew
      have hh2 : ((wr.alloc (.cells #[.int .u64 g.head.number, .int .i64 ((z : Int) + (n : Int)), .int .i64 pages] 104)).drew).heap.size = wr.heap.size + 1 := by simp
      obtain ⟨wh, hwh⟩ : ∃ wh, wh = (wr.alloc (.cells #[.int .u64 g.head.number, .int .i64 ((z : Int) + (n : Int)), .int .i64 pages] 104)).drew := ⟨_, rfl⟩
      rw [← hwh] at hh0 hh1 hh2 ⊢
      refine hK.out _ _ (HS3.out _ hh1) (fun hHeld => ?_)
      clear hK K
      try simp only [Act.put, List.setIfInBounds_toArray, List.set_cons_zero, List.set_cons_succ]
      have Hh0 := hid hh0
      have Hh1 := hid hh1
      have Hh2 := hid hh2
      obtain ⟨p30, -, -⟩ := HS3.out _ hh1
      obtain ⟨HB, hHB⟩ : ∃ HB, HB = wr.heap.size := ⟨_, rfl⟩
      rw [← hHB] at hh0 ⊢
      have q0 := cell_of_block hh0 0
      have q1 := cell_of_block hh0 1
      have q2 := cell_of_block hh0 2
      simp only [List.getElem?_toArray, List.getElem?_cons_succ, List.getElem?_cons_zero] at q0 q1 q2
      have HHB := hid hHB
      refine wpAnyH_done (by kernel_rfl) ?_ _
      clear hHeld hwh hh0 hh1 hh2 c1 c5 p3 hw9 hp3 hHB
      have PU := fun W => lputs_any l (appHead g pages x) true W
      have eh : (appHead g pages x).frames = (z : Int) + (n : Int) := by
       show ((g.list.length + x.length : Nat) : Int) = _
       rw [Hz.out, Hn.out]
       omega
      unfold putsV hdV at PU
      rw [eh] at PU
      have PU := hid PU
      go_upto_region 28 with fail
      have hmf : ∀ (fn : Fn) (first cap : Array Value) (w : World), (Instr.makeFunc fn first cap).run Tryz.prog w = .ok (.func fn first cap) w := fun _ _ _ _ => rfl
      refine wp_region_held_drew (S := fun W => W.cell? ⟨P3, 0, none⟩ = some (.pointer (some ⟨l, 0, none⟩)) ∧ W.cell? ⟨HB, 0, none⟩ = some (.int .u64 g.head.number) ∧ W.cell? ⟨HB, 1, none⟩ = some (.int .i64 ((z : Int) + (n : Int))) ∧ W.cell? ⟨HB, 2, none⟩ = some (.int .i64 pages)) (by kernel_rfl) ⟨p30, q0, q1, q2⟩ (fun hHeld => ?_)
      clear p30 q0 q1 q2
      refine held_take (v := ?p28v0) 0 rfl (by kernel_rfl) (by kernel_rfl) (by kernel_rfl) (fun _ _ _ h => h) (by rfl) hHeld ?p28y0 ?p28r0
      case p28y0 => (intro W hSw; obtain ⟨y0, y1, y2, y3⟩ := hSw; go_simp; with_reducible rfl)
      simp only [Act.put, List.setIfInBounds_toArray, List.set_cons_zero, List.set_cons_succ]
      refine held_take (v := ?p28v1) 1 rfl (by kernel_rfl) (by kernel_rfl) (by kernel_rfl) (fun _ _ _ h => h) (by rfl) hHeld ?p28y1 ?p28r1
      case p28y1 => (intro W hSw; obtain ⟨y0, y1, y2, y3⟩ := hSw; go_simp; with_reducible rfl)
      simp only [Act.put, List.setIfInBounds_toArray, List.set_cons_zero, List.set_cons_succ]
      refine held_take (v := ?p28v2) 2 rfl (by kernel_rfl) (by kernel_rfl) (by kernel_rfl) (fun _ _ _ h => h) (by rfl) hHeld ?p28y2 ?p28r2
      case p28y2 => (intro W hSw; obtain ⟨y0, y1, y2, y3⟩ := hSw; go_simp; with_reducible rfl)
      simp only [Act.put, List.setIfInBounds_toArray, List.set_cons_zero, List.set_cons_succ]
      refine held_take (v := ?p28v3) 3 rfl (by kernel_rfl) (by kernel_rfl) (by kernel_rfl) (fun _ _ _ h => h) (by rfl) hHeld ?p28y3 ?p28r3
      case p28y3 => (intro W hSw; obtain ⟨y0, y1, y2, y3⟩ := hSw; go_simp; with_reducible rfl)
      simp only [Act.put, List.setIfInBounds_toArray, List.set_cons_zero, List.set_cons_succ]
      refine held_take (v := ?p28v4) 4 rfl (by kernel_rfl) (by kernel_rfl) (by kernel_rfl) (fun _ _ _ h => h) (by rfl) hHeld ?p28y4 ?p28r4
      case p28y4 => (intro W hSw; obtain ⟨y0, y1, y2, y3⟩ := hSw; go_simp; with_reducible rfl)
      simp only [Act.put, List.setIfInBounds_toArray, List.set_cons_zero, List.set_cons_succ]
      refine held_take (v := ?p28v5) 5 rfl (by kernel_rfl) (by kernel_rfl) (by kernel_rfl) (fun _ _ _ h => h) (by rfl) hHeld ?p28y5 ?p28r5
      case p28y5 => (intro W hSw; obtain ⟨y0, y1, y2, y3⟩ := hSw; go_simp; with_reducible rfl)
      simp only [Act.put, List.setIfInBounds_toArray, List.set_cons_zero, List.set_cons_succ]
      refine held_take (v := ?p28v6) 6 rfl (by kernel_rfl) (by kernel_rfl) (by kernel_rfl) (fun _ _ _ h => h) (by rfl) hHeld ?p28y6 ?p28r6
      case p28y6 => (intro W hSw; obtain ⟨y0, y1, y2, y3⟩ := hSw; go_simp; with_reducible rfl)
      simp only [Act.put, List.setIfInBounds_toArray, List.set_cons_zero, List.set_cons_succ]
      refine held_take (v := ?p28v7) 7 rfl (by kernel_rfl) (by kernel_rfl) (by kernel_rfl) (fun _ _ _ h => h) (by rfl) hHeld ?p28y7 ?p28r7
      case p28y7 => (intro W hSw; obtain ⟨y0, y1, y2, y3⟩ := hSw; go_simp; with_reducible rfl)
      simp only [Act.put, List.setIfInBounds_toArray, List.set_cons_zero, List.set_cons_succ]
      refine held_take (v := ?p28v9) 9 rfl (by kernel_rfl) (by kernel_rfl) (by kernel_rfl) (fun _ _ _ h => h) (by rfl) hHeld ?p28y9 ?p28r9
      case p28y9 => (intro W hSw; obtain ⟨y0, y1, y2, y3⟩ := hSw; go_simp; with_reducible rfl)
      simp only [Act.put, List.setIfInBounds_toArray, List.set_cons_zero, List.set_cons_succ]
      refine held_take (v := ?p28v10) 10 rfl (by kernel_rfl) (by kernel_rfl) (by kernel_rfl) (fun _ _ _ h => h) (by rfl) hHeld ?p28y10 ?p28r10
      case p28y10 => (intro W hSw; obtain ⟨y0, y1, y2, y3⟩ := hSw; go_simp; with_reducible rfl)
      simp only [Act.put, List.setIfInBounds_toArray, List.set_cons_zero, List.set_cons_succ]
      refine held_one 8 (by kernel_rfl) rfl (fun K hK => ?_)
      go_simp
      refine (PU.out _).mono ?_
      rintro e w3 ⟨rfl, hpu, hb3⟩
      have hb3 := below_undrew hb3
      have hb3r : Below wr.heap.size wr w3 := Hh1.out.trans (hb3.mono (by have := Hh2.out; omega))
      have HS28 := hid (show ∀ W, Below w3.heap.size w3 W → W.cell? ⟨P3, 0, none⟩ = some (.pointer (some ⟨l, 0, none⟩)) ∧ W.cell? ⟨HB, 0, none⟩ = some (.int .u64 g.head.number) ∧ W.cell? ⟨HB, 1, none⟩ = some (.int .i64 ((z : Int) + (n : Int))) ∧ W.cell? ⟨HB, 2, none⟩ = some (.int .i64 pages) from fun W hW2 => by
       have b1 := (hb3r.block _ (lt_of_block Hp3r.out)).trans Hp3r.out
       have b1 := (hW2.block _ (lt_of_block b1)).trans b1
       have b2 := (hb3.block _ (lt_of_block Hh0.out)).trans Hh0.out
       have b2 := (hW2.block _ (lt_of_block b2)).trans b2
       rw [← HHB.out] at b2
       exact ⟨by rw [cell_of_block b1]; rfl, by rw [cell_of_block b2]; rfl, by rw [cell_of_block b2]; rfl, by rw [cell_of_block b2]; rfl⟩)
      try dsimp only
      refine hK.out _ _ (HS28.out _ (Below.refl _ _)) (fun hHeld => ?_)
      clear hK K
      try simp only [Act.put, List.setIfInBounds_toArray, List.set_cons_zero, List.set_cons_succ]
      have Hpu := hid (show PutsAt w3 l (appHead g pages x) true wh.heap.size (wh.heap.size + 1) (wh.heap.size + 1 + 1) from hpu)
      have Hb3 := hid hb3
      have Hb3r := hid hb3r
      clear hpu hb3 hb3r PU HS3
      refine held_one 11 (by kernel_rfl) rfl (fun K hK => ?_)
      go_simp
      have hblk := heap_alloc_new w3 (.cells #[.func (.func 100) #[.pointer (some ⟨l, 0, none⟩)] #[], .func (.func 110) #[] #[.pointer (some ⟨P3, 0, none⟩), .pointer (some ⟨bb, 0, none⟩)], .func (.func 107) #[.pointer (some ⟨l, 0, none⟩)] #[], .func (.func 122) #[] #[.pointer (some ⟨wh.heap.size + 1 + 1, 0, none⟩), .pointer (some ⟨wh.heap.size + 1, 0, none⟩), .pointer (some ⟨wh.heap.size, 0, none⟩)], .func (.func 107) #[.pointer (some ⟨l, 0, none⟩)] #[]] 48)
      have hb4 := (Below.refl w3.heap.size w3).alloc (Nat.le_refl _) (.cells #[.func (.func 100) #[.pointer (some ⟨l, 0, none⟩)] #[], .func (.func 110) #[] #[.pointer (some ⟨P3, 0, none⟩), .pointer (some ⟨bb, 0, none⟩)], .func (.func 107) #[.pointer (some ⟨l, 0, none⟩)] #[], .func (.func 122) #[] #[.pointer (some ⟨wh.heap.size + 1 + 1, 0, none⟩), .pointer (some ⟨wh.heap.size + 1, 0, none⟩), .pointer (some ⟨wh.heap.size, 0, none⟩)], .func (.func 107) #[.pointer (some ⟨l, 0, none⟩)] #[]] 48)
      obtain ⟨w4, hw4⟩ : ∃ w4, w4 = w3.alloc (.cells #[.func (.func 100) #[.pointer (some ⟨l, 0, none⟩)] #[], .func (.func 110) #[] #[.pointer (some ⟨P3, 0, none⟩), .pointer (some ⟨bb, 0, none⟩)], .func (.func 107) #[.pointer (some ⟨l, 0, none⟩)] #[], .func (.func 122) #[] #[.pointer (some ⟨wh.heap.size + 1 + 1, 0, none⟩), .pointer (some ⟨wh.heap.size + 1, 0, none⟩), .pointer (some ⟨wh.heap.size, 0, none⟩)], .func (.func 107) #[.pointer (some ⟨l, 0, none⟩)] #[]] 48) := ⟨_, rfl⟩
      rw [← hw4] at hblk hb4 ⊢
      refine hK.out _ _ (HS28.out _ hb4) (fun hHeld => ?_)
      clear hK K
      try simp only [Act.put, List.setIfInBounds_toArray, List.set_cons_zero, List.set_cons_succ]
      clear hw4
      have hb4r : Below wr.heap.size wr w4 := Hb3r.out.trans (hb4.mono Hb3r.out.size)
      have hL4 := HW2.out.below hb4r
      have hp4 := (hb4r.block _ (lt_of_block Hp3r.out)).trans Hp3r.out
      have hB4 := bld_keep HBx.out fun k _ hk => hb4r.block k hk
      have hpr4 := (hb4r.block _ (lt_of_block Hpx.out)).trans Hpx.out
      have hh4 := ((Hb3.out.trans (hb4.mono Hb3.out.size)).block _ (lt_of_block Hh0.out)).trans Hh0.out
      rw [← HHB.out] at hh4
      have hrow4 := row_keep Hrow2.out fun k hk => hb4r.block k (row_base Hrow2.out hk).2
      have hpu4 : PutsAt w4 l (appHead g pages x) true wh.heap.size (wh.heap.size + 1) (wh.heap.size + 1 + 1) := by
       obtain ⟨p1, p2, p3⟩ := Hpu.out
       exact ⟨(hb4.block _ (lt_of_block p1)).trans p1, (hb4.block _ (lt_of_block p2)).trans p2, (hb4.block _ (lt_of_block p3)).trans p3⟩
      have hnew1 : ∀ k, bb ≤ k → ¬ F.own k ∧ ¬ F.sh k ∧ ¬ G k := fun k hk => HH1.out.new (by rw [← Hbb.out]; exact hk)
      have hnewP : ¬ F.own P3 ∧ ¬ F.sh P3 ∧ ¬ G P3 := HL.out.new (by rw [HP3.out]; exact Nat.le_refl _)
      have hszs : bb + 1 + 1 ≤ wr.heap.size ∧ wr.heap.size ≤ wh.heap.size ∧ wh.heap.size ≤ w3.heap.size := ⟨Hszx.out, Hh1.out.size, Hb3.out.size⟩
      have hTl : T.1.length ≤ 1099511627776 := by
       have h1 : T.1.length ≤ 576 * (fs.take n).length := by rw [HT.out]; exact putsN_length _ _ _
       have h2 : (fs.take n).length ≤ n := by simp; omega
       have := Hfull.out
       omega
      have hpt : ∀ k, (k = wh.heap.size ∨ k = wh.heap.size + 1 ∨ k = wh.heap.size + 1 + 1) → ¬ F.own k ∧ ¬ F.sh k ∧ ¬ withBld w4 G bb bb k := fun k hk => by
       obtain ⟨p1, p2, p3⟩ := hpu4
       have hk1 : bb + 1 + 1 ≤ k := by omega
       obtain ⟨n1, n2, n3⟩ := hnew1 k (by omega)
       refine ⟨n1, n2, ?_⟩
       rcases hk with rfl | rfl | rfl
       ·exact not_withBld p1 (by decide) (by omega) n3
       ·exact not_withBld p2 (by decide) (by omega) n3
       ·exact not_withBld p3 (by decide) (by omega) n3
      have hnum := HL.out.ok.num
      have hN2 : N + 1048576 ≤ 1099511527776 := hN
      have hT3 : (appText g pages x).1 = T.1 := by rw [HT2.out]
      have ST := lsteps_any hL4 N Hsm.out (appSteps g pages x) [.func (.func 100) #[.pointer (some ⟨l, 0, none⟩)] #[], .func (.func 110) #[] #[.pointer (some ⟨P3, 0, none⟩), .pointer (some ⟨bb, 0, none⟩)], .func (.func 107) #[.pointer (some ⟨l, 0, none⟩)] #[], putsV wh.heap.size (wh.heap.size + 1) (wh.heap.size + 1 + 1), .func (.func 107) #[.pointer (some ⟨l, 0, none⟩)] #[]] rfl (by show 5 ≤ 1000; decide) w3.heap.size 5
       (fun i v hv => by rw [cell_of_block hblk]; simpa [putsV] using hv) (lt_of_block hblk) (fun i => if i ≤ 1 then G else withBld w4 G bb bb) rfl
       (fun i _ k hk => by
        show withBld w4 G bb bb k
        by_cases h : i ≤ 1
        ·simp only [h, if_true] at hk; exact .inl hk
        ·simp only [h, if_false] at hk; exact hk)
       ⟨(hnew1 _ (by omega)).1, fun i hk => by
        by_cases h : i ≤ 1
        ·simp only [h, if_true] at hk; exact (hnew1 _ (by omega)).2.2 hk
        ·simp only [h, if_false] at hk; exact not_withBld hblk (by decide) (by omega) (hnew1 _ (by omega)).2.2 hk⟩
       (fun i v m hv hm => by
        match i, hv, hm with
        | 0, hv, hm =>
         simp only [appSteps, List.getElem?_cons_zero, Option.some.injEq] at hv hm
         subst hv hm
         exact does_mend _ (by omega)
        | 1, hv, hm =>
         simp only [appSteps, List.getElem?_cons_zero, List.getElem?_cons_succ, Option.some.injEq] at hv hm
         subst hv hm
         exact does_append1 _ (by omega) hL4 P3 bb bb _ (by rw [hT3]; exact hTl) hp4 ⟨hnewP.1, hnewP.2.2⟩ (by rw [hT3]; exact hB4) (by have := hb4.size; omega) (fun k hk => ⟨(hnew1 k hk).1, (hnew1 k hk).2.2⟩)
        | 2, hv, hm =>
         simp only [appSteps, List.getElem?_cons_zero, List.getElem?_cons_succ, Option.some.injEq] at hv hm
         subst hv hm
         exact does_sync _ (by omega)
        | 3, hv, hm =>
         simp only [appSteps, List.getElem?_cons_zero, List.getElem?_cons_succ, Option.some.injEq] at hv hm
         subst hv hm
         exact does_puts _ (by omega) (show HdWf (appHead g pages x) from hnum) hpu4 hpt
        | 4, hv, hm =>
         simp only [appSteps, List.getElem?_cons_zero, List.getElem?_cons_succ, Option.some.injEq] at hv hm
         subst hv hm
         exact does_sync _ (by omega))
      obtain ⟨y, hy⟩ : ∃ y, y = lstepsM (appSteps g pages x) g d := ⟨_, rfl⟩
      have HM2 := HM.out
      rw [← hy] at ST HM2
      have Hfull2 : ¬ 256 < g.list.length + n := by have := Hfull.out; rwa [Hz.out] at this
      rw [if_neg Hfull2] at HM2
      have hkeep := keeps_app g pages x g d
      rw [← hy] at hkeep
      have hbw4 : Below w.heap.size w w4 := ((HBA.out.trans (HBw.out.mono HBA.out.size)).trans (Hbx.out.mono (by have := HBA.out.size; have := HBw.out.size; have := Hbb.out; omega))).trans (hb4r.mono (by have := HBA.out.size; have := HBw.out.size; have := Hbb.out; have := Hszx.out; omega))
      have hwb : w.heap.size ≤ bb := by have := HBA.out.size; have := HBw.out.size; have := Hbb.out; omega
      have STEP4 := hid (show LgStep F F G (withBld w4 G bb bb) w w4 from ⟨Frm.of_below hbw4, fun _ h => .inl h, fun _ h => .inl h, fun k hk => hk.elim .inl fun h => .inr (Nat.le_trans hwb h.2.1)⟩)
      have KEEP := hid (show ∀ W F5 G5, LgStep F F5 (withBld w4 G bb bb) G5 w4 W → W.heap[P3]? = some (.cells #[.pointer (some ⟨l, 0, none⟩)] 77 (0, 0)) ∧ W.heap[HB]? = some (.cells #[.int .u64 g.head.number, .int .i64 ((z : Int) + (n : Int)), .int .i64 pages] 104 (0, 0)) ∧ W.heap[bb + 1]? = some (.cells #[.int .u32 T.2.1, .int .u32 T.2.2] 108 (0, 0)) ∧ W.ownsRow (bb + 1 + 1) 118 3 u11 n (frsCells (frsOf pages x)) from fun W F5 G5 hst => by
       have nP : ¬ withBld w4 G bb bb P3 := not_withBld hp4 (by decide) (by have := P3lt.out; have := Hbb.out; omega) hnewP.2.2
       have nH : ¬ withBld w4 G bb bb HB := not_withBld hh4 (by decide) (by have := HHB.out; omega) (hnew1 _ (by have := HHB.out; omega)).2.2
       have nB : ¬ withBld w4 G bb bb (bb + 1) := not_withBld hpr4 (by decide) (by omega) (hnew1 _ (by omega)).2.2
       refine ⟨(hst.frm.block P3 (lt_of_block hp4) (fun e => e.elim hnewP.1 nP)).trans hp4, (hst.frm.block HB (lt_of_block hh4) (fun e => e.elim (hnew1 _ (by have := HHB.out; omega)).1 nH)).trans hh4, (hst.frm.block (bb + 1) (lt_of_block hpr4) (fun e => e.elim (hnew1 _ (by omega)).1 nB)).trans hpr4, ?_⟩
       refine row_keep hrow4 fun r hr => ?_
       have hbr := row_base hrow4 hr
       rcases hrow4.2 with ⟨e, _⟩ | ⟨g', cap', cur', e, _, hh, _⟩
       ·rw [e] at hr; cases hr
       ·rw [e] at hr
        cases hr
        exact hst.frm.block _ hbr.2 (fun e => e.elim (hnew1 _ (by omega)).1 (not_withBld hh (by decide) (by omega) (hnew1 _ (by omega)).2.2)))
      have ST := hid ST
      have HM2 := hid HM2
      have Hkeep := hid hkeep
      have Hmany2 := hid hmany
      have Hpwf := hid (show PairWf (appText g pages x).2 from putsN_pair _ _ _ HL.out.ok.pair)
      have Hwb := hid hwb
      have Hnew1 := hid hnew1
      clear hbw4 hwb hkeep hy hpt hnew1 hnewP hszs hTl hnum hN2 hT3 hpu4 hrow4 hh4 hpr4 hB4 hp4 hL4 hb4r hb4 hblk HS28 HM Hpu hmany HBx Hpx Hbx
      refine held_one 12 (by kernel_rfl) rfl (fun K hK => ?_)
      go_simp
      refine (ST.out).mono ?_
      rintro e w5 ⟨rfl, hd5⟩
      obtain ⟨F5, G5, h5, s5⟩ := hd5
      have s5 : LgStep F F5 (withBld w4 G bb bb) G5 w4 w5 := s5
      obtain ⟨kp, kh, kb, kr⟩ := KEEP.out w5 F5 G5 s5
      have p0 := cell_of_block kp 0
      have q0 := cell_of_block kh 0
      have q1 := cell_of_block kh 1
      have q2 := cell_of_block kh 2
      simp only [List.getElem?_toArray, List.getElem?_cons_succ, List.getElem?_cons_zero] at p0 q0 q1 q2
      try dsimp only
      refine hK.out _ _ (⟨p0, q0, q1, q2⟩) (fun hHeld => ?_)
      clear hK K
      try simp only [Act.put, List.setIfInBounds_toArray, List.set_cons_zero, List.set_cons_succ]
      clear p0 q0 q1 q2
      refine held_take (v := ?p28bv13) 13 rfl (by kernel_rfl) (by kernel_rfl) (by kernel_rfl) (fun _ _ _ h => h) (by rfl) hHeld ?p28by13 ?p28br13
      case p28by13 => (intro W hSw; obtain ⟨y0, y1, y2, y3⟩ := hSw; go_simp; with_reducible rfl)
      simp only [Act.put, List.setIfInBounds_toArray, List.set_cons_zero, List.set_cons_succ]
      refine wpAnyH_done (by kernel_rfl) ?_ _
      have DONE := hid (show LgStep F F5 G G5 w w5 from STEP4.out.trans s5)
      have H5 := hid h5
      have Kp := hid kp
      have Kh := hid kh
      have Kb := hid kb
      have Kr := hid kr
      clear h5 s5 kp kh kb kr hHeld ST KEEP STEP4
      by_cases hy0 : y.1 = 0
      ·have e0 : (y.1 != 0) = false := by simp [hy0]
       have HM3 := HM2.out
       rw [if_neg (by simpa using hy0)] at HM3
       have HM3 := hid HM3
       clear HM2 hy0
       obtain ⟨lv5, hl5⟩ := H5.out.log
       have af := hl5.free
       have a1 := hl5.cell 1
       have a2 := hl5.cell 2
       have a3 := hl5.cell 3
       have a4 := hl5.cell 4
       have a6 := hl5.cell 6
       have a7 := hl5.cell 7
       simp only [logCells, List.getElem?_cons_succ, List.getElem?_cons_zero] at a1 a2 a3 a4 a6 a7
       have nPl : P3 ≠ l := fun e => by have h1 := Kp.out; rw [e, hl5.blk] at h1; injection h1 with h1; injection h1 with _ h2 _; exact absurd h2 (by decide)
       have nHl : HB ≠ l := fun e => by have h1 := Kh.out; rw [e, hl5.blk] at h1; injection h1 with h1; injection h1 with _ h2 _; exact absurd h2 (by decide)
       have nBl : bb + 1 ≠ l := fun e => by have h1 := Kb.out; rw [e, hl5.blk] at h1; injection h1 with h1; injection h1 with _ h2 _; exact absurd h2 (by decide)
       have HS31 := hid (show ∀ W : World, (∀ j : Nat, j ≠ l → W.heap[j]? = w5.heap[j]?) → W.cell? ⟨P3, 0, none⟩ = some (.pointer (some ⟨l, 0, none⟩)) ∧ W.cell? ⟨HB, 0, none⟩ = some (.int .u64 g.head.number) ∧ W.cell? ⟨HB, 1, none⟩ = some (.int .i64 ((z : Int) + (n : Int))) ∧ W.cell? ⟨HB, 2, none⟩ = some (.int .i64 pages) ∧ W.cell? ⟨bb + 1, 0, none⟩ = some (.int .u32 T.2.1) ∧ W.cell? ⟨bb + 1, 1, none⟩ = some (.int .u32 T.2.2) from fun W hW => by
        have b1 := (hW P3 nPl).trans Kp.out
        have b2 := (hW HB nHl).trans Kh.out
        have b3 := (hW (bb + 1) nBl).trans Kb.out
        exact ⟨by rw [cell_of_block b1]; rfl, by rw [cell_of_block b2]; rfl, by rw [cell_of_block b2]; rfl, by rw [cell_of_block b2]; rfl, by rw [cell_of_block b3]; rfl, by rw [cell_of_block b3]; rfl⟩)
       have SAME := hid (show ∀ (W : World) (o : Nat) (u : Value), (∀ j : Nat, j ≠ l → W.heap[j]? = w5.heap[j]?) → ∀ j : Nat, j ≠ l → (W.setCell ⟨l, o, none⟩ u).heap[j]? = w5.heap[j]? from fun W o u h j hj => by rw [Below.heap_setCell _ ⟨l, _, none⟩ _ j hj]; exact h j hj)
       have Hl5 := hid hl5
       go_upto_region 31 with fail
       refine wp_region_held_drew (S := fun W => W.cell? ⟨P3, 0, none⟩ = some (.pointer (some ⟨l, 0, none⟩)) ∧ W.cell? ⟨HB, 0, none⟩ = some (.int .u64 g.head.number) ∧ W.cell? ⟨HB, 1, none⟩ = some (.int .i64 ((z : Int) + (n : Int))) ∧ W.cell? ⟨HB, 2, none⟩ = some (.int .i64 pages) ∧ W.cell? ⟨bb + 1, 0, none⟩ = some (.int .u32 T.2.1) ∧ W.cell? ⟨bb + 1, 1, none⟩ = some (.int .u32 T.2.2)) (by kernel_rfl) (HS31.out w5.drew fun _ _ => rfl) (fun hHeld => ?_)
       clear hl5 nPl nHl nBl
       refine held_take (v := ?p31v0) 0 rfl (by kernel_rfl) (by kernel_rfl) (by kernel_rfl) (fun _ _ _ h => h) (by rfl) hHeld ?p31y0 ?p31r0
       case p31y0 => (intro W hSw; obtain ⟨y0, y1, y2, y3, y4, y5⟩ := hSw; go_simp; with_reducible rfl)
       simp only [Act.put, List.setIfInBounds_toArray, List.set_cons_zero, List.set_cons_succ]
       refine held_take (v := ?p31v1) 1 rfl (by kernel_rfl) (by kernel_rfl) (by kernel_rfl) (fun _ _ _ h => h) (by rfl) hHeld ?p31y1 ?p31r1
       case p31y1 => (intro W hSw; obtain ⟨y0, y1, y2, y3, y4, y5⟩ := hSw; go_simp; with_reducible rfl)
       simp only [Act.put, List.setIfInBounds_toArray, List.set_cons_zero, List.set_cons_succ]
       refine held_take (v := ?p31v2) 2 rfl (by kernel_rfl) (by kernel_rfl) (by kernel_rfl) (fun _ _ _ h => h) (by rfl) hHeld ?p31y2 ?p31r2
       case p31y2 => (intro W hSw; obtain ⟨y0, y1, y2, y3, y4, y5⟩ := hSw; go_simp; with_reducible rfl)
       simp only [Act.put, List.setIfInBounds_toArray, List.set_cons_zero, List.set_cons_succ]
       refine held_take (v := ?p31v3) 3 rfl (by kernel_rfl) (by kernel_rfl) (by kernel_rfl) (fun _ _ _ h => h) (by rfl) hHeld ?p31y3 ?p31r3
       case p31y3 => (intro W hSw; obtain ⟨y0, y1, y2, y3, y4, y5⟩ := hSw; go_simp; with_reducible rfl)
       simp only [Act.put, List.setIfInBounds_toArray, List.set_cons_zero, List.set_cons_succ]
       refine held_take (v := ?p31v4) 4 rfl (by kernel_rfl) (by kernel_rfl) (by kernel_rfl) (fun _ _ _ h => h) (by rfl) hHeld ?p31y4 ?p31r4
       case p31y4 => (intro W hSw; obtain ⟨y0, y1, y2, y3, y4, y5⟩ := hSw; go_simp; with_reducible rfl)
       simp only [Act.put, List.setIfInBounds_toArray, List.set_cons_zero, List.set_cons_succ]
       refine held_take (v := ?p31v5) 5 rfl (by kernel_rfl) (by kernel_rfl) (by kernel_rfl) (fun _ _ _ h => h) (by rfl) hHeld ?p31y5 ?p31r5
       case p31y5 => (intro W hSw; obtain ⟨y0, y1, y2, y3, y4, y5⟩ := hSw; go_simp; with_reducible rfl)
       simp only [Act.put, List.setIfInBounds_toArray, List.set_cons_zero, List.set_cons_succ]
       refine held_take (v := ?p31v6) 6 rfl (by kernel_rfl) (by kernel_rfl) (by kernel_rfl) (fun _ _ _ h => h) (by rfl) hHeld ?p31y6 ?p31r6
       case p31y6 => (intro W hSw; obtain ⟨y0, y1, y2, y3, y4, y5⟩ := hSw; go_simp; with_reducible rfl)
       simp only [Act.put, List.setIfInBounds_toArray, List.set_cons_zero, List.set_cons_succ]
       refine held_one 7 (by kernel_rfl) rfl (fun K hK => ?_)
       go_simp
       obtain ⟨wa, hwa⟩ : ∃ wa, wa = (((w5.setCell ⟨l, 1, none⟩ (.int .u64 g.head.number)).setCell ⟨l, 2, none⟩ (.int .i64 ((z : Int) + (n : Int)))).setCell ⟨l, 3, none⟩ (.int .i64 pages)).drew := ⟨_, rfl⟩
       rw [← hwa]
       have sma : ∀ j : Nat, j ≠ l → wa.heap[j]? = w5.heap[j]? := by
        rw [hwa]
        exact SAME.out _ 3 (.int .i64 pages) (SAME.out _ 2 (.int .i64 ((z : Int) + (n : Int))) (SAME.out w5 1 (.int .u64 g.head.number) (fun _ _ => rfl)))
       have bka : wa.heap[l]? = some (.cells (logCells b { y.2.1 with head := ⟨g.head.number, (z : Int) + (n : Int), pages⟩ } lv5).toArray 110 (0, 0)) := by
        rw [hwa]
        exact (heap_setCell_same (heap_setCell_same (heap_setCell_same Hl5.out.blk 1 (.int .u64 g.head.number)) 2 (.int .i64 ((z : Int) + (n : Int)))) 3 (.int .i64 pages)).trans rfl
       have fma : Frm (fun k => k = l) w5 wa := by
        rw [hwa]
        exact ((((Frm.refl (fun k => k = l) w5).setCell (p := ⟨l, 1, none⟩) (.inl rfl) _).setCell (p := ⟨l, 2, none⟩) (.inl rfl) _).setCell (p := ⟨l, 3, none⟩) (.inl rfl) _).drew
       clear hwa
       refine hK.out _ _ (HS31.out _ sma) (fun hHeld => ?_)
       clear hK K
       try simp only [Act.put, List.setIfInBounds_toArray, List.set_cons_zero, List.set_cons_succ]
       clear a1 a2 a3 a4 a6 a7 af
       have a4 : wa.cell? ⟨l, 4, none⟩ = some (.bool y.2.1.has) := (cell_of_block bka 4).trans rfl
       have af := free_of_block bka 4
       refine held_take (v := ?q31v8) 8 rfl (by kernel_rfl) (by kernel_rfl) (by kernel_rfl) (fun _ _ _ h => h) (by rfl) hHeld ?q31y8 ?q31r8
       case q31y8 => (intro W hSw; obtain ⟨y0, y1, y2, y3, y4, y5⟩ := hSw; go_simp; with_reducible rfl)
       simp only [Act.put, List.setIfInBounds_toArray, List.set_cons_zero, List.set_cons_succ]
       refine held_take (v := ?q31v9) 9 rfl (by kernel_rfl) (by kernel_rfl) (by kernel_rfl) (fun _ _ _ h => h) (by rfl) hHeld ?q31y9 ?q31r9
       case q31y9 => (intro W hSw; obtain ⟨y0, y1, y2, y3, y4, y5⟩ := hSw; go_simp; with_reducible rfl)
       simp only [Act.put, List.setIfInBounds_toArray, List.set_cons_zero, List.set_cons_succ]
       refine held_one 10 (by kernel_rfl) rfl (fun K hK => ?_)
       go_simp
       obtain ⟨wb, hwb⟩ : ∃ wb, wb = wa.setCell ⟨l, 4, none⟩ (.bool true) := ⟨_, rfl⟩
       rw [← hwb]
       have smb : ∀ j : Nat, j ≠ l → wb.heap[j]? = w5.heap[j]? := by
        rw [hwb]
        exact SAME.out _ 4 (.bool true) sma
       have bkb : wb.heap[l]? = some (.cells (logCells b { y.2.1 with head := ⟨g.head.number, (z : Int) + (n : Int), pages⟩, has := true } lv5).toArray 110 (0, 0)) := by
        rw [hwb]
        exact (heap_setCell_same bka 4 (.bool true)).trans rfl
       have fmb : Frm (fun k => k = l) w5 wb := by
        rw [hwb]
        exact fma.setCell (p := ⟨l, 4, none⟩) (.inl rfl) _
       clear hwb sma bka fma a4 af
       refine hK.out _ _ (HS31.out _ smb) (fun hHeld => ?_)
       clear hK K
       try simp only [Act.put, List.setIfInBounds_toArray, List.set_cons_zero, List.set_cons_succ]
       have a6 : wb.cell? ⟨l, 6, none⟩ = some (.int .u32 y.2.1.pair.1) := (cell_of_block bkb 6).trans rfl
       have a7 : wb.cell? ⟨l, 7, none⟩ = some (.int .u32 y.2.1.pair.2) := (cell_of_block bkb 7).trans rfl
       have af6 := free_of_block bkb 6
       have af7 := free_of_block bkb 7
       refine held_take (v := ?r31v11) 11 rfl (by kernel_rfl) (by kernel_rfl) (by kernel_rfl) (fun _ _ _ h => h) (by rfl) hHeld ?r31y11 ?r31r11
       case r31y11 => (intro W hSw; obtain ⟨y0, y1, y2, y3, y4, y5⟩ := hSw; go_simp; with_reducible rfl)
       simp only [Act.put, List.setIfInBounds_toArray, List.set_cons_zero, List.set_cons_succ]
       refine held_take (v := ?r31v12) 12 rfl (by kernel_rfl) (by kernel_rfl) (by kernel_rfl) (fun _ _ _ h => h) (by rfl) hHeld ?r31y12 ?r31r12
       case r31y12 => (intro W hSw; obtain ⟨y0, y1, y2, y3, y4, y5⟩ := hSw; go_simp; with_reducible rfl)
       simp only [Act.put, List.setIfInBounds_toArray, List.set_cons_zero, List.set_cons_succ]
       refine held_one 13 (by kernel_rfl) rfl (fun K hK => ?_)
       go_simp
       obtain ⟨wc, hwc⟩ : ∃ wc, wc = (wb.setCell ⟨l, 6, none⟩ (.int .u32 T.2.1)).setCell ⟨l, 7, none⟩ (.int .u32 T.2.2) := ⟨_, rfl⟩
       rw [← hwc]
       have smc : ∀ j : Nat, j ≠ l → wc.heap[j]? = w5.heap[j]? := by
        rw [hwc]
        exact SAME.out _ 7 (.int .u32 T.2.2) (SAME.out _ 6 (.int .u32 T.2.1) smb)
       have bkc : wc.heap[l]? = some (.cells (logCells b (⟨⟨g.head.number, (z : Int) + (n : Int), pages⟩, true, y.2.1.list, T.2, y.2.1.torn, y.2.1.off⟩ : Lg) lv5).toArray 110 (0, 0)) := by
        rw [hwc]
        exact (heap_setCell_same (heap_setCell_same bkb 6 (.int .u32 T.2.1)) 7 (.int .u32 T.2.2)).trans rfl
       have fmc : Frm (fun k => k = l) w5 wc := by
        rw [hwc]
        exact (fmb.setCell (p := ⟨l, 6, none⟩) (.inl rfl) _).setCell (p := ⟨l, 7, none⟩) (.inl rfl) _
       clear hwc smb bkb fmb a6 a7 af6 af7
       refine hK.out _ _ (HS31.out _ smc) (fun hHeld => ?_)
       clear hK K
       try simp only [Act.put, List.setIfInBounds_toArray, List.set_cons_zero, List.set_cons_succ]
       refine wpAnyH_done (by kernel_rfl) ?_ _
       have hl6 : LogMem wc l b F5 G5 (⟨⟨g.head.number, (z : Int) + (n : Int), pages⟩, true, y.2.1.list, T.2, y.2.1.torn, y.2.1.off⟩ : Lg) lv5 := Hl5.out.turn fmc bkc rfl ⟨HL.out.ok.num, (show (0 : Int) ≤ pages ∧ pages ≤ 256 from ⟨by have := Hp.out; omega, Hp.out.2⟩), (show (0 : Int) ≤ (z : Int) + (n : Int) ∧ (z : Int) + (n : Int) ≤ 256 from ⟨by omega, by have := Hfull.out; omega⟩), (show PairWf T.2 by rw [HT2.out]; exact Hpwf.out), Hl5.out.ok.many, Hl5.out.ok.data⟩
       have hd6 : DiskAt wc b F5 y.2.2 := H5.out.disk.keep (fun k hk => fmc.block k (hk.elim (H5.out.disk.olt k) (H5.out.disk.slt k)) (fun e => by
        have h1 := Hl5.out.gout l Hl5.out.lown
        rw [e] at hk
        exact hk.elim h1.1 h1.2)) fmc.size
       have hP6 := (smc P3 (fun e => by have h1 := Kp.out; rw [e, Hl5.out.blk] at h1; injection h1 with h1; injection h1 with _ h2 _; exact absurd h2 (by decide))).trans Kp.out
       have hr6 := row_keep Kr.out (w' := wc) fun r hr => smc r (fun e => by
        rcases Kr.out.2 with ⟨e2, _⟩ | ⟨g', cap', cur', e2, _, hh, _⟩
        ·rw [e2] at hr; cases hr
        ·rw [e2] at hr
         cases hr
         rw [show g' = l from e, Hl5.out.blk] at hh
         injection hh with hh
         injection hh with _ h2 _
         exact absurd h2 (by decide))
       have DONE6 := hid (show LgStep F F5 G G5 w wc from DONE.out.trans ⟨fmc.mono (fun k hk => .inr (hk ▸ Hl5.out.lown)), fun _ h => .inl h, fun _ h => .inl h, fun _ h => .inl h⟩)
       obtain ⟨g6, hg6⟩ : ∃ g6 : Lg, g6 = (⟨⟨g.head.number, (z : Int) + (n : Int), pages⟩, true, y.2.1.list, T.2, y.2.1.torn, y.2.1.off⟩ : Lg) := ⟨_, rfl⟩
       rw [← hg6] at hl6
       obtain ⟨ao7, cap7, rfl, -⟩ := hl6.slice
       have c5 := hl6.cell 5
       have f5 := hl6.free 5
       simp only [logCells, List.getElem?_cons_succ, List.getElem?_cons_zero] at c5
       have p0 := cell_of_block hP6 0
       simp only [List.getElem?_toArray, List.getElem?_cons_zero] at p0
       have Hl6 := hid hl6
       have Hd6 := hid hd6
       have HP6 := hid hP6
       have Hr6 := hid hr6
       have Hg6 := hid hg6
       obtain ⟨z6, hz6⟩ : ∃ z6, z6 = g6.list.length := ⟨_, rfl⟩
       have hz7 : z6 = z := by rw [hz6, hg6, Hz.out, ← Hkeep.out.1]
       rw [← hz6] at c5
       have Hz6 := hid hz6
       have Hz7 := hid hz7
       have hle6 : z6 ≤ cap7 := by
        rcases hl6.row.2 with ⟨e, e2⟩ | ⟨_, _, _, e, _, _, e3, _⟩
        ·rw [hz6, e2]; exact Nat.zero_le _
        ·injection e with _ _ e4
         rw [e4, hz6]; exact e3
       clear hl6 hd6 hP6 hr6 hg6 hz6 hz7 smc bkc fmc hHeld
       go_upto_region 32 with fail
       refine wp_region_last 20 (fun W => W.cell? ⟨P3, 0, none⟩ = some (.pointer (some ⟨l, 0, none⟩)) ∧ W.cell? ⟨l, 5, none⟩ = some (.slice ao7 z6 cap7)) (by kernel_rfl) ⟨p0, c5⟩ (fun hHeld => ?_)
       clear p0 c5
       refine last_take (v := ?p32v0) 0 rfl (by kernel_rfl) (by kernel_rfl) (by kernel_rfl) (by kernel_rfl) (fun _ _ _ h => h) (by rfl) hHeld ?p32y0 ?p32r0
       case p32y0 => (intro W hSw; obtain ⟨y0, y1⟩ := hSw; go_simp; with_reducible rfl)
       simp only [Act.put, List.setIfInBounds_toArray, List.set_cons_zero, List.set_cons_succ]
       refine last_take (v := ?p32v1) 1 rfl (by kernel_rfl) (by kernel_rfl) (by kernel_rfl) (by kernel_rfl) (fun _ _ _ h => h) (by rfl) hHeld ?p32y1 ?p32r1
       case p32y1 => (intro W hSw; obtain ⟨y0, y1⟩ := hSw; go_simp; with_reducible rfl)
       simp only [Act.put, List.setIfInBounds_toArray, List.set_cons_zero, List.set_cons_succ]
       refine last_take (v := ?p32v2) 2 rfl (by kernel_rfl) (by kernel_rfl) (by kernel_rfl) (by kernel_rfl) (fun _ _ _ h => h) (by rfl) hHeld ?p32y2 ?p32r2
       case p32y2 => (intro W hSw; obtain ⟨y0, y1⟩ := hSw; go_simp; with_reducible rfl)
       simp only [Act.put, List.setIfInBounds_toArray, List.set_cons_zero, List.set_cons_succ]
       refine last_take (v := ?p32v3) 3 rfl (by kernel_rfl) (by kernel_rfl) (by kernel_rfl) (by kernel_rfl) (fun _ _ _ h => h) (by rfl) hHeld ?p32y3 ?p32r3
       case p32y3 => (intro W hSw; obtain ⟨y0, y1⟩ := hSw; go_simp; with_reducible rfl)
       simp only [Act.put, List.setIfInBounds_toArray, List.set_cons_zero, List.set_cons_succ]
       refine last_take (v := ?p32v4) 4 rfl (by kernel_rfl) (by kernel_rfl) (by kernel_rfl) (by kernel_rfl) (fun _ _ _ h => h) (by rfl) hHeld ?p32y4 ?p32r4
       case p32y4 => (intro W hSw; obtain ⟨y0, y1⟩ := hSw; go_simp; with_reducible rfl)
       simp only [Act.put, List.setIfInBounds_toArray, List.set_cons_zero, List.set_cons_succ]
       refine last_take (v := ?p32v5) 5 rfl (by kernel_rfl) (by kernel_rfl) (by kernel_rfl) (by kernel_rfl) (fun _ _ _ h => h) (by rfl) hHeld ?p32y5 ?p32r5
       case p32y5 => (intro W hSw; obtain ⟨y0, y1⟩ := hSw; go_simp; with_reducible rfl)
       simp only [Act.put, List.setIfInBounds_toArray, List.set_cons_zero, List.set_cons_succ]
       refine last_take (v := ?p32v6) 6 rfl (by kernel_rfl) (by kernel_rfl) (by kernel_rfl) (by kernel_rfl) (fun _ _ _ h => h) (by rfl) hHeld ?p32y6 ?p32r6
       case p32y6 => (intro W hSw; obtain ⟨y0, y1⟩ := hSw; go_simp; with_reducible rfl)
       simp only [Act.put, List.setIfInBounds_toArray, List.set_cons_zero, List.set_cons_succ]
       refine last_take (v := ?p32v7) 7 rfl (by kernel_rfl) (by kernel_rfl) (by kernel_rfl) (by kernel_rfl) (fun _ _ _ h => h) (by rfl) hHeld ?p32y7 ?p32r7
       case p32y7 => (intro W hSw; obtain ⟨y0, y1⟩ := hSw; go_simp; with_reducible rfl)
       simp only [Act.put, List.setIfInBounds_toArray, List.set_cons_zero, List.set_cons_succ]
       refine last_take (v := ?p32v8) 8 rfl (by kernel_rfl) (by kernel_rfl) (by kernel_rfl) (by kernel_rfl) (fun _ _ _ h => h) (by rfl) hHeld ?p32y8 ?p32r8
       case p32y8 => (intro W hSw; obtain ⟨y0, y1⟩ := hSw; go_simp; with_reducible rfl)
       simp only [Act.put, List.setIfInBounds_toArray, List.set_cons_zero, List.set_cons_succ]
       refine last_take (v := ?p32v9) 9 rfl (by kernel_rfl) (by kernel_rfl) (by kernel_rfl) (by kernel_rfl) (fun _ _ _ h => h) (by rfl) hHeld ?p32y9 ?p32r9
       case p32y9 => (intro W hSw; obtain ⟨y0, y1⟩ := hSw; go_simp; with_reducible rfl)
       simp only [Act.put, List.setIfInBounds_toArray, List.set_cons_zero, List.set_cons_succ]
       refine last_take (v := ?p32v10) 10 rfl (by kernel_rfl) (by kernel_rfl) (by kernel_rfl) (by kernel_rfl) (fun _ _ _ h => h) (by rfl) hHeld ?p32y10 ?p32r10
       case p32y10 => (intro W hSw; obtain ⟨y0, y1⟩ := hSw; go_simp; with_reducible rfl)
       simp only [Act.put, List.setIfInBounds_toArray, List.set_cons_zero, List.set_cons_succ]
       refine last_take (v := ?p32v11) 11 rfl (by kernel_rfl) (by kernel_rfl) (by kernel_rfl) (by kernel_rfl) (fun _ _ _ h => h) (by rfl) hHeld ?p32y11 ?p32r11
       case p32y11 => (intro W hSw; obtain ⟨y0, y1⟩ := hSw; go_simp; with_reducible rfl)
       simp only [Act.put, List.setIfInBounds_toArray, List.set_cons_zero, List.set_cons_succ]
       refine last_take (v := ?p32v12) 12 rfl (by kernel_rfl) (by kernel_rfl) (by kernel_rfl) (by kernel_rfl) (fun _ _ _ h => h) (by rfl) hHeld ?p32y12 ?p32r12
       case p32y12 => (intro W hSw; obtain ⟨y0, y1⟩ := hSw; go_simp; with_reducible rfl)
       simp only [Act.put, List.setIfInBounds_toArray, List.set_cons_zero, List.set_cons_succ]
       refine last_take (v := ?p32v13) 13 rfl (by kernel_rfl) (by kernel_rfl) (by kernel_rfl) (by kernel_rfl) (fun _ _ _ h => h) (by rfl) hHeld ?p32y13 ?p32r13
       case p32y13 => (intro W hSw; obtain ⟨y0, y1⟩ := hSw; go_simp; with_reducible rfl)
       simp only [Act.put, List.setIfInBounds_toArray, List.set_cons_zero, List.set_cons_succ]
       refine last_take (v := ?p32v14) 14 rfl (by kernel_rfl) (by kernel_rfl) (by kernel_rfl) (by kernel_rfl) (fun _ _ _ h => h) (by rfl) hHeld ?p32y14 ?p32r14
       case p32y14 => (intro W hSw; obtain ⟨y0, y1⟩ := hSw; go_simp; with_reducible rfl)
       simp only [Act.put, List.setIfInBounds_toArray, List.set_cons_zero, List.set_cons_succ]
       refine last_take (v := ?p32v15) 15 rfl (by kernel_rfl) (by kernel_rfl) (by kernel_rfl) (by kernel_rfl) (fun _ _ _ h => h) (by rfl) hHeld ?p32y15 ?p32r15
       case p32y15 => (intro W hSw; obtain ⟨y0, y1⟩ := hSw; go_simp; with_reducible rfl)
       simp only [Act.put, List.setIfInBounds_toArray, List.set_cons_zero, List.set_cons_succ]
       refine last_take (v := ?p32v16) 16 rfl (by kernel_rfl) (by kernel_rfl) (by kernel_rfl) (by kernel_rfl) (fun _ _ _ h => h) (by rfl) hHeld ?p32y16 ?p32r16
       case p32y16 => (intro W hSw; obtain ⟨y0, y1⟩ := hSw; go_simp; with_reducible rfl)
       simp only [Act.put, List.setIfInBounds_toArray, List.set_cons_zero, List.set_cons_succ]
       obtain ⟨i0, hi0, hz0, hz1, hz2⟩ := info_parts (P := Tryz.prog) (e := 118) (z := frV ⟨0, 0, []⟩) (size := 3) (bytes := 32) (by kernel_rfl)
       have hslc := Hl6.out.slice
       have hnp : 0 < n := by have := n0; simp at this; omega
       have hrow6 := Hr6.out
       obtain ⟨rg, rcap, hu11⟩ : ∃ rg rcap, u11 = .slice (some ⟨rg, 0, none⟩) n rcap := by
        rcases hrow6.2 with ⟨_, e2⟩ | ⟨rg, rcap, _, h, _⟩
        ·omega
        ·exact ⟨rg, rcap, h⟩
       have hrow6c := hrow6.cells (g := rg) (by rw [hu11]; rfl)
       have hl6row := Hl6.out.row
       refine last_one 17 (by kernel_rfl) rfl (fun K hK => ?_)
       refine step_append_grows (by rfl) _ _ 105 (by rfl) 118 i0 _ 3 32 Tryz.underlying105 hi0 hz0 hz1 hz2 rfl (by omega) ao7 z6 z6 (frsCells g6.list) (by rfl) ?ga (by rw [frsCells_length, Hz6.out]) ?gb ⟨rg, 0, none⟩ n rcap (frsCells (frsOf pages x)) (by rw [hu11]; rfl) (by rw [frsCells_length, frsOf_length, Hn.out]) (fun j u hj => hrow6c j u hj) (frsCells_one _) (by omega) (by unfold maxLen; have := Hfull.out; have := Hz7.out; omega) (by have := Hfull.out; have := Hz7.out; omega) ?gd
       case ga =>
        intro e
        have : z6 = 0 := by
         rw [Hz6.out]
         obtain ⟨ao8, cap8, e8, h8⟩ := hslc
         injection e8 with e8 _ _
         by_cases h0 : 0 < g6.list.length
         ·obtain ⟨q, hq, _⟩ := h8 0 h0
          rw [← e8, e] at hq
          cases hq
         ·omega
        exact ⟨this, this⟩
       case gb =>
        intro b' e j u hj
        rcases hl6row.2 with ⟨e2, e3⟩ | ⟨q, cap8, _, e2, _⟩
        ·injection e2 with e2 _ _
         rw [e] at e2; cases e2
        ·injection e2 with e2 _ _
         rw [e] at e2
         cases e2
         exact hl6row.cells (g := q) (by rw [e]; rfl) j u hj
       intro v9 w9 hown9 hgrow9
       obtain ⟨g9, cap9, rfl, hg9⟩ : ∃ g9 cap9, v9 = .slice (some ⟨g9, 0, none⟩) (z6 + n) cap9 ∧ wc.heap.size ≤ g9 := by
        rcases hown9.2 with ⟨_, e2⟩ | ⟨g9, cap9, _, e, e2, _⟩
        ·omega
        ·exact ⟨g9, cap9, e, e2⟩
       have old9 : ∀ (j : Nat) (o : Obj), wc.heap[j]? = some o → w9.heap[j]? = some o := fun j o h => (hgrow9.block j (lt_of_block h) (fun e => by cases e)).trans h
       have hP9 := old9 _ _ HP6.out
       have hl9 := old9 _ _ Hl6.out.blk
       have p9 : w9.cell? ⟨P3, 0, none⟩ = some (.pointer (some ⟨l, 0, none⟩)) := (cell_of_block hP9 0).trans rfl
       have l9 : w9.cell? ⟨l, 5, none⟩ = some (.slice ao7 z6 cap7) := by
        rw [cell_of_block hl9]
        have := Hl6.out.cell 5
        rw [cell_of_block Hl6.out.blk] at this
        rw [this, Hz6.out]
        rfl
       have lf9 := free_of_block hl9 5
       have Hown9 := hid hown9
       have Hgrow9 := hid hgrow9
       have Hold9 := hid old9
       have Hl9 := hid hl9
       have Hg9 := hid hg9
       clear hown9 hgrow9 old9 hl9 hP9 hg9 hslc hrow6 hrow6c hl6row
       refine hK.out _ _ (fun _ => ⟨p9, l9⟩) (fun hHeld => ?_)
       have hHeld := hHeld (by decide)
       clear hK K
       try simp only [Act.put, List.setIfInBounds_toArray, List.set_cons_zero, List.set_cons_succ]
       refine last_one 18 (by kernel_rfl) rfl (fun K hK => ?_)
       go_simp
       refine hK.out _ _ (fun _ => ⟨p9, l9⟩) (fun hHeld => ?_)
       have hHeld := hHeld (by decide)
       clear hK K
       try simp only [Act.put, List.setIfInBounds_toArray, List.set_cons_zero, List.set_cons_succ]
       refine last_one 19 (by kernel_rfl) rfl (fun K hK => ?_)
       go_simp
       refine hK.out _ _ (fun _ => ⟨p9, l9⟩) (fun hHeld => ?_)
       have hHeld := hHeld (by decide)
       clear hK K
       try simp only [Act.put, List.setIfInBounds_toArray, List.set_cons_zero, List.set_cons_succ]
       refine last_one 20 (by kernel_rfl) rfl (fun K hK => ?_)
       go_simp
       refine hK.out _ _ (fun e => absurd rfl e) (fun _ => ?_)
       clear hK K hHeld
       try simp only [Act.put, List.setIfInBounds_toArray, List.set_cons_zero, List.set_cons_succ]
       refine wpAnyL_done (by kernel_rfl) ?_ _
       go_wp2_with fail
       go_ret
       rw [HM3.out]
       refine ⟨rfl, F5, fun k => G5 k ∨ k = g9, ?_, DONE6.out.trans ?_⟩
       ·have hsz9 : wc.heap.size ≤ w9.heap.size := Hgrow9.out.size
        have hset : ∀ j : Nat, j ≠ l → (w9.setCell ⟨l, 5, none⟩ (.slice (some ⟨g9, 0, none⟩) (z6 + n) cap9)).heap[j]? = w9.heap[j]? := fun j hj => Below.heap_setCell _ ⟨l, _, none⟩ _ j hj
        have hsz10 : (w9.setCell ⟨l, 5, none⟩ (.slice (some ⟨g9, 0, none⟩) (z6 + n) cap9)).heap.size = w9.heap.size := by simp
        have hg9lt : g9 < w9.heap.size := (row_base Hown9.out rfl).2
        have hgl : g9 ≠ l := by have := Hl6.out.glt l Hl6.out.lown; have := Hg9.out; omega
        have hfoot := Hl6.out.gout l Hl6.out.lown
        refine ⟨Hd6.out.keep (fun k hk => ?_) (by rw [hsz10]; exact hsz9), .slice (some ⟨g9, 0, none⟩) (z6 + n) cap9, ?_⟩
        ·have hkl : k ≠ l := fun e => by rw [e] at hk; exact hk.elim hfoot.1 hfoot.2
         have hklt : k < wc.heap.size := hk.elim (Hd6.out.olt k) (Hd6.out.slt k)
         rw [hset k hkl]
         exact Hgrow9.out.block k hklt (fun e => by cases e)
        have hlist : g6.list = g.list := by rw [Hg6.out]; exact Hkeep.out.1
        have ez6 : z6 = g.list.length := by rw [Hz6.out, hlist]
        have hlen : (y.2.1.list ++ frsOf pages x).length = z6 + n := by rw [List.length_append, frsOf_length, Hkeep.out.1, ez6, Hn.out]
        refine ⟨?_, ?_, fun k hk => .inr (Option.some.inj hk).symm, .inl Hl6.out.lown, fun k hk => ?_, fun k hk => ?_, ?_⟩
        ·refine (heap_setCell_same Hl9.out 5 (.slice (some ⟨g9, 0, none⟩) (z6 + n) cap9)).trans ?_
         have eH : appHead g pages x = ⟨g.head.number, (z : Int) + (n : Int), pages⟩ := by
          unfold appHead
          rw [Hz.out, Hn.out]
          rw [Int.natCast_add]
         rw [Hg6.out, eH, ← HT2.out]
         rfl
        ·rw [hlen]
         have h0 := row_zero (row_keep Hown9.out (w' := w9.setCell ⟨l, 5, none⟩ (.slice (some ⟨g9, 0, none⟩) (z6 + n) cap9)) (fun k hk => hset k (by cases hk; exact hgl)))
         rw [hlist, ← frsCells_append] at h0
         rw [Hkeep.out.1]
         exact h0
        ·rcases hk with hk | rfl
         ·exact Hl6.out.gout k hk
         ·exact ⟨fun h => by have := Hd6.out.olt _ h; have := Hg9.out; omega, fun h => by have := Hd6.out.slt _ h; have := Hg9.out; omega⟩
        ·rw [hsz10]
         rcases hk with hk | rfl
         ·exact Nat.lt_of_lt_of_le (Hl6.out.glt k hk) hsz9
         ·exact hg9lt
        ·have ok6 := Hl6.out.ok
         rw [Hg6.out] at ok6
         refine ⟨HL.out.ok.num, (show (0 : Int) ≤ pages ∧ pages ≤ 256 from ⟨by have := Hp.out; omega, Hp.out.2⟩), (show (0 : Int) ≤ ((g.list.length + x.length : Nat) : Int) ∧ ((g.list.length + x.length : Nat) : Int) ≤ 256 from ⟨by omega, by have := Hfull.out; have := Hz.out; have := Hn.out; omega⟩), Hpwf.out, (show (y.2.1.list ++ frsOf pages x).length ≤ 256 by rw [hlen]; have := Hfull.out; have := Hz7.out; omega), fun f hf => ?_⟩
         rcases List.mem_append.1 hf with h | h
         ·exact HL.out.ok.data f (by rw [Hkeep.out.1] at h; exact h)
         ·obtain ⟨k, hk, rfl⟩ := List.getElem_of_mem h
          have hkx : k < x.length := by rwa [frsOf_length] at hk
          rw [frsOf_get pages x k hkx]
          have hgood := HG.out k hkx
          unfold imgBad inB at hgood
          unfold frAt frOk frMay inB
          have := Hp.out
          simp at hgood ⊢
          split <;> omega
       ·refine ⟨⟨Hgrow9.out.os, Hgrow9.out.tape, Hgrow9.out.output, by simp [World.setCell]; exact Hgrow9.out.size, fun k hk hn => ?_⟩, fun _ h => .inl h, fun _ h => .inl h, fun k hk => hk.imp id (fun e => by rw [e]; exact Hg9.out)⟩
        have hkl : k ≠ l := fun e => hn (.inr (by rw [e]; exact Hl6.out.lown))
        rw [Below.heap_setCell _ ⟨l, _, none⟩ _ k hkl]
        exact Hgrow9.out.block k hk (fun e => by cases e)
      ·have e0 : (y.1 != 0) = true := by simp [hy0]
       have HM3 := HM2.out
       rw [if_pos hy0] at HM3
       have HM3 := hid HM3
       clear HM2 hy0
       go_wp2_with fail
       go_ret
       rw [HM3.out]
       exact ⟨rfl, F5, G5, H5.out, DONE.out⟩
end
end Go.Proofs.YtlkkclooihjpiaaGreat
