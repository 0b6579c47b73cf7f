/- A log's Append: the model; what is refused. -/
import Derived.Test.YtioafhkblmebmaaWaG
namespace Go.Proofs.Ytioafhkblmebmaa
open Go.RowKit Go.Maps
set_option linter.unusedVariables false
set_option linter.unusedSimpArgs false

structure Img where
  page : Int
  data : List UInt8
def imgBad (x : Img) : Bool := !(inB x.page 1 256) || x.data.length != 512
def frAt (n : Nat) (pages : Int) (i : Nat) (x : Img) : Fr := ⟨x.page, if i + 1 = n then pages else 0, x.data⟩
def frsOf (pages : Int) (l : List Img) : List Fr := l.mapIdx (frAt l.length pages)
theorem frsOf_length (pages : Int) (l : List Img) : (frsOf pages l).length = l.length := by simp [frsOf]
theorem frsOf_get (pages : Int) (l : List Img) (i : Nat) (h : i < l.length) : (frsOf pages l)[i]'(by simpa [frsOf] using h) = frAt l.length pages i l[i] := by simp [frsOf]
/-- Frames one behind the other, and the pair behind the last. -/
def putsN (salt : Int) : List Fr → (Int × Int) → List UInt8 × (Int × Int)
  | [], p => ([], p)
  | f :: r, p => ((putFr p salt f).s ++ (putsN salt r (putFr p salt f).q).1, (putsN salt r (putFr p salt f).q).2)
theorem putsN_snoc (salt : Int) (f : Fr) : ∀ (l : List Fr) (p : Int × Int), putsN salt (l ++ [f]) p = ((putsN salt l p).1 ++ (putFr (putsN salt l p).2 salt f).s, (putFr (putsN salt l p).2 salt f).q)
  | [], p => by simp [putsN]
  | x :: r, p => by
    have := putsN_snoc salt f r (putFr p salt x).q
    simp [putsN, this]
theorem putFr_length (p : Int × Int) (salt : Int) (f : Fr) : (putFr p salt f).s.length ≤ 576 := by
  unfold putFr
  split
  · rename_i h
    unfold frOk at h
    simp only [Bool.and_eq_true, decide_eq_true_eq] at h
    exact Nat.le_of_eq (frL_length p salt f h.2)
  · simp
theorem putsN_length (salt : Int) : ∀ (l : List Fr) (p : Int × Int), (putsN salt l p).1.length ≤ 576 * l.length
  | [], p => by simp [putsN]
  | f :: r, p => by
    have h1 := putFr_length p salt f
    have h2 := putsN_length salt r (putFr p salt f).q
    simp only [putsN, List.length_append, List.length_cons]
    omega
theorem putFr_pair (p : Int × Int) (salt : Int) (f : Fr) (h : PairWf p) : PairWf (putFr p salt f).q := by
  unfold putFr
  split
  · exact sumAdd_bd _ _ (sumAdd_bd _ _ h.1 h.2).1 (sumAdd_bd _ _ h.1 h.2).2
  · unfold PairWf
    decide
theorem putsN_pair (salt : Int) : ∀ (l : List Fr) (p : Int × Int), PairWf p → PairWf (putsN salt l p).2
  | [], p, h => h
  | f :: r, p, h => putsN_pair salt r _ (putFr_pair p salt f h)
def appHead (g : Lg) (pages : Int) (l : List Img) : Hd := ⟨g.head.number, (g.list.length + l.length : Nat), pages⟩
def appText (g : Lg) (pages : Int) (l : List Img) : List UInt8 × (Int × Int) := putsN g.head.number (frsOf pages l) g.pair
def appSteps (g : Lg) (pages : Int) (l : List Img) : List LgM := [lmendM, lwriteM (appText g pages l).1, lsyncM, lputsM (appHead g pages l) true, lsyncM]
def lappendM (pages : Int) (l : List Img) : LgM := fun g d =>
  if g.off then (32, g, d) else if pages < 1 ∨ 256 < pages ∨ l.length = 0 then (2, g, d) else if l.any imgBad then (2, g, d) else if 256 < g.list.length + l.length then (8, g, d)
  else if (lstepsM (appSteps g pages l) g d).1 ≠ 0 then lstepsM (appSteps g pages l) g d
  else (0, { (lstepsM (appSteps g pages l) g d).2.1 with head := appHead g pages l, has := true, list := (lstepsM (appSteps g pages l) g d).2.1.list ++ frsOf pages l, pair := (appText g pages l).2 }, (lstepsM (appSteps g pages l) g d).2.2)

/-- A slice of images in memory. -/
def ImgsAt (w : World) (v : Value) (l : List Img) : Prop :=
  ∃ ao cap, v = .slice ao l.length cap ∧ ∀ k (hk : k < l.length), ∃ q, ao = some ⟨q, 0, none⟩ ∧ q < w.heap.size ∧ w.cell? ⟨q, k * 2, none⟩ = some (.int .i64 l[k].page) ∧ w.cell? ⟨q, k * 2 + 1, none⟩ = some (.string (bs l[k].data))

section
variable {w w' : World} {l b : Nat} {F F' : Foot} {G : Nat → Prop} {g : Lg} {d d' : Dsk} {lv : Value}
set_option maxRecDepth 20000 in
theorem lappend_off (h : LgAt w l b F G g d) (pages : Int) (v : Value) (ho : g.off = true) :
    Calls Try.prog 12 #[.pointer (some ⟨l, 0, none⟩), .int .i64 pages, v] w fun e w' => e = .returned (.int .i64 32) ∧ Below w.heap.size w w' := by
  have R := lready_any (h.below ((Below.refl _ _).alloc (Nat.le_refl _) (.cells #[.pointer (some ⟨l, 0, none⟩)] 27)))
  unfold lreadyM at R
  rw [ho, if_pos rfl] at R
  have R := hid R
  clear h ho
  go_enter Try.func12, Try.ntmps12
  go_wp2_with (first | (go_at_call 33; refine (R.out).mono ?_; rintro e w1 ⟨rfl, rfl⟩) | go_in)
  go_ret
  exact ⟨rfl, (Below.refl _ _).alloc (Nat.le_refl _) _⟩
set_option maxRecDepth 20000 in
theorem lappend_args (h : LgAt w l b F G g d) (pages : Int) (v : Value) (x : List Img) (hx : ImgsAt w v x) (ho : g.off = false) (hb : pages < 1 ∨ 256 < pages ∨ x.length = 0) :
    Calls Try.prog 12 #[.pointer (some ⟨l, 0, none⟩), .int .i64 pages, v] w fun e w' => e = .returned (.int .i64 2) ∧ Below w.heap.size w w' := by
  have R := lready_any (h.below ((Below.refl _ _).alloc (Nat.le_refl _) (.cells #[.pointer (some ⟨l, 0, none⟩)] 27)))
  unfold lreadyM at R
  rw [ho, if_neg (by simp)] at R
  have R := hid R
  obtain ⟨ao, cap, rfl, -⟩ := hx
  obtain ⟨n, hn⟩ : ∃ n, n = x.length := ⟨_, rfl⟩
  rw [← hn] at hb ⊢
  clear h ho hn
  by_cases h1 : pages < 1
  · have h1' : decide (pages < 1) = true := by simpa using h1
    clear h1 hb
    go_enter Try.func12, Try.ntmps12
    go_wp2_with (first | (go_at_call 33; refine (R.out).mono ?_; rintro e w1 ⟨rfl, rfl⟩) | go_in)
    go_ret
    exact ⟨rfl, (Below.refl _ _).alloc (Nat.le_refl _) _⟩
  by_cases h2 : 256 < pages
  · have h1' : decide (pages < 1) = false := by simpa using h1
    have h2' : decide (256 < pages) = true := by simpa using h2
    clear h1 h2 hb
    go_enter Try.func12, Try.ntmps12
    go_wp2_with (first | (go_at_call 33; refine (R.out).mono ?_; rintro e w1 ⟨rfl, rfl⟩) | go_in)
    go_ret
    exact ⟨rfl, (Below.refl _ _).alloc (Nat.le_refl _) _⟩
  · have h1' : decide (pages < 1) = false := by simpa using h1
    have h2' : decide (256 < pages) = false := by simpa using h2
    obtain rfl : n = 0 := by omega
    clear h1 h2 hb
    go_enter Try.func12, Try.ntmps12
    go_wp2_with (first | (go_at_call 33; refine (R.out).mono ?_; rintro e w1 ⟨rfl, rfl⟩) | go_in)
    go_ret
    exact ⟨rfl, (Below.refl _ _).alloc (Nat.le_refl _) _⟩
set_option maxHeartbeats 1000000 in
set_option maxRecDepth 20000 in
theorem lappend_check (h : LgAt w l b F G g d) (pages : Int) (v : Value) (x : List Img) (hx : ImgsAt w v x) (hs : x.length ≤ 1099511627776) (ho : g.off = false) (hp : 1 ≤ pages ∧ pages ≤ 256) (hn : x.length ≠ 0) (hb : x.any imgBad = true) :
    Calls Try.prog 12 #[.pointer (some ⟨l, 0, none⟩), .int .i64 pages, v] w fun e w' => e = .returned (.int .i64 2) ∧ Below w.heap.size w w' := by
  have R := lready_any (h.below ((Below.refl _ _).alloc (Nat.le_refl _) (.cells #[.pointer (some ⟨l, 0, none⟩)] 27)))
  unfold lreadyM at R
  rw [ho, if_neg (by simp)] at R
  have R := hid R
  obtain ⟨ao, cap, rfl, hc⟩ := hx
  obtain ⟨n, hnn⟩ : ∃ n, n = x.length := ⟨_, rfl⟩
  have Hn := hid hnn
  rw [← hnn] at hs hn ⊢
  have HC := hid hc
  have HB := hid hb
  have n0 : ((n : Int) == 0) = false := by simp; omega
  have h1' : decide (pages < 1) = false := by simpa using hp.1
  have h2' : decide (256 < pages) = false := by simpa using hp.2
  have HS := hid hs
  have Hw := hid (Below.refl w.heap.size w)
  clear h ho hnn hc hb hp hn hs
  go_enter Try.func12, Try.ntmps12
  go_wp2_with (first | (go_at_call 33; refine (R.out).mono ?_; rintro e w1 ⟨rfl, rfl⟩) | go_in)
  go_loopw [39] (fun v39 wr => ∃ i : Nat, i ≤ n ∧ v39 = .int .i64 (i : Int) ∧ Below w.heap.size w wr ∧ (∀ k (hk : k < x.length), k < i → imgBad x[k] = false)) (fun v39 _ => n - (intOf v39).toNat)
  case atStart => exact ⟨0, Nat.zero_le _, rfl, (Below.refl _ _).alloc (Nat.le_refl _) _, fun k _ hk => by omega⟩
  case round =>
    obtain ⟨i, hi, rfl, hbw, hall⟩ := hrel
    have HA := hid hall
    have HBw := hid hbw
    clear hall R
    by_cases hlt : i < n
    · have hil : i < x.length := by have := Hn.out; omega
      obtain ⟨q, rfl, hq, c0, c1⟩ := HC.out i hil
      obtain ⟨y, hy⟩ : ∃ y, y = x[i] := ⟨_, rfl⟩
      rw [← hy] at c0 c1
      have c0 := (hbw.cell (p := ⟨q, i * 2, none⟩) hq).trans c0
      have c1 := (hbw.cell (p := ⟨q, i * 2 + 1, none⟩) hq).trans c1
      have hi3 : (i : Int) < 9223372036854775807 := by have := HS.out; omega
      have Hy := hid hy
      clear hy hbw hi
      by_cases p1 : y.page < 1
      · have p1' : decide (y.page < 1) = true := by simpa using p1
        clear p1
        go_wp2_with fail
        go_ret
        exact ⟨rfl, HBw.out.alloc HBw.out.size _⟩
      by_cases p2 : 256 < y.page
      · have p1' : decide (y.page < 1) = false := by simpa using p1
        have p2' : decide (256 < y.page) = true := by simpa using p2
        clear p1 p2
        go_wp2_with fail
        go_ret
        exact ⟨rfl, HBw.out.alloc HBw.out.size _⟩
      have p1' : decide (y.page < 1) = false := by simpa using p1
      have p2' : decide (256 < y.page) = false := by simpa using p2
      obtain ⟨z, hz⟩ : ∃ z : Int, z = y.data.length := ⟨_, rfl⟩
      by_cases p3 : z = 512
      · have p3' : (z != 512) = false := by simpa using p3
        have Hgood := hid (show imgBad y = false by unfold imgBad inB; simp; omega)
        have hz' : ((y.data.length : Nat) : Int) = z := hz.symm
        clear p1 p2 p3 hz
        go_wp2_with fail
        go_roundw
        case rel => exact ⟨i + 1, by omega, by simp, HBw.out.alloc HBw.out.size _, fun k hk hk2 => by
          by_cases e : k = i
          · subst e; rw [← Hy.out]; exact Hgood.out
          · exact HA.out k hk (by omega)⟩
        case measure => (simp [intOf]) <;> omega
      · have p3' : (z != 512) = true := by simpa using p3
        have hz' : ((y.data.length : Nat) : Int) = z := hz.symm
        clear p1 p2 p3 hz
        go_wp2_with fail
        go_ret
        exact ⟨rfl, HBw.out.alloc HBw.out.size _⟩
    · exfalso
      obtain ⟨y, hy, hyb⟩ := List.any_eq_true.1 HB.out
      obtain ⟨k, hk, rfl⟩ := List.getElem_of_mem hy
      have := HA.out k hk (by have := Hn.out; omega)
      rw [this] at hyb
      cases hyb
end
end Go.Proofs.Ytioafhkblmebmaa
