/- A log's Page. -/
import Derived.Test.YtioafhkblmebmaaWaA
import Derived.Test.YtioafhkblmebmaaDkM
namespace Go.Proofs.Ytioafhkblmebmaa
open Go.RowKit Go.Maps
set_option linter.unusedVariables false
set_option linter.unusedSimpArgs false

/-- The newest of the first k frames that is page n's. -/
def lastAt (l : List Fr) (n : Int) : Nat → Option (List UInt8)
  | 0 => none
  | k + 1 => match l[k]? with
    | some f => if f.page = n then some f.data else lastAt l n k
    | none => lastAt l n k
theorem lastAt_hit {l : List Fr} {n : Int} {k : Nat} (hk : k < l.length) (h : l[k].page = n) : lastAt l n (k + 1) = some l[k].data := by
  unfold lastAt
  rw [List.getElem?_eq_getElem hk]
  simp only [h, if_true]
theorem lastAt_miss {l : List Fr} {n : Int} {k : Nat} (hk : k < l.length) (h : ¬ l[k].page = n) : lastAt l n (k + 1) = lastAt l n k := by
  conv => lhs; unfold lastAt
  rw [List.getElem?_eq_getElem hk]
  simp only [h, if_false]
def pageBad (g : Lg) (n mark : Int) : Prop := n < 1 ∨ 256 < n ∨ mark < 0 ∨ (g.list.length : Int) < mark
instance (g : Lg) (n mark : Int) : Decidable (pageBad g n mark) := by unfold pageBad; infer_instance
def pageM (g : Lg) (d : Dsk) (n mark : Int) : List UInt8 × Int :=
  if pageBad g n mark then ([], 5)
  else match lastAt g.list n mark.toNat with
    | some s => (s, 0)
    | none => if ((d.now 0).length : Int) < 8 * n then (zeros 512, 0) else readM d 0 (8 * (n - 1)) 8

theorem row_slice {w : World} {base : Nat} {e : TypeId} {size : Nat} {v : Value} {n : Nat} {xs : List Value} (h : w.ownsRow base e size v n xs) :
    ∃ ao cap, v = .slice ao n cap ∧ (∀ j u, j < n * size → xs[j]? = some u → ∃ g, ao = some ⟨g, 0, none⟩ ∧ w.cell? ⟨g, j, none⟩ = some u) := by
  rcases h.2 with ⟨rfl, rfl⟩ | ⟨g, cap, cur, rfl, -, hg, -, -, -, ht⟩
  · exact ⟨none, 0, rfl, fun j u hj => by omega⟩
  · refine ⟨_, cap, rfl, fun j u hj hu => ⟨g, rfl, ?_⟩⟩
    rw [cell_of_block hg]
    rw [← ht, List.getElem?_take, if_pos hj] at hu
    simpa using hu
section
variable {w : World} {l b : Nat} {F : Foot} {G : Nat → Prop} {g : Lg} {d : Dsk}
theorem LogMem.slice {lv : Value} (h : LogMem w l b F G g lv) : ∃ ao cap, lv = .slice ao g.list.length cap ∧ ∀ k (hk : k < g.list.length), ∃ q, ao = some ⟨q, 0, none⟩ ∧ w.cell? ⟨q, k * 3, none⟩ = some (.int .i64 g.list[k].page) ∧ w.cell? ⟨q, k * 3 + 1, none⟩ = some (.int .i64 g.list[k].commit) ∧ w.cell? ⟨q, k * 3 + 2, none⟩ = some (.string (bs g.list[k].data)) := by
  obtain ⟨ao, cap, rfl, hc⟩ := row_slice h.row
  refine ⟨ao, cap, rfl, fun k hk => ?_⟩
  obtain ⟨c0, c1, c2⟩ := frsCells_get g.list k hk
  obtain ⟨q, rfl, h0⟩ := hc (k * 3) _ (by omega) c0
  obtain ⟨q1, e1, h1⟩ := hc (k * 3 + 1) _ (by omega) c1
  obtain ⟨q2, e2, h2⟩ := hc (k * 3 + 2) _ (by omega) c2
  obtain rfl : q = q1 := by simpa using e1
  obtain rfl : q = q2 := by simpa using e2
  exact ⟨q, rfl, h0, h1, h2⟩

set_option maxRecDepth 20000 in
theorem page_bad (h : LgAt w l b F G g d) (n mark : Int) (hb : pageBad g n mark) :
    Calls Try.prog 19 #[.pointer (some ⟨l, 0, none⟩), .int .i64 n, .int .i64 mark] w fun e w' => e = .returned (.tuple #[.string (bs []), .int .i64 5]) ∧ w' = w := by
  obtain ⟨lv, h⟩ := h.log
  have c5 := h.cell 5
  simp only [logCells, List.getElem?_cons_succ, List.getElem?_cons_zero] at c5
  obtain ⟨ao, cap, rfl, -⟩ := h.slice
  have hm := h.ok.many
  unfold pageBad at hb
  obtain ⟨z, hz⟩ : ∃ z, z = g.list.length := ⟨_, rfl⟩
  rw [← hz] at c5 hb hm
  clear h hz
  by_cases h1 : n < 1
  · have h1' : decide (n < 1) = true := by simpa using h1
    clear hb h1
    go_enter Try.func19, Try.ntmps19
    go_wp2_with fail
    go_ret2
    exact ⟨rfl, rfl⟩
  by_cases h2 : 256 < n
  · have h1' : decide (n < 1) = false := by simpa using h1
    have h2' : decide (256 < n) = true := by simpa using h2
    clear hb h1 h2
    go_enter Try.func19, Try.ntmps19
    go_wp2_with fail
    go_ret2
    exact ⟨rfl, rfl⟩
  by_cases h3 : mark < 0
  · have h1' : decide (n < 1) = false := by simpa using h1
    have h2' : decide (256 < n) = false := by simpa using h2
    have h3' : decide (mark < 0) = true := by simpa using h3
    clear hb h1 h2 h3
    go_enter Try.func19, Try.ntmps19
    go_wp2_with fail
    go_ret2
    exact ⟨rfl, rfl⟩
  · have h1' : decide (n < 1) = false := by simpa using h1
    have h2' : decide (256 < n) = false := by simpa using h2
    have h3' : decide (mark < 0) = false := by simpa using h3
    have h4' : decide ((z : Int) < mark) = true := by simp; omega
    clear hb h1 h2 h3
    go_enter Try.func19, Try.ntmps19
    go_wp2_with fail
    go_ret2
    exact ⟨rfl, rfl⟩

set_option maxHeartbeats 1000000 in
set_option maxRecDepth 20000 in
theorem page_good (h : LgAt w l b F G g d) (n : Int) (m : Nat) (hn1 : 1 ≤ n) (hn2 : n ≤ 256) (hm : m ≤ g.list.length) (r : List UInt8 × Int) (hr : r = match lastAt g.list n m with
    | some s => (s, 0)
    | none => if ((d.now 0).length : Int) < 8 * n then (zeros 512, 0) else readM d 0 (8 * (n - 1)) 8) :
    Calls Try.prog 19 #[.pointer (some ⟨l, 0, none⟩), .int .i64 n, .int .i64 (m : Int)] w fun e w' => e = .returned (.tuple #[.string (bs r.1), .int .i64 r.2]) ∧ Below w.heap.size w w' := by
  obtain ⟨lv, hl⟩ := h.log
  have c0 := hl.cell 0
  have c5 := hl.cell 5
  simp only [logCells, List.getElem?_cons_succ, List.getElem?_cons_zero] at c0 c5
  obtain ⟨ao, cap, rfl, hc⟩ := hl.slice
  have hmany := hl.ok.many
  have Hc := hid hc
  have SZ := fun f => hid (size_any h.disk f)
  have RD := hid (read_any h.disk 0 (8 * (n - 1)) 8 (by omega))
  have NT := fun W => wnoughts_any 512 W (by omega)
  obtain ⟨z, hz⟩ : ∃ z, z = g.list.length := ⟨_, rfl⟩
  have Hz := hid hz
  rw [← hz] at c5 hm hmany
  have h1' : decide (n < 1) = false := by simpa using hn1
  have h2' : decide (256 < n) = false := by simpa using hn2
  have h3' : decide ((m : Int) < 0) = false := by simp
  have h4' : ¬ (z < m) := by omega
  have h5 : IntKind.i64.wrap ((m : Int) - 1) = (m : Int) - 1 := IntWalk.i64_in _ (by omega)
  have h6 : IntKind.i64.wrap (8 * n) = 8 * n := IntWalk.i64_in _ (by omega)
  have h7 : IntKind.i64.wrap (n - 1) = n - 1 := IntWalk.i64_in _ (by omega)
  have h8 : IntKind.i64.wrap (8 * (n - 1)) = 8 * (n - 1) := IntWalk.i64_in _ (by omega)
  have S0 := SZ 0
  rw [if_pos (by omega)] at S0
  obtain ⟨q, hq⟩ : ∃ q : Int, q = (d.now 0).length := ⟨_, rfl⟩
  have hq2 : ((d.now (0 : Int).toNat).length : Int) = q := by rw [hq]; rfl
  rw [hq2] at S0
  rw [← hq] at hr
  obtain ⟨rd, hrd⟩ : ∃ rd, rd = readM d 0 (8 * (n - 1)) 8 := ⟨_, rfl⟩
  rw [← hrd] at RD hr
  have Hr := hid hr
  have Hb := hid hn1
  have Hb2 := hid hn2
  have Hm := hid hm
  have Hmany := hid hmany
  clear hl h hc hz hq hq2 hrd SZ hn1 hn2 hm hmany hr
  go_enter Try.func19, Try.ntmps19
  go_wp2_with fail
  go_loopw [8] (fun v8 wr => ∃ i : Nat, i ≤ m ∧ v8 = .int .i64 ((i : Int) - 1) ∧ wr = w ∧ lastAt g.list n m = lastAt g.list n i) (fun v8 _ => (intOf v8 + 1).toNat)
  case atStart => exact ⟨m, Nat.le_refl _, rfl, rfl, rfl⟩
  case round =>
    obtain ⟨i, him, rfl, hw, hlast⟩ := hrel
    subst hw
    have Hlast := hid hlast
    clear hlast
    cases i with
    | zero =>
      have hge : decide ((0 : Int) ≤ ((0 : Nat) : Int) - 1) = false := by simp
      by_cases hs : q < 8 * n
      · have hs' : decide (q < 8 * n) = true := by simpa using hs
        obtain rfl : r = (zeros 512, 0) := by rw [Hr.out, Hlast.out]; simp [lastAt, hs]
        clear hs
        go_wp2_with (first
          | (go_at_call 26; refine S0.out.mono ?_; rintro e w1 ⟨rfl, rfl⟩)
          | (go_at_call 28; refine (NT _).mono ?_; rintro e w1 ⟨rfl, hb1⟩)
          | go_in)
        go_ret2
        exact ⟨rfl, hb1⟩
      · have hs' : decide (q < 8 * n) = false := by simpa using hs
        obtain rfl : r = rd := by rw [Hr.out, Hlast.out]; simp [lastAt, hs]
        clear hs
        go_wp2_with (first
          | (go_at_call 26; refine S0.out.mono ?_; rintro e w1 ⟨rfl, rfl⟩)
          | (go_at_call 29; refine RD.out.mono ?_; rintro e w1 ⟨rfl, hb1⟩)
          | go_in)
        go_ret2
        exact ⟨rfl, hb1⟩
    | succ i =>
      have hil : i < g.list.length := by have := Hz.out; have := Hm.out; omega
      have e1 : ((i + 1 : Nat) : Int) - 1 = (i : Int) := by omega
      rw [e1]
      obtain ⟨p, rfl, f0, -, f2⟩ := Hc.out i hil
      have hiz : i < z := by have := Hz.out; omega
      have h9 : IntKind.i64.wrap ((i : Int) - 1) = (i : Int) - 1 := IntWalk.i64_in _ (by have := Hmany.out; omega)
      obtain ⟨fr, hfr⟩ : ∃ fr, fr = g.list[i] := ⟨_, rfl⟩
      rw [← hfr] at f0 f2
      by_cases hp : fr.page = n
      · have hp' : (fr.page == n) = true := by simpa using hp
        obtain rfl : r = (fr.data, 0) := by rw [Hr.out, Hlast.out, lastAt_hit hil (by rw [← hfr]; exact hp), hfr]
        clear hp hfr
        go_wp2_with fail
        go_ret2
        exact ⟨by first | trivial | rfl, Below.refl _ _⟩
      · have hp' : (fr.page == n) = false := by simpa using hp
        have H1 := hid ((Hlast.out).trans (lastAt_miss hil (by rw [← hfr]; exact hp)))
        have Hfr := hid hfr
        clear hp hfr
        go_wp2_with fail
        go_roundw
        case rel => exact ⟨i, by omega, by simp, by trivial, H1.out⟩
        case measure => (simp [intOf]) <;> omega
theorem page_any (h : LgAt w l b F G g d) (n mark : Int) :
    Calls Try.prog 19 #[.pointer (some ⟨l, 0, none⟩), .int .i64 n, .int .i64 mark] w fun e w' => e = .returned (.tuple #[.string (bs (pageM g d n mark).1), .int .i64 (pageM g d n mark).2]) ∧ Below w.heap.size w w' := by
  by_cases hb : pageBad g n mark
  · unfold pageM
    rw [if_pos hb]
    refine (page_bad h n mark hb).mono ?_
    rintro e w1 ⟨rfl, rfl⟩
    exact ⟨rfl, Below.refl _ _⟩
  · have hb' := hb
    unfold pageBad at hb'
    obtain ⟨m, rfl⟩ : ∃ m : Nat, mark = m := ⟨mark.toNat, by omega⟩
    exact page_good h n m (by omega) (by omega) (by omega) _ (by unfold pageM; rw [if_neg hb, Int.toNat_natCast])
end
theorem page_nil (n mark : Int) (w : World) : Calls Try.prog 19 #[.pointer none, .int .i64 n, .int .i64 mark] w fun e w' => e = .returned (.tuple #[.string (bs []), .int .i64 1]) ∧ w' = w := by
  go_enter Try.func19, Try.ntmps19
  go_wp2_with fail
  go_ret2
  exact ⟨rfl, rfl⟩
end Go.Proofs.Ytioafhkblmebmaa
