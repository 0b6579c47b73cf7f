/- For laws over pagers: rows of strings; plain laws of appends and commits on a calm disk; pages that can be read. -/
import Derived.Test.YtcpejlmnplkbaaaGreatPgO
set_option linter.unusedVariables false
set_option linter.unusedSimpArgs false
namespace Go.Proofs.YtcpejlmnplkbaaaGreat
open Go.RowKit Go.Maps
set_option maxRecDepth 20000
def in64 (n : Int) : Prop := -9223372036854775808 ≤ n ∧ n ≤ 9223372036854775807
def strV (l : List (List UInt8)) : List Value := l.map fun s => .string (bs s)
theorem strV_append (a b : List (List UInt8)) : strV (a ++ b) = strV a ++ strV b := by simp [strV]
abbrev StrRow (w : World) (base : Nat) (v : Value) (l : List (List UInt8)) : Prop := w.ownsRow base 9 1 v l.length (strV l)
def p0 : Pg := ⟨none, [], 0⟩
section
variable {w W W' : World} {pb l b : Nat} {p p' : Pg} {g g' : Lg} {d d' : Dsk} {X X' : Nat → Prop}
theorem PgX.to (h : PgX w W pb l b p g d X) (hx : ∀ k, X' k → X k) : PgX w W pb l b p g d X' := px_add h (Below.refl _ _) (fun k hk => .inl (hx k hk)) (fun k hk => h.xlt k (hx k hk))
theorem ppages_range (h : PgX w W pb l b p g d X) : 0 ≤ ppagesM p g ∧ ppagesM p g ≤ 256 := by
 have h1 := h.ok
 have h2 := h.oks.1.pages
 unfold ppagesM
 cases hp : p.now with
 | none => exact h2
 | some t => exact (h1.now t hp).pages
theorem px_fresh (h : MkD w W b newM) : Calls Tryz.prog 35 #[.pointer (some ⟨b, 0, none⟩)] W fun e w' => ∃ pb l, e = .returned (.tuple #[.pointer (some ⟨pb, 0, none⟩), .int .i64 0]) ∧ PgX w w' pb l b p0 exG0 newM (fun k => k < w.heap.size) := px_open h ex_open
theorem StrRow.cell {base g cap : Nat} {l : List (List UInt8)} (h : StrRow W base (.slice (some ⟨g, 0, none⟩) l.length cap) l) {i : Nat} (hi : i < l.length) : W.cell? ⟨g, i, none⟩ = some (.string (bs l[i])) := by
 have := World.ownsRow.cellAt h i (by omega)
 rw [this]
 simp [strV, hi]
end
theorem putsN_length_ok (salt : Int) : ∀ (l : List Fr) (p : Int × Int), (∀ f ∈ l, frOk f = true) → (putsN salt l p).1.length = 576 * l.length
 | [], p, _ => by simp [putsN]
 | f :: r, p, h => by
  have h1 : (putFr p salt f).s.length = 576 := by
   have hf := h f (by simp)
   unfold putFr
   rw [if_pos hf]
   unfold frOk at hf
   simp only [Bool.and_eq_true, decide_eq_true_eq] at hf
   exact frL_length p salt f hf.2
  have h2 := putsN_length_ok salt r (putFr p salt f).q (fun x hx => h x (by simp [hx]))
  simp only [putsN, List.length_append, List.length_cons]
  omega
theorem frsOf_ok {pages : Int} {x : List Img} (hp : 1 ≤ pages ∧ pages ≤ 256) (hx : ∀ i ∈ x, imgBad i = false) : ∀ f ∈ frsOf pages x, frOk f = true := by
 intro f hf
 obtain ⟨i, hi, rfl⟩ := List.getElem_of_mem hf
 have hi2 : i < x.length := by simpa [frsOf_length] using hi
 rw [frsOf_get pages x i hi2]
 have hb := hx x[i] (List.getElem_mem hi2)
 unfold imgBad at hb
 simp only [Bool.or_eq_false_iff, Bool.not_eq_false', bne_eq_false_iff_eq] at hb
 unfold frOk frAt frMay
 rw [Bool.and_eq_true, Bool.and_eq_true, decide_eq_true_eq]
 refine ⟨⟨hb.1, inB_true.2 ?_⟩, hb.2⟩
 show 0 ≤ (if i + 1 = x.length then pages else 0) ∧ (if i + 1 = x.length then pages else 0) ≤ 256
 split <;> omega
section
variable {p : Pg} {g : Lg} {d : Dsk}
theorem app_done (h : LgCalm g d) (hg : g.Ok) {pages : Int} {x : List Img} (hp : 1 ≤ pages ∧ pages ≤ 256) (h0 : x ≠ []) (hx : ∀ i ∈ x, imgBad i = false) (hr : g.list.length + x.length ≤ 256) : (lappendM pages x g d).1 = 0 := by
 have hl : x.length ≠ 0 := fun e => h0 (List.length_eq_zero_iff.1 e)
 have hany : ¬ x.any imgBad = true := by
  intro e
  obtain ⟨i, hi, hb⟩ := List.any_eq_true.1 e
  rw [hx i hi] at hb
  cases hb
 unfold lappendM
 rw [if_neg (by rw [h.off]; decide), if_neg (by omega), if_neg hany, if_neg (by omega)]
 have htext : (appText g pages x).1.length = (9 * x.length) * 64 := by
  unfold appText
  rw [putsN_length_ok _ _ _ (frsOf_ok hp hx), frsOf_length]
  omega
 have hS : (lputsS (appHead g pages x) true).length = 1 * 64 := by
  show (hdR (appHead g pages x)).1.length = _
  unfold hdR
  rw [if_pos (by unfold hdMay appHead inB; simp; omega)]
  exact hdL_length _
 have hs : (lstepsM (appSteps g pages x) g d).1 = 0 := by
  unfold appSteps
  rw [steps_one (mend_calm h.torn)]
  have w1 := write_ok h.calm (k := 1) (a := 1 + 9 * g.list.length) (by decide) htext (by omega) (by omega)
  have c1 := calm_write h.calm ((1 : Nat) : Int) ((1 + 9 * g.list.length : Nat) : Int) (appText g pages x).1
  have e1 : ((1 + 9 * g.list.length : Nat) : Int) = 1 + 9 * (g.list.length : Int) := by omega
  rw [e1] at w1 c1
  have r1 : lwriteM (appText g pages x).1 g d = (0, g, (writeM d 1 (1 + 9 * g.list.length) (appText g pages x).1).2) := by
   unfold lwriteM
   exact Prod.ext w1 rfl
  rw [steps_one r1]
  obtain ⟨d1, hd⟩ : ∃ d1, d1 = (writeM d 1 (1 + 9 * g.list.length) (appText g pages x).1).2 := ⟨_, rfl⟩
  have c1 : Calm (writeM d 1 (1 + 9 * g.list.length) (appText g pages x).1).2 := c1
  rw [← hd] at c1 ⊢
  clear hd r1 w1
  obtain ⟨r2, c2⟩ := sync_log (g := g) c1 h.off
  rw [steps_one r2]
  obtain ⟨d2, hd⟩ : ∃ d2, d2 = (syncM d1 1).2 := ⟨_, rfl⟩
  rw [← hd] at c2 ⊢
  clear hd r2
  have w3 : (writeM d2 ((1 : Nat) : Int) ((0 : Nat) : Int) (lputsS (appHead g pages x) true)).1 = 0 := write_ok c2 (by decide) hS (by decide) (by decide)
  have w3 : (writeM d2 1 0 (lputsS (appHead g pages x) true)).1 = 0 := w3
  have c3 : Calm (writeM d2 1 0 (lputsS (appHead g pages x) true)).2 := calm_write c2 1 0 _
  have r3 : lputsM (appHead g pages x) true { g with torn := false } d2 = (0, { g with torn := true }, (writeM d2 1 0 (lputsS (appHead g pages x) true)).2) := by
   unfold lputsM
   rw [w3]
   simp
  rw [steps_one r3]
  obtain ⟨r4, -⟩ := sync_log (g := { g with torn := true }) c3 h.off
  rw [steps_one r4]
  rfl
 rw [if_neg (by rw [hs]; simp)]
theorem trImgs_good {t : Tr} (h : t.Ok) : ∀ i ∈ trImgs t, imgBad i = false := by
 intro i hi
 unfold trImgs at hi
 obtain ⟨q, hq, rfl⟩ := List.mem_map.1 hi
 obtain ⟨hq1, hq2⟩ := keysOf_mem.1 hq
 obtain ⟨s, hs⟩ := Option.isSome_iff_exists.1 hq2
 have hd := h.dom q s hs
 unfold imgBad
 simp only [hs, Option.getD_some, hd.2.2]
 rw [inB_true.2 hq1]
 rfl
theorem trImgs_some {t : Tr} {q : Int} (hq : 1 ≤ q ∧ q ≤ 256) (h : (t.wr q).isSome = true) : trImgs t ≠ [] := by
 intro e
 unfold trImgs at e
 have := keysOf_mem.2 ⟨hq, h⟩
 rw [List.map_eq_nil_iff.1 e] at this
 cases this
theorem putM_calm (t : Tr) (h : LgCalm g d) (hg : g.Ok) (p : Pg) : LgCalm (putM p t g d).2.2.1 (putM p t g d).2.2.2 ∧ (putM p t g d).2.1 = emptied p := by
 obtain ⟨ck1, ck2⟩ := check_calm h hg
 unfold putM
 split
 ·rw [if_neg (by rw [ck1]; simp)]
  exact ⟨app_calm ck2.calm _ _, rfl⟩
 ·exact ⟨app_calm h _ _, rfl⟩
theorem putM_small (t : Tr) (N : Nat) (hp : g.head.pages ≤ 256) (h : d.Small N) (p : Pg) : (putM p t g d).2.2.2.Small (N + 8519680) := by
 have hc := ck_small g d N (N + 8388608) (Nat.le_refl _) hp h
 unfold putM
 split
 ·split
  ·exact hc.mono (by omega)
  ·exact app_small _ _ _ _ (N + 8388608) _ (by omega) hc
 ·exact app_small _ _ _ _ N _ (by omega) h
theorem commit_small (N : Nat) (hp : g.head.pages ≤ 256) (h : d.Small N) (p : Pg) : (pcommitM p g d).2.2.2.Small (N + 8519680) := by
 have hm := h.mono (M := N + 8519680) (by omega)
 unfold pcommitM
 split
 ·exact hm
 ·split
  ·split
   ·exact hm
   split
   ·exact hm
   ·exact putM_small _ N hp h _
  ·exact putM_small _ N hp h _
end
end Go.Proofs.YtcpejlmnplkbaaaGreat
