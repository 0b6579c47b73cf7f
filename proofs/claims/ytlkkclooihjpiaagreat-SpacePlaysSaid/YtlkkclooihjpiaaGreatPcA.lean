/- For laws over pagers: rows of strings; plain laws of appends and commits on a calm disk; pages that can be read. -/
import Derived.Test.YtlkkclooihjpiaaGreatPgO
set_option linter.unusedVariables false
set_option linter.unusedSimpArgs false
namespace Go.Proofs.YtlkkclooihjpiaaGreat
open Go.RowKit Go.Maps
set_option maxRecDepth 20000
def in64 (n : Int) : Prop := -9223372036854775808 ≤ n ∧ n ≤ 9223372036854775807
def p0 : Pg := ⟨none, [], 0⟩
section
variable {w W W' : World} {pb l b : Nat} {p p' : Pg} {g g' : Lg} {d d' : Dsk} {X X' : Nat → Prop}
theorem PgX.to (h : PgX w W pb l b p g d X) (hx : ∀ k, X' k → X k) : PgX w W pb l b p g d X' := px_add h (Below.refl _ _) (fun k hk => .inl (hx k hk)) (fun k hk => h.xlt k (hx k hk))
theorem ppages_range (h : PgX w W pb l b p g d X) : 0 ≤ ppagesM p g ∧ ppagesM p g ≤ 256 := by
 have h1 := h.ok
 have h2 := h.oks.1.pages
 unfold ppagesM
 cases hp : p.now with
 | none => exact h2
 | some t => exact (h1.now t hp).pages
theorem px_fresh (h : MkD w W b newM) : Calls Tryz.prog 8 #[.pointer (some ⟨b, 0, none⟩)] W fun e w' => ∃ pb l, e = .returned (.tuple #[.pointer (some ⟨pb, 0, none⟩), .int .i64 0]) ∧ PgX w w' pb l b p0 exG0 newM (fun k => k < w.heap.size) := px_open h ex_open
end
theorem putsN_length_ok (salt : Int) : ∀ (l : List Fr) (p : Int × Int), (∀ f ∈ l, frOk f = true) → (putsN salt l p).1.length = 576 * l.length
 | [], p, _ => by simp [putsN]
 | f :: r, p, h => by
  have h1 : (putFr p salt f).s.length = 576 := by
   have hf := h f (by simp)
   unfold putFr
   rw [if_pos hf]
   unfold frOk at hf
   simp only [Bool.and_eq_true, decide_eq_true_eq] at hf
   exact frL_length p salt f hf.2
  have h2 := putsN_length_ok salt r (putFr p salt f).q (fun x hx => h x (by simp [hx]))
  simp only [putsN, List.length_append, List.length_cons]
  omega
theorem frsOf_ok {pages : Int} {x : List Img} (hp : 1 ≤ pages ∧ pages ≤ 256) (hx : ∀ i ∈ x, imgBad i = false) : ∀ f ∈ frsOf pages x, frOk f = true := by
 intro f hf
 obtain ⟨i, hi, rfl⟩ := List.getElem_of_mem hf
 have hi2 : i < x.length := by simpa [frsOf_length] using hi
 rw [frsOf_get pages x i hi2]
 have hb := hx x[i] (List.getElem_mem hi2)
 unfold imgBad at hb
 simp only [Bool.or_eq_false_iff, Bool.not_eq_false', bne_eq_false_iff_eq] at hb
 unfold frOk frAt frMay
 rw [Bool.and_eq_true, Bool.and_eq_true, decide_eq_true_eq]
 refine ⟨⟨hb.1, inB_true.2 ?_⟩, hb.2⟩
 show 0 ≤ (if i + 1 = x.length then pages else 0) ∧ (if i + 1 = x.length then pages else 0) ≤ 256
 split <;> omega
section
variable {p : Pg} {g : Lg} {d : Dsk}
theorem trImgs_good {t : Tr} (h : t.Ok) : ∀ i ∈ trImgs t, imgBad i = false := by
 intro i hi
 unfold trImgs at hi
 obtain ⟨q, hq, rfl⟩ := List.mem_map.1 hi
 obtain ⟨hq1, hq2⟩ := keysOf_mem.1 hq
 obtain ⟨s, hs⟩ := Option.isSome_iff_exists.1 hq2
 have hd := h.dom q s hs
 unfold imgBad
 simp only [hs, Option.getD_some, hd.2.2]
 rw [inB_true.2 hq1]
 rfl
theorem trImgs_some {t : Tr} {q : Int} (hq : 1 ≤ q ∧ q ≤ 256) (h : (t.wr q).isSome = true) : trImgs t ≠ [] := by
 intro e
 unfold trImgs at e
 have := keysOf_mem.2 ⟨hq, h⟩
 rw [List.map_eq_nil_iff.1 e] at this
 cases this
theorem putM_small (t : Tr) (N : Nat) (hp : g.head.pages ≤ 256) (h : d.Small N) (p : Pg) : (putM p t g d).2.2.2.Small (N + 8519680) := by
 have hc := ck_small g d N (N + 8388608) (Nat.le_refl _) hp h
 unfold putM
 split
 ·split
  ·exact hc.mono (by omega)
  ·exact app_small _ _ _ _ (N + 8388608) _ (by omega) hc
 ·exact app_small _ _ _ _ N _ (by omega) h
theorem commit_small (N : Nat) (hp : g.head.pages ≤ 256) (h : d.Small N) (p : Pg) : (pcommitM p g d).2.2.2.Small (N + 8519680) := by
 have hm := h.mono (M := N + 8519680) (by omega)
 unfold pcommitM
 split
 ·exact hm
 ·split
  ·split
   ·exact hm
   split
   ·exact hm
   ·exact putM_small _ N hp h _
  ·exact putM_small _ N hp h _
end
end Go.Proofs.YtlkkclooihjpiaaGreat
