/- For laws over pagers: rows of strings; plain laws of appends and commits on a calm disk; pages that can be read. -/
import Derived.Test.YtlkkclooihjpiaaGreatPgO
set_option linter.unusedVariables false
set_option linter.unusedSimpArgs false
namespace Go.Proofs.YtlkkclooihjpiaaGreat
open Go.RowKit Go.Maps
set_option maxRecDepth 20000
def in64 (n : Int) : Prop := -9223372036854775808 ≤ n ∧ n ≤ 9223372036854775807
def strV (l : List (List UInt8)) : List Value := l.map fun s => .string (bs s)
abbrev StrRow (w : World) (base : Nat) (v : Value) (l : List (List UInt8)) : Prop := w.ownsRow base 9 1 v l.length (strV l)
def p0 : Pg := ⟨none, [], 0⟩
section
variable {w W W' : World} {pb l b : Nat} {p p' : Pg} {g g' : Lg} {d d' : Dsk} {X X' : Nat → Prop}
theorem PgX.to (h : PgX w W pb l b p g d X) (hx : ∀ k, X' k → X k) : PgX w W pb l b p g d X' := px_add h (Below.refl _ _) (fun k hk => .inl (hx k hk)) (fun k hk => h.xlt k (hx k hk))
theorem ppages_range (h : PgX w W pb l b p g d X) : 0 ≤ ppagesM p g ∧ ppagesM p g ≤ 256 := by
 have h1 := h.ok
 have h2 := h.oks.1.pages
 unfold ppagesM
 cases hp : p.now with
 | none => exact h2
 | some t => exact (h1.now t hp).pages
theorem px_fresh (h : MkD w W b newM) : Calls Tryz.prog 8 #[.pointer (some ⟨b, 0, none⟩)] W fun e w' => ∃ pb l, e = .returned (.tuple #[.pointer (some ⟨pb, 0, none⟩), .int .i64 0]) ∧ PgX w w' pb l b p0 exG0 newM (fun k => k < w.heap.size) := px_open h ex_open
theorem StrRow.keep {base : Nat} {v : Value} {l : List (List UInt8)} (h : StrRow W base v l) (hk : ∀ k, v.ownBlock = some k → W'.heap[k]? = W.heap[k]?) : StrRow W' base v l := row_keep h hk
theorem StrRow.cell {base g cap : Nat} {l : List (List UInt8)} (h : StrRow W base (.slice (some ⟨g, 0, none⟩) l.length cap) l) {i : Nat} (hi : i < l.length) : W.cell? ⟨g, i, none⟩ = some (.string (bs l[i])) := by
 have := World.ownsRow.cellAt h i (by omega)
 rw [this]
 simp [strV, hi]
end
section
variable {p : Pg} {g : Lg} {d : Dsk}
end
end Go.Proofs.YtlkkclooihjpiaaGreat
