/- Pages of trees (node), any of them: the models; cells in memory; page, cell. -/
import Derived.Test.YtlkkclooihjpiaaGreatSpK
import Derived.Laws.Cover1
set_option linter.unusedVariables false
set_option linter.unusedSimpArgs false
namespace Go.Proofs.YtlkkclooihjpiaaGreat
open Go.RowKit Go.Maps
set_option maxRecDepth 20000
structure NCell where
 key : List UInt8
 size : Int
 loc : List UInt8
 page : Int
structure Nd where
 kind : Int
 first : Int
 cells : List NCell
 data : List UInt8
def nd0 : Nd := ⟨0, 0, [], []⟩
def pgB (n m : Int) : Bool := decide (m ≤ n) && decide (n ≤ 256)
def ncellB (kind : Int) (c : NCell) : Bool :=
 if 100 < (c.key.length : Int) then false
 else if kind = 2 then (c.size == 0) && ((c.loc == []) && pgB c.page 1)
 else if c.size < 0 ∨ 4000 < c.size ∨ (c.loc.length : Int) ≠ min c.size 100 then false
 else if 100 < c.size then pgB c.page 1 else c.page == 0
def keyLe (a b : List UInt8) : Bool := Op.bytesLess a b || a == b
def ncellsB (kind : Int) : Option (List UInt8) → List NCell → Bool
 | _, [] => true
 | prev, c :: r => ncellB kind c && (match prev with | none => true | some k => !keyLe c.key k) && ncellsB kind (some c.key) r
def nmayB (n : Nd) : Bool :=
 if n.kind = 1 then (n.first == 0 && n.data == []) && ncellsB 1 none n.cells
 else if n.kind = 2 then (pgB n.first 1 && (n.data == [] && !(n.cells.length == 0))) && ncellsB 2 none n.cells
 else if n.kind = 3 then pgB n.first 0 && (decide (1 ≤ (n.data.length : Int)) && (decide ((n.data.length : Int) ≤ 505) && (n.cells.length : Int) == 0))
 else if n.kind = 4 then pgB n.first 0 && (n.data == [] && (n.cells.length : Int) == 0)
 else false
def two (n : Int) : List UInt8 := [byt (n / 256), byt (n % 256)]
def ncellL (kind : Int) (c : NCell) : List UInt8 :=
 byt (c.key.length : Int) :: (c.key ++ ((if kind = 1 then two c.size ++ c.loc else []) ++ (if 0 < c.page then four c.page else [])))
def nbytesL (n : Nd) : List UInt8 :=
 byt n.kind :: (two (max (n.cells.length : Int) (n.data.length : Int)) ++ ((if n.kind = 1 then [] else four n.first) ++ (n.cells.flatMap (ncellL n.kind) ++ n.data)))
def nputM (n : Nd) : List UInt8 × Int := if nmayB n = false then ([], 2) else if 512 < (nbytesL n).length then ([], 8) else (nbytesL n ++ zeros (512 - (nbytesL n).length), 0)
def textR (n : Nat) (st : List UInt8 × Bool) : List UInt8 × List UInt8 × Bool := if st.1.length < n then ([], st.1, false) else (st.1.take n, st.1.drop n, st.2)
def numR (n : Nat) (st : List UInt8 × Bool) : Int × List UInt8 × Bool := (num (textR n st).1, (textR n st).2)
def tcellR (kind : Int) (st : List UInt8 × Bool) : NCell × List UInt8 × Bool :=
 let a := numR 1 st
 let b := textR a.1.toNat a.2
 let c := if kind = 1 then numR 2 b.2 else (0, b.2)
 let d := if kind = 1 then textR (min c.1 100).toNat c.2 else ([], c.2)
 let e := if kind = 2 ∨ 100 < c.1 then numR 4 d.2 else (0, d.2)
 (⟨b.1, c.1, d.1, e.1⟩, e.2)
def tcellsR (kind : Int) : Nat → List UInt8 × Bool → List NCell
 | 0, _ => []
 | n + 1, st => if st.2 then (tcellR kind st).1 :: tcellsR kind n (tcellR kind st).2 else []
def tfirstR (kind : Int) (st : List UInt8 × Bool) : Int × List UInt8 × Bool := if kind = 1 then (0, st) else numR 4 st
def tnodeR (s : List UInt8) : Nd :=
 let a := numR 1 (s, true)
 let b := numR 2 a.2
 let c := tfirstR a.1 b.2
 ⟨a.1, c.1, if a.1 = 1 ∨ a.1 = 2 then tcellsR a.1 b.1.toNat c.2 else [], if a.1 = 3 then (textR b.1.toNat c.2).1 else []⟩
def ntakeM (s : List UInt8) : Nd × Int := if s.length ≠ 512 then (nd0, 7) else if nputM (tnodeR s) = (s, 0) then (tnodeR s, 0) else (nd0, 7)
def ncC (c : NCell) : List Value := [.string (bs c.key), .int .i64 c.size, .string (bs c.loc), .int .i64 c.page]
def ncsC (l : List NCell) : List Value := l.flatMap ncC
def NcAt (W : World) (v : Value) (l : List NCell) : Prop :=
 ∃ ao cap, v = .slice ao l.length cap ∧ ∀ k (hk : k < l.length), ∃ q o, ao = some ⟨q, o, none⟩ ∧ q < W.heap.size ∧ W.cell? ⟨q, o + k * 4, none⟩ = some (.string (bs l[k].key)) ∧ W.cell? ⟨q, o + k * 4 + 1, none⟩ = some (.int .i64 l[k].size) ∧ W.cell? ⟨q, o + k * 4 + 2, none⟩ = some (.string (bs l[k].loc)) ∧ W.cell? ⟨q, o + k * 4 + 3, none⟩ = some (.int .i64 l[k].page)
def ndV (n : Nd) (v : Value) : Value := .agg #[.int .u8 n.kind, .int .i64 n.first, v, .string (bs n.data)]
structure NCell.Wf (c : NCell) : Prop where
 key : c.key.length ≤ 1099511627776
 loc : c.loc.length ≤ 1099511627776
structure NdIn (W : World) (n : Nd) (v : Value) : Prop where
 at' : NcAt W v n.cells
 many : n.cells.length ≤ 65535
 wf : ∀ c ∈ n.cells, c.Wf
 data : n.data.length ≤ 1099511627776
section
variable {W W' : World} {v : Value} {l : List NCell}
theorem NcAt.keep (h : NcAt W v l) (hb : Below W.heap.size W W') : NcAt W' v l := by
 obtain ⟨ao, cap, rfl, hc⟩ := h
 refine ⟨ao, cap, rfl, fun k hk => ?_⟩
 obtain ⟨q, o, rfl, hq, h0, h1, h2, h3⟩ := hc k hk
 exact ⟨q, o, rfl, Nat.lt_of_lt_of_le hq hb.size, (hb.cell (p := ⟨q, o + k * 4, none⟩) hq).trans h0, (hb.cell (p := ⟨q, o + k * 4 + 1, none⟩) hq).trans h1, (hb.cell (p := ⟨q, o + k * 4 + 2, none⟩) hq).trans h2, (hb.cell (p := ⟨q, o + k * 4 + 3, none⟩) hq).trans h3⟩
theorem npg_any (n m : Int) (w : World) : Calls Tryz.prog 91 #[.int .i64 n, .int .i64 m] w fun e w' => e = .returned (.bool (pgB n m)) ∧ w' = w := npage_any n m w
set_option maxHeartbeats 4000000 in
set_option maxRecDepth 20000 in
theorem ncell_any (kind : Int) (c : NCell) (hc : c.Wf) (w : World) : Calls Tryz.prog 92 #[.int .u8 kind, .agg #[.string (bs c.key), .int .i64 c.size, .string (bs c.loc), .int .i64 c.page]] w fun e w' => e = .returned (.bool (ncellB kind c)) ∧ Below w.heap.size w w' := by
 obtain ⟨K, S, L, P⟩ := c
 have hk := hc.key
 have hl := hc.loc
 dsimp only at hk hl
 have HB := hid (fun o : Obj => (Below.refl w.heap.size w).alloc (Nat.le_refl _) o)
 have PG := hid (fun W m => npg_any P m W)
 clear hc
 obtain ⟨R, hR⟩ : ∃ R, R = ncellB kind ⟨K, S, L, P⟩ := ⟨_, rfl⟩
 rw [← hR]
 have HR := hid hR
 clear hR
 go_enter Tryz.func92, Tryz.ntmps92
 go_wp2_with (first
  | (go_at_call 91; refine (PG.out _ _).mono ?_; rintro e w1 ⟨rfl, hw⟩; obtain rfl := hw.symm)
  | go_in)
 all_goals go_ret
 all_goals refine ⟨?_, HB.out _⟩
 all_goals rw [HR.out]
 all_goals unfold ncellB
 all_goals simp_all
 all_goals try omega
 all_goals
  have e1 : decide (100 < (K.length : Int)) = false := by simp; omega
  have e2 : decide (S < 0) = false := by simp; omega
  have e3 : decide (4000 < S) = false := by simp; omega
  rw [e1, e2, e3]
  simp only [Bool.not_false, Bool.true_and]
 all_goals rw [if_neg (by omega)]
end
end Go.Proofs.YtlkkclooihjpiaaGreat
