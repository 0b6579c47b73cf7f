/- SpacePlays: the document's calls walked. -/
import Derived.Test.YtlkkclooihjpiaaGreatPyB
import Derived.Test.YtlkkclooihjpiaaGreatLast
import Derived.Test.YtlkkclooihjpiaaGreatHeld
import Derived.Deep.AppendLies
import Derived.Deep.CutBlock
import Derived.Test.YtlkkclooihjpiaaGreatSpW
import Derived.Test.YtlkkclooihjpiaaGreatNdG
set_option linter.unusedVariables false
set_option linter.unusedSimpArgs false
namespace Go.Proofs.YtlkkclooihjpiaaGreat
open Go.RowKit Go.Maps
set_option maxRecDepth 20000
section
variable {W W' : World} {base wb : Nat} {m m' : RWd} {fs fn sv : Value} {l : List (RSt × Value)} {B : Nat → Prop} {s : RSt} {fv : Value}
end
end Go.Proofs.YtlkkclooihjpiaaGreat
/- SpacePlays: the document's Save walked. -/
namespace Go.Proofs.YtlkkclooihjpiaaGreat
open Go.RowKit Go.Maps
set_option maxRecDepth 20000
section
variable {W W' : World} {base wb : Nat} {m m' : RWd} {fs fn sv : Value} {l : List (RSt × Value)} {B : Nat → Prop} {s : RSt} {fv : Value}
end
end Go.Proofs.YtlkkclooihjpiaaGreat
/- SpacePlays: a pager and the document's world side by side; each call on them. -/
namespace Go.Proofs.YtlkkclooihjpiaaGreat
open Go.RowKit Go.Maps
set_option maxRecDepth 20000
section
variable {w W W' : World} {pb l b wb N : Nat} {p p' : Pg} {g g' : Lg} {d d' : Dsk} {m m2 : RWd} {B X X' : Nat → Prop} {h : Hdr} {M : List (List UInt8)} {F : List Nat} {s : RSt} {t : Tr}
structure PySt (w W : World) (pb l b wb : Nat) (p : Pg) (g : Lg) (d : Dsk) (m m2 : RWd) (N : Nat) (B X : Nat → Prop) : Prop where
 px : PgX w W pb l b p g d X
 inv : PwInv p g d m2
 wd : WdX W w.heap.size wb m B
 sub : ∀ k, B k → X k
 ge : ∀ k, X k → w.heap.size ≤ k
 sm : d.Small N
theorem PySt.pg {N' : Nat} {g' : Lg} {d' : Dsk} {p' : Pg} {m3 : RWd} {pb' l' : Nat} (h : PySt w W pb l b wb p g d m m2 N B X) (hx : PgX w W' pb' l' b p' g' d' X) (hi : PwInv p' g' d' m3) (hk : ∀ k, X k → W'.heap[k]? = W.heap[k]?) (hs : d'.Small N') : PySt w W' pb' l' b wb p' g' d' m m3 N' B X :=
 ⟨hx, hi, h.wd.keep (fun k e => hk k (h.sub k e)), h.sub, h.ge, hs⟩
structure PyRef (w W W' : World) (pb l b wb : Nat) (p : Pg) (g : Lg) (d : Dsk) (m : RWd) (N : Nat) (B X : Nat → Prop) : Prop where
 st : PySt w W' pb l b wb p g d m m N (moreB W W' B) (moreB W W' X)
 frm : Frm B W W'
end
end Go.Proofs.YtlkkclooihjpiaaGreat
/- SpacePlays: one call on both. -/
namespace Go.Proofs.YtlkkclooihjpiaaGreat
open Go.RowKit Go.Maps
set_option maxRecDepth 20000
section
variable {w W W' : World} {pb l b wb N : Nat} {p p' : Pg} {g g' : Lg} {d d' : Dsk} {m m2 : RWd} {B X X' : Nat → Prop}
end
end Go.Proofs.YtlkkclooihjpiaaGreat
/- SpacePlays: calls that come in, opened out of their readings; what is read behind a call. -/
namespace Go.Proofs.YtlkkclooihjpiaaGreat
open Go.ChangeShapes Go.WideShapes Go.ChangeAt Go.RowKit Go.Deep
set_option maxRecDepth 20000
set_option maxRecDepth 20000
structure Op3 where
 k : Int
 n : Int
 i : Int
instance : Inhabited Op3 := ⟨⟨0, 0, 0⟩⟩
def Ops3At (w : World) (v : Value) (l : List Op3) : Prop :=
 ∃ ao cap, v = .slice ao l.length cap ∧ ∀ k (hk : k < l.length), ∃ q o, ao = some ⟨q, o, none⟩ ∧ q < w.heap.size ∧ w.cell? ⟨q, o + k * 3, none⟩ = some (.int .i64 l[k].k) ∧ w.cell? ⟨q, o + k * 3 + 1, none⟩ = some (.int .i64 l[k].n) ∧ w.cell? ⟨q, o + k * 3 + 2, none⟩ = some (.int .i64 l[k].i)
structure Ops3In (w : World) (v : Value) (l : List Op3) : Prop where
 at' : Ops3At w v l
 len : l.length ≤ 9223372036854775807
 each : ∀ x ∈ l, in64 x.k ∧ in64 x.n ∧ in64 x.i
theorem lt_of_cell {w : World} {a : Addr} {v : Value} (h : w.cell? a = some v) : a.block < w.heap.size := by
 rcases Nat.lt_or_ge a.block w.heap.size with h1 | h1
 ·exact h1
 ·unfold World.cell? at h
  rw [Array.getElem?_eq_none h1] at h
  simp at h
section
variable {H : Type} {enc : TypeId × Value → H} {w : World} {base : Nat} {sp : Nat → Bool} {held : Bool}
theorem open_op3 {fuel : Nat} {cs : List Value} {x : DataW H × List MemPlace} (h : DataW.trod enc Tryz.prog w base sp held fuel 43 cs = some x) :
  ∃ (a b c : Int), cs = [.int .i64 a, .int .i64 b, .int .i64 c] ∧ in64 a ∧ in64 b ∧ in64 c := by
 obtain ⟨hl, n, hf⟩ := open_cells_struct Tryz.underlying43 (by kernel_rfl) (by kernel_rfl) h
 obtain ⟨a, b, c, rfl⟩ : ∃ a b c, cs = [a, b, c] := by
  match cs, hl with
  | [a, b, c], _ => exact ⟨a, b, c, rfl⟩
 obtain ⟨y0, h0⟩ := hf 0 _ rfl
 obtain ⟨y1, h1⟩ := hf 1 _ rfl
 obtain ⟨y2, h2⟩ := hf 2 _ rfl
 obtain ⟨p, e0, _, w0⟩ := DataW.trod_int Tryz.underlying3 h0
 obtain ⟨q, e1, _, w1⟩ := DataW.trod_int Tryz.underlying3 h1
 obtain ⟨r, e2, _, w2⟩ := DataW.trod_int Tryz.underlying3 h2
 simp at e0 e1 e2
 subst e0 e1 e2
 exact ⟨p, q, r, rfl, i64_wf w0, i64_wf w1, i64_wf w2⟩
theorem open_op3s_cell {fuel : Nat} {cs : List Value} {x : DataW H × List MemPlace} (h : DataW.trod enc Tryz.prog w base sp held fuel 23 cs = some x) :
  ∃ (v : Value) (l : List Op3), cs = [v] ∧ Ops3In w v l := by
 rcases open_slice Tryz.underlying23 h with ⟨rfl, _⟩ | ⟨a, len, cap, m, n, D, Pl, rfl, hb, hle, hcap, hm, _, hx⟩
 ·exact ⟨_, [], rfl, ⟨⟨none, 0, rfl, (fun k hk => by simp at hk)⟩, by simp, (fun x hx => by cases hx)⟩⟩
 have hlm : len ≤ m := by rw [hm]; split <;> omega
 have hcells : Tryz.prog.cellsOf 43 = 3 := by kernel_rfl
 rw [hcells] at hx
 obtain ⟨V, hV⟩ := choose_lt (α := Op3) (p := fun i y => (w.cell? (a.add (i * 3)) = some (.int .i64 y.k) ∧ w.cell? (a.add (i * 3 + 1)) = some (.int .i64 y.n) ∧ w.cell? (a.add (i * 3 + 2)) = some (.int .i64 y.i)) ∧ in64 y.k ∧ in64 y.n ∧ in64 y.i) (n := len) (fun i hi => by
  obtain ⟨cs', h1, h2⟩ := hx i (by omega)
  obtain ⟨p, q, r, rfl, hq⟩ := open_op3 h2
  obtain ⟨_, _, hc⟩ := World.cells?_some h1
  have c0 := hc 0 (by omega)
  have c1 := hc 1 (by omega)
  have c2 := hc 2 (by omega)
  rw [add_add] at c0 c1 c2
  exact ⟨⟨p, q, r⟩, ⟨by simpa using c0, by simpa using c1, by simpa using c2⟩, hq⟩)
 have hm' : maxLen = 9223372036854775807 := rfl
 have hlen : ((List.range len).map V).length = len := by simp
 refine ⟨_, (List.range len).map V, rfl, ⟨⟨some a, cap, by rw [hlen], fun k hk => ?_⟩, by rw [hlen]; omega, fun y hy => ?_⟩⟩
 ·rw [hlen] at hk
  obtain ⟨b, off, spot⟩ := a
  have hspot : spot = none := by simpa [Addr.add] using World.cell?_spot (hV 0 (by omega)).1.1
  subst hspot
  have hlt : b < w.heap.size := by simpa [Addr.add] using lt_of_cell (hV 0 (by omega)).1.1
  have h := (hV k hk).1
  simp only [Addr.add_lit] at h
  simp only [List.getElem_map, List.getElem_range]
  refine ⟨b, off, rfl, hlt, h.1, ?_, ?_⟩
  ·have := h.2.1; rwa [← Nat.add_assoc] at this
  ·have := h.2.2; rwa [← Nat.add_assoc] at this
 ·obtain ⟨i, hi, rfl⟩ := List.mem_map.1 hy
  exact (hV i (by simpa using hi)).2
theorem open_op3s {b0 : Nat} {v : Value} (hval : Value.okWide Tryz.prog w .any b0 23 v) (h : ∃ d p, DataW.Trod enc Tryz.prog w base sp held 23 v d p) : ∃ (z : Value × List Op3), v = z.1 ∧ Ops3In w z.1 z.2 := by
 obtain ⟨d, p, fuel, hf⟩ := h
 obtain ⟨ao, n, cap, rfl⟩ := okWide_slice Tryz.underlying23 hval
 obtain ⟨v, l, e, hl⟩ := open_op3s_cell hf
 simp [Value.cells] at e
 subst e
 exact ⟨(_, l), rfl, hl⟩
end
section
variable {w W W' : World} {pb l b wb N : Nat} {p p' : Pg} {g g' : Lg} {d d' : Dsk} {m m2 : RWd} {B X X' : Nat → Prop}
end
end Go.Proofs.YtlkkclooihjpiaaGreat
/- SpaceEnds: the page that is copied and laid; what is read where no transaction is. -/
namespace Go.Proofs.YtlkkclooihjpiaaGreat
open Go.RowKit Go.Maps
set_option maxRecDepth 20000
section
variable {w W W' : World} {pb l b : Nat} {p p' : Pg} {g g' : Lg} {d d' : Dsk} {X X' : Nat → Prop}
theorem read_still (h : p.now = none) : readHM p g d = readHM p0 g d := by
 have h1 : ppagesM p g = ppagesM p0 g := by unfold ppagesM; rw [h]; rfl
 have h2 : preadM p g d 1 = preadM p0 g d 1 := by unfold preadM; rw [h1, h]; rfl
 unfold readHM
 rw [h1, h2]
theorem pages_still (h : p.now = none) : ppagesM p g = g.head.pages := by unfold ppagesM; rw [h]
theorem px_pages_eq (h : PgX w W pb l b p g d X) {n : Int} (e : ppagesM p g = n) : Calls Tryz.prog 9 #[.pointer (some ⟨pb, 0, none⟩)] W fun e w' => e = .returned (.int .i64 n) ∧ w' = W := e ▸ px_pages h
theorem sread_eq (h : PgX w W pb l b p g d X) {fl ln K r0 r1 r2 r3 r4 r5 r6 r7 E : Int} (e : readHM p g d = (⟨fl, ln, K, [r0, r1, r2, r3, r4, r5, r6, r7]⟩, E)) : Calls Tryz.prog 10 #[.pointer (some ⟨pb, 0, none⟩)] W fun e w' => e = .returned (.tuple #[.agg #[.int .i64 fl, .int .i64 ln, .int .u64 K, .int .i64 r0, .int .i64 r1, .int .i64 r2, .int .i64 r3, .int .i64 r4, .int .i64 r5, .int .i64 r6, .int .i64 r7], .int .i64 E]) ∧ Below W.heap.size W w' := by
 have A := sread_any h
 rw [e] at A
 exact A
theorem read_form (p : Pg) (g : Lg) (d : Dsk) : ∃ fl ln K r0 r1 r2 r3 r4 r5 r6 r7 E, readHM p g d = (⟨fl, ln, K, [r0, r1, r2, r3, r4, r5, r6, r7]⟩, E) := by
 have h := (readHM_wf p g d).len
 obtain ⟨R, hR⟩ : ∃ R, R = readHM p g d := ⟨_, rfl⟩
 rw [← hR] at h ⊢
 clear hR
 obtain ⟨⟨fl, ln, K, r⟩, E⟩ := R
 obtain ⟨r0, r1, r2, r3, r4, r5, r6, r7, rfl⟩ := roots8 h
 exact ⟨fl, ln, K, r0, r1, r2, r3, r4, r5, r6, r7, E, rfl⟩
theorem roll_still (h : p.now.isSome = true) : (prollM p).1 = 0 ∧ (prollM p).2.now = none := by
 unfold prollM
 cases e : p.now with
 | none => rw [e] at h; cases h
 | some t => exact ⟨rfl, rfl⟩
theorem px_roll_eq (h : PgX w W pb l b p g d X) (e : p.now.isSome = true) : Calls Tryz.prog 15 #[.pointer (some ⟨pb, 0, none⟩)] W fun e w' => ∃ p', e = .returned (.int .i64 0) ∧ p'.now = none ∧ PgX w w' pb l b p' g d X ∧ ∀ k, X k → w'.heap[k]? = W.heap[k]? := by
 have A := px_roll h
 rw [(roll_still e).1] at A
 exact A.mono fun e w' hh => ⟨_, hh.1, (roll_still ‹_›).2, hh.2⟩
end
theorem z512 : Tryz.zeroCells27 = (cellsOf (zeros 512)).toArray := by kernel_rfl
theorem fill_conv (W : World) (bb : Nat) (l : List UInt8) (hl : l.length = 512) (hb : W.heap[bb]? = some (.cells (cellsOf l).toArray 27 (0, 0))) :
  (convert 28 9 (.slice (some ⟨bb, 0, none⟩) 512 512)).run Tryz.prog W = .ok (.string (bs l)) W := by
 have := run_convert_cells (P := Tryz.prog) W 28 9 5 Tryz.underlying28 Tryz.underlying5 Tryz.underlying9 bb 0 512 512 (l.map fun c => (c.toNat : Int)) (by simp [hl]) (fun i hi => by
  rw [Nat.zero_add, cell_of_block hb]
  simp [cellsOf, hl, hi])
 rw [this]
 congr 3
 simp [Function.comp_def]
def padP (l : List UInt8) : List UInt8 := l.take 512 ++ zeros (512 - l.length)
theorem padP_length (l : List UInt8) : (padP l).length = 512 := by simp [padP, zeros]; omega
theorem copy_pad (l : List UInt8) (W : World) (T : TypeId) :
  (Builtin.copy_ #[28, 9] 3 #[.slice (some ⟨W.heap.size, 0, none⟩) 512 512, .string (bs l)]).run Tryz.prog (W.alloc (.cells Tryz.zeroCells27 T)) =
   .ok (goInt (Nat.min l.length 512)) (W.alloc (.cells (cellsOf (padP l)).toArray T)) := by
 rw [z512]
 have hz : (cellsOf (zeros 512)).length = 512 := by simp [cellsOf, zeros]
 have hst := run_storeCells_at (P := Tryz.prog) W.heap.size 0 T ((l.take 512).map (fun c => Value.int .u8 (c.toNat : Int))) 0 (cellsOf (zeros 512)).toArray (W.alloc (.cells (cellsOf (zeros 512)).toArray T)) (by simp [World.alloc, -World.alloc_eq]) (by simp [hz]; omega) (by intro v hv; obtain ⟨c, _, rfl⟩ := List.mem_map.1 hv; rfl)
 rw [setRow_alloc] at hst
 obtain ⟨i, hi⟩ : ∃ i, Tryz.prog.info? 5 = some i := Option.isSome_iff_exists.1 (by kernel_rfl)
 have hs : i.size = 1 := by
  have : (Tryz.prog.info? 5).map (·.size) = some 1 := by kernel_rfl
  rw [hi] at this
  simpa using this
 have hfin : ((cellsOf (zeros 512)).toArray.toList.take (0 + 0) ++ (l.take 512).map (fun c => Value.int .u8 (c.toNat : Int)) ++ (cellsOf (zeros 512)).toArray.toList.drop (0 + 0 + ((l.take 512).map (fun c => Value.int .u8 (c.toNat : Int))).length)) = cellsOf (padP l) := by
  unfold cellsOf padP zeros
  have e1 : 512 - min 512 l.length = 512 - l.length := by omega
  simp only [Nat.zero_add, List.take_zero, List.nil_append, List.length_map, List.length_take, List.map_append, List.map_replicate, List.drop_replicate, e1]
 rw [hfin] at hst
 have ht : l.take (Nat.min l.length 512) = l.take 512 := by
  show l.take (min l.length 512) = _
  rcases Nat.le_total l.length 512 with h | h
  ·rw [Nat.min_eq_left h, List.take_length, List.take_of_length_le h]
  ·rw [Nat.min_eq_right h]
 have hst2 := hst
 simp [Builtin.copy_, run_underlying Tryz.underlying28, Builtin.lenOf, Builtin.firstCells, sizeOf, typeInfo, hi, hs, bs_size, bs_data, ht, -World.alloc_eq]
 simp [-World.alloc_eq] at hst2
 have ht2 : ((l.map (fun b => Value.int .u8 (b.toNat : Int))).take (l.length.min 512)) = (l.map (fun b => Value.int .u8 (b.toNat : Int))).take 512 := by rw [← List.map_take, ht, List.map_take]
 rw [ht2, hst2]
 rfl
theorem mk_write_at {w W : World} {b : Nat} {d : Dsk} (h : MkD w W b d) (a : Int) (s : List UInt8) (hs : d.Small 1099511527776) (hok : (writeM d 0 a s).1 = 0) (hl : s.length = 512) :
  Calls Tryz.prog 7 #[.pointer (some ⟨b, 0, none⟩), .int .i64 0, .int .i64 a, .string (bs s)] W fun e w' => e = .returned (.int .i64 0) ∧ MkD w w' b (writeM d 0 a s).2 := by
 obtain ⟨⟨F, h1, h2⟩, hb⟩ := h
 refine (write_any h1 0 a s hs (by omega)).mono ?_
 rintro e w' ⟨rfl, F2, h3, h4⟩
 rw [hok]
 have hsz := hb.size
 refine ⟨rfl, ⟨F2, h3, fun k hk => ?_⟩, h4.frm.os.trans hb.os, h4.frm.tape.trans hb.tape, h4.frm.output.trans hb.output, Nat.le_trans hsz h4.frm.size, fun k hk => ?_⟩
 ·rcases hk with hk | hk
  ·exact (h4.own k hk).elim (fun e => h2 k (.inl e)) (fun e => by omega)
  ·exact (h4.sh k hk).elim (fun e => h2 k (.inr e)) (fun e => by omega)
 ·rw [h4.frm.block k (by omega) (fun e => by have := h2 k (.inl e); omega)]
  exact hb.block k hk
structure StrsIn (w : World) (v : Value) (l : List (List UInt8)) : Prop where
 at' : ∃ ao cap, v = .slice ao l.length cap ∧ ∀ k (hk : k < l.length), ∃ q o, ao = some ⟨q, o, none⟩ ∧ q < w.heap.size ∧ w.cell? ⟨q, o + k, none⟩ = some (.string (bs l[k]))
 len : l.length ≤ 9223372036854775807
 big : ∀ x ∈ l, x.length ≤ 9223372036854775807
end Go.Proofs.YtlkkclooihjpiaaGreat
