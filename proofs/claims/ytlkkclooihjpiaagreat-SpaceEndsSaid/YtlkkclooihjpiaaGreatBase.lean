/- Plain words for the walks: a string as a list of bytes ('bs'), and the walk's rules on it. -/
import Derived.Test.YtlkkclooihjpiaaGreatRows
import Derived.WalkKit
import Derived.WalkSpells
import Derived.WalkLawsBesides
import Derived.Deep.QuietTactic
import Derived.BigQuiet
import Derived.Lib.QuietBelow
import Derived.StillTailTactics
import Derived.Deep.RegionHeld3
import Derived.Deep.AppendLies
import Derived.Laws.AppendOwnNone
set_option linter.unusedVariables false
set_option linter.unusedSimpArgs false
namespace Go.Proofs.YtlkkclooihjpiaaGreat
open Go.RowKit
set_option maxRecDepth 20000
def bs (l : List UInt8) : ByteArray := ⟨l.toArray⟩
@[go_sem] theorem bs_append_mk (a : List UInt8) (b : Array UInt8) : bs a ++ ByteArray.mk b = bs (a ++ b.toList) := by
 apply ByteArray.ext
 simp [bs]
@[go_sem] theorem mk_append_bs (a : Array UInt8) (b : List UInt8) : ByteArray.mk a ++ bs b = bs (a.toList ++ b) := by
 apply ByteArray.ext
 simp [bs]
@[go_sem] theorem bs_append (a b : List UInt8) : bs a ++ bs b = bs (a ++ b) := by
 apply ByteArray.ext
 simp [bs]
@[go_sem] theorem bs_size (l : List UInt8) : (bs l).size = l.length := by simp [bs, ByteArray.size]
@[go_sem] theorem bs_toList (l : List UInt8) : (bs l).toList = l := ByteArray.toList_mk l
@[go_sem] theorem bs_data (l : List UInt8) : (bs l).data.toList = l := rfl
@[go_sem] theorem bs_extract (l : List UInt8) (i j : Nat) : (bs l).extract i j = bs ((l.drop i).take (j - i)) := ByteArray.extract_mk l i j
@[go_sem] theorem bs_get (l : List UInt8) (i : Nat) (h : i < (bs l).size) : (bs l)[i]'h = l[i]'(by simpa [bs_size] using h) := rfl
@[go_sem] theorem take_rest (l : List UInt8) (n : Nat) : (l.drop n).take (l.length - n) = l.drop n := List.take_of_length_le (by simp)
theorem bs_of (s : ByteArray) : ∃ l, s = bs l := ⟨s.data.toList, rfl⟩
theorem hid {p : Prop} (h : p) : Hid p := h
theorem then_below {w w1 w2 : World} (h1 : Below w.heap.size w w1) (h2 : Below w1.heap.size w1 w2) : Below w.heap.size w w2 := h1.trans (h2.mono h1.size)
theorem ret_str {a b : List UInt8} (h : a = b) : Ending.returned (.string (bs a)) = .returned (.string (bs b)) := by rw [h]
theorem ret_bool {a b : Bool} (h : a = b) : Ending.returned (.bool a) = .returned (.bool b) := by rw [h]
theorem bcell {W w1 : World} (hb : Below W.heap.size W w1) : (∀ b o, b < W.heap.size → w1.cell? ⟨b, o, none⟩ = W.cell? ⟨b, o, none⟩) ∧ (∀ b o, b < W.heap.size → w1.frozen? ⟨b, o, none⟩ = W.frozen? ⟨b, o, none⟩) :=
 ⟨fun b o h => hb.cell (p := ⟨b, o, none⟩) h, fun b o h => hb.frozen (p := ⟨b, o, none⟩) h⟩
structure Frm (S : Nat → Prop) (w w' : World) : Prop where
 os : w'.os = w.os
 tape : w'.tape = w.tape
 output : w'.output = w.output
 size : w.heap.size ≤ w'.heap.size
 block : ∀ k, k < w.heap.size → ¬ S k → w'.heap[k]? = w.heap[k]?
theorem Frm.refl (S : Nat → Prop) (w : World) : Frm S w w := ⟨rfl, rfl, rfl, Nat.le_refl _, fun _ _ _ => rfl⟩
theorem Frm.trans {S : Nat → Prop} {a b c : World} (h : Frm S a b) (k : Frm S b c) : Frm S a c :=
 ⟨k.os.trans h.os, k.tape.trans h.tape, k.output.trans h.output, Nat.le_trans h.size k.size, fun i hi hs => (k.block i (Nat.lt_of_lt_of_le hi h.size) hs).trans (h.block i hi hs)⟩
theorem Frm.then {S T : Nat → Prop} {a b c : World} (h : Frm S a b) (k : Frm T b c) (hT : ∀ i, i < a.heap.size → T i → S i) : Frm S a c :=
 ⟨k.os.trans h.os, k.tape.trans h.tape, k.output.trans h.output, Nat.le_trans h.size k.size, fun i hi hs => (k.block i (Nat.lt_of_lt_of_le hi h.size) (fun ht => hs (hT i hi ht))).trans (h.block i hi hs)⟩
theorem Frm.of_below {S : Nat → Prop} {w w' : World} (h : Below w.heap.size w w') : Frm S w w' := ⟨h.os, h.tape, h.output, h.size, fun k hk _ => h.block k hk⟩
theorem Frm.below {S : Nat → Prop} {w w' : World} (h : Frm S w w') (hS : ∀ k, k < w.heap.size → ¬ S k) : Below w.heap.size w w' := ⟨h.os, h.tape, h.output, h.size, fun k hk => h.block k hk (hS k hk)⟩
theorem Frm.mono {S T : Nat → Prop} {w w' : World} (h : Frm S w w') (hS : ∀ k, S k → T k) : Frm T w w' := ⟨h.os, h.tape, h.output, h.size, fun k hk ht => h.block k hk (fun hs => ht (hS k hs))⟩
theorem Frm.drew {S : Nat → Prop} {a w : World} (h : Frm S a w) : Frm S a w.drew := ⟨h.os, h.tape, h.output, h.size, h.block⟩
theorem Frm.alloc {S : Nat → Prop} {a w : World} (h : Frm S a w) (o : Obj) : Frm S a (w.alloc o) :=
 ⟨h.os, h.tape, h.output, Nat.le_trans h.size (by simp), fun k hk hs => (Below.heap_alloc w o k (Nat.lt_of_lt_of_le hk h.size)).trans (h.block k hk hs)⟩
theorem Frm.setCell {S : Nat → Prop} {a w : World} (h : Frm S a w) {p : Addr} (hp : S p.block ∨ a.heap.size ≤ p.block) (u : Value) : Frm S a (w.setCell p u) :=
 ⟨h.os, h.tape, h.output, by simpa [World.setCell] using h.size, fun k hk hs => (Below.heap_setCell w p u k (by
  rintro rfl
  rcases hp with hp | hp
  ·exact hs hp
  ·omega)).trans (h.block k hk hs)⟩
theorem cell_of_block {w : World} {b : Nat} {cs : Array Value} {T : TypeId} {fr : Nat × Nat} (h : w.heap[b]? = some (.cells cs T fr)) (o : Nat) : w.cell? ⟨b, o, none⟩ = cs[o]? := by simp [World.cell?, h]
theorem free_of_block {w : World} {b : Nat} {cs : Array Value} {T : TypeId} (h : w.heap[b]? = some (.cells cs T (0, 0))) (o : Nat) : w.frozen? ⟨b, o, none⟩ = false := by simp [World.frozen?, h]
theorem lt_of_block {w : World} {b : Nat} {o : Obj} (h : w.heap[b]? = some o) : b < w.heap.size := (Array.getElem?_eq_some_iff.1 h).1
theorem heap_alloc_old {w : World} {o : Obj} {b : Nat} {x : Obj} (h : w.heap[b]? = some x) : (w.alloc o).heap[b]? = some x := (Below.heap_alloc w o b (lt_of_block h)).trans h
theorem heap_alloc_new (w : World) (o : Obj) : (w.alloc o).heap[w.heap.size]? = some o := by simp [World.alloc, -World.alloc_eq]
theorem heap_setCell_same {w : World} {b : Nat} {cs : Array Value} {T : TypeId} {fr : Nat × Nat} (h : w.heap[b]? = some (.cells cs T fr)) (o : Nat) (u : Value) :
  (w.setCell ⟨b, o, none⟩ u).heap[b]? = some (.cells (cs.setIfInBounds o u) T fr) := by
 rw [setCell_eq_setRow w b o cs T fr u h]
 exact setRow_heap w b cs _ T fr h
def Grows (W : World) : World → Prop := fun w' => ∃ p : Regrown, w' = Sort.grow (redrawn W p.d) p.os
theorem grows_iff (W w' : World) : Grows W w' ↔ Below W.heap.size W w' := ⟨fun ⟨p, h⟩ => h ▸ below_regrown W p.d p.os, fun h => regrown_of_below h⟩
theorem region_below {P : Program} {id : Nat} {Q : Exit → Act → World → Prop} {a : Act} {W : World} {l : List Oper} (hm : P.follows .mixedOrders = true) (hB : Region.lexB .any l.toArray = true)
  (h : wpQuiet P l.toArray (fun w' => ∃ p : Regrown, w' = Sort.grow (redrawn W p.d) p.os) (fun a' => ∀ w', Below W.heap.size W w' → Q .normal a' w') l a) : (Code.region id l.toArray true).wp P Q a W := by
 refine wp_region_quiet_below hm hB ?_
 have e : (fun a' : Act => ∀ w', Below W.heap.size W w' → Q .normal a' w') = (fun a' : Act => ∀ w', (∃ p : Regrown, w' = Sort.grow (redrawn W p.d) p.os) → Q .normal a' w') := by
  funext a'
  apply propext
  exact ⟨fun h w' hw => h w' ((grows_iff W w').1 hw), fun h w' hw => h w' ((grows_iff W w').2 hw)⟩
 rw [← e]
 exact h
theorem region_tail {P : Program} {id : Nat} {Q : Exit → Act → World → Prop} {a : Act} {w : World} {l : List Oper} (n : Nat) (F : World → Prop) (hm : P.follows .mixedOrders = true) (hB : Region.lexTailB .any l.toArray n = true)
  (hF : F w.drew) (h : ∀ W, F W → wpStill P l.toArray W (fun a' => wpList P l.toArray Q (l.drop n) a' W) (l.take n) a) : (Code.region id l.toArray true).wp P Q a w :=
 wp_region_still_tail n hm hB (h _ hF)
theorem run_convert_cells {P : Program} (W : World) (src dst e : TypeId) (hs : P.underlying src = some (.slice e)) (he : P.underlying e = some (.int .u8)) (hd : P.underlying dst = some .string)
  (b off len cap : Nat) (xs : List Int) (hlen : xs.length = len) (hcell : ∀ i, i < len → W.cell? ⟨b, off + i, none⟩ = some (.int .u8 (xs.getD i 0))) :
  (convert src dst (.slice (some ⟨b, off, none⟩) len cap)).run P W = .ok (.string (bs (xs.map fun n => UInt8.ofNat n.toNat))) W :=
 run_convert_bytes_arg W src e hs he b off len cap xs hlen hcell dst hd
def cellsOf (l : List UInt8) : List Value := l.map fun c => Value.int .u8 (c.toNat : Int)
theorem cellsOf_length (l : List UInt8) : (cellsOf l).length = l.length := by simp [cellsOf]
theorem cellsOf_append (a b : List UInt8) : cellsOf (a ++ b) = cellsOf a ++ cellsOf b := by simp [cellsOf]
theorem cellsOf_one (l : List UInt8) : ∀ u ∈ cellsOf l, u.oneCell' = true := by
 intro u hu
 obtain ⟨_, _, rfl⟩ := List.mem_map.1 hu
 rfl
theorem run_convert_own {P : Program} (W : World) (src dst e : TypeId) (hs : P.underlying src = some (.slice e)) (he : P.underlying e = some (.int .u8)) (hd : P.underlying dst = some .string)
  (base : Nat) (v : Value) (n : Nat) (l : List UInt8) (ho : W.ownsRow base e 1 v n (cellsOf l)) :
  (convert src dst v).run P W = .ok (.string (bs l)) W := by
 have hn : l.length = n := by simpa [cellsOf_length] using ho.1
 rcases ho.2 with ⟨rfl, rfl⟩ | ⟨g, cap, cur, rfl, _, hg, hnc, _, _, ht⟩
 ·have := run_convert_bytes_nil (P := P) W src e hs he 0 0 dst hd
  rw [this]
  obtain rfl : l = [] := List.length_eq_zero_iff.1 hn
  rfl
 ·have h2 : ∀ i, i < n → W.cell? ⟨g, 0 + i, none⟩ = some (.int .u8 ((l.map fun c => (c.toNat : Int)).getD i 0)) := by
   intro i hi
   have h3 := ho.cells (g := g) rfl i (.int .u8 ((l.map fun c => (c.toNat : Int)).getD i 0)) (by simp [cellsOf, List.getD, hn, hi])
   rw [Addr.add_lit] at h3
   exact h3
  have := run_convert_bytes_arg (P := P) W src e hs he g 0 n cap (l.map fun c => (c.toNat : Int)) (by simpa using hn) h2 dst hd
  rw [this]
  congr 2
  simp [strOfNums, bs, Function.comp_def]
theorem run_copy_string {P : Program} (W : World) (dT sT ty elem : TypeId) (g o dLen dCap : Nat) (cur : Array Value) (t : TypeId) (l : List UInt8)
  (hu : P.underlying dT = some (.slice elem)) (hs : (P.info? elem).map (·.size) = some 1)
  (hg : W.heap[g]? = some (.cells cur t (0, 0))) (hl : l.length ≤ dLen) (hfit : o + l.length ≤ cur.size) :
  (Builtin.copy_ #[dT, sT] ty #[.slice (some ⟨g, o, none⟩) dLen dCap, .string (bs l)]).run P W =
   .ok (goInt l.length) (W.setRow g (cur.toList.take o ++ l.map (fun c => Value.int .u8 (c.toNat : Int)) ++ cur.toList.drop (o + l.length)).toArray) := by
 have hst := run_storeCells_at P g o t (l.map (fun c => Value.int .u8 (c.toNat : Int))) 0 cur W hg (by simpa using hfit) (by intro v hv; simp at hv; obtain ⟨c, _, rfl⟩ := hv; rfl)
 cases hq : P.info? elem with
 | none => simp [hq] at hs
 | some i =>
  have hi : i.size = 1 := by simpa [hq] using hs
  have hm : Nat.min l.length dLen = l.length := Nat.min_eq_left hl
  simp only [Nat.add_zero, List.length_map] at hst
  simp [Builtin.copy_, run_underlying hu, Builtin.lenOf, Builtin.firstCells, sizeOf, typeInfo, hq, hi, bs_size, hm, bs_data, List.take_of_length_le, hst]
theorem setRow_alloc (W : World) (cur cs : Array Value) (T : TypeId) : (W.alloc (.cells cur T)).setRow W.heap.size cs = W.alloc (.cells cs T) := by
 have hh : ((W.heap.push (Obj.cells cur T)).modify W.heap.size fun | .cells _ elem frozen => .cells cs elem frozen | o => o) = W.heap.push (Obj.cells cs T) := by
  apply Array.ext_getElem?
  intro k
  rw [Array.getElem?_modify, Array.getElem?_push, Array.getElem?_push]
  by_cases hk : W.heap.size = k
  ·subst hk; simp
  ·have hk' : ¬ k = W.heap.size := fun h => hk h.symm
   rw [if_neg hk, if_neg hk', if_neg hk']
 exact congrArg (fun h => ({ W with heap := h } : World)) hh
end Go.Proofs.YtlkkclooihjpiaaGreat
