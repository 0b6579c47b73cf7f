/- A disk in memory: its block, its files' maps, its row of loose changes, its map of what is armed; whose they are. -/
import Derived.Test.YtlkkclooihjpiaaGreatDkC
set_option linter.unusedVariables false
set_option linter.unusedSimpArgs false
namespace Go.Proofs.YtlkkclooihjpiaaGreat
open Go.RowKit Go.Maps
set_option maxRecDepth 20000
structure Dsk where
 now : Nat → List Sec
 sure : Nat → List Sec
 loose : List Chg
 armed : Int → Int
 ops : Int
 goes : Int
 off : Bool
 narm : Nat
structure Dsk.Ok (d : Dsk) : Prop where
 nl : ∀ f, f < 8 → (d.now f).length ≤ 8192
 sl : ∀ f, f < 8 → (d.sure f).length ≤ 8192
 ns : ∀ f, f < 8 → ∀ s ∈ d.now f, s.length = 64
 ss : ∀ f, f < 8 → ∀ s ∈ d.sure f, s.length = 64
 lo : ∀ c ∈ d.loose, c.file < 8 ∧ c.at_ ≤ 8192 ∧ c.bytes.length = 64 ∧ (c.cut = false → c.at_ < 8192)
 op0 : 0 ≤ d.ops
structure Dsk.Small (d : Dsk) (N : Nat) : Prop where
 ops : d.ops ≤ N
 arm : d.narm ≤ N
 loose : d.loose.length ≤ N
theorem Dsk.Small.mono {d : Dsk} {N M : Nat} (h : d.Small N) (hm : N ≤ M) : d.Small M := ⟨by have := h.ops; omega, by have := h.arm; omega, by have := h.loose; omega⟩
theorem does_len {l : List Sec} {c : Chg} (hl : l.length ≤ 8192) (ha : c.cut = false → c.at_ < 8192) : (doesM l c).length ≤ 8192 := by
 cases h : c.cut with
 | false => rw [doesM_length_write h]; have := ha h; omega
 | true => rw [doesM_length_cut h]; omega
theorem does_sec {l : List Sec} {c : Chg} (hl : ∀ s ∈ l, s.length = 64) (hb : c.bytes.length = 64) : ∀ s ∈ doesM l c, s.length = 64 := by
 intro s hs
 cases h : c.cut with
 | false =>
  rw [doesM_write h] at hs
  rcases List.mem_or_eq_of_mem_set hs with h1 | rfl
  ·rcases List.mem_append.1 h1 with h1 | h1
   ·exact hl s h1
   ·rw [(List.mem_replicate.1 h1).2]; rfl
  ·exact hb
 | true =>
  rw [doesM_cut h] at hs
  exact hl s (List.mem_of_mem_take hs)
structure Foot where
 own : Nat → Prop
 sh : Nat → Prop
structure FootStep (F F' : Foot) (w w' : World) : Prop where
 frm : Frm F.own w w'
 own : ∀ k, F'.own k → F.own k ∨ w.heap.size ≤ k
 sh : ∀ k, F'.sh k → F.sh k ∨ w.heap.size ≤ k
theorem FootStep.refl (F : Foot) (w : World) : FootStep F F w w := ⟨Frm.refl _ _, fun _ h => .inl h, fun _ h => .inl h⟩
theorem FootStep.trans {F F' F'' : Foot} {a b c : World} (h : FootStep F F' a b) (k : FootStep F' F'' b c) : FootStep F F'' a c :=
 ⟨h.frm.then k.frm (fun i hi h1 => (h.own i h1).resolve_right (by omega)), fun i h1 => by
  rcases k.own i h1 with h2 | h2
  ·exact h.own i h2
  ·exact .inr (Nat.le_trans h.frm.size h2), fun i h1 => by
  rcases k.sh i h1 with h2 | h2
  ·exact h.sh i h2
  ·exact .inr (Nat.le_trans h.frm.size h2)⟩
theorem row_keep {w w' : World} {base size n : Nat} {e : TypeId} {v : Value} {xs : List Value} (h : w.ownsRow base e size v n xs) (hk : ∀ g, v.ownBlock = some g → w'.heap[g]? = w.heap[g]?) : w'.ownsRow base e size v n xs := by
 refine ⟨h.1, ?_⟩
 rcases h.2 with h0 | ⟨g, cap, cur, rfl, hb, hg, r⟩
 ·exact .inl h0
 ·exact .inr ⟨g, cap, cur, rfl, hb, (hk g rfl).trans hg, r⟩
theorem map_keep {P : Program} {k : TypeId} {R : Value → Option (DataW Unit × List MemPlace)} {w w' : World} {b n : Nat} {D : DataW Unit} (h : w.ownsMap P k R b n D) (hk : w'.heap[b]? = w.heap[b]?) : w'.ownsMap P k R b n D := by
 obtain ⟨es, clock, hb, r⟩ := h
 exact ⟨es, clock, hk.trans hb, r⟩
def fcells (n : Nat → List Sec) (m : Nat → Option Nat) : List Value :=
 [.int .i64 (n 0).length, .map (m 0), .int .i64 (n 1).length, .map (m 1), .int .i64 (n 2).length, .map (m 2), .int .i64 (n 3).length, .map (m 3),
  .int .i64 (n 4).length, .map (m 4), .int .i64 (n 5).length, .map (m 5), .int .i64 (n 6).length, .map (m 6), .int .i64 (n 7).length, .map (m 7)]
def diskCells (d : Dsk) (nm sm : Nat → Option Nat) (lv : Value) (am : Nat) : List Value :=
 fcells d.now nm ++ fcells d.sure sm ++ [lv, .map (some am), .int .i64 d.ops, .int .i64 d.goes, .bool d.off]
theorem lt8 {f : Nat} (h : f < 8) : f = 0 ∨ f = 1 ∨ f = 2 ∨ f = 3 ∨ f = 4 ∨ f = 5 ∨ f = 6 ∨ f = 7 := by omega
theorem now_cells (d : Dsk) (nm sm : Nat → Option Nat) (lv : Value) (am : Nat) {f : Nat} (h : f < 8) :
  (diskCells d nm sm lv am)[f * 2]? = some (.int .i64 (d.now f).length) ∧ (diskCells d nm sm lv am)[f * 2 + 1]? = some (.map (nm f)) := by
 rcases lt8 h with rfl | rfl | rfl | rfl | rfl | rfl | rfl | rfl <;> exact ⟨rfl, rfl⟩
theorem sure_cells (d : Dsk) (nm sm : Nat → Option Nat) (lv : Value) (am : Nat) {f : Nat} (h : f < 8) :
  (diskCells d nm sm lv am)[16 + f * 2]? = some (.int .i64 (d.sure f).length) ∧ (diskCells d nm sm lv am)[16 + f * 2 + 1]? = some (.map (sm f)) := by
 rcases lt8 h with rfl | rfl | rfl | rfl | rfl | rfl | rfl | rfl <;> exact ⟨rfl, rfl⟩
def put {α : Type} (g : Nat → α) (f : Nat) (x : α) : Nat → α := fun i => if i = f then x else g i
theorem put_same {α : Type} (g : Nat → α) (f : Nat) (x : α) : put g f x f = x := if_pos rfl
theorem put_other {α : Type} (g : Nat → α) {f i : Nat} (x : α) (h : i ≠ f) : put g f x i = g i := if_neg h
theorem set_now (d : Dsk) (nm sm : Nat → Option Nat) (lv : Value) (am : Nat) {f : Nat} (h : f < 8) (l : List Sec) (m : Option Nat) :
  ((diskCells d nm sm lv am).toArray.setIfInBounds (f * 2) (.int .i64 l.length)).setIfInBounds (f * 2 + 1) (.map m) = (diskCells { d with now := put d.now f l } (put nm f m) sm lv am).toArray := by
 rcases lt8 h with rfl | rfl | rfl | rfl | rfl | rfl | rfl | rfl <;> rfl
theorem set_sure (d : Dsk) (nm sm : Nat → Option Nat) (lv : Value) (am : Nat) {f : Nat} (h : f < 8) (l : List Sec) (m : Option Nat) :
  ((diskCells d nm sm lv am).toArray.setIfInBounds (16 + f * 2) (.int .i64 l.length)).setIfInBounds (16 + f * 2 + 1) (.map m) = (diskCells { d with sure := put d.sure f l } nm (put sm f m) lv am).toArray := by
 rcases lt8 h with rfl | rfl | rfl | rfl | rfl | rfl | rfl | rfl <;> rfl
def chgsCells (l : List Chg) : List Value := l.flatMap chgCells
theorem chgsCells_snoc (l : List Chg) (c : Chg) : chgsCells (l ++ [c]) = chgsCells l ++ chgCells c := by simp [chgsCells]
def ArmAt (w : World) (am : Nat) (n : Nat) (g : Int → Int) : Prop :=
 ∃ D : DataW Unit, w.ownsMap Tryz.prog 3 (plainElem Tryz.prog 29) am n D ∧ ∀ k : Int, D.atKey (ik k) (.lit (.int .i64 0)) = .lit (.int .i64 (g k))
structure DiskMem (w : World) (b : Nat) (F : Foot) (d : Dsk) (nm sm : Nat → Option Nat) (lv : Value) (am : Nat) : Prop where
 blk : w.heap[b]? = some (.cells (diskCells d nm sm lv am).toArray 70 (0, 0))
 now : ∀ f, f < 8 → FileAt w (nm f) (d.now f)
 sure : ∀ f, f < 8 → FileAt w (sm f) (d.sure f)
 nsh : ∀ f, f < 8 → ∀ m, nm f = some m → F.sh m
 ssh : ∀ f, f < 8 → ∀ m, sm f = some m → F.sh m
 row : w.ownsRow 0 75 67 lv d.loose.length (chgsCells d.loose)
 rown : ∀ g, lv.ownBlock = some g → F.own g
 arm : ArmAt w am d.narm d.armed
 aown : F.own am
 bown : F.own b
 apart : ∀ k, F.own k → F.sh k → False
 olt : ∀ k, F.own k → k < w.heap.size
 slt : ∀ k, F.sh k → k < w.heap.size
 ok : d.Ok
def DiskAt (w : World) (b : Nat) (F : Foot) (d : Dsk) : Prop := ∃ nm sm lv am, DiskMem w b F d nm sm lv am
def Did (w : World) (b : Nat) (F : Foot) (d' : Dsk) (w' : World) : Prop := ∃ F', DiskAt w' b F' d' ∧ FootStep F F' w w'
section
variable {w w' : World} {b : Nat} {F : Foot} {d d' : Dsk} {nm sm : Nat → Option Nat} {lv : Value} {am : Nat}
theorem DiskAt.ok (h : DiskAt w b F d) : d.Ok := by obtain ⟨_, _, _, _, h⟩ := h; exact h.ok
theorem DiskAt.lt (h : DiskAt w b F d) : b < w.heap.size := by obtain ⟨_, _, _, _, h⟩ := h; exact lt_of_block h.blk
theorem DiskAt.own (h : DiskAt w b F d) : F.own b := by obtain ⟨_, _, _, _, h⟩ := h; exact h.bown
theorem DiskAt.olt (h : DiskAt w b F d) : ∀ k, F.own k → k < w.heap.size := by obtain ⟨_, _, _, _, h⟩ := h; exact h.olt
theorem DiskAt.slt (h : DiskAt w b F d) : ∀ k, F.sh k → k < w.heap.size := by obtain ⟨_, _, _, _, h⟩ := h; exact h.slt
theorem DiskAt.apart (h : DiskAt w b F d) : ∀ k, F.own k → F.sh k → False := by obtain ⟨_, _, _, _, h⟩ := h; exact h.apart
theorem DiskMem.keep (h : DiskMem w b F d nm sm lv am) (hk : ∀ k, F.own k ∨ F.sh k → w'.heap[k]? = w.heap[k]?) (hs : w.heap.size ≤ w'.heap.size) : DiskMem w' b F d nm sm lv am := by
 refine ⟨(hk b (.inl h.bown)).trans h.blk, fun f hf => (h.now f hf).keep fun m hm => hk m (.inr (h.nsh f hf m hm)), fun f hf => (h.sure f hf).keep fun m hm => hk m (.inr (h.ssh f hf m hm)), h.nsh, h.ssh,
  row_keep h.row fun g hg => hk g (.inl (h.rown g hg)), h.rown, ?_, h.aown, h.bown, h.apart, fun k hk => Nat.lt_of_lt_of_le (h.olt k hk) hs, fun k hk => Nat.lt_of_lt_of_le (h.slt k hk) hs, h.ok⟩
 obtain ⟨D, hD, hg⟩ := h.arm
 exact ⟨D, map_keep hD (hk am (.inl h.aown)), hg⟩
theorem DiskAt.keep (h : DiskAt w b F d) (hk : ∀ k, F.own k ∨ F.sh k → w'.heap[k]? = w.heap[k]?) (hs : w.heap.size ≤ w'.heap.size) : DiskAt w' b F d := by
 obtain ⟨nm, sm, lv, am, h⟩ := h
 exact ⟨nm, sm, lv, am, h.keep hk hs⟩
theorem DiskAt.below (h : DiskAt w b F d) (hb : Below w.heap.size w w') : DiskAt w' b F d :=
 h.keep (fun k hk => hb.block k (hk.elim (fun hk => h.olt k hk) (fun hk => h.slt k hk))) hb.size
theorem footstep_below (hb : Below w.heap.size w w') : FootStep F F w w' := ⟨Frm.of_below hb, fun _ h => .inl h, fun _ h => .inl h⟩
theorem DiskMem.cell (h : DiskMem w b F d nm sm lv am) (o : Nat) : w.cell? ⟨b, o, none⟩ = (diskCells d nm sm lv am)[o]? := by rw [cell_of_block h.blk]; simp
theorem DiskMem.five (h : DiskMem w b F d nm sm lv am) : w.cell? ⟨b, 32, none⟩ = some lv ∧ w.cell? ⟨b, 33, none⟩ = some (.map (some am)) ∧ w.cell? ⟨b, 34, none⟩ = some (.int .i64 d.ops) ∧ w.cell? ⟨b, 35, none⟩ = some (.int .i64 d.goes) ∧ w.cell? ⟨b, 36, none⟩ = some (.bool d.off) :=
 ⟨h.cell 32, h.cell 33, h.cell 34, h.cell 35, h.cell 36⟩
theorem DiskMem.free (h : DiskMem w b F d nm sm lv am) (o : Nat) : w.frozen? ⟨b, o, none⟩ = false := free_of_block h.blk o
theorem DiskMem.ne_arm (h : DiskMem w b F d nm sm lv am) : am ≠ b := by
 obtain ⟨D, ⟨es, clock, hes, -⟩, -⟩ := h.arm
 intro e
 rw [e, h.blk] at hes
 cases hes
theorem DiskMem.row_block (h : DiskMem w b F d nm sm lv am) {g : Nat} (hg : lv.ownBlock = some g) : ∃ cur, w.heap[g]? = some (.cells cur 75 (0, 0)) := by
 rcases h.row.2 with ⟨rfl, _⟩ | ⟨g', cap, cur, rfl, _, hh, _⟩
 ·cases hg
 ·cases hg; exact ⟨cur, hh⟩
theorem DiskMem.ne_row (h : DiskMem w b F d nm sm lv am) {g : Nat} (hg : lv.ownBlock = some g) : g ≠ b ∧ g ≠ am := by
 obtain ⟨cur, hh⟩ := h.row_block hg
 refine ⟨fun e => ?_, fun e => ?_⟩
 ·rw [e, h.blk] at hh
  cases hh
 ·obtain ⟨D, ⟨es, clock, hes, -⟩, -⟩ := h.arm
  rw [e, hes] at hh
  cases hh
theorem DiskMem.turn (h : DiskMem w b F d nm sm lv am) (hf : Frm (fun k => k = b ∨ k = am) w w') (hb : w'.heap[b]? = some (.cells (diskCells d' nm sm lv am).toArray 70 (0, 0)))
  (ha : ArmAt w' am d'.narm d'.armed) (h1 : d'.now = d.now) (h2 : d'.sure = d.sure) (h3 : d'.loose = d.loose) (hop : 0 ≤ d'.ops) : DiskMem w' b F d' nm sm lv am ∧ FootStep F F w w' := by
 have old : ∀ k, k < w.heap.size → k ≠ b → k ≠ am → w'.heap[k]? = w.heap[k]? := fun k hk n1 n2 => hf.block k hk (fun e => e.elim n1 n2)
 have osh : ∀ k, F.sh k → w'.heap[k]? = w.heap[k]? := fun k hk => old k (h.slt k hk) (fun e => h.apart k (e ▸ h.bown) hk) (fun e => h.apart k (e ▸ h.aown) hk)
 refine ⟨⟨hb, fun f hf => by rw [h1]; exact (h.now f hf).keep fun m hm => osh m (h.nsh f hf m hm), fun f hf => by rw [h2]; exact (h.sure f hf).keep fun m hm => osh m (h.ssh f hf m hm), h.nsh, h.ssh, ?_, h.rown, ha, h.aown, h.bown, h.apart,
  fun k hk => Nat.lt_of_lt_of_le (h.olt k hk) hf.size, fun k hk => Nat.lt_of_lt_of_le (h.slt k hk) hf.size, ?_⟩, hf.mono (fun k hk => hk.elim (fun e => e ▸ h.bown) (fun e => e ▸ h.aown)), fun _ h => .inl h, fun _ h => .inl h⟩
 ·rw [h3]
  exact row_keep h.row fun g hg => old g (h.olt g (h.rown g hg)) (h.ne_row hg).1 (h.ne_row hg).2
 ·exact ⟨by rw [h1]; exact h.ok.nl, by rw [h2]; exact h.ok.sl, by rw [h1]; exact h.ok.ns, by rw [h2]; exact h.ok.ss, by rw [h3]; exact h.ok.lo, hop⟩
theorem ArmAt.keep {n : Nat} {g : Int → Int} (h : ArmAt w am n g) (hk : w'.heap[am]? = w.heap[am]?) : ArmAt w' am n g := by
 obtain ⟨D, hD, hg⟩ := h
 exact ⟨D, map_keep hD hk, hg⟩
end
end Go.Proofs.YtlkkclooihjpiaaGreat
