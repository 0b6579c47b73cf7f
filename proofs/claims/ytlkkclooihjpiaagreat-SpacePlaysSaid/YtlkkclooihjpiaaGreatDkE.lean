/- A disk in memory: its block, its files' maps, its row of loose changes, its map of what is armed; whose they are. -/
import Derived.Test.YtlkkclooihjpiaaGreatDkC
set_option linter.unusedVariables false
set_option linter.unusedSimpArgs false
namespace Go.Proofs.YtlkkclooihjpiaaGreat
open Go.RowKit Go.Maps
set_option maxRecDepth 20000
structure Dsk where
 now : Nat → List Sec
 sure : Nat → List Sec
 loose : List Chg
 armed : Int → Int
 ops : Int
 goes : Int
 off : Bool
 narm : Nat
structure Dsk.Ok (d : Dsk) : Prop where
 nl : ∀ f, f < 8 → (d.now f).length ≤ 8192
 sl : ∀ f, f < 8 → (d.sure f).length ≤ 8192
 ns : ∀ f, f < 8 → ∀ s ∈ d.now f, s.length = 64
 ss : ∀ f, f < 8 → ∀ s ∈ d.sure f, s.length = 64
 lo : ∀ c ∈ d.loose, c.file < 8 ∧ c.at_ ≤ 8192 ∧ c.bytes.length = 64 ∧ (c.cut = false → c.at_ < 8192)
 op0 : 0 ≤ d.ops
structure Dsk.Small (d : Dsk) (N : Nat) : Prop where
 ops : d.ops ≤ N
 arm : d.narm ≤ N
 loose : d.loose.length ≤ N
theorem Dsk.Small.mono {d : Dsk} {N M : Nat} (h : d.Small N) (hm : N ≤ M) : d.Small M := ⟨by have := h.ops; omega, by have := h.arm; omega, by have := h.loose; omega⟩
theorem does_len {l : List Sec} {c : Chg} (hl : l.length ≤ 8192) (ha : c.cut = false → c.at_ < 8192) : (doesM l c).length ≤ 8192 := by
 cases h : c.cut with
 | false => rw [doesM_length_write h]; have := ha h; omega
 | true => rw [doesM_length_cut h]; omega
theorem does_sec {l : List Sec} {c : Chg} (hl : ∀ s ∈ l, s.length = 64) (hb : c.bytes.length = 64) : ∀ s ∈ doesM l c, s.length = 64 := by
 intro s hs
 cases h : c.cut with
 | false =>
  rw [doesM_write h] at hs
  rcases List.mem_or_eq_of_mem_set hs with h1 | rfl
  ·rcases List.mem_append.1 h1 with h1 | h1
   ·exact hl s h1
   ·rw [(List.mem_replicate.1 h1).2]; rfl
  ·exact hb
 | true =>
  rw [doesM_cut h] at hs
  exact hl s (List.mem_of_mem_take hs)
structure Foot where
 own : Nat → Prop
 sh : Nat → Prop
structure FootStep (F F' : Foot) (w w' : World) : Prop where
 frm : Frm F.own w w'
 own : ∀ k, F'.own k → F.own k ∨ w.heap.size ≤ k
 sh : ∀ k, F'.sh k → F.sh k ∨ w.heap.size ≤ k
theorem FootStep.refl (F : Foot) (w : World) : FootStep F F w w := ⟨Frm.refl _ _, fun _ h => .inl h, fun _ h => .inl h⟩
theorem FootStep.trans {F F' F'' : Foot} {a b c : World} (h : FootStep F F' a b) (k : FootStep F' F'' b c) : FootStep F F'' a c :=
 ⟨h.frm.then k.frm (fun i hi h1 => (h.own i h1).resolve_right (by omega)), fun i h1 => by
  rcases k.own i h1 with h2 | h2
  ·exact h.own i h2
  ·exact .inr (Nat.le_trans h.frm.size h2), fun i h1 => by
  rcases k.sh i h1 with h2 | h2
  ·exact h.sh i h2
  ·exact .inr (Nat.le_trans h.frm.size h2)⟩
theorem row_keep {w w' : World} {base size n : Nat} {e : TypeId} {v : Value} {xs : List Value} (h : w.ownsRow base e size v n xs) (hk : ∀ g, v.ownBlock = some g → w'.heap[g]? = w.heap[g]?) : w'.ownsRow base e size v n xs := by
 refine ⟨h.1, ?_⟩
 rcases h.2 with h0 | ⟨g, cap, cur, rfl, hb, hg, r⟩
 ·exact .inl h0
 ·exact .inr ⟨g, cap, cur, rfl, hb, (hk g rfl).trans hg, r⟩
theorem map_keep {P : Program} {k : TypeId} {R : Value → Option (DataW Unit × List MemPlace)} {w w' : World} {b n : Nat} {D : DataW Unit} (h : w.ownsMap P k R b n D) (hk : w'.heap[b]? = w.heap[b]?) : w'.ownsMap P k R b n D := by
 obtain ⟨es, clock, hb, r⟩ := h
 exact ⟨es, clock, hk.trans hb, r⟩
def fcells (n : Nat → List Sec) (m : Nat → Option Nat) : List Value :=
 [.int .i64 (n 0).length, .map (m 0), .int .i64 (n 1).length, .map (m 1), .int .i64 (n 2).length, .map (m 2), .int .i64 (n 3).length, .map (m 3),
  .int .i64 (n 4).length, .map (m 4), .int .i64 (n 5).length, .map (m 5), .int .i64 (n 6).length, .map (m 6), .int .i64 (n 7).length, .map (m 7)]
def diskCells (d : Dsk) (nm sm : Nat → Option Nat) (lv : Value) (am : Nat) : List Value :=
 fcells d.now nm ++ fcells d.sure sm ++ [lv, .map (some am), .int .i64 d.ops, .int .i64 d.goes, .bool d.off]
theorem lt8 {f : Nat} (h : f < 8) : f = 0 ∨ f = 1 ∨ f = 2 ∨ f = 3 ∨ f = 4 ∨ f = 5 ∨ f = 6 ∨ f = 7 := by omega
theorem now_cells (d : Dsk) (nm sm : Nat → Option Nat) (lv : Value) (am : Nat) {f : Nat} (h : f < 8) :
  (diskCells d nm sm lv am)[f * 2]? = some (.int .i64 (d.now f).length) ∧ (diskCells d nm sm lv am)[f * 2 + 1]? = some (.map (nm f)) := by
 rcases lt8 h with rfl | rfl | rfl | rfl | rfl | rfl | rfl | rfl <;> exact ⟨rfl, rfl⟩
theorem sure_cells (d : Dsk) (nm sm : Nat → Option Nat) (lv : Value) (am : Nat) {f : Nat} (h : f < 8) :
  (diskCells d nm sm lv am)[16 + f * 2]? = some (.int .i64 (d.sure f).length) ∧ (diskCells d nm sm lv am)[16 + f * 2 + 1]? = some (.map (sm f)) := by
 rcases lt8 h with rfl | rfl | rfl | rfl | rfl | rfl | rfl | rfl <;> exact ⟨rfl, rfl⟩
def put {α : Type} (g : Nat → α) (f : Nat) (x : α) : Nat → α := fun i => if i = f then x else g i
theorem put_same {α : Type} (g : Nat → α) (f : Nat) (x : α) : put g f x f = x := if_pos rfl
theorem put_other {α : Type} (g : Nat → α) {f i : Nat} (x : α) (h : i ≠ f) : put g f x i = g i := if_neg h
theorem set_now (d : Dsk) (nm sm : Nat → Option Nat) (lv : Value) (am : Nat) {f : Nat} (h : f < 8) (l : List Sec) (m : Option Nat) :
  ((diskCells d nm sm lv am).toArray.setIfInBounds (f * 2) (.int .i64 l.length)).setIfInBounds (f * 2 + 1) (.map m) = (diskCells { d with now := put d.now f l } (put nm f m) sm lv am).toArray := by
 rcases lt8 h with rfl | rfl | rfl | rfl | rfl | rfl | rfl | rfl <;> rfl
theorem set_sure (d : Dsk) (nm sm : Nat → Option Nat) (lv : Value) (am : Nat) {f : Nat} (h : f < 8) (l : List Sec) (m : Option Nat) :
  ((diskCells d nm sm lv am).toArray.setIfInBounds (16 + f * 2) (.int .i64 l.length)).setIfInBounds (16 + f * 2 + 1) (.map m) = (diskCells { d with sure := put d.sure f l } nm (put sm f m) lv am).toArray := by
 rcases lt8 h with rfl | rfl | rfl | rfl | rfl | rfl | rfl | rfl <;> rfl
def chgsCells (l : List Chg) : List Value := l.flatMap chgCells
theorem chgsCells_snoc (l : List Chg) (c : Chg) : chgsCells (l ++ [c]) = chgsCells l ++ chgCells c := by simp [chgsCells]
def ArmAt (w : World) (am : Nat) (n : Nat) (g : Int → Int) : Prop :=
 ∃ D : DataW Unit, w.ownsMap Tryz.prog 3 (plainElem Tryz.prog 29) am n D ∧ ∀ k : Int, D.atKey (ik k) (.lit (.int .i64 0)) = .lit (.int .i64 (g k))
structure DiskMem (w : World) (b : Nat) (F : Foot) (d : Dsk) (nm sm : Nat → Option Nat) (lv : Value) (am : Nat) : Prop where
 blk : w.heap[b]? = some (.cells (diskCells d nm sm lv am).toArray 70 (0, 0))
 now : ∀ f, f < 8 → FileAt w (nm f) (d.now f)
 sure : ∀ f, f < 8 → FileAt w (sm f) (d.sure f)
 nsh : ∀ f, f < 8 → ∀ m, nm f = some m → F.sh m
 ssh : ∀ f, f < 8 → ∀ m, sm f = some m → F.sh m
 row : w.ownsRow 0 75 67 lv d.loose.length (chgsCells d.loose)
 rown : ∀ g, lv.ownBlock = some g → F.own g
 arm : ArmAt w am d.narm d.armed
 aown : F.own am
 bown : F.own b
 apart : ∀ k, F.own k → F.sh k → False
 olt : ∀ k, F.own k → k < w.heap.size
 slt : ∀ k, F.sh k → k < w.heap.size
 ok : d.Ok
def DiskAt (w : World) (b : Nat) (F : Foot) (d : Dsk) : Prop := ∃ nm sm lv am, DiskMem w b F d nm sm lv am
def Did (w : World) (b : Nat) (F : Foot) (d' : Dsk) (w' : World) : Prop := ∃ F', DiskAt w' b F' d' ∧ FootStep F F' w w'
section
variable {w w' : World} {b : Nat} {F : Foot} {d d' : Dsk} {nm sm : Nat → Option Nat} {lv : Value} {am : Nat}
theorem DiskAt.ok (h : DiskAt w b F d) : d.Ok := by obtain ⟨_, _, _, _, h⟩ := h; exact h.ok
theorem DiskAt.lt (h : DiskAt w b F d) : b < w.heap.size := by obtain ⟨_, _, _, _, h⟩ := h; exact lt_of_block h.blk
theorem DiskAt.olt (h : DiskAt w b F d) : ∀ k, F.own k → k < w.heap.size := by obtain ⟨_, _, _, _, h⟩ := h; exact h.olt
theorem DiskAt.slt (h : DiskAt w b F d) : ∀ k, F.sh k → k < w.heap.size := by obtain ⟨_, _, _, _, h⟩ := h; exact h.slt
theorem DiskMem.keep (h : DiskMem w b F d nm sm lv am) (hk : ∀ k, F.own k ∨ F.sh k → w'.heap[k]? = w.heap[k]?) (hs : w.heap.size ≤ w'.heap.size) : DiskMem w' b F d nm sm lv am := by
 refine ⟨(hk b (.inl h.bown)).trans h.blk, fun f hf => (h.now f hf).keep fun m hm => hk m (.inr (h.nsh f hf m hm)), fun f hf => (h.sure f hf).keep fun m hm => hk m (.inr (h.ssh f hf m hm)), h.nsh, h.ssh,
  row_keep h.row fun g hg => hk g (.inl (h.rown g hg)), h.rown, ?_, h.aown, h.bown, h.apart, fun k hk => Nat.lt_of_lt_of_le (h.olt k hk) hs, fun k hk => Nat.lt_of_lt_of_le (h.slt k hk) hs, h.ok⟩
 obtain ⟨D, hD, hg⟩ := h.arm
 exact ⟨D, map_keep hD (hk am (.inl h.aown)), hg⟩
theorem DiskAt.keep (h : DiskAt w b F d) (hk : ∀ k, F.own k ∨ F.sh k → w'.heap[k]? = w.heap[k]?) (hs : w.heap.size ≤ w'.heap.size) : DiskAt w' b F d := by
 obtain ⟨nm, sm, lv, am, h⟩ := h
 exact ⟨nm, sm, lv, am, h.keep hk hs⟩
theorem DiskAt.below (h : DiskAt w b F d) (hb : Below w.heap.size w w') : DiskAt w' b F d :=
 h.keep (fun k hk => hb.block k (hk.elim (fun hk => h.olt k hk) (fun hk => h.slt k hk))) hb.size
theorem footstep_below (hb : Below w.heap.size w w') : FootStep F F w w' := ⟨Frm.of_below hb, fun _ h => .inl h, fun _ h => .inl h⟩
theorem DiskMem.cell (h : DiskMem w b F d nm sm lv am) (o : Nat) : w.cell? ⟨b, o, none⟩ = (diskCells d nm sm lv am)[o]? := by rw [cell_of_block h.blk]; simp
theorem DiskMem.five (h : DiskMem w b F d nm sm lv am) : w.cell? ⟨b, 32, none⟩ = some lv ∧ w.cell? ⟨b, 33, none⟩ = some (.map (some am)) ∧ w.cell? ⟨b, 34, none⟩ = some (.int .i64 d.ops) ∧ w.cell? ⟨b, 35, none⟩ = some (.int .i64 d.goes) ∧ w.cell? ⟨b, 36, none⟩ = some (.bool d.off) :=
 ⟨h.cell 32, h.cell 33, h.cell 34, h.cell 35, h.cell 36⟩
theorem DiskMem.free (h : DiskMem w b F d nm sm lv am) (o : Nat) : w.frozen? ⟨b, o, none⟩ = false := free_of_block h.blk o
theorem DiskMem.ne_arm (h : DiskMem w b F d nm sm lv am) : am ≠ b := by
 obtain ⟨D, ⟨es, clock, hes, -⟩, -⟩ := h.arm
 intro e
 rw [e, h.blk] at hes
 cases hes
theorem DiskMem.row_block (h : DiskMem w b F d nm sm lv am) {g : Nat} (hg : lv.ownBlock = some g) : ∃ cur, w.heap[g]? = some (.cells cur 75 (0, 0)) := by
 rcases h.row.2 with ⟨rfl, _⟩ | ⟨g', cap, cur, rfl, _, hh, _⟩
 ·cases hg
 ·cases hg; exact ⟨cur, hh⟩
theorem DiskMem.ne_row (h : DiskMem w b F d nm sm lv am) {g : Nat} (hg : lv.ownBlock = some g) : g ≠ b ∧ g ≠ am := by
 obtain ⟨cur, hh⟩ := h.row_block hg
 refine ⟨fun e => ?_, fun e => ?_⟩
 ·rw [e, h.blk] at hh
  cases hh
 ·obtain ⟨D, ⟨es, clock, hes, -⟩, -⟩ := h.arm
  rw [e, hes] at hh
  cases hh
theorem DiskMem.turn (h : DiskMem w b F d nm sm lv am) (hf : Frm (fun k => k = b ∨ k = am) w w') (hb : w'.heap[b]? = some (.cells (diskCells d' nm sm lv am).toArray 70 (0, 0)))
  (ha : ArmAt w' am d'.narm d'.armed) (h1 : d'.now = d.now) (h2 : d'.sure = d.sure) (h3 : d'.loose = d.loose) (hop : 0 ≤ d'.ops) : DiskMem w' b F d' nm sm lv am ∧ FootStep F F w w' := by
 have old : ∀ k, k < w.heap.size → k ≠ b → k ≠ am → w'.heap[k]? = w.heap[k]? := fun k hk n1 n2 => hf.block k hk (fun e => e.elim n1 n2)
 have osh : ∀ k, F.sh k → w'.heap[k]? = w.heap[k]? := fun k hk => old k (h.slt k hk) (fun e => h.apart k (e ▸ h.bown) hk) (fun e => h.apart k (e ▸ h.aown) hk)
 refine ⟨⟨hb, fun f hf => by rw [h1]; exact (h.now f hf).keep fun m hm => osh m (h.nsh f hf m hm), fun f hf => by rw [h2]; exact (h.sure f hf).keep fun m hm => osh m (h.ssh f hf m hm), h.nsh, h.ssh, ?_, h.rown, ha, h.aown, h.bown, h.apart,
  fun k hk => Nat.lt_of_lt_of_le (h.olt k hk) hf.size, fun k hk => Nat.lt_of_lt_of_le (h.slt k hk) hf.size, ?_⟩, hf.mono (fun k hk => hk.elim (fun e => e ▸ h.bown) (fun e => e ▸ h.aown)), fun _ h => .inl h, fun _ h => .inl h⟩
 ·rw [h3]
  exact row_keep h.row fun g hg => old g (h.olt g (h.rown g hg)) (h.ne_row hg).1 (h.ne_row hg).2
 ·exact ⟨by rw [h1]; exact h.ok.nl, by rw [h2]; exact h.ok.sl, by rw [h1]; exact h.ok.ns, by rw [h2]; exact h.ok.ss, by rw [h3]; exact h.ok.lo, hop⟩
theorem ArmAt.keep {n : Nat} {g : Int → Int} (h : ArmAt w am n g) (hk : w'.heap[am]? = w.heap[am]?) : ArmAt w' am n g := by
 obtain ⟨D, hD, hg⟩ := h
 exact ⟨D, map_keep hD hk, hg⟩
end
end Go.Proofs.YtlkkclooihjpiaaGreat
/- The disk's small calls: is, ahead, Size, On, Ops, Loose, ready, Power, meets, Arm. -/
namespace Go.Proofs.YtlkkclooihjpiaaGreat
open Go.RowKit Go.Maps
set_option maxRecDepth 20000
theorem is_any (f : Int) (w : World) : Calls Tryz.prog 48 #[.int .i64 f] w fun e w' => e = .returned (.bool (decide (0 ≤ f) && decide (f < 8))) ∧ w' = w := by
 go_enter Tryz.func48, Tryz.ntmps48
 by_cases h1 : 0 ≤ f
 ·have h1' : decide (0 ≤ f) = true := by simpa using h1
  go_wp2_with fail
  go_ret
  exact ⟨by simp [h1], rfl⟩
 ·have h1' : decide (0 ≤ f) = false := by simpa using h1
  go_wp2_with fail
  go_ret
  exact ⟨by simp [h1], rfl⟩
section
variable {w : World} {b : Nat} {F : Foot} {d : Dsk}
theorem on_any (h : DiskAt w b F d) : Calls Tryz.prog 50 #[.pointer (some ⟨b, 0, none⟩)] w fun e w' => e = .returned (.bool (!d.off)) ∧ w' = w := by
 obtain ⟨nm, sm, lv, am, h⟩ := h
 obtain ⟨-, -, -, -, c⟩ := h.five
 clear h
 go_enter Tryz.func50, Tryz.ntmps50
 go_wp2_with fail
 go_ret
 exact ⟨rfl, rfl⟩
theorem size_any (h : DiskAt w b F d) (f : Int) : Calls Tryz.prog 52 #[.pointer (some ⟨b, 0, none⟩), .int .i64 f] w fun e w' => e = .returned (.int .i64 (if 0 ≤ f ∧ f < 8 then ((d.now f.toNat).length : Int) else 0)) ∧ w' = w := by
 obtain ⟨nm, sm, lv, am, h⟩ := h
 by_cases hf : 0 ≤ f ∧ f < 8
 ·rw [if_pos hf]
  obtain ⟨k, rfl⟩ : ∃ k : Nat, f = k := ⟨f.toNat, by omega⟩
  have hk : k < 8 := by omega
  have hi : (decide (0 ≤ (k : Int)) && decide ((k : Int) < 8)) = true := by simp; omega
  have I := is_any (k : Int)
  rw [hi] at I
  have c := (h.cell (k * 2)).trans (now_cells d nm sm lv am hk).1
  have hf8 : (k : Int) < 8 := hf.2
  simp only [Int.toNat_natCast]
  obtain ⟨z, hz⟩ : ∃ z : Int, z = (d.now k).length := ⟨_, rfl⟩
  rw [← hz] at c ⊢
  have I := hid I
  clear h hf hz hi
  go_enter Tryz.func52, Tryz.ntmps52
  go_wp2_with (first | (go_at_call 48; refine (I.out _).mono ?_; rintro e w1 ⟨rfl, rfl⟩) | go_in)
  go_ret
  exact ⟨rfl, rfl⟩
 ·rw [if_neg hf]
  have hi : (decide (0 ≤ f) && decide (f < 8)) = false := by simp; omega
  have I := is_any f
  rw [hi] at I
  have I := hid I
  clear h hf hi
  go_enter Tryz.func52, Tryz.ntmps52
  go_wp2_with (first | (go_at_call 48; refine (I.out _).mono ?_; rintro e w1 ⟨rfl, rfl⟩) | go_in)
  go_ret
  exact ⟨rfl, rfl⟩
def readyM (d : Dsk) (f : Int) : Int := if d.off then 32 else if 0 ≤ f ∧ f < 8 then 0 else 2
theorem ready_any (h : DiskAt w b F d) (f : Int) : Calls Tryz.prog 23 #[.pointer (some ⟨b, 0, none⟩), .int .i64 f] w fun e w' => e = .returned (.int .i64 (readyM d f)) ∧ w' = w := by
 obtain ⟨nm, sm, lv, am, h⟩ := h
 obtain ⟨-, -, -, -, c⟩ := h.five
 clear h
 unfold readyM
 have I := is_any f
 cases ho : d.off with
 | true =>
  rw [ho] at c
  go_enter Tryz.func23, Tryz.ntmps23
  go_wp2_with fail
  go_ret
  exact ⟨rfl, rfl⟩
 | false =>
  rw [ho] at c
  by_cases hf : 0 ≤ f ∧ f < 8
  ·have hi : (decide (0 ≤ f) && decide (f < 8)) = true := by simp; omega
   rw [hi] at I
   have I := hid I
   rw [if_neg (by simp), if_pos hf]
   clear hf hi
   go_enter Tryz.func23, Tryz.ntmps23
   go_wp2_with (first | (go_at_call 48; refine (I.out _).mono ?_; rintro e w1 ⟨rfl, rfl⟩) | go_in)
   go_ret
   exact ⟨rfl, rfl⟩
  ·have hi : (decide (0 ≤ f) && decide (f < 8)) = false := by simp; omega
   rw [hi] at I
   have I := hid I
   rw [if_neg (by simp), if_neg hf]
   clear hf hi
   go_enter Tryz.func23, Tryz.ntmps23
   go_wp2_with (first | (go_at_call 48; refine (I.out _).mono ?_; rintro e w1 ⟨rfl, rfl⟩) | go_in)
   go_ret
   exact ⟨rfl, rfl⟩
def meetsM (d : Dsk) : Int × Dsk :=
 (if d.ops = d.goes then 32 else d.armed d.ops, { d with ops := d.ops + 1, armed := fun k => if k = d.ops then 0 else d.armed k, off := d.off || d.ops == d.goes })
theorem arm_drop {am n : Nat} {g : Int → Int} {D : DataW Unit} (hg : ∀ k : Int, D.atKey (ik k) (.lit (.int .i64 0)) = .lit (.int .i64 (g k))) (o k : Int) :
  (D.del (ik o)).atKey (ik k) (.lit (.int .i64 0)) = .lit (.int .i64 (if k = o then 0 else g k)) := by
 by_cases e : k = o
 ·rw [if_pos e, e, atKey_del_same]
 ·rw [if_neg e, atKey_del_other (ik_ne e), hg]
theorem zeroErr (w : World) : (zeroValue 29).run Tryz.prog w = .ok (.int .i64 0) w := by kernel_rfl
theorem turned_block {nm sm : Nat → Option Nat} {lv : Value} {am : Nat} {w2 : World} (h : DiskMem w b F d nm sm lv am) (ht : (w.setCell ⟨b, 34, none⟩ (.int .i64 (d.ops + 1))).mapTurned w2 am) :
  w2.heap[b]? = some (.cells (diskCells { d with ops := d.ops + 1 } nm sm lv am).toArray 70 (0, 0)) ∧ Frm (fun k => k = b ∨ k = am) w w2 ∧ w2.cell? ⟨b, 35, none⟩ = some (.int .i64 d.goes) ∧ w2.cell? ⟨b, 36, none⟩ = some (.bool d.off) ∧ w2.frozen? ⟨b, 36, none⟩ = false := by
 have hg := ht.grown
 have hz : (w.setCell ⟨b, 34, none⟩ (.int .i64 (d.ops + 1))).heap.size = w.heap.size := by simp
 have hb : w2.heap[b]? = some (.cells (diskCells { d with ops := d.ops + 1 } nm sm lv am).toArray 70 (0, 0)) :=
  (hg.block b (by rw [hz]; exact lt_of_block h.blk) (fun e => h.ne_arm (Option.some.inj e).symm)).trans (heap_setCell_same h.blk 34 _)
 refine ⟨hb, ?_, (cell_of_block hb 35).trans rfl, (cell_of_block hb 36).trans rfl, free_of_block hb 36⟩
 refine Frm.trans ((Frm.refl _ _).setCell (p := ⟨b, 34, none⟩) (.inl (.inl rfl)) (.int .i64 (d.ops + 1))) ⟨hg.os, hg.tape, hg.output, hg.size, fun k hk hne => hg.block k hk (fun e => hne (.inr (Option.some.inj e)))⟩
set_option maxRecDepth 20000 in
theorem meets_any (h : DiskAt w b F d) (hs : d.Small 1099511627776) : Calls Tryz.prog 24 #[.pointer (some ⟨b, 0, none⟩)] w fun e w' => e = .returned (.int .i64 (meetsM d).1) ∧ Did w b F (meetsM d).2 w' := by
 obtain ⟨nm, sm, lv, am, h⟩ := h
 have h0 := h.ok.op0
 have hwf : (Lit.int .i64 d.ops).wf = true := WalkArith.wf_i64 (by have := hs.ops; omega)
 have hw : IntKind.i64.wrap (d.ops + 1) = d.ops + 1 := IntWalk.i64_in _ (by have := hs.ops; omega)
 obtain ⟨-, c3, c4, c5, c6⟩ := h.five
 have fr4 := h.free 34
 have fr6 := h.free 36
 obtain ⟨D, hown, hg⟩ := h.arm
 have hne := h.ne_arm
 have hown1 : (w.setCell ⟨b, 34, none⟩ (.int .i64 (d.ops + 1))).ownsMap Tryz.prog 3 (plainElem Tryz.prog 29) am d.narm D := hown.setCell (a := ⟨b, 34, none⟩) hne _
 have hkey : keyOf Tryz.prog 3 (.int .i64 d.ops) = some (ik d.ops) := keyOf_int_mk Tryz.underlying3 hwf
 have H := hid h
 have Hg := hid hg
 have Hne := hid hne
 clear h hown hg hs h0 hwf hne
 obtain ⟨r, hr⟩ : ∃ r, r = meetsM d := ⟨_, rfl⟩
 rw [← hr]
 unfold meetsM at hr
 by_cases he : d.ops = d.goes
 ·have he' : (d.ops == d.goes) = true := by simpa using he
  rw [if_pos he, he', Bool.or_true] at hr
  have Hr := hid hr
  clear hr he
  go_enter Tryz.func24, Tryz.ntmps24
  go_wp2_with (first
   | (at_lookup; refine wpList_lookup_own_int _ rfl _ _ 63 rfl 3 29 .i64 keyI Tryz.underlying63 Tryz.underlying29 (zeroErr _) am d.narm D rfl hown1 _ _ rfl hkey ?_; intro ce hat hwc; have HA := hid hat; clear hat hwc)
   | (at_delete; refine wpList_delete_own _ rfl _ _ 63 3 rfl 29 keyI Tryz.underlying63 (plainElem Tryz.prog 29) am d.narm D rfl hown1 _ _ rfl hkey ?_; intro w2 hown2 hturn2; obtain ⟨hb2, hf2, d5, d6, df⟩ := turned_block H.out hturn2; have HB := hid hb2; have HF := hid hf2; have HO := hid hown2; clear hb2 hf2 hown2 hturn2 hown1)
   | go_in)
  go_ret
  rw [Hr.out]
  obtain ⟨hm, hst⟩ := H.out.turn (d' := { d with ops := d.ops + 1, armed := fun k => if k = d.ops then 0 else d.armed k, off := true }) (HF.out.setCell (p := ⟨b, 36, none⟩) (.inl (.inl rfl)) (.bool true)) (heap_setCell_same HB.out 36 _)
   ⟨_, (map_keep HO.out (Below.heap_setCell _ ⟨b, 36, none⟩ _ _ Hne.out)), arm_drop (am := am) (n := d.narm) Hg.out _⟩ rfl rfl rfl (by have := H.out.ok.op0; simp only; omega)
  exact ⟨rfl, F, ⟨nm, sm, lv, am, hm⟩, hst⟩
 ·have he' : (d.ops == d.goes) = false := by simpa using he
  rw [if_neg he, he', Bool.or_false] at hr
  have Hr := hid hr
  clear hr he
  go_enter Tryz.func24, Tryz.ntmps24
  go_wp2_with (first
   | (at_lookup; refine wpList_lookup_own_int _ rfl _ _ 63 rfl 3 29 .i64 keyI Tryz.underlying63 Tryz.underlying29 (zeroErr _) am d.narm D rfl hown1 _ _ rfl hkey ?_; intro ce hat hwc; have HA := hid hat; clear hat hwc)
   | (at_delete; refine wpList_delete_own _ rfl _ _ 63 3 rfl 29 keyI Tryz.underlying63 (plainElem Tryz.prog 29) am d.narm D rfl hown1 _ _ rfl hkey ?_; intro w2 hown2 hturn2; obtain ⟨hb2, hf2, d5, d6, df⟩ := turned_block H.out hturn2; have HB := hid hb2; have HF := hid hf2; have HO := hid hown2; clear hb2 hf2 hown2 hturn2 hown1)
   | go_in)
  go_ret
  rw [Hr.out]
  obtain ⟨hm, hst⟩ := H.out.turn (d' := { d with ops := d.ops + 1, armed := fun k => if k = d.ops then 0 else d.armed k }) HF.out HB.out
   ⟨_, HO.out, arm_drop (am := am) (n := d.narm) Hg.out _⟩ rfl rfl rfl (by have := H.out.ok.op0; simp only; omega)
  refine ⟨?_, F, ⟨nm, sm, lv, am, hm⟩, hst⟩
  have h1 := HA.out
  rw [Hg.out] at h1
  simp only [DataW.lit.injEq, Lit.int.injEq, true_and] at h1
  rw [h1]
  rfl
end
end Go.Proofs.YtlkkclooihjpiaaGreat
