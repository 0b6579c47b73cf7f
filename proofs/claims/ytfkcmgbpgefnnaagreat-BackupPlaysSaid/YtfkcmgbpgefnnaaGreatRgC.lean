/- The reference's disk in memory. -/
import Derived.Test.YtfkcmgbpgefnnaaGreatRgA
set_option linter.unusedVariables false
set_option linter.unusedSimpArgs false
namespace Go.Proofs.YtfkcmgbpgefnnaaGreat.Rf
open Go.RowKit Go.Maps
set_option maxRecDepth 20000
def rfcells (m : Nat → Value) : List Value := [m 0, m 1, m 2, m 3, m 4, m 5, m 6, m 7]
def refCells (d : Dsk) (nv sv : Nat → Value) (lv av : Value) : List Value := rfcells nv ++ rfcells sv ++ [lv, av, .int .i64 d.ops, .int .i64 d.goes, .bool d.off]
theorem rnow_cell (d : Dsk) (nv sv : Nat → Value) (lv av : Value) {f : Nat} (h : f < 8) : (refCells d nv sv lv av)[f]? = some (nv f) := by
 rcases lt8 h with rfl | rfl | rfl | rfl | rfl | rfl | rfl | rfl <;> rfl
theorem rsure_cell (d : Dsk) (nv sv : Nat → Value) (lv av : Value) {f : Nat} (h : f < 8) : (refCells d nv sv lv av)[8 + f]? = some (sv f) := by
 rcases lt8 h with rfl | rfl | rfl | rfl | rfl | rfl | rfl | rfl <;> rfl
theorem rset_now (d : Dsk) (nv sv : Nat → Value) (lv av : Value) {f : Nat} (h : f < 8) (v : Value) : (refCells d nv sv lv av).toArray.setIfInBounds f v = (refCells d (put nv f v) sv lv av).toArray := by
 rcases lt8 h with rfl | rfl | rfl | rfl | rfl | rfl | rfl | rfl <;> rfl
theorem rset_sure (d : Dsk) (nv sv : Nat → Value) (lv av : Value) {f : Nat} (h : f < 8) (v : Value) : (refCells d nv sv lv av).toArray.setIfInBounds (8 + f) v = (refCells d nv (put sv f v) lv av).toArray := by
 rcases lt8 h with rfl | rfl | rfl | rfl | rfl | rfl | rfl | rfl <;> rfl
def rchgs (l : List Chg) : List Value := l.flatMap rchgCells
theorem rchgs_snoc (l : List Chg) (c : Chg) : rchgs (l ++ [c]) = rchgs l ++ rchgCells c := by simp [rchgs]
theorem rchg_one (c : Chg) : ∀ u ∈ rchgCells c, u.oneCell' = true := by
 intro u hu
 simp only [rchgCells, List.mem_cons, List.not_mem_nil, or_false] at hu
 rcases hu with rfl | rfl | rfl | rfl <;> rfl
def armCells (a : Int × Int) : List Value := [.int .i64 a.1, .int .i64 a.2]
def armsCells (l : List (Int × Int)) : List Value := l.flatMap armCells
theorem armsCells_snoc (l : List (Int × Int)) (a : Int × Int) : armsCells (l ++ [a]) = armsCells l ++ armCells a := by simp [armsCells]
def look (l : List (Int × Int)) (k : Int) : Int := l.foldl (fun e a => if a.1 = k then a.2 else e) 0
theorem look_snoc (l : List (Int × Int)) (a : Int × Int) (k : Int) : look (l ++ [a]) k = if a.1 = k then a.2 else look l k := by simp [look]
def without (n : Int) (l : List (Int × Int)) : List (Int × Int) := l.filter fun a => a.1 != n
theorem without_snoc (n : Int) (l : List (Int × Int)) (a : Int × Int) : without n (l ++ [a]) = if a.1 = n then without n l else without n l ++ [a] := by
 unfold without
 rw [List.filter_append]
 by_cases h : a.1 = n
 ·rw [if_pos h]; simp [h]
 ·rw [if_neg h]; simp [h]
theorem look_without (n k : Int) (l : List (Int × Int)) : look (without n l) k = if k = n then 0 else look l k := by
 have h : ∀ (l : List (Int × Int)) (e : Int), (without n l).foldl (fun e a => if a.1 = k then a.2 else e) e = if k = n then e else l.foldl (fun e a => if a.1 = k then a.2 else e) e := by
  intro l
  induction l with
  | nil => intro e; simp [without]
  | cons a r ih =>
   intro e
   unfold without at ih ⊢
   by_cases ha : a.1 = n
   ·have : (a.1 != n) = false := by simpa using ha
    rw [List.filter_cons, this, if_neg (by simp), ih]
    by_cases hk : k = n
    ·rw [if_pos hk, if_pos hk]
    ·rw [if_neg hk, if_neg hk, List.foldl_cons, if_neg (fun e => hk (e.symm.trans ha))]
   ·have : (a.1 != n) = true := by simpa using ha
    rw [List.filter_cons, this, if_pos rfl, List.foldl_cons, ih]
    by_cases hk : k = n
    ·rw [if_pos hk, if_pos hk, if_neg (fun e => ha (e.trans hk))]
    ·rw [if_neg hk, if_neg hk, List.foldl_cons]
 exact h l 0
def ArmR (w : World) (base : Nat) (av : Value) (g : Int → Int) (n : Nat) : Prop := ∃ ra : List (Int × Int), w.ownsRow base 104 2 av ra.length (armsCells ra) ∧ (∀ k, look ra k = g k) ∧ ra.length ≤ n
structure RefMem (w : World) (b : Nat) (F : Foot) (d : Dsk) (nv sv : Nat → Value) (lv av : Value) : Prop where
 blk : w.heap[b]? = some (.cells (refCells d nv sv lv av).toArray 62 (0, 0))
 now : ∀ f, f < 8 → FileR w 0 (nv f) (d.now f)
 sure : ∀ f, f < 8 → FileR w 0 (sv f) (d.sure f)
 nsh : ∀ f, f < 8 → ∀ g, (nv f).ownBlock = some g → F.sh g
 ssh : ∀ f, f < 8 → ∀ g, (sv f).ownBlock = some g → F.sh g
 row : w.ownsRow 0 106 4 lv d.loose.length (rchgs d.loose)
 rown : ∀ g, lv.ownBlock = some g → F.own g
 arm : ArmR w 0 av d.armed d.narm
 aown : ∀ g, av.ownBlock = some g → F.own g
 bown : F.own b
 apart : ∀ k, F.own k → F.sh k → False
 olt : ∀ k, F.own k → k < w.heap.size
 slt : ∀ k, F.sh k → k < w.heap.size
 ok : d.Ok
def RefAt (w : World) (b : Nat) (F : Foot) (d : Dsk) : Prop := ∃ nv sv lv av, RefMem w b F d nv sv lv av
def RDid (w : World) (b : Nat) (F : Foot) (d' : Dsk) (w' : World) : Prop := ∃ F', RefAt w' b F' d' ∧ FootStep F F' w w'
theorem ArmR.keep {w w' : World} {base : Nat} {av : Value} {g : Int → Int} {n : Nat} (h : ArmR w base av g n) (hk : ∀ x, av.ownBlock = some x → w'.heap[x]? = w.heap[x]?) : ArmR w' base av g n := by
 obtain ⟨ra, h1, h2, h3⟩ := h
 exact ⟨ra, row_keep h1 hk, h2, h3⟩
theorem row_type {w : World} {base n size : Nat} {e : TypeId} {v : Value} {xs : List Value} (h : w.ownsRow base e size v n xs) {g : Nat} (hg : v.ownBlock = some g) : ∃ cur, w.heap[g]? = some (.cells cur e (0, 0)) := by
 rcases h.2 with ⟨rfl, _⟩ | ⟨g', cap, cur, rfl, _, hh, _⟩
 ·cases hg
 ·cases hg; exact ⟨cur, hh⟩
theorem rows_apart {w : World} {b1 b2 n1 n2 s1 s2 : Nat} {e1 e2 : TypeId} {v1 v2 : Value} {x1 x2 : List Value} (h1 : w.ownsRow b1 e1 s1 v1 n1 x1) (h2 : w.ownsRow b2 e2 s2 v2 n2 x2) (he : e1 ≠ e2) {g : Nat} (g1 : v1.ownBlock = some g) (g2 : v2.ownBlock = some g) : False := by
 obtain ⟨c1, k1⟩ := row_type h1 g1
 obtain ⟨c2, k2⟩ := row_type h2 g2
 rw [k1] at k2
 simp at k2
 exact he k2.2
section
variable {w w1 w' : World} {b : Nat} {F : Foot} {d d' : Dsk} {nv sv nv' sv' : Nat → Value} {lv av lv' av' : Value}
theorem RefMem.keep (h : RefMem w b F d nv sv lv av) (hk : ∀ k, F.own k ∨ F.sh k → w'.heap[k]? = w.heap[k]?) (hs : w.heap.size ≤ w'.heap.size) : RefMem w' b F d nv sv lv av :=
 ⟨(hk b (.inl h.bown)).trans h.blk, fun f hf => row_keep (h.now f hf) fun g hg => hk g (.inr (h.nsh f hf g hg)), fun f hf => row_keep (h.sure f hf) fun g hg => hk g (.inr (h.ssh f hf g hg)), h.nsh, h.ssh,
  row_keep h.row fun g hg => hk g (.inl (h.rown g hg)), h.rown, h.arm.keep fun g hg => hk g (.inl (h.aown g hg)), h.aown, h.bown, h.apart, fun k hk => Nat.lt_of_lt_of_le (h.olt k hk) hs, fun k hk => Nat.lt_of_lt_of_le (h.slt k hk) hs, h.ok⟩
theorem RefAt.keep (h : RefAt w b F d) (hk : ∀ k, F.own k ∨ F.sh k → w'.heap[k]? = w.heap[k]?) (hs : w.heap.size ≤ w'.heap.size) : RefAt w' b F d := by
 obtain ⟨nv, sv, lv, av, h⟩ := h
 exact ⟨nv, sv, lv, av, h.keep hk hs⟩
theorem RefAt.below (h : RefAt w b F d) (hb : Below w.heap.size w w') : RefAt w' b F d := by
 obtain ⟨nv, sv, lv, av, h⟩ := h
 exact ⟨nv, sv, lv, av, h.keep (fun k hk => hb.block k (hk.elim (h.olt k) (h.slt k))) hb.size⟩
theorem RefMem.cell (h : RefMem w b F d nv sv lv av) (o : Nat) : w.cell? ⟨b, o, none⟩ = (refCells d nv sv lv av)[o]? := by rw [za h.blk]; simp
theorem RefMem.five (h : RefMem w b F d nv sv lv av) : w.cell? ⟨b, 16, none⟩ = some lv ∧ w.cell? ⟨b, 17, none⟩ = some av ∧ w.cell? ⟨b, 18, none⟩ = some (.int .i64 d.ops) ∧ w.cell? ⟨b, 19, none⟩ = some (.int .i64 d.goes) ∧ w.cell? ⟨b, 20, none⟩ = some (.bool d.off) :=
 ⟨h.cell 16, h.cell 17, h.cell 18, h.cell 19, h.cell 20⟩
theorem RefMem.free (h : RefMem w b F d nv sv lv av) (o : Nat) : w.frozen? ⟨b, o, none⟩ = false := zg h.blk o
theorem RefMem.update (h : RefMem w b F d nv sv lv av) (h1 : Below w.heap.size w w1) (h2 : Frm (fun k => k = b) w1 w')
  (hblk : w'.heap[b]? = some (.cells (refCells d' nv' sv' lv' av').toArray 62 (0, 0)))
  (hn : ∀ f, f < 8 → (nv' f = nv f ∧ d'.now f = d.now f) ∨ (nv' f = sv f ∧ d'.now f = d.sure f) ∨ FileR w1 w.heap.size (nv' f) (d'.now f))
  (hs : ∀ f, f < 8 → (sv' f = sv f ∧ d'.sure f = d.sure f) ∨ (sv' f = nv f ∧ d'.sure f = d.now f) ∨ FileR w1 w.heap.size (sv' f) (d'.sure f))
  (hl : (lv' = lv ∧ d'.loose = d.loose) ∨ w1.ownsRow w.heap.size 106 4 lv' d'.loose.length (rchgs d'.loose))
  (ha : (av' = av ∧ d'.armed = d.armed ∧ d.narm ≤ d'.narm) ∨ ArmR w1 w.heap.size av' d'.armed d'.narm) (hok : d'.Ok) :
  ∃ F', RefMem w' b F' d' nv' sv' lv' av' ∧ FootStep F F' w w' := by
 have hb := zc h.blk
 have old : ∀ k, k < w.heap.size → k ≠ b → w'.heap[k]? = w.heap[k]? := fun k hk hne => (h2.block k (Nat.lt_of_lt_of_le hk h1.size) hne).trans (h1.block k hk)
 have new : ∀ k, w.heap.size ≤ k → k < w1.heap.size → w'.heap[k]? = w1.heap[k]? := fun k hk hlt => h2.block k hlt (by omega)
 have hsz : w.heap.size ≤ w'.heap.size := Nat.le_trans h1.size h2.size
 have nb : ∀ k, F.sh k → k ≠ b := fun k hk e => h.apart k (e ▸ h.bown) hk
 have oldR : ∀ {v : Value} {l : List Sec}, FileR w 0 v l → (∀ g, v.ownBlock = some g → F.sh g) → FileR w' 0 v l := fun hv hg => row_keep hv fun g e => old g (h.slt g (hg g e)) (nb g (hg g e))
 have newR : ∀ {v : Value} {l : List Sec}, FileR w1 w.heap.size v l → FileR w' 0 v l := fun hv => row_lower (row_keep hv fun g e => new g (row_base hv e).1 (row_base hv e).2) (Nat.zero_le _)
 -- rows that are new own blocks that are new
 have lrow : ∀ g, lv'.ownBlock = some g → F.own g ∧ g < w.heap.size ∨ w.heap.size ≤ g ∧ g < w1.heap.size ∧ ∃ cur, w1.heap[g]? = some (.cells cur 106 (0, 0)) := fun g e => by
  rcases hl with ⟨rfl, _⟩ | hl
  ·exact .inl ⟨h.rown g e, h.olt g (h.rown g e)⟩
  ·exact .inr ⟨(row_base hl e).1, (row_base hl e).2, row_type hl e⟩
 have arow : ∀ g, av'.ownBlock = some g → F.own g ∧ g < w.heap.size ∨ w.heap.size ≤ g ∧ g < w1.heap.size ∧ ∃ cur, w1.heap[g]? = some (.cells cur 104 (0, 0)) := fun g e => by
  rcases ha with ⟨rfl, _⟩ | ⟨ra, ha, _⟩
  ·exact .inl ⟨h.aown g e, h.olt g (h.aown g e)⟩
  ·exact .inr ⟨(row_base ha e).1, (row_base ha e).2, row_type ha e⟩
 have nrow : ∀ f, f < 8 → ∀ g, (nv' f).ownBlock = some g → F.sh g ∨ w.heap.size ≤ g ∧ g < w1.heap.size ∧ ∃ cur, w1.heap[g]? = some (.cells cur 9 (0, 0)) := fun f hf g e => by
  rcases hn f hf with ⟨e1, _⟩ | ⟨e1, _⟩ | hr
  ·rw [e1] at e; exact .inl (h.nsh f hf g e)
  ·rw [e1] at e; exact .inl (h.ssh f hf g e)
  ·exact .inr ⟨(row_base hr e).1, (row_base hr e).2, row_type hr e⟩
 have srow : ∀ f, f < 8 → ∀ g, (sv' f).ownBlock = some g → F.sh g ∨ w.heap.size ≤ g ∧ g < w1.heap.size ∧ ∃ cur, w1.heap[g]? = some (.cells cur 9 (0, 0)) := fun f hf g e => by
  rcases hs f hf with ⟨e1, _⟩ | ⟨e1, _⟩ | hr
  ·rw [e1] at e; exact .inl (h.ssh f hf g e)
  ·rw [e1] at e; exact .inl (h.nsh f hf g e)
  ·exact .inr ⟨(row_base hr e).1, (row_base hr e).2, row_type hr e⟩
 refine ⟨⟨fun k => F.own k ∨ w.heap.size ≤ k ∧ (lv'.ownBlock = some k ∨ av'.ownBlock = some k), fun k => F.sh k ∨ w.heap.size ≤ k ∧ ∃ f, f < 8 ∧ ((nv' f).ownBlock = some k ∨ (sv' f).ownBlock = some k)⟩, ⟨hblk, fun f hf => ?_, fun f hf => ?_, fun f hf g e => ?_, fun f hf g e => ?_, ?_, fun g e => ?_, ?_, fun g e => ?_, .inl h.bown, ?_, ?_, ?_, hok⟩, ?_, fun k hk => hk.imp id (fun h => h.1), fun k hk => hk.imp id (fun h => h.1)⟩
 ·rcases hn f hf with ⟨e1, e2⟩ | ⟨e1, e2⟩ | hr
  ·rw [e1, e2]; exact oldR (h.now f hf) (h.nsh f hf)
  ·rw [e1, e2]; exact oldR (h.sure f hf) (h.ssh f hf)
  ·exact newR hr
 ·rcases hs f hf with ⟨e1, e2⟩ | ⟨e1, e2⟩ | hr
  ·rw [e1, e2]; exact oldR (h.sure f hf) (h.ssh f hf)
  ·rw [e1, e2]; exact oldR (h.now f hf) (h.nsh f hf)
  ·exact newR hr
 ·rcases nrow f hf g e with h3 | h3
  ·exact .inl h3
  ·exact .inr ⟨h3.1, f, hf, .inl e⟩
 ·rcases srow f hf g e with h3 | h3
  ·exact .inl h3
  ·exact .inr ⟨h3.1, f, hf, .inr e⟩
 ·rcases hl with ⟨rfl, e2⟩ | hr
  ·rw [e2]
   exact row_keep h.row fun g e => old g (h.olt g (h.rown g e)) (fun e3 => by
    obtain ⟨cur, hc⟩ := row_type h.row e
    rw [e3, h.blk] at hc
    simp at hc)
  ·exact row_lower (row_keep hr fun g e => new g (row_base hr e).1 (row_base hr e).2) (Nat.zero_le _)
 ·rcases lrow g e with h3 | h3
  ·exact .inl h3.1
  ·exact .inr ⟨h3.1, .inl e⟩
 ·rcases ha with ⟨rfl, e2, e3⟩ | ⟨ra, hr, hlk, hle⟩
  ·obtain ⟨ra, hr, hlk, hle⟩ := h.arm
   rw [e2]
   exact ⟨ra, row_keep hr fun g e => old g (h.olt g (h.aown g e)) (fun e3 => by
    obtain ⟨cur, hc⟩ := row_type hr e
    rw [e3, h.blk] at hc
    simp at hc), hlk, Nat.le_trans hle e3⟩
  ·exact ⟨ra, row_lower (row_keep hr fun g e => new g (row_base hr e).1 (row_base hr e).2) (Nat.zero_le _), hlk, hle⟩
 ·rcases arow g e with h3 | h3
  ·exact .inl h3.1
  ·exact .inr ⟨h3.1, .inr e⟩
 ·rintro k (h3 | ⟨h3, h4⟩) (h5 | ⟨h5, f, hf, h6⟩)
  ·exact h.apart k h3 h5
  ·have := h.olt k h3; omega
  ·have := h.slt k h5; omega
  ·have st : ∃ cur, w1.heap[k]? = some (.cells cur 9 (0, 0)) := by
    rcases h6 with h6 | h6
    ·exact ((nrow f hf k h6).resolve_left (fun h7 => by have := h.slt k h7; omega)).2.2
    ·exact ((srow f hf k h6).resolve_left (fun h7 => by have := h.slt k h7; omega)).2.2
   obtain ⟨c1, k1⟩ := st
   rcases h4 with h4 | h4
   ·obtain ⟨c2, k2⟩ := ((lrow k h4).resolve_left (fun h7 => by omega)).2.2
    rw [k1] at k2; simp at k2
   ·obtain ⟨c2, k2⟩ := ((arow k h4).resolve_left (fun h7 => by omega)).2.2
    rw [k1] at k2; simp at k2
 ·rintro k (h3 | ⟨h3, h4⟩)
  ·exact Nat.lt_of_lt_of_le (h.olt k h3) hsz
  ·rcases h4 with h4 | h4
   ·rcases lrow k h4 with h5 | h5
    ·omega
    ·exact Nat.lt_of_lt_of_le h5.2.1 h2.size
   ·rcases arow k h4 with h5 | h5
    ·omega
    ·exact Nat.lt_of_lt_of_le h5.2.1 h2.size
 ·rintro k (h3 | ⟨h3, f, hf, h4⟩)
  ·exact Nat.lt_of_lt_of_le (h.slt k h3) hsz
  ·rcases h4 with h4 | h4
   ·rcases nrow f hf k h4 with h5 | h5
    ·have := h.slt k h5; omega
    ·exact Nat.lt_of_lt_of_le h5.2.1 h2.size
   ·rcases srow f hf k h4 with h5 | h5
    ·have := h.slt k h5; omega
    ·exact Nat.lt_of_lt_of_le h5.2.1 h2.size
 ·exact (Frm.of_below h1).then h2 (fun i _ e => e ▸ h.bown)
end
end Go.Proofs.YtfkcmgbpgefnnaaGreat.Rf
/- The reference's disk: New, Power, meets. -/
namespace Go.Proofs.YtfkcmgbpgefnnaaGreat.Rf
open Go.RowKit Go.Maps
set_option maxRecDepth 20000
theorem rnew_any (w : World) : Calls Tryz.prog 9 #[] w fun e w' => ∃ b F, e = .returned (.pointer (some ⟨b, 0, none⟩)) ∧ RefAt w' b F newM ∧ Below w.heap.size w w' ∧ (∀ k, F.own k → w.heap.size ≤ k) ∧ (∀ k, F.sh k → w.heap.size ≤ k) := by
 go_enter Tryz.func9, Tryz.ntmps9
 go_wp2_with fail
 go_ret
 refine ⟨w.heap.size, ⟨fun k => k = w.heap.size, fun _ => False⟩, rfl, ⟨fun _ => .slice none 0 0, fun _ => .slice none 0 0, .slice none 0 0, .slice none 0 0, ?_⟩, (Below.refl _ _).alloc (Nat.le_refl _) _, fun k hk => by rw [hk]; exact Nat.le_refl _, fun _ h => h.elim⟩
 refine ⟨ze w _, fun f hf => World.ownsRow_nil _ _ _ _, fun f hf => World.ownsRow_nil _ _ _ _, fun f hf g e => (by cases e), fun f hf g e => (by cases e), World.ownsRow_nil _ _ _ _, fun g e => (by cases e), ⟨[], World.ownsRow_nil _ _ _ _, fun k => rfl, Nat.le_refl _⟩, fun g e => (by cases e), rfl, fun _ _ h => h, fun k hk => by rw [hk]; simp, fun _ h => h.elim, ?_⟩
 exact ⟨fun f _ => by simp [newM], fun f _ => by simp [newM], fun f _ s hs => (by cases hs), fun f _ s hs => (by cases hs), fun c hc => (by cases hc), by simp [newM]⟩
section
variable {w : World} {b : Nat} {F : Foot} {d : Dsk}
theorem RDid.same (h : RefAt w b F d) : RDid w b F d w := ⟨F, h, FootStep.refl _ _⟩
theorem cell_frm {w : World} {b o : Nat} (u : Value) : Frm (fun k => k = b) w (w.setCell ⟨b, o, none⟩ u) := (Frm.refl (fun k => k = b) w).setCell (p := ⟨b, o, none⟩) (.inl rfl) u
theorem rpower_any (h : RefAt w b F d) (n : Int) (hs : d.Small 1099511627776) : Calls Tryz.prog 19 #[.pointer (some ⟨b, 0, none⟩), .int .i64 n] w fun e w' => e = .returned (.int .i64 (powerM d n).1) ∧ RDid w b F (powerM d n).2 w' := by
 obtain ⟨nv, sv, lv, av, h⟩ := h
 obtain ⟨-, -, c, c5, -⟩ := h.five
 have fr := h.free 19
 have H := hid h
 have H0 := hid h.ok.op0
 have HS := hid hs
 clear h hs
 unfold powerM
 by_cases h1 : n < 0
 ·have h1' : decide (n < 0) = true := by simpa using h1
  rw [if_neg (by omega)]
  clear h1
  go_enter Tryz.func19, Tryz.ntmps19
  go_wp2_with fail
  go_ret
  exact ⟨rfl, RDid.same ⟨_, _, _, _, H.out⟩⟩
 ·have h1' : decide (n < 0) = false := by simpa using h1
  by_cases h2 : 1099511627776 < n
  ·have h2' : decide (1099511627776 < n) = true := by simpa using h2
   rw [if_neg (by omega)]
   clear h1 h2
   go_enter Tryz.func19, Tryz.ntmps19
   go_wp2_with fail
   go_ret
   exact ⟨rfl, RDid.same ⟨_, _, _, _, H.out⟩⟩
  ·have h2' : decide (1099511627776 < n) = false := by simpa using h2
   have hw : IntKind.i64.wrap (d.ops + n) = d.ops + n := IntWalk.i64_in _ (by have := HS.out.ops; have := H0.out; omega)
   rw [if_pos (by omega)]
   clear h1 h2
   go_enter Tryz.func19, Tryz.ntmps19
   go_wp2_with fail
   go_ret
   refine ⟨rfl, ?_⟩
   obtain ⟨F', hm, hst⟩ := H.out.update (d' := { d with goes := d.ops + n }) (Below.refl _ _) (cell_frm (w := w) (b := b) (o := 19) (.int .i64 (d.ops + n))) (zd H.out.blk 19 _) (fun f hf => .inl ⟨rfl, rfl⟩) (fun f hf => .inl ⟨rfl, rfl⟩) (.inl ⟨rfl, rfl⟩) (.inl ⟨rfl, rfl, Nat.le_refl _⟩) ⟨H.out.ok.nl, H.out.ok.sl, H.out.ok.ns, H.out.ok.ss, H.out.ok.lo, H.out.ok.op0⟩
   exact ⟨F', ⟨_, _, _, _, hm⟩, hst⟩
theorem arms_get : ∀ {l : List (Int × Int)} {i : Nat} {a : Int × Int}, l[i]? = some a → (armsCells l)[i * 2]? = some (.int .i64 a.1) ∧ (armsCells l)[i * 2 + 1]? = some (.int .i64 a.2)
 | [], i, a, h => by simp at h
 | x :: r, 0, a, h => by
  obtain rfl : x = a := by simpa using h
  exact ⟨rfl, rfl⟩
 | x :: r, i + 1, a, h => by
  have h1 := arms_get (l := r) (i := i) (a := a) (by simpa using h)
  have e : (i + 1) * 2 = i * 2 + 1 + 1 := by omega
  rw [e]
  exact h1
theorem build_arm (w : World) (x y : Int) : (Instr.buildSlice 60 1 #[(0, .agg #[.int .i64 x, .int .i64 y])]).run Tryz.prog w = .ok (.slice (some ⟨w.heap.size, 0, none⟩) 1 1) (w.alloc (.cells #[.int .i64 x, .int .i64 y] 104)) :=
 run_buildSlice_one w 60 104 _ (.agg #[.int .i64 0, .int .i64 0]) 2 Tryz.underlying60 (by kernel_rfl) rfl rfl (by omega) (by omega)
theorem without_bound (n : Int) (l : List (Int × Int)) {i : Nat} (h : i ≤ 1099511627776) : (without n (l.take i)).length ≤ 1099511627776 := by
 have h1 : (without n (l.take i)).length ≤ (l.take i).length := List.length_filter_le _ _
 have h2 : (l.take i).length ≤ i := by simp; omega
 omega
theorem without_len (n : Int) (l : List (Int × Int)) : (without n l).length ≤ l.length := List.length_filter_le _ _
set_option maxHeartbeats 2000000 in
set_option maxRecDepth 20000 in
theorem rmeets_any (h : RefAt w b F d) (hs : d.Small 1099511627776) : Calls Tryz.prog 84 #[.pointer (some ⟨b, 0, none⟩)] w fun e w' => e = .returned (.int .i64 (meetsM d).1) ∧ RDid w b F (meetsM d).2 w' := by
 obtain ⟨nv, sv, lv, av, h⟩ := h
 obtain ⟨-, c17, c18, c19, c20⟩ := h.five
 have f18 := h.free 18
 obtain ⟨i0, hi, hz0, hz1, hz2⟩ := info_parts (P := Tryz.prog) (e := 104) (z := .agg #[.int .i64 0, .int .i64 0]) (size := 2) (bytes := 16) (by kernel_rfl)
 have hw : IntKind.i64.wrap (d.ops + 1) = d.ops + 1 := IntWalk.i64_in _ (by have := hs.ops; have := h.ok.op0; omega)
 obtain ⟨ra, hra, hlk, hrl⟩ := h.arm
 obtain ⟨n, hn⟩ : ∃ n, n = ra.length := ⟨_, rfl⟩
 have hn1 : n ≤ 1099511627776 := by have := hs.arm; omega
 obtain ⟨F1, hm1, hst1⟩ := h.update (d' := { d with ops := d.ops + 1 }) (Below.refl _ _) (cell_frm (w := w) (b := b) (o := 18) (.int .i64 (d.ops + 1))) (zd h.blk 18 _) (fun f hf => .inl ⟨rfl, rfl⟩) (fun f hf => .inl ⟨rfl, rfl⟩) (.inl ⟨rfl, rfl⟩) (.inl ⟨rfl, rfl, Nat.le_refl _⟩) ⟨h.ok.nl, h.ok.sl, h.ok.ns, h.ok.ss, h.ok.lo, by have := h.ok.op0; show 0 ≤ d.ops + 1; omega⟩
 have hform := row_form hra
 rw [← hn] at hform
 obtain ⟨ga, cap, rfl⟩ : ∃ ga cap, av = .slice ga n cap := by
  rcases hform with ⟨h1, h2⟩ | ⟨g, cap, h1⟩
  ·exact ⟨none, 0, by rw [h1, h2]⟩
  ·exact ⟨_, cap, h1⟩
 have hra1 : (w.setCell ⟨b, 18, none⟩ (.int .i64 (d.ops + 1))).ownsRow 0 104 2 (.slice ga n cap) ra.length (armsCells ra) := row_keep hra (fun g hg => Below.heap_setCell w ⟨b, 18, none⟩ _ g (fun e => by
  obtain ⟨cur, hc⟩ := row_type hra hg
  have e2 : g = b := e
  rw [e2, h.blk] at hc
  simp at hc))
 obtain ⟨w1, hw1⟩ : ∃ w1, w1 = w.setCell ⟨b, 18, none⟩ (.int .i64 (d.ops + 1)) := ⟨_, rfl⟩
 have Hform := hid hform
 have Hra := hid hra1
 have Hlk := hid hlk
 have Hrl := hid hrl
 have Hn := hid hn
 have HM1 := hid hm1
 have HST1 := hid hst1
 have Hw1 := hid hw1
 rw [← hw1] at Hra HM1 HST1
 have HOK := hid h.ok
 clear h hs hra hlk hrl hn hm1 hst1 hform hra1 hw1
 go_enter Tryz.func84, Tryz.ntmps84
 go_wp2_with fail
 rw [← Hw1.out]
 clear c17 c18 c19 c20 f18
 go_loopw [6, 5, 4] (fun v6 v5 v4 wr => ∃ i : Nat, v6 = .int .i64 (i : Int) ∧ v4 = .int .i64 (look (ra.take i) d.ops) ∧ i ≤ n ∧ wr.ownsRow w1.heap.size 104 2 v5 (without d.ops (ra.take i)).length (armsCells (without d.ops (ra.take i))) ∧ Below w1.heap.size w1 wr) (fun v6 _ _ _ => n - (intOf v6).toNat)
 case atStart => exact ⟨0, rfl, rfl, Nat.zero_le _, World.ownsRow_nil _ _ _ _, Below.refl _ _⟩
 case round =>
  obtain ⟨i, rfl, rfl, hin, hrow, hbel⟩ := hrel
  have Hrow := hid hrow
  have Hbel := hid hbel
  have hblk := (hbel.block b (zc HM1.out.blk)).trans HM1.out.blk
  have Hblk := hid hblk
  have c17 : wr.cell? ⟨b, 17, none⟩ = some (.slice ga n cap) := (za hblk 17).trans rfl
  have c19 : wr.cell? ⟨b, 19, none⟩ = some (.int .i64 d.goes) := (za hblk 19).trans rfl
  have c20 : wr.cell? ⟨b, 20, none⟩ = some (.bool d.off) := (za hblk 20).trans rfl
  have f17 := zg hblk 17
  have f20 := zg hblk 20
  clear hrow hbel hblk
  obtain ⟨lk, hlk⟩ : ∃ lk, look (ra.take i) d.ops = lk := ⟨_, rfl⟩
  have Hlki := hid hlk
  rw [hlk]
  clear hlk
  by_cases hlt : i < n
  ·obtain ⟨g, cap', hgv⟩ := Hform.out.resolve_left (fun e => by omega)
   cases hgv
   have hil : i < ra.length := by have := Hn.out; omega
   obtain ⟨a, ha⟩ : ∃ a, a = ra[i] := ⟨_, rfl⟩
   have hget : ra[i]? = some a := by rw [List.getElem?_eq_getElem hil, ha]
   have Ha := hid ha
   have hrw := row_keep Hra.out (w' := wr) (fun x hx => Hbel.out.block x (row_base Hra.out hx).2)
   have hc0 : wr.cell? ⟨g, i * 2, none⟩ = some (.int .i64 a.1) := by
    rw [← Hn.out] at hrw
    rw [hrw.cellAt (i * 2) (by omega)]
    exact (arms_get hget).1
   have hc1 : wr.cell? ⟨g, i * 2 + 1, none⟩ = some (.int .i64 a.2) := by
    rw [← Hn.out] at hrw
    rw [hrw.cellAt (i * 2 + 1) (by omega)]
    exact (arms_get hget).2
   have d1 : decide ((i : Int) < (n : Int)) = true := by simp; omega
   have hin2 : (i : Int) < (n : Int) := by omega
   have htake : ra.take (i + 1) = ra.take i ++ [a] := by rw [List.take_succ_eq_append_getElem hil, ← ha]
   have Htake := hid htake
   have hwl := without_len d.ops (ra.take i)
   have Hwl := hid (without_bound d.ops ra (i := i) (by omega) : (without d.ops (ra.take i)).length ≤ 1099511627776)
   have hbs := build_arm wr a.1 a.2
   clear ha hget hrw htake hwl
   by_cases he : a.1 = d.ops
   ·have he' : (a.1 == d.ops) = true := by simpa using he
    have He := hid he
    clear he hbs
    go_wp2_with fail
    go_roundw
    case rel =>
     refine ⟨i + 1, by simp, ?_, by omega, ?_, Hbel.out⟩
     ·rw [Htake.out, look_snoc, if_pos He.out]
     ·rw [Htake.out, without_snoc, if_pos He.out]
      exact Hrow.out
    case measure => simp [intOf]; omega
   ·have he' : (a.1 == d.ops) = false := by simpa using he
    have He := hid he
    clear he
    go_wp2_with (first
     | (at_builtin; refine wpList_append_own_at _ rfl _ _ 60 rfl w1.heap.size 104 i0 _ 2 16 Tryz.underlying60 hi hz0 hz1 hz2 rfl (by omega) _ (without d.ops (ra.take i)).length (armsCells (without d.ops (ra.take i))) rfl (row_keep Hrow.out (fun x hx => Below.heap_alloc wr _ x (row_base Hrow.out hx).2)) ⟨wr.heap.size, 0, none⟩ 1 1 (armCells a) rfl (by simp [armCells]) (World.news_of_block (cs := #[.int .i64 a.1, .int .i64 a.2]) (t := 104) (fr := (0, 0)) (ze wr _)) (by intro u hu; simp only [armCells, List.mem_cons, List.not_mem_nil, or_false] at hu; rcases hu with rfl | rfl <;> rfl) (by have := Hwl.out; unfold maxLen; omega) (by have := Hwl.out; omega) (by simp; have := Hbel.out.size; omega) ?_; intro v' w7 hown7 hgrow7 _ _; have Hown7 := hid hown7; have Hbel7 := hid ((Hbel.out.alloc Hbel.out.size (.cells #[.int .i64 a.1, .int .i64 a.2] 104)).grown hgrow7 (by simp; have := Hbel.out.size; omega) (fun j hj => (row_base Hrow.out hj).1)); clear hown7 hgrow7)
     | go_in)
    go_roundw
    case rel =>
     refine ⟨i + 1, by simp, ?_, by omega, ?_, Hbel7.out⟩
     ·rw [Htake.out, look_snoc, if_neg He.out, Hlki.out]
     ·rw [Htake.out, without_snoc, if_neg He.out, armsCells_snoc, List.length_append]
      exact Hown7.out
    case measure => simp [intOf]; omega
  ·obtain rfl : i = n := by omega
   have d1 : decide ((i : Int) < (i : Int)) = false := by simp
   have hall : ra.take i = ra := List.take_of_length_le (by have := Hn.out; omega)
   rw [hall] at Hrow Hlki
   obtain ⟨m, hm⟩ : ∃ m, m = (without d.ops ra).length := ⟨_, rfl⟩
   have hf5 := row_form Hrow.out
   rw [← hm] at hf5
   obtain ⟨ga5, cap5, h5⟩ : ∃ ga cap, u5 = .slice ga m cap := by
    rcases hf5 with ⟨h1, h2⟩ | ⟨g, cap, h1⟩
    ·exact ⟨none, 0, by rw [h1, h2]⟩
    ·exact ⟨_, cap, h1⟩
   subst h5
   have harm : ArmR wr w1.heap.size (.slice ga5 m cap5) (fun k => if k = d.ops then 0 else d.armed k) d.narm := ⟨without d.ops ra, Hrow.out, fun k => by rw [look_without]; by_cases hk : k = d.ops <;> simp [hk, Hlk.out], Nat.le_trans (without_len _ _) Hrl.out⟩
   have Harm := hid harm
   have Hlke := hid (show lk = d.armed d.ops by rw [← Hlki.out, Hlk.out])
   clear hm hf5 hall harm
   have hok : (meetsM d).2.Ok := ⟨HOK.out.nl, HOK.out.sl, HOK.out.ns, HOK.out.ss, HOK.out.lo, by have := HOK.out.op0; show 0 ≤ d.ops + 1; omega⟩
   have Hok := hid hok
   clear hok
   obtain ⟨rr, hrr⟩ : ∃ rr, rr = meetsM d := ⟨_, rfl⟩
   have HrrE := hid hrr
   rw [← hrr] at Hok
   unfold meetsM at hrr
   by_cases he : d.ops = d.goes
   ·have he' : (d.ops == d.goes) = true := by simpa using he
    rw [if_pos he, he', Bool.or_true] at hrr
    have Hrr := hid hrr
    clear he hrr
    go_wp2_with fail
    go_ret
    rw [← HrrE.out]
    obtain ⟨F', hm, hst⟩ := HM1.out.update (d' := rr.2) (nv' := nv) (sv' := sv) (lv' := lv) (av' := .slice ga5 m cap5) Hbel.out ((cell_frm (w := wr) (b := b) (o := 17) _).trans (cell_frm (b := b) (o := 20) (.bool true))) (by rw [Hrr.out]; exact zd (zd Hblk.out 17 _) 20 _) (fun f hf => .inl ⟨rfl, by rw [Hrr.out]⟩) (fun f hf => .inl ⟨rfl, by rw [Hrr.out]⟩) (.inl ⟨rfl, by rw [Hrr.out]⟩) (.inr (by rw [Hrr.out]; exact Harm.out)) Hok.out
    exact ⟨by rw [Hrr.out]; rfl, F', ⟨_, _, _, _, hm⟩, HST1.out.trans hst⟩
   ·have he' : (d.ops == d.goes) = false := by simpa using he
    rw [if_neg he, he', Bool.or_false] at hrr
    have Hrr := hid hrr
    clear he hrr
    go_wp2_with fail
    go_ret
    rw [← HrrE.out]
    obtain ⟨F', hm, hst⟩ := HM1.out.update (d' := rr.2) (nv' := nv) (sv' := sv) (lv' := lv) (av' := .slice ga5 m cap5) Hbel.out (cell_frm (w := wr) (b := b) (o := 17) _) (by rw [Hrr.out]; exact zd Hblk.out 17 _) (fun f hf => .inl ⟨rfl, by rw [Hrr.out]⟩) (fun f hf => .inl ⟨rfl, by rw [Hrr.out]⟩) (.inl ⟨rfl, by rw [Hrr.out]⟩) (.inr (by rw [Hrr.out]; exact Harm.out)) Hok.out
    exact ⟨by rw [Hrr.out, ← Hlke.out]; rfl, F', ⟨_, _, _, _, hm⟩, HST1.out.trans hst⟩
end
end Go.Proofs.YtfkcmgbpgefnnaaGreat.Rf
