/- The reference's disk in memory. -/
import Derived.Test.YtifgnhbbcpmaiaaRfA
namespace Go.Proofs.Ytifgnhbbcpmaiaa
open Go.RowKit Go.Maps
set_option linter.unusedVariables false
set_option linter.unusedSimpArgs false

def rfcells (m : Nat → Value) : List Value := [m 0, m 1, m 2, m 3, m 4, m 5, m 6, m 7]
def refCells (d : Dsk) (nv sv : Nat → Value) (lv av : Value) : List Value := rfcells nv ++ rfcells sv ++ [lv, av, .int .i64 d.ops, .int .i64 d.goes, .bool d.off]
theorem rnow_cell (d : Dsk) (nv sv : Nat → Value) (lv av : Value) {f : Nat} (h : f < 8) : (refCells d nv sv lv av)[f]? = some (nv f) := by
  rcases lt8 h with rfl | rfl | rfl | rfl | rfl | rfl | rfl | rfl <;> rfl
theorem rsure_cell (d : Dsk) (nv sv : Nat → Value) (lv av : Value) {f : Nat} (h : f < 8) : (refCells d nv sv lv av)[8 + f]? = some (sv f) := by
  rcases lt8 h with rfl | rfl | rfl | rfl | rfl | rfl | rfl | rfl <;> rfl
theorem rset_now (d : Dsk) (nv sv : Nat → Value) (lv av : Value) {f : Nat} (h : f < 8) (v : Value) : (refCells d nv sv lv av).toArray.setIfInBounds f v = (refCells d (put nv f v) sv lv av).toArray := by
  rcases lt8 h with rfl | rfl | rfl | rfl | rfl | rfl | rfl | rfl <;> rfl
theorem rset_sure (d : Dsk) (nv sv : Nat → Value) (lv av : Value) {f : Nat} (h : f < 8) (v : Value) : (refCells d nv sv lv av).toArray.setIfInBounds (8 + f) v = (refCells d nv (put sv f v) lv av).toArray := by
  rcases lt8 h with rfl | rfl | rfl | rfl | rfl | rfl | rfl | rfl <;> rfl
def rchgs (l : List Chg) : List Value := l.flatMap rchgCells
theorem rchgs_snoc (l : List Chg) (c : Chg) : rchgs (l ++ [c]) = rchgs l ++ rchgCells c := by simp [rchgs]
theorem rchgs_length (l : List Chg) : (rchgs l).length = l.length * 4 := by
  induction l with
  | nil => rfl
  | cons c r ih => simp only [rchgs, List.flatMap_cons, List.length_append, List.length_cons] at ih ⊢; rw [ih]; simp [rchgCells]; omega
theorem rchg_one (c : Chg) : ∀ u ∈ rchgCells c, u.oneCell' = true := by
  intro u hu
  simp only [rchgCells, List.mem_cons, List.not_mem_nil, or_false] at hu
  rcases hu with rfl | rfl | rfl | rfl <;> rfl
def armCells (a : Int × Int) : List Value := [.int .i64 a.1, .int .i64 a.2]
def armsCells (l : List (Int × Int)) : List Value := l.flatMap armCells
theorem armsCells_snoc (l : List (Int × Int)) (a : Int × Int) : armsCells (l ++ [a]) = armsCells l ++ armCells a := by simp [armsCells]
/-- What an operation is armed with: the last of its number. -/
def look (l : List (Int × Int)) (k : Int) : Int := l.foldl (fun e a => if a.1 = k then a.2 else e) 0
theorem look_snoc (l : List (Int × Int)) (a : Int × Int) (k : Int) : look (l ++ [a]) k = if a.1 = k then a.2 else look l k := by simp [look]
def without (n : Int) (l : List (Int × Int)) : List (Int × Int) := l.filter fun a => a.1 != n
theorem without_snoc (n : Int) (l : List (Int × Int)) (a : Int × Int) : without n (l ++ [a]) = if a.1 = n then without n l else without n l ++ [a] := by
  unfold without
  rw [List.filter_append]
  by_cases h : a.1 = n
  · rw [if_pos h]; simp [h]
  · rw [if_neg h]; simp [h]
theorem look_without (n k : Int) (l : List (Int × Int)) : look (without n l) k = if k = n then 0 else look l k := by
  have h : ∀ (l : List (Int × Int)) (e : Int), (without n l).foldl (fun e a => if a.1 = k then a.2 else e) e = if k = n then e else l.foldl (fun e a => if a.1 = k then a.2 else e) e := by
    intro l
    induction l with
    | nil => intro e; simp [without]
    | cons a r ih =>
      intro e
      unfold without at ih ⊢
      by_cases ha : a.1 = n
      · have : (a.1 != n) = false := by simpa using ha
        rw [List.filter_cons, this, if_neg (by simp), ih]
        by_cases hk : k = n
        · rw [if_pos hk, if_pos hk]
        · rw [if_neg hk, if_neg hk, List.foldl_cons, if_neg (fun e => hk (e.symm.trans ha))]
      · have : (a.1 != n) = true := by simpa using ha
        rw [List.filter_cons, this, if_pos rfl, List.foldl_cons, ih]
        by_cases hk : k = n
        · rw [if_pos hk, if_pos hk, if_neg (fun e => ha (e.trans hk))]
        · rw [if_neg hk, if_neg hk, List.foldl_cons]
  exact h l 0

def ArmR (w : World) (base : Nat) (av : Value) (g : Int → Int) (n : Nat) : Prop := ∃ ra : List (Int × Int), w.ownsRow base 92 2 av ra.length (armsCells ra) ∧ (∀ k, look ra k = g k) ∧ ra.length ≤ n
structure RefMem (w : World) (b : Nat) (F : Foot) (d : Dsk) (nv sv : Nat → Value) (lv av : Value) : Prop where
  blk : w.heap[b]? = some (.cells (refCells d nv sv lv av).toArray 61 (0, 0))
  now : ∀ f, f < 8 → FileR w 0 (nv f) (d.now f)
  sure : ∀ f, f < 8 → FileR w 0 (sv f) (d.sure f)
  nsh : ∀ f, f < 8 → ∀ g, (nv f).ownBlock = some g → F.sh g
  ssh : ∀ f, f < 8 → ∀ g, (sv f).ownBlock = some g → F.sh g
  row : w.ownsRow 0 89 4 lv d.loose.length (rchgs d.loose)
  rown : ∀ g, lv.ownBlock = some g → F.own g
  arm : ArmR w 0 av d.armed d.narm
  aown : ∀ g, av.ownBlock = some g → F.own g
  bown : F.own b
  apart : ∀ k, F.own k → F.sh k → False
  olt : ∀ k, F.own k → k < w.heap.size
  slt : ∀ k, F.sh k → k < w.heap.size
  ok : d.Ok
def RefAt (w : World) (b : Nat) (F : Foot) (d : Dsk) : Prop := ∃ nv sv lv av, RefMem w b F d nv sv lv av
def RDid (w : World) (b : Nat) (F : Foot) (d' : Dsk) (w' : World) : Prop := ∃ F', RefAt w' b F' d' ∧ FootStep F F' w w'
theorem ArmR.keep {w w' : World} {base : Nat} {av : Value} {g : Int → Int} {n : Nat} (h : ArmR w base av g n) (hk : ∀ x, av.ownBlock = some x → w'.heap[x]? = w.heap[x]?) : ArmR w' base av g n := by
  obtain ⟨ra, h1, h2, h3⟩ := h
  exact ⟨ra, row_keep h1 hk, h2, h3⟩
theorem row_type {w : World} {base n size : Nat} {e : TypeId} {v : Value} {xs : List Value} (h : w.ownsRow base e size v n xs) {g : Nat} (hg : v.ownBlock = some g) : ∃ cur, w.heap[g]? = some (.cells cur e (0, 0)) := by
  rcases h.2 with ⟨rfl, _⟩ | ⟨g', cap, cur, rfl, _, hh, _⟩
  · cases hg
  · cases hg; exact ⟨cur, hh⟩
theorem rows_apart {w : World} {b1 b2 n1 n2 s1 s2 : Nat} {e1 e2 : TypeId} {v1 v2 : Value} {x1 x2 : List Value} (h1 : w.ownsRow b1 e1 s1 v1 n1 x1) (h2 : w.ownsRow b2 e2 s2 v2 n2 x2) (he : e1 ≠ e2) {g : Nat} (g1 : v1.ownBlock = some g) (g2 : v2.ownBlock = some g) : False := by
  obtain ⟨c1, k1⟩ := row_type h1 g1
  obtain ⟨c2, k2⟩ := row_type h2 g2
  rw [k1] at k2
  simp at k2
  exact he k2.2

section
variable {w w1 w' : World} {b : Nat} {F : Foot} {d d' : Dsk} {nv sv nv' sv' : Nat → Value} {lv av lv' av' : Value}
theorem RefMem.keep (h : RefMem w b F d nv sv lv av) (hk : ∀ k, F.own k ∨ F.sh k → w'.heap[k]? = w.heap[k]?) (hs : w.heap.size ≤ w'.heap.size) : RefMem w' b F d nv sv lv av :=
  ⟨(hk b (.inl h.bown)).trans h.blk, fun f hf => row_keep (h.now f hf) fun g hg => hk g (.inr (h.nsh f hf g hg)), fun f hf => row_keep (h.sure f hf) fun g hg => hk g (.inr (h.ssh f hf g hg)), h.nsh, h.ssh,
    row_keep h.row fun g hg => hk g (.inl (h.rown g hg)), h.rown, h.arm.keep fun g hg => hk g (.inl (h.aown g hg)), h.aown, h.bown, h.apart, fun k hk => Nat.lt_of_lt_of_le (h.olt k hk) hs, fun k hk => Nat.lt_of_lt_of_le (h.slt k hk) hs, h.ok⟩
theorem RefAt.keep (h : RefAt w b F d) (hk : ∀ k, F.own k ∨ F.sh k → w'.heap[k]? = w.heap[k]?) (hs : w.heap.size ≤ w'.heap.size) : RefAt w' b F d := by
  obtain ⟨nv, sv, lv, av, h⟩ := h
  exact ⟨nv, sv, lv, av, h.keep hk hs⟩
theorem RefAt.below (h : RefAt w b F d) (hb : Below w.heap.size w w') : RefAt w' b F d := by
  obtain ⟨nv, sv, lv, av, h⟩ := h
  exact ⟨nv, sv, lv, av, h.keep (fun k hk => hb.block k (hk.elim (h.olt k) (h.slt k))) hb.size⟩
theorem RefAt.other {F2 F2' : Foot} (h : RefAt w b F d) (hs : FootStep F2 F2' w w') (hd : ∀ k, F2.own k → ¬ F.own k ∧ ¬ F.sh k) : RefAt w' b F d := by
  obtain ⟨nv, sv, lv, av, h⟩ := h
  exact ⟨nv, sv, lv, av, h.keep (fun k hk => hs.frm.block k (hk.elim (h.olt k) (h.slt k)) (fun h2 => hk.elim (hd k h2).1 (hd k h2).2)) hs.frm.size⟩
theorem RefMem.cell (h : RefMem w b F d nv sv lv av) (o : Nat) : w.cell? ⟨b, o, none⟩ = (refCells d nv sv lv av)[o]? := by rw [cell_of_block h.blk]; simp
theorem RefMem.five (h : RefMem w b F d nv sv lv av) : w.cell? ⟨b, 16, none⟩ = some lv ∧ w.cell? ⟨b, 17, none⟩ = some av ∧ w.cell? ⟨b, 18, none⟩ = some (.int .i64 d.ops) ∧ w.cell? ⟨b, 19, none⟩ = some (.int .i64 d.goes) ∧ w.cell? ⟨b, 20, none⟩ = some (.bool d.off) :=
  ⟨h.cell 16, h.cell 17, h.cell 18, h.cell 19, h.cell 20⟩
theorem RefMem.free (h : RefMem w b F d nv sv lv av) (o : Nat) : w.frozen? ⟨b, o, none⟩ = false := free_of_block h.blk o

/-- The disk's block is written anew; what it leads to is what it was, or was just made. -/
theorem RefMem.update (h : RefMem w b F d nv sv lv av) (h1 : Below w.heap.size w w1) (h2 : Frm (fun k => k = b) w1 w')
    (hblk : w'.heap[b]? = some (.cells (refCells d' nv' sv' lv' av').toArray 61 (0, 0)))
    (hn : ∀ f, f < 8 → (nv' f = nv f ∧ d'.now f = d.now f) ∨ (nv' f = sv f ∧ d'.now f = d.sure f) ∨ FileR w1 w.heap.size (nv' f) (d'.now f))
    (hs : ∀ f, f < 8 → (sv' f = sv f ∧ d'.sure f = d.sure f) ∨ (sv' f = nv f ∧ d'.sure f = d.now f) ∨ FileR w1 w.heap.size (sv' f) (d'.sure f))
    (hl : (lv' = lv ∧ d'.loose = d.loose) ∨ w1.ownsRow w.heap.size 89 4 lv' d'.loose.length (rchgs d'.loose))
    (ha : (av' = av ∧ d'.armed = d.armed ∧ d.narm ≤ d'.narm) ∨ ArmR w1 w.heap.size av' d'.armed d'.narm) (hok : d'.Ok) :
    ∃ F', RefMem w' b F' d' nv' sv' lv' av' ∧ FootStep F F' w w' := by
  have hb := lt_of_block h.blk
  have old : ∀ k, k < w.heap.size → k ≠ b → w'.heap[k]? = w.heap[k]? := fun k hk hne => (h2.block k (Nat.lt_of_lt_of_le hk h1.size) hne).trans (h1.block k hk)
  have new : ∀ k, w.heap.size ≤ k → k < w1.heap.size → w'.heap[k]? = w1.heap[k]? := fun k hk hlt => h2.block k hlt (by omega)
  have hsz : w.heap.size ≤ w'.heap.size := Nat.le_trans h1.size h2.size
  have nb : ∀ k, F.sh k → k ≠ b := fun k hk e => h.apart k (e ▸ h.bown) hk
  have oldR : ∀ {v : Value} {l : List Sec}, FileR w 0 v l → (∀ g, v.ownBlock = some g → F.sh g) → FileR w' 0 v l := fun hv hg => row_keep hv fun g e => old g (h.slt g (hg g e)) (nb g (hg g e))
  have newR : ∀ {v : Value} {l : List Sec}, FileR w1 w.heap.size v l → FileR w' 0 v l := fun hv => row_lower (row_keep hv fun g e => new g (row_base hv e).1 (row_base hv e).2) (Nat.zero_le _)
  -- rows that are new own blocks that are new
  have lrow : ∀ g, lv'.ownBlock = some g → F.own g ∧ g < w.heap.size ∨ w.heap.size ≤ g ∧ g < w1.heap.size ∧ ∃ cur, w1.heap[g]? = some (.cells cur 89 (0, 0)) := fun g e => by
    rcases hl with ⟨rfl, _⟩ | hl
    · exact .inl ⟨h.rown g e, h.olt g (h.rown g e)⟩
    · exact .inr ⟨(row_base hl e).1, (row_base hl e).2, row_type hl e⟩
  have arow : ∀ g, av'.ownBlock = some g → F.own g ∧ g < w.heap.size ∨ w.heap.size ≤ g ∧ g < w1.heap.size ∧ ∃ cur, w1.heap[g]? = some (.cells cur 92 (0, 0)) := fun g e => by
    rcases ha with ⟨rfl, _⟩ | ⟨ra, ha, _⟩
    · exact .inl ⟨h.aown g e, h.olt g (h.aown g e)⟩
    · exact .inr ⟨(row_base ha e).1, (row_base ha e).2, row_type ha e⟩
  have nrow : ∀ f, f < 8 → ∀ g, (nv' f).ownBlock = some g → F.sh g ∨ w.heap.size ≤ g ∧ g < w1.heap.size ∧ ∃ cur, w1.heap[g]? = some (.cells cur 9 (0, 0)) := fun f hf g e => by
    rcases hn f hf with ⟨e1, _⟩ | ⟨e1, _⟩ | hr
    · rw [e1] at e; exact .inl (h.nsh f hf g e)
    · rw [e1] at e; exact .inl (h.ssh f hf g e)
    · exact .inr ⟨(row_base hr e).1, (row_base hr e).2, row_type hr e⟩
  have srow : ∀ f, f < 8 → ∀ g, (sv' f).ownBlock = some g → F.sh g ∨ w.heap.size ≤ g ∧ g < w1.heap.size ∧ ∃ cur, w1.heap[g]? = some (.cells cur 9 (0, 0)) := fun f hf g e => by
    rcases hs f hf with ⟨e1, _⟩ | ⟨e1, _⟩ | hr
    · rw [e1] at e; exact .inl (h.ssh f hf g e)
    · rw [e1] at e; exact .inl (h.nsh f hf g e)
    · exact .inr ⟨(row_base hr e).1, (row_base hr e).2, row_type hr e⟩
  refine ⟨⟨fun k => F.own k ∨ w.heap.size ≤ k ∧ (lv'.ownBlock = some k ∨ av'.ownBlock = some k), fun k => F.sh k ∨ w.heap.size ≤ k ∧ ∃ f, f < 8 ∧ ((nv' f).ownBlock = some k ∨ (sv' f).ownBlock = some k)⟩, ⟨hblk, fun f hf => ?_, fun f hf => ?_, fun f hf g e => ?_, fun f hf g e => ?_, ?_, fun g e => ?_, ?_, fun g e => ?_, .inl h.bown, ?_, ?_, ?_, hok⟩, ?_, fun k hk => hk.imp id (fun h => h.1), fun k hk => hk.imp id (fun h => h.1)⟩
  · rcases hn f hf with ⟨e1, e2⟩ | ⟨e1, e2⟩ | hr
    · rw [e1, e2]; exact oldR (h.now f hf) (h.nsh f hf)
    · rw [e1, e2]; exact oldR (h.sure f hf) (h.ssh f hf)
    · exact newR hr
  · rcases hs f hf with ⟨e1, e2⟩ | ⟨e1, e2⟩ | hr
    · rw [e1, e2]; exact oldR (h.sure f hf) (h.ssh f hf)
    · rw [e1, e2]; exact oldR (h.now f hf) (h.nsh f hf)
    · exact newR hr
  · rcases nrow f hf g e with h3 | h3
    · exact .inl h3
    · exact .inr ⟨h3.1, f, hf, .inl e⟩
  · rcases srow f hf g e with h3 | h3
    · exact .inl h3
    · exact .inr ⟨h3.1, f, hf, .inr e⟩
  · rcases hl with ⟨rfl, e2⟩ | hr
    · rw [e2]
      exact row_keep h.row fun g e => old g (h.olt g (h.rown g e)) (fun e3 => by
        obtain ⟨cur, hc⟩ := row_type h.row e
        rw [e3, h.blk] at hc
        simp at hc)
    · exact row_lower (row_keep hr fun g e => new g (row_base hr e).1 (row_base hr e).2) (Nat.zero_le _)
  · rcases lrow g e with h3 | h3
    · exact .inl h3.1
    · exact .inr ⟨h3.1, .inl e⟩
  · rcases ha with ⟨rfl, e2, e3⟩ | ⟨ra, hr, hlk, hle⟩
    · obtain ⟨ra, hr, hlk, hle⟩ := h.arm
      rw [e2]
      exact ⟨ra, row_keep hr fun g e => old g (h.olt g (h.aown g e)) (fun e3 => by
        obtain ⟨cur, hc⟩ := row_type hr e
        rw [e3, h.blk] at hc
        simp at hc), hlk, Nat.le_trans hle e3⟩
    · exact ⟨ra, row_lower (row_keep hr fun g e => new g (row_base hr e).1 (row_base hr e).2) (Nat.zero_le _), hlk, hle⟩
  · rcases arow g e with h3 | h3
    · exact .inl h3.1
    · exact .inr ⟨h3.1, .inr e⟩
  · rintro k (h3 | ⟨h3, h4⟩) (h5 | ⟨h5, f, hf, h6⟩)
    · exact h.apart k h3 h5
    · have := h.olt k h3; omega
    · have := h.slt k h5; omega
    · have st : ∃ cur, w1.heap[k]? = some (.cells cur 9 (0, 0)) := by
        rcases h6 with h6 | h6
        · exact ((nrow f hf k h6).resolve_left (fun h7 => by have := h.slt k h7; omega)).2.2
        · exact ((srow f hf k h6).resolve_left (fun h7 => by have := h.slt k h7; omega)).2.2
      obtain ⟨c1, k1⟩ := st
      rcases h4 with h4 | h4
      · obtain ⟨c2, k2⟩ := ((lrow k h4).resolve_left (fun h7 => by omega)).2.2
        rw [k1] at k2; simp at k2
      · obtain ⟨c2, k2⟩ := ((arow k h4).resolve_left (fun h7 => by omega)).2.2
        rw [k1] at k2; simp at k2
  · rintro k (h3 | ⟨h3, h4⟩)
    · exact Nat.lt_of_lt_of_le (h.olt k h3) hsz
    · rcases h4 with h4 | h4
      · rcases lrow k h4 with h5 | h5
        · omega
        · exact Nat.lt_of_lt_of_le h5.2.1 h2.size
      · rcases arow k h4 with h5 | h5
        · omega
        · exact Nat.lt_of_lt_of_le h5.2.1 h2.size
  · rintro k (h3 | ⟨h3, f, hf, h4⟩)
    · exact Nat.lt_of_lt_of_le (h.slt k h3) hsz
    · rcases h4 with h4 | h4
      · rcases nrow f hf k h4 with h5 | h5
        · have := h.slt k h5; omega
        · exact Nat.lt_of_lt_of_le h5.2.1 h2.size
      · rcases srow f hf k h4 with h5 | h5
        · have := h.slt k h5; omega
        · exact Nat.lt_of_lt_of_le h5.2.1 h2.size
  · exact (Frm.of_below h1).then h2 (fun i _ e => e ▸ h.bown)
end
end Go.Proofs.Ytifgnhbbcpmaiaa
