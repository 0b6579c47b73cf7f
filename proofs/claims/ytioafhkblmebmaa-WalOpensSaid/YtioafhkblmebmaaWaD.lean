/- A log's steps: sync, a head's write (puts and its closure), steps whatever they are, mend. -/
import Derived.Test.YtioafhkblmebmaaWaC
namespace Go.Proofs.Ytioafhkblmebmaa
open Go.RowKit Go.Maps
set_option linter.unusedVariables false
set_option linter.unusedSimpArgs false

abbrev LgM := Lg → Dsk → Int × Lg × Dsk
def lsyncM : LgM := fun g d => ((syncM d 1).1, { g with torn := g.torn && (syncM d 1).1 != 0 }, (syncM d 1).2)
def lputsS (h : Hd) (has : Bool) : List UInt8 := if has then (hdR h).1 else zeros 64
def lputsM (h : Hd) (has : Bool) : LgM := fun g d => ((writeM d 1 0 (lputsS h has)).1, { g with torn := g.torn || (writeM d 1 0 (lputsS h has)).1 == 0 }, (writeM d 1 0 (lputsS h has)).2)
def lstepsM : List LgM → LgM
  | [], g, d => (0, g, d)
  | m :: r, g, d => if (m g d).1 ≠ 0 then ((m g d).1, { (m g d).2.1 with off := (m g d).2.1.off || (m g d).1 == 32 }, (m g d).2.2) else lstepsM r (m g d).2.1 (m g d).2.2
def lmendM : LgM := fun g d => if g.torn then lstepsM [lputsM g.head g.has, lsyncM] g d else (0, g, d)

section
variable {w w' : World} {l b : Nat} {F F' : Foot} {G : Nat → Prop} {g : Lg} {d d' : Dsk} {lv : Value}
theorem LgAt.set_torn (h : LgAt w l b F G g d) (x : Bool) : LgDid w l b F G { g with torn := x } d (w.setCell ⟨l, 8, none⟩ (.bool x)) := by
  have o := h.ok
  exact h.turn ((Frm.refl (fun k => k = l) w).setCell (p := ⟨l, 8, none⟩) (.inl rfl) _) (fun lv h1 => (heap_setCell_same h1.blk 8 _).trans rfl) rfl ⟨o.num, o.pages, o.frames, o.pair, o.many, o.data⟩
theorem LgAt.set_off (h : LgAt w l b F G g d) (x : Bool) : LgDid w l b F G { g with off := x } d (w.setCell ⟨l, 9, none⟩ (.bool x)) := by
  have o := h.ok
  exact h.turn ((Frm.refl (fun k => k = l) w).setCell (p := ⟨l, 9, none⟩) (.inl rfl) _) (fun lv h1 => (heap_setCell_same h1.blk 9 _).trans rfl) rfl ⟨o.num, o.pages, o.frames, o.pair, o.many, o.data⟩
theorem LgAt.cells (h : LgAt w l b F G g d) : ∃ lv, w.cell? ⟨l, 0, none⟩ = some (.pointer (some ⟨b, 0, none⟩)) ∧ w.cell? ⟨l, 1, none⟩ = some (.int .u64 g.head.number) ∧ w.cell? ⟨l, 2, none⟩ = some (.int .i64 g.head.frames) ∧ w.cell? ⟨l, 3, none⟩ = some (.int .i64 g.head.pages) ∧
    w.cell? ⟨l, 4, none⟩ = some (.bool g.has) ∧ w.cell? ⟨l, 5, none⟩ = some lv ∧ w.cell? ⟨l, 6, none⟩ = some (.int .u32 g.pair.1) ∧ w.cell? ⟨l, 7, none⟩ = some (.int .u32 g.pair.2) ∧ w.cell? ⟨l, 8, none⟩ = some (.bool g.torn) ∧ w.cell? ⟨l, 9, none⟩ = some (.bool g.off) ∧ ∀ o, w.frozen? ⟨l, o, none⟩ = false := by
  obtain ⟨lv, h1⟩ := h.log
  exact ⟨lv, h1.cell 0, h1.cell 1, h1.cell 2, h1.cell 3, h1.cell 4, h1.cell 5, h1.cell 6, h1.cell 7, h1.cell 8, h1.cell 9, h1.free⟩
theorem LgDid.at (h : LgDid w l b F G g d w') : ∃ F1 G1, LgAt w' l b F1 G1 g d ∧ LgStep F F1 G G1 w w' := h
theorem did_then {g2 : Lg} {d2 : Dsk} {w1 w2 : World} {F1 : Foot} {G1 : Nat → Prop} (h : LgStep F F1 G G1 w w1) (k : LgDid w1 l b F1 G1 g2 d2 w2) : LgDid w l b F G g2 d2 w2 := LgDid.trans (g1 := g2) (d1 := d2) h k
theorem did_drew {g2 : Lg} {d2 : Dsk} {w2 : World} (k : LgDid w l b F G g2 d2 w2) : LgDid w l b F G g2 d2 w2.drew := by
  obtain ⟨F1, G1, h1, s1⟩ := k
  exact did_then s1 (LgDid.ofBelow h1 ⟨rfl, rfl, rfl, Nat.le_refl _, fun _ _ => rfl⟩)
theorem LgDid.ofSet {g1 g2 : Lg} {d1 : Dsk} {w1 : World} {u : Value} {o : Nat} (h : LgDid w l b F G g1 d1 w1) (hs : ∀ F1 G1, LgAt w1 l b F1 G1 g1 d1 → LgDid w1 l b F1 G1 g2 d1 (w1.setCell ⟨l, o, none⟩ u)) : LgDid w l b F G g2 d1 (w1.setCell ⟨l, o, none⟩ u) := by
  obtain ⟨F1, G1, h1, s1⟩ := h
  exact did_then s1 (hs F1 G1 h1)

set_option maxRecDepth 20000 in
theorem lsync_any (h : LgAt w l b F G g d) (hs : d.Small 1099511527776) :
    Calls Try.prog 40 #[.pointer (some ⟨l, 0, none⟩)] w fun e w' => e = .returned (.int .i64 (lsyncM g d).1) ∧ LgDid w l b F G (lsyncM g d).2.1 (lsyncM g d).2.2 w' := by
  have S := sync_any h.disk 1 hs
  unfold lsyncM
  obtain ⟨r, hr⟩ : ∃ r, r = syncM d 1 := ⟨_, rfl⟩
  rw [← hr] at S ⊢
  obtain ⟨e, d1⟩ := r
  simp only at S ⊢
  obtain ⟨lv0, c0, -⟩ := h.cells
  have H := hid h
  have S := hid S
  have E : (e != 0) = decide (e ≠ 0) := by by_cases h : e = 0 <;> simp [h]
  rw [E]
  clear h hs hr E
  obtain ⟨t, ht⟩ : ∃ t, t = g.torn := ⟨_, rfl⟩
  rw [← ht]
  have Ht := hid ht
  clear ht
  by_cases he : e = 0
  all_goals cases t
  all_goals
    have he0 : (e != 0) = decide (e ≠ 0) := by simp [he]
    simp only [he, ne_eq, not_true_eq_false, not_false_eq_true, decide_true, decide_false] at he0
    go_enter Try.func40, Try.ntmps40
    go_wp2_with (first
      | (go_at_call 46; refine (S.out).mono ?_; rintro e w1 ⟨rfl, hd1⟩; have D := H.out.did hd1; obtain ⟨lv1, -, -, -, -, -, -, -, -, a5, -, af⟩ := (LgDid.at D).choose_spec.choose_spec.1.cells; rw [← Ht.out] at a5; have D := hid D; have a8 := af 8; clear af hd1)
      | go_in)
    go_ret
    refine ⟨by first | rfl | (rw [he]; rfl), ?_⟩
    refine LgDid.ofSet D.out fun F1 G1 h1 => ?_
    simp only [he, ne_eq, not_true_eq_false, not_false_eq_true, decide_true, decide_false, Bool.and_true, Bool.and_false, Bool.true_and, Bool.false_and]
    exact h1.set_torn _

/-! ### A head's write: a closure -/
/-- The closure that puts handed back, with what it captured. -/
def PutsAt (W : World) (l : Nat) (h : Hd) (has : Bool) (p q r : Nat) : Prop :=
  W.heap[p]? = some (.cells #[.pointer (some ⟨l, 0, none⟩)] 27 (0, 0)) ∧ W.heap[q]? = some (.cells #[.int .u64 h.number, .int .i64 h.frames, .int .i64 h.pages] 57 (0, 0)) ∧ W.heap[r]? = some (.cells #[.bool has] 4 (0, 0))
def putsV (p q r : Nat) : Value := .func (.func 65) #[] #[.pointer (some ⟨r, 0, none⟩), .pointer (some ⟨q, 0, none⟩), .pointer (some ⟨p, 0, none⟩)]
set_option maxRecDepth 20000 in
theorem lputs_any (l : Nat) (h : Hd) (has : Bool) (w : World) :
    Calls Try.prog 41 #[.pointer (some ⟨l, 0, none⟩), hdV h, .bool has] w fun e w' => e = .returned (putsV w.heap.size (w.heap.size + 1) (w.heap.size + 1 + 1)) ∧ PutsAt w' l h has w.heap.size (w.heap.size + 1) (w.heap.size + 1 + 1) ∧ Below w.heap.size w w' := by
  have hmf : ∀ (fn : Fn) (first cap : Array Value) (w : World), (Instr.makeFunc fn first cap).run Try.prog w = .ok (.func fn first cap) w := fun _ _ _ _ => rfl
  unfold hdV
  go_enter Try.func41, Try.ntmps41
  go_wp2_with fail
  go_ret
  refine ⟨rfl, ⟨?_, ?_, ?_⟩, ((((Below.refl _ _).alloc (Nat.le_refl _) _).alloc (by simp) _).alloc (by simp <;> omega) _)⟩
  · exact heap_alloc_old (heap_alloc_old (heap_alloc_new _ _))
  · exact heap_alloc_old (by have := heap_alloc_new (w.alloc (.cells #[.pointer (some ⟨l, 0, none⟩)] 27)) (.cells #[.int .u64 h.number, .int .i64 h.frames, .int .i64 h.pages] 57); simpa using this)
  · have := heap_alloc_new ((w.alloc (.cells #[.pointer (some ⟨l, 0, none⟩)] 27)).alloc (.cells #[.int .u64 h.number, .int .i64 h.frames, .int .i64 h.pages] 57)) (.cells #[.bool has] 4)
    simpa using this
theorem hdR_length (h : Hd) : (hdR h).1.length ≤ 64 := by
  unfold hdR
  split
  · simp [hdL_length]
  · simp
theorem lputsS_length (h : Hd) (has : Bool) : (lputsS h has).length ≤ 64 := by
  unfold lputsS
  split
  · exact hdR_length h
  · simp [zeros]
set_option maxHeartbeats 1000000 in
set_option maxRecDepth 20000 in
theorem lputs1_any (h : LgAt w l b F G g d) (hs : d.Small 1099511527776) (hd : Hd) (has : Bool) (hwf : HdWf hd) (p q r : Nat) (hp : PutsAt w l hd has p q r) (hout : ∀ k, k = p ∨ k = q ∨ k = r → ¬ F.own k ∧ ¬ F.sh k ∧ ¬ G k) :
    Calls Try.prog 65 #[.pointer (some ⟨r, 0, none⟩), .pointer (some ⟨q, 0, none⟩), .pointer (some ⟨p, 0, none⟩)] w fun e w' => e = .returned (.int .i64 (lputsM hd has g d).1) ∧ LgDid w l b F G (lputsM hd has g d).2.1 (lputsM hd has g d).2.2 w' := by
  have N := fun W => wnoughts_any 64 W (by omega)
  have P := fun W => putHead_any hd W hwf
  have e0 : ((64 : Nat) : Int) = 64 := rfl
  obtain ⟨cp, cq, cr⟩ := hp
  have p0 := cell_of_block cp 0
  have q0 := cell_of_block cq 0
  have q1 := cell_of_block cq 1
  have q2 := cell_of_block cq 2
  have r0 := cell_of_block cr 0
  simp only [List.getElem?_toArray, List.getElem?_cons_succ, List.getElem?_cons_zero] at p0 q0 q1 q2 r0
  have lp := lt_of_block cp
  have lq := lt_of_block cq
  have lr := lt_of_block cr
  have ll := h.lt
  obtain ⟨lv0, c0, -⟩ := h.cells
  obtain ⟨s, hs1⟩ : ∃ s, s = lputsS hd has := ⟨_, rfl⟩
  have hsl := lputsS_length hd has
  rw [← hs1] at hsl
  have WR : ∀ W, Below w.heap.size w W → Calls Try.prog 21 #[.pointer (some ⟨b, 0, none⟩), .int .i64 1, .int .i64 0, .string (bs s)] W fun e w' => e = .returned (.int .i64 (writeM d 1 0 s).1) ∧ LgDid w l b F G g (writeM d 1 0 s).2 w' ∧ w'.cell? ⟨p, 0, none⟩ = some (.pointer (some ⟨l, 0, none⟩)) := fun W hb => by
    refine (write_any (h.disk.below hb) 1 0 s hs (by omega)).mono ?_
    rintro e w3 ⟨rfl, hd3⟩
    refine ⟨rfl, did_then (LgStep.below hb) ((h.below hb).did hd3), ?_⟩
    obtain ⟨F3, -, s3⟩ := hd3
    rw [cell_of_block ((s3.frm.block p (Nat.lt_of_lt_of_le lp hb.size) (hout p (.inl rfl)).1).trans ((hb.block p lp).trans cp))]
    rfl
  unfold lputsM
  rw [← hs1]
  obtain ⟨x, hx⟩ : ∃ x, x = writeM d 1 0 s := ⟨_, rfl⟩
  rw [← hx] at WR ⊢
  obtain ⟨e, d1⟩ := x
  simp only at WR ⊢
  have WR := hid WR
  obtain ⟨t, ht⟩ : ∃ t, t = g.torn := ⟨_, rfl⟩
  rw [← ht]
  have Ht := hid ht
  have HS := hid hs1
  clear ht hs1 hx hout cp cq cr h hs hsl hwf
  by_cases he : e = 0
  all_goals cases t
  all_goals cases has
  all_goals
    have he0 : (e == 0) = decide (e = 0) := by by_cases h : e = 0 <;> simp [h]
    simp only [he, ne_eq, not_true_eq_false, not_false_eq_true, decide_true, decide_false] at he0
    unfold hdV at P
    first | (obtain rfl : s = List.replicate 64 0 := HS.out) | (obtain rfl : s = (hdR hd).1 := HS.out)
    clear HS
    go_enter Try.func65, Try.ntmps65
    go_wp2_with (first
      | (go_at_call 28; refine (N _).mono ?_; rintro e1 w1 ⟨rfl, hb1⟩; obtain ⟨bc, bf⟩ := bcell hb1; have HB := hid hb1)
      | (go_at_call 66; refine (P _).mono ?_; rintro e1 w2 ⟨rfl, hb2⟩; have HB := hid (then_below HB.out hb2); clear bc bf hb2; obtain ⟨bc, bf⟩ := bcell HB.out)
      | (go_at_call 21; refine (WR.out _ HB.out).mono ?_; rintro e1 w3 ⟨rfl, hd3, x0⟩; have D := hid hd3; obtain ⟨F1, G1, h1, s1⟩ := hd3; obtain ⟨lv1, -, -, -, -, -, -, -, -, a5, -, af⟩ := h1.cells; rw [← Ht.out] at a5; have a8 := af 8; clear af h1 s1 bc bf)
      | go_in)
  all_goals go_still_tail 11, (by kernel_rfl)
  all_goals go_wp2_with fail
  all_goals go_ret
  all_goals
    refine ⟨by first | rfl | (rw [he]; rfl), ?_⟩
    refine LgDid.ofSet (did_drew D.out) fun F1 G1 h1 => ?_
    first
      | (rw [show (e == 0) = true from beq_iff_eq.2 he]; exact h1.set_torn _)
      | (rw [show (e == 0) = false from beq_eq_false_iff_ne.2 he]; exact h1.set_torn _)
end
end Go.Proofs.Ytioafhkblmebmaa
