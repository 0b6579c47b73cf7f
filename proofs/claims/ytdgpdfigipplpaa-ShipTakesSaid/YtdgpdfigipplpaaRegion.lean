/- A region that draws its order: all but the last operations read, or call what only makes memory; one of them makes a block, at whatever time; the last ones come in one order behind them all.
   One walk of the quiet operations in the order of the text serves every order ('region_alloc_tail'). -/
import Derived.Test.YtdgpdfigipplpaaBase
namespace Go.Proofs.Ytdgpdfigipplpaa
open Go.RowKit
set_option linter.unusedVariables false
set_option linter.unusedSimpArgs false

section
variable {P : Program} {ops : Array Oper} {md : Region.Mode} {D : World → Prop}

/-- The worlds that a call may come to that only makes memory. -/
abbrev Over (w : World) : World → Prop := fun w'' => Below w.heap.size w w''
/-- In every world of D an operation yields v, and what it calls only makes memory. -/
def Even (P : Program) (ops : Array Oper) (D : World → Prop) (o : Oper) (v : Value) (a : Act) : Prop :=
  (Region.wanted o (yielded ops a.tmps) = true ∧ ∀ w, D w → o.quietAt P a (Over w) w v) ∨ (Region.wanted o (yielded ops a.tmps) = false ∧ v = undef)
theorem Even.put {o oj : Oper} {v : Value} {a : Act} (h : Even P ops D o v a) (hs : ∀ cs b, o.op ≠ .select cs b) (d : Option Tmp) (u : Value) (hd : ∀ x, d = some x → x ∉ o.looksAt ops) : Even P ops D o v (a.put d u) := by
  unfold Even Oper.quietAt at *
  rw [execOp_put o hs a d u hd, wanted_put o a d u hd]
  exact h
theorem Even.unput {o : Oper} {v : Value} {a : Act} {d : Option Tmp} {u : Value} (h : Even P ops D o v (a.put d u)) (hs : ∀ cs b, o.op ≠ .select cs b) (hd : ∀ x, d = some x → x ∉ o.looksAt ops) : Even P ops D o v a := by
  unfold Even Oper.quietAt at *
  rw [execOp_put o hs a d u hd, wanted_put o a d u hd] at h
  exact h
/-- Number i comes up in frame a, and what follows is K. -/
def evenOp (P : Program) (ops : Array Oper) (D : World → Prop) (i : Nat) (K : Act → Prop) (a : Act) : Prop :=
  ∃ o v, ops[i]? = some o ∧ Even P ops D o v a ∧ K (a.put o.dst v)
theorem evenOp_mono {i : Nat} {a : Act} {K K' : Act → Prop} (h : ∀ a, K a → K' a) (hh : evenOp P ops D i K a) : evenOp P ops D i K' a :=
  let ⟨o, v, h1, h2, h3⟩ := hh
  ⟨o, v, h1, h2, h _ h3⟩
theorem evenOp_put {j : Nat} {oi oj : Oper} {v : Value} (hj : ops[j]? = some oj) (hap : oi.apart ops oj = true) (hsi : ∀ cs b, oi.op ≠ .select cs b) (hsj : ∀ cs b, oj.op ≠ .select cs b) {K : Act → Prop} {a : Act}
    (hy : Even P ops D oi v a) (h : evenOp P ops D j K (a.put oi.dst v)) : evenOp P ops D j (fun a' => Even P ops D oi v a' ∧ K (a'.put oi.dst v)) a := by
  obtain ⟨h1, h2, h3⟩ := Oper.apart_spec hap
  obtain ⟨o, u, ho, he, hk⟩ := h
  obtain rfl : oj = o := Option.some.inj (hj.symm.trans ho)
  exact ⟨oj, u, hj, he.unput hsj h1, hy.put (oj := oj) hsi oj.dst u h3, by rw [← Act.put_comm a v u h2]; exact hk⟩
/-- Whatever order the first n operations are picked in, from here on. -/
def anyEven (P : Program) (md : Region.Mode) (ops : Array Oper) (D : World → Prop) (n : Nat) (L : Array Bool → Act → Prop) : Nat → Array Bool → Act → Prop
  | 0, listed, a => L listed a
  | f + 1, listed, a => Region.ready md ops listed ≠ [] ∧ ∀ i ∈ Region.ready md ops listed, i < n ∧ evenOp P ops D i (anyEven P md ops D n L f (listed.setIfInBounds i true)) a

theorem anyEven_first {n i : Nat} {oi : Oper} {v : Value} {L : Array Bool → Act → Prop} (hi : ops[i]? = some oi) (hsel : ∀ (j : Nat) (o : Oper) cs b, ops[j]? = some o → o.op ≠ .select cs b)
    (hs : Region.sinkB md ops n = true) (hc : Region.chainB md ops n = true) (hn : n < ops.size) (hin : i < n) (hdone : ∀ listed a, L listed a → ∀ j ∈ Region.ready md ops listed, n ≤ j) :
    ∀ (f : Nat) (listed : Array Bool) (a : Act), HeadInv md ops n listed →
      (∀ j oj, ops[j]? = some oj → j ≠ i → listed.getD j true = false → (∀ e ∈ oj.after, Region.binds md e = true → e.on ≠ i) → oi.apart ops oj = true) →
      i ∈ Region.ready md ops listed → Even P ops D oi v a → anyEven P md ops D n L f (listed.setIfInBounds i true) (a.put oi.dst v) → anyEven P md ops D n L (f + 1) listed a := by
  intro f
  induction f with
  | zero =>
    intro listed a inv _ hr hy H
    have hun := (mem_ready.1 hr).1
    refine ⟨fun h => (by rw [h] at hr; cases hr), fun j hj => ?_⟩
    have hjn : j < n := Nat.lt_of_not_le fun h => absurd hj (tail_waits hs hc hn inv _ i rfl hin hun j h)
    refine ⟨hjn, ?_⟩
    by_cases hji : j = i
    · subst hji; exact ⟨oi, v, hi, hy, H⟩
    · have := hdone _ _ H j (ready_mono hj hji)
      omega
  | succ f ih =>
    intro listed a inv hfree hr hy H
    have hun := (mem_ready.1 hr).1
    refine ⟨fun h => (by rw [h] at hr; cases hr), fun j hj => ?_⟩
    have hjn : j < n := Nat.lt_of_not_le fun h => absurd hj (tail_waits hs hc hn inv _ i rfl hin hun j h)
    refine ⟨hjn, ?_⟩
    by_cases hji : j = i
    · subst hji; exact ⟨oi, v, hi, hy, H⟩
    · have h1 := (H.2 j (ready_mono hj hji)).2
      obtain ⟨hjun, oj, hoj, hall⟩ := mem_ready.1 hj
      have hnot : ∀ e ∈ oj.after, Region.binds md e = true → e.on ≠ i := fun e he hb heq => by
        have h1 := hall e he hb
        rw [heq, getD_both hun] at h1
        cases h1
      have h2 := evenOp_put hoj (hfree j oj hoj hji hjun hnot) (fun cs b => hsel i oi cs b hi) (fun cs b => hsel j oj cs b hoj) hy h1
      refine evenOp_mono (fun a' h3 => ih (listed.setIfInBounds j true) a' (inv.set hj hjn) (fun k ok hk hki hun' hno => ?_) (ready_mono hr (Ne.symm hji)) h3.1 ?_) h2
      · refine hfree k ok hk hki ?_ hno
        by_cases hjk : j = k
        · subst hjk; exact hjun
        · rw [getD_set_ne true hjk] at hun'; exact hun'
      · rw [Array.setIfInBounds_comm _ _ hji]
        exact h3.2

/-- The lexical walk of the quiet operations. -/
def evenList (P : Program) (ops : Array Oper) (D : World → Prop) (Q : Act → Prop) : List Oper → Act → Prop
  | [], a => Q a
  | o :: rest, a => ∃ v, Even P ops D o v a ∧ evenList P ops D Q rest (a.put o.dst v)

def lexEven (md : Region.Mode) (ops : Array Oper) (g n : Nat) : Nat → Nat → Array Bool → Bool
  | 0, _, listed => Region.seqB md ops g n listed
  | f + 1, k, listed => (Region.ready md ops listed).contains k && Region.free md ops listed k && lexEven md ops g n f (k + 1) (listed.setIfInBounds k true)

theorem anyEven_lex {n g : Nat} {Lq : Act → Prop} (hsel : Region.noSelect ops = true) (hs : Region.sinkB md ops n = true) (hc : Region.chainB md ops n = true) (hn : n < ops.size) :
    ∀ (l : List Oper) (k : Nat) (listed : Array Bool) (a : Act), (∀ j, j < l.length → l[j]? = ops[k + j]?) → k + l.length + 1 = n → HeadInv md ops n listed →
    lexEven md ops g n l.length k listed = true → evenList P ops D Lq l a →
    anyEven P md ops D n (fun listed' a' => Region.seqB md ops g n listed' = true ∧ Lq a') l.length listed a
  | [], k, listed, a, _, hk, _, hB, h => ⟨by simpa [lexEven] using hB, h⟩
  | o :: l, k, listed, a, hl, hk, inv, hB, h => by
    have h0 : ops[k]? = some o := by simpa using (hl 0 (by simp)).symm
    simp only [List.length_cons, lexEven, Bool.and_eq_true] at hB
    obtain ⟨⟨hr, hf⟩, hB'⟩ := hB
    have hkn : k < n := by omega
    have hr' : k ∈ Region.ready md ops listed := by simpa using hr
    obtain ⟨v, hy, hK⟩ := h
    exact anyEven_first h0 (Region.noSelect_spec hsel) hs hc hn hkn (fun listed' a' hL => seqB_ready hL.1) l.length listed a inv (Region.free_spec h0 hf) hr' hy
      (anyEven_lex hsel hs hc hn l (k + 1) _ _ (fun j hj => by have := hl (j + 1) (by simp; omega); simpa [Nat.add_assoc, Nat.add_comm 1 j] using this) (by simp only [List.length_cons] at hk; omega) (inv.set hr' hkn) hB' hK)

/-- One quiet operation, run. -/
theorem wpOp_of_even {i : Nat} {o : Oper} {v : Value} {a : Act} {w : World} {K : Act → World → Prop} {Q : Exit → Act → World → Prop} (hi : ops[i]? = some o) (hw : D w) (he : Even P ops D o v a)
    (hK : ∀ w', Below w.heap.size w w' → K (a.put o.dst v) w') : wpOp P ops Q i K a w := by
  unfold wpOp
  simp only [hi]
  rcases he with ⟨h1, h2⟩ | ⟨h1, rfl⟩
  · simp only [h1, if_true]
    left
    have h3 := h2 w hw
    unfold Oper.quietAt at h3
    unfold Oper.wp
    generalize (execOp a.eval o).run P w = r at *
    cases r with
    | ok n w' =>
      cases n <;> simp only [Oper.quietUpon] at h3 <;> simp only [Oper.upon]
      case value u => obtain ⟨rfl, rfl⟩ := h3; exact hK _ (Below.refl _ _)
      case skip => obtain ⟨rfl, rfl⟩ := h3; exact hK _ (Below.refl _ _)
      case enter f args =>
        obtain ⟨rfl, hc⟩ := h3
        exact hc.mono fun e w'' ⟨he, hw''⟩ => by subst he; exact hK _ hw''
    | halt x w' => simp only [Oper.quietUpon] at h3
  · simp only [h1, Bool.false_eq_true, if_false]
    exact hK _ (Below.refl _ _)

/-- Behind the block: the pointer lies in its slot already. -/
theorem any_after {n g m : Nat} {om : Oper} {obj : Obj} {Lq : Act → Prop} {Q : Exit → Act → World → Prop} (hm : ops[m]? = some om) (hnm : n = m + 1) (hsel : Region.noSelect ops = true)
    (hap : ∀ j oj, ops[j]? = some oj → j < m → om.apart ops oj = true) (hD : ∀ w w', D w → Below w.heap.size w w' → D w') (k : Nat)
    (hend : ∀ listed a w, Region.seqB md ops g n listed = true → Lq a → D w → w.heap[k]? = some obj → wpAny P md ops Q g listed (a.put om.dst (.pointer (some ⟨k, 0, none⟩))) w) :
    ∀ (f : Nat) (listed : Array Bool) (a : Act) (w : World), listed.getD m false = true → anyEven P md ops D n (fun listed' a' => Region.seqB md ops g n listed' = true ∧ Lq a') f listed a → D w → w.heap[k]? = some obj →
      wpAny P md ops Q (f + g) listed (a.put om.dst (.pointer (some ⟨k, 0, none⟩))) w
  | 0, listed, a, w, _, h, hw, hk => by rw [Nat.zero_add]; exact hend _ _ _ h.1 h.2 hw hk
  | f + 1, listed, a, w, hl, h, hw, hk => by
    rw [show f + 1 + g = (f + g) + 1 by omega]
    refine ⟨fun h0 => absurd h0 h.1, fun i hi => ?_⟩
    obtain ⟨hin, oi, v, hoi, he, hK⟩ := h.2 i hi
    have him : i ≠ m := by
      rintro rfl
      have := (mem_ready.1 hi).1
      rw [getD_both this] at hl
      cases hl
    obtain ⟨h1, h2, h3⟩ := Oper.apart_spec (hap i oi hoi (by omega))
    refine wpOp_of_even hoi hw (he.put (oj := om) (fun cs b => Region.noSelect_spec hsel i oi cs b hoi) om.dst _ h1) fun w' hb => ?_
    rw [Act.put_comm a _ v h2]
    exact any_after hm hnm hsel hap hD k hend f _ _ w' (getD_set_true hl) hK (hD w w' hw hb) ((hb.block k (lt_of_block hk)).trans hk)

/-- Ahead of the block. -/
theorem any_before {n g m : Nat} {om : Oper} {obj : Obj} {Lq : Act → Prop} {Q : Exit → Act → World → Prop} (hm : ops[m]? = some om) (hnm : n = m + 1) (hsel : Region.noSelect ops = true)
    (hs : Region.sinkB md ops n = true) (hc : Region.chainB md ops n = true) (hn : n < ops.size)
    (hfree : ∀ e ∈ om.after, Region.binds md e = false) (hgd : om.guard = none)
    (hap : ∀ j oj, ops[j]? = some oj → j < m → om.apart ops oj = true) (hD : ∀ w w', D w → Below w.heap.size w w' → D w')
    (hrun : ∀ (a : Act) w, (execOp a.eval om).run P w = .ok (.value (.pointer (some ⟨w.heap.size, 0, none⟩))) (w.alloc obj))
    (K0 : Nat) (hK0 : ∀ w, D w → K0 ≤ w.heap.size)
    (hend : ∀ k, K0 ≤ k → ∀ listed a w, Region.seqB md ops g n listed = true → Lq a → D w → w.heap[k]? = some obj → wpAny P md ops Q g listed (a.put om.dst (.pointer (some ⟨k, 0, none⟩))) w) :
    ∀ (f : Nat) (listed : Array Bool) (a : Act) (w : World), HeadInv md ops n listed → listed.getD m true = false → anyEven P md ops D n (fun listed' a' => Region.seqB md ops g n listed' = true ∧ Lq a') f (listed.setIfInBounds m true) a → D w →
      wpAny P md ops Q (f + 1 + g) listed a w := by
  intro f
  induction f with
  | zero =>
    intro listed a w inv hun h hw
    have hmr : m ∈ Region.ready md ops listed := mem_ready.2 ⟨hun, om, hm, fun e he hb => by rw [hfree e he] at hb; cases hb⟩
    have hsz : m < listed.size := by rw [inv.size]; exact (Array.getElem?_eq_some_iff.1 hm).1
    rw [show 0 + 1 + g = (0 + g) + 1 by omega]
    refine ⟨fun h0 => (by rw [h0] at hmr; cases hmr), fun i hi => ?_⟩
    by_cases him : i = m
    · subst him
      unfold wpOp
      simp only [hm, Region.wanted, hgd, if_true]
      left
      unfold Oper.wp
      rw [hrun a w]
      exact any_after hm hnm hsel hap hD _ (hend _ (hK0 w hw)) 0 _ a _ (by simp [hsz]) h (hD _ _ hw ((Below.refl _ _).alloc (Nat.le_refl _) _)) (heap_alloc_new w obj)
    · have h1 := seqB_ready h.1 i (ready_mono hi him)
      exact absurd hi (tail_waits hs hc hn inv _ m rfl (by omega) hun i h1)
  | succ f ih =>
    intro listed a w inv hun h hw
    have hmr : m ∈ Region.ready md ops listed := mem_ready.2 ⟨hun, om, hm, fun e he hb => by rw [hfree e he] at hb; cases hb⟩
    have hsz : m < listed.size := by rw [inv.size]; exact (Array.getElem?_eq_some_iff.1 hm).1
    rw [show f + 1 + 1 + g = (f + 1 + g) + 1 by omega]
    refine ⟨fun h0 => (by rw [h0] at hmr; cases hmr), fun i hi => ?_⟩
    by_cases him : i = m
    · subst him
      unfold wpOp
      simp only [hm, Region.wanted, hgd, if_true]
      left
      unfold Oper.wp
      rw [hrun a w]
      exact any_after hm hnm hsel hap hD _ (hend _ (hK0 w hw)) (f + 1) _ a _ (by simp [hsz]) h (hD _ _ hw ((Below.refl _ _).alloc (Nat.le_refl _) _)) (heap_alloc_new w obj)
    · obtain ⟨hin, oi, v, hoi, he, hK⟩ := h.2 i (ready_mono hi him)
      refine wpOp_of_even hoi hw he fun w' hb => ?_
      have hun' : (listed.setIfInBounds i true).getD m true = false := by rw [getD_set_ne true him]; exact hun
      exact ih _ _ w' (inv.set hi hin) hun' (by rw [Array.setIfInBounds_comm _ _ him]; exact hK) (hD w w' hw hb)

abbrev Cls (W : World) : World → Prop := fun w' => ∃ p : Regrown, w' = Sort.grow (redrawn W p.d) p.os
theorem cls_iff (W w' : World) : Cls W w' ↔ Below W.heap.size W w' := grows_iff W w'
theorem slot_put_ne (a : Act) (x : Option Tmp) (v : Value) (d : Nat) (h : x ≠ some d) : (a.put x v).tmps[d]? = a.tmps[d]? := by
  cases x with
  | none => rfl
  | some e =>
    have : e ≠ d := fun he => h (by rw [he])
    simp [Act.put, Array.getElem?_setIfInBounds_ne this]
theorem slot_put_same (a : Act) (v : Value) (d : Nat) (h : d < a.tmps.size) : (a.put (some d) v).tmps[d]? = some v := by
  simp [Act.put, h]
theorem size_put (a : Act) (x : Option Tmp) (v : Value) : (a.put x v).tmps.size = a.tmps.size := by
  cases x <;> simp [Act.put]
theorem quiet_slot {C : World → Prop} {af : Act} {d : Nat} : ∀ (l : List Oper) (a : Act), wpQuiet P ops C (fun a' => a' = af) l a → (∀ o ∈ l, o.dst ≠ some d) → af.tmps[d]? = a.tmps[d]?
  | [], a, h, _ => by
    have h : a = af := h
    rw [h]
  | o :: r, a, h, hd => by
    unfold wpQuiet at h
    have h1 := hd o (by simp)
    have h2 : ∀ x ∈ r, x.dst ≠ some d := fun x hx => hd x (by simp [hx])
    split at h
    · obtain ⟨v, _, h3⟩ := h
      rw [quiet_slot r _ h3 h2, slot_put_ne _ _ _ _ h1]
    · rw [quiet_slot r _ h h2, slot_put_ne _ _ _ _ h1]
def distB (n : Nat) : List Oper → Bool
  | [] => true
  | o :: r => (match o.dst with | some d => decide (d < n) && r.all (fun x => x.dst != some d) | none => false) && distB n r
theorem even_of_quiet {af : Act} (W0 : World) (h0 : D W0) : ∀ (l : List Oper) (a : Act), distB a.tmps.size l = true → (∀ W, D W → wpQuiet P ops (Cls W) (fun a' => a' = af) l a) → evenList P ops D (fun a' => a' = af) l a
  | [], a, _, h => h W0 h0
  | o :: r, a, hd, h => by
    simp only [distB, Bool.and_eq_true] at hd
    obtain ⟨hd1, hd2⟩ := hd
    obtain ⟨d, hdst⟩ : ∃ d, o.dst = some d := by
      cases ho : o.dst with
      | none => rw [ho] at hd1; cases hd1
      | some d => exact ⟨d, rfl⟩
    rw [hdst] at hd1
    simp only [Bool.and_eq_true, decide_eq_true_eq, List.all_eq_true, bne_iff_ne, ne_eq] at hd1
    by_cases hw : Region.wanted o (yielded ops a.tmps) = true
    · have key : ∀ W, D W → ∃ v, (∀ w, Cls W w → o.quietAt P a (Cls W) w v) ∧ wpQuiet P ops (Cls W) (fun a' => a' = af) r (a.put o.dst v) ∧ af.tmps[d]? = some v := by
        intro W hW
        have h1 := h W hW
        unfold wpQuiet at h1
        rw [if_pos hw] at h1
        obtain ⟨v, h2, h3⟩ := h1
        exact ⟨v, h2, h3, by rw [quiet_slot r _ h3 (fun x hx => hd1.2 x hx), hdst, slot_put_same _ _ _ hd1.1]⟩
      obtain ⟨v, _, _, hv⟩ := key W0 h0
      refine ⟨v, .inl ⟨hw, fun w hwD => ?_⟩, even_of_quiet W0 h0 r _ (by rw [size_put]; exact hd2) fun W hW => ?_⟩
      · obtain ⟨v', h2, _, hv'⟩ := key w hwD
        obtain rfl : v = v' := Option.some.inj (hv.symm.trans hv')
        have h4 := h2 w ((cls_iff w w).2 (Below.refl _ _))
        unfold Oper.quietAt at *
        generalize (execOp a.eval o).run P w = x at *
        cases x with
        | ok n w' =>
          cases n <;> simp only [Oper.quietUpon] at h4 ⊢ <;> first
            | exact h4
            | exact ⟨h4.1, h4.2.mono fun e w'' ⟨he, hc⟩ => ⟨he, (cls_iff w w'').1 hc⟩⟩
        | halt x w' => simp only [Oper.quietUpon] at h4
      · obtain ⟨v', _, h3, hv'⟩ := key W hW
        obtain rfl : v = v' := Option.some.inj (hv.symm.trans hv')
        exact h3
    · refine ⟨undef, .inr ⟨by simpa using hw, rfl⟩, even_of_quiet W0 h0 r _ (by rw [size_put]; exact hd2) fun W hW => ?_⟩
      have h1 := h W hW
      unfold wpQuiet at h1
      rw [if_neg hw] at h1
      exact h1

/-- What is asked of the region's form: number m makes the block, the ones ahead of it are quiet, those behind it come in one order. -/
def allocB (md : Region.Mode) (ops : Array Oper) (m : Nat) : Bool :=
  Region.noSelect ops && decide (m + 1 < ops.size) && Region.sinkB md ops (m + 1) && Region.chainB md ops (m + 1) &&
  (match ops[m]? with
   | some om => om.guard.isNone && om.after.all (fun e => !Region.binds md e) && (List.range m).all (fun j => match ops[j]? with | some oj => om.apart ops oj | none => true)
   | none => false) &&
  lexEven md ops (ops.size - (m + 1)) (m + 1) m 0 ((Array.replicate ops.size false).setIfInBounds m true)

theorem region_alloc_tail {id : Nat} {Q : Exit → Act → World → Prop} {a : Act} {w : World} {l : List Oper} (m : Nat) (om : Oper) (obj : Obj) (af : Act) (hm : P.follows .mixedOrders = true) (hB : allocB .any l.toArray m = true)
    (hd : distB a.tmps.size (l.take m) = true) (hom : l.toArray[m]? = some om)
    (hrun : ∀ (a : Act) w, (execOp a.eval om).run P w = .ok (.value (.pointer (some ⟨w.heap.size, 0, none⟩))) (w.alloc obj))
    (h : ∀ W, Below w.heap.size w W → wpQuiet P l.toArray (fun w' => ∃ p : Regrown, w' = Sort.grow (redrawn W p.d) p.os) (fun a' => a' = af) (l.take m) a)
    (hend : ∀ k w', Below w.heap.size w w' → w.heap.size ≤ k → w'.heap[k]? = some obj → wpList P l.toArray Q (l.drop (m + 1)) (af.put om.dst (.pointer (some ⟨k, 0, none⟩))) w') :
    (Code.region id l.toArray true).wp P Q a w := by
  simp only [allocB, Bool.and_eq_true, decide_eq_true_eq, hom] at hB
  obtain ⟨⟨⟨⟨⟨hsel, hn⟩, hs⟩, hc⟩, ⟨hgd, hfree⟩, hap⟩, hlex⟩ := hB
  have hn' : m + 1 < l.length := by simpa using hn
  have htl : (l.take m).length = m := by simp; omega
  have hdl : (l.drop (m + 1)).length = l.toArray.size - (m + 1) := by simp
  have hfree' : ∀ e ∈ om.after, Region.binds .any e = false := fun e he => by
    have := Array.all_eq_true_iff_forall_mem.1 hfree e he
    simpa using this
  have hap' : ∀ j oj, l.toArray[j]? = some oj → j < m → om.apart l.toArray oj = true := fun j oj hj hlt => by
    have := List.all_eq_true.1 hap j (List.mem_range.2 hlt)
    simpa only [hj] using this
  have inv0 : HeadInv .any l.toArray (m + 1) (Array.replicate l.toArray.size false) :=
    ⟨by simp, fun j oj _ hl => (by rw [getD_replicate_false] at hl; cases hl), fun t _ ht => getD_in (by simpa using ht) (getD_replicate_false _ _)⟩
  have inv1 : HeadInv .any l.toArray (m + 1) ((Array.replicate l.toArray.size false).setIfInBounds m true) :=
    inv0.set (mem_ready.2 ⟨getD_in (by simp only [Array.size_replicate, List.size_toArray]; omega) (getD_replicate_false _ _), om, hom, fun e he hb => by rw [hfree' e he] at hb; cases hb⟩) (by omega)
  have E := even_of_quiet (ops := l.toArray) (D := Below w.heap.size w) w (Below.refl _ _) (l.take m) a hd h
  have H := anyEven_lex (md := .any) (g := l.toArray.size - (m + 1)) hsel hs hc hn (l.take m) 0 _ a (fun j hj => by
    have hj' : j < m := by rw [htl] at hj; exact hj
    simp [hj']) (by rw [htl]; omega) inv1 (by rw [htl]; exact hlex) E
  rw [htl] at H
  refine wp_region_any hm ?_
  have R := any_before (md := .any) (g := l.toArray.size - (m + 1)) (n := m + 1) (Q := Q) hom rfl hsel hs hc hn hfree' (by simpa using hgd) hap' (fun w1 w2 h1 h2 => h1.trans (h2.mono h1.size)) hrun w.heap.size (fun w1 h1 => h1.size)
    (fun k hk listed a' w' hseq hLq hD hobj => by
      have h5 : a' = af := hLq
      subst h5
      have := wpAny_of_seq (md := .any) (Q' := Q) (l.drop (m + 1)) (m + 1) listed (a'.put om.dst (.pointer (some ⟨k, 0, none⟩))) w' (fun j => by simp [List.getElem?_drop]) (by rw [hdl]; exact hseq) (hend k w' hD hk hobj)
      rwa [hdl] at this) m _ a { w with drawn := w.drawn + 1 } inv0 (getD_in (by simp only [Array.size_replicate, List.size_toArray]; omega) (getD_replicate_false _ _)) H ⟨rfl, rfl, rfl, Nat.le_refl _, fun _ _ => rfl⟩
  rw [show m + 1 + (l.toArray.size - (m + 1)) = l.toArray.size by omega] at R
  exact R
end
end Go.Proofs.Ytdgpdfigipplpaa
