/- A region that draws its order, in three parts: quiet operations (they read, or call what only makes memory), perhaps one that makes a block at whatever time, and a tail that comes in one order behind them all.
  One walk of the quiet operations, in an order that is named, serves every order: 'region_grow' (no block), 'region_block' (one block). -/
import Derived.Test.YtlkkclooihjpiaaGreatBase
set_option linter.unusedVariables false
set_option linter.unusedSimpArgs false
namespace Go.Proofs.YtlkkclooihjpiaaGreat
open Go.RowKit
set_option maxRecDepth 20000
section
variable {P : Program} {ops : Array Oper} {md : Region.Mode} {D : World → Prop} {R : World → World → Prop}
def waitsB (md : Region.Mode) (ops : Array Oper) (j i : Nat) : Bool := match ops[j]? with | some oj => oj.after.any fun e => Region.binds md e && e.on == i | none => false
theorem waitsB_spec {j i : Nat} (h : waitsB md ops j i = true) : ∃ oj, ops[j]? = some oj ∧ ∃ e ∈ oj.after, Region.binds md e = true ∧ e.on = i := by
 unfold waitsB at h
 split at h
 ·rename_i oj hj
  obtain ⟨e, he, hb⟩ := Array.any_eq_true'.1 h
  simp only [Bool.and_eq_true, beq_iff_eq] at hb
  exact ⟨oj, hj, e, he, hb.1, hb.2⟩
 ·cases h
def sinkL (md : Region.Mode) (ops : Array Oper) (t : Nat) : List Nat → Bool
 | [] => true
 | i :: post => (post ++ [t]).any (fun j => waitsB md ops j i) && sinkL md ops t post
def chainL (md : Region.Mode) (ops : Array Oper) : Nat → List Nat → Bool
 | _, [] => true
 | t, u :: r => waitsB md ops u t && chainL md ops u r
structure Inv (md : Region.Mode) (ops : Array Oper) (T : List Nat) (listed : Array Bool) : Prop where
 size : listed.size = ops.size
 closed : ∀ j oj, ops[j]? = some oj → listed.getD j false = true → ∀ e ∈ oj.after, Region.binds md e = true → listed.getD e.on false = true
 tail : ∀ t ∈ T, listed.getD t true = false
theorem off_true {listed : Array Bool} {i : Nat} (h : listed.getD i true = false) : listed.getD i false = false := by
 rcases Nat.lt_or_ge i listed.size with h' | h'
 ·simp [h'] at h ⊢; exact h
 ·simp [Array.getElem?_eq_none h'] at h
theorem off_in {listed : Array Bool} {i : Nat} (hi : i < listed.size) (h : listed.getD i false = false) : listed.getD i true = false := by
 simp [hi] at h ⊢; exact h
theorem Inv.set {T : List Nat} {i : Nat} {listed : Array Bool} (inv : Inv md ops T listed) (hi : i ∈ Region.ready md ops listed) (hiT : i ∉ T) : Inv md ops T (listed.setIfInBounds i true) := by
 obtain ⟨_, oi, hoi, hall⟩ := mem_ready.1 hi
 refine ⟨by simp [inv.size], fun j oj hj hl e he hb => ?_, fun t ht => by rw [getD_set_ne true (fun h => hiT (by rw [h]; exact ht))]; exact inv.tail t ht⟩
 by_cases hij : i = j
 ·subst hij
  obtain rfl : oj = oi := Option.some.inj (hj.symm.trans hoi)
  exact getD_set_true (hall e he hb)
 ·rw [getD_set_ne false hij] at hl
  exact getD_set_true (inv.closed j oj hj hl e he hb)
theorem not_first {t : Nat} {T : List Nat} {listed : Array Bool} (inv : Inv md ops T listed) (hsz : ∀ j, j < ops.size ∨ True := fun _ => .inr trivial) :
  ∀ (l : List Nat), sinkL md ops t l = true → (∃ i ∈ l, listed.getD i true = false) → t ∉ Region.ready md ops listed
 | [], _, h => by obtain ⟨i, hi, _⟩ := h; cases hi
 | i :: post, hs, h => by
  simp only [sinkL, Bool.and_eq_true] at hs
  by_cases hp : ∃ j ∈ post, listed.getD j true = false
  ·exact not_first inv hsz post hs.2 hp
  ·obtain ⟨k, hk, hun⟩ := h
   have hik : k = i := by
    rcases List.mem_cons.1 hk with h | h
    ·exact h
    ·exact absurd ⟨k, h, hun⟩ hp
   subst hik
   obtain ⟨j, hj, hw⟩ := List.any_eq_true.1 hs.1
   obtain ⟨oj, hoj, e, he, hb, hon⟩ := waitsB_spec hw
   intro hr
   rcases List.mem_append.1 hj with hj | hj
   ·have hjl : listed.getD j true = true := by
     cases hc : listed.getD j true with
     | true => rfl
     | false => exact absurd ⟨j, hj, hc⟩ hp
    have hjs : j < listed.size := by rw [inv.size]; exact (Array.getElem?_eq_some_iff.1 hoj).1
    have hjf : listed.getD j false = true := by
     cases hc : listed.getD j false with
     | true => rfl
     | false => rw [off_in hjs hc] at hjl; cases hjl
    have := inv.closed j oj hoj hjf e he hb
    rw [hon, off_true hun] at this
    cases this
   ·obtain rfl : j = t := by simpa using hj
    obtain ⟨_, ot, hot, hall⟩ := mem_ready.1 hr
    obtain rfl : oj = ot := Option.some.inj (hoj.symm.trans hot)
    have := hall e he hb
    rw [hon, off_true hun] at this
    cases this
theorem not_later {listed : Array Bool} : ∀ (T : List Nat) (t : Nat), chainL md ops t T = true → listed.getD t true = false → (∀ u ∈ T, listed.getD u true = false) → ∀ u ∈ T, u ∉ Region.ready md ops listed
 | [], _, _, _, _, u, hu => by cases hu
 | v :: r, t, hc, ht, hT, u, hu => by
  simp only [chainL, Bool.and_eq_true] at hc
  rcases List.mem_cons.1 hu with rfl | hu
  ·intro hr
   obtain ⟨_, ov, hov, hall⟩ := mem_ready.1 hr
   obtain ⟨o', ho', e, he, hb, hon⟩ := waitsB_spec hc.1
   obtain rfl : o' = ov := Option.some.inj (ho'.symm.trans hov)
   have := hall e he hb
   rw [hon, off_true ht] at this
   cases this
  ·exact not_later r v hc.2 (hT v (by simp)) (fun u hu => hT u (by simp [hu])) u hu
theorem tail_off {t : Nat} {T H : List Nat} {listed : Array Bool} (hs : sinkL md ops t H = true) (hc : chainL md ops t T = true) (inv : Inv md ops (t :: T) listed) (hun : ∃ i ∈ H, listed.getD i true = false) :
  ∀ u ∈ t :: T, u ∉ Region.ready md ops listed := by
 intro u hu
 rcases List.mem_cons.1 hu with rfl | hu
 ·exact not_first inv (fun _ => .inr trivial) H hs hun
 ·exact not_later T t hc (inv.tail t (by simp)) (fun u hu => inv.tail u (by simp [hu])) u hu
def Even (P : Program) (ops : Array Oper) (D : World → Prop) (R : World → World → Prop) (o : Oper) (v : Value) (a : Act) : Prop :=
 (Region.wanted o (yielded ops a.tmps) = true ∧ ∀ w, D w → o.quietAt P a (R w) w v) ∨ (Region.wanted o (yielded ops a.tmps) = false ∧ v = undef)
theorem Even.put {o : Oper} {v : Value} {a : Act} (h : Even P ops D R o v a) (hs : ∀ cs b, o.op ≠ .select cs b) (d : Option Tmp) (u : Value) (hd : ∀ x, d = some x → x ∉ o.looksAt ops) : Even P ops D R o v (a.put d u) := by
 unfold Even Oper.quietAt at *
 rw [execOp_put o hs a d u hd, wanted_put o a d u hd]
 exact h
theorem Even.unput {o : Oper} {v : Value} {a : Act} {d : Option Tmp} {u : Value} (h : Even P ops D R o v (a.put d u)) (hs : ∀ cs b, o.op ≠ .select cs b) (hd : ∀ x, d = some x → x ∉ o.looksAt ops) : Even P ops D R o v a := by
 unfold Even Oper.quietAt at *
 rw [execOp_put o hs a d u hd, wanted_put o a d u hd] at h
 exact h
def evenOp (P : Program) (ops : Array Oper) (D : World → Prop) (R : World → World → Prop) (i : Nat) (K : Act → Prop) (a : Act) : Prop :=
 ∃ o v, ops[i]? = some o ∧ Even P ops D R o v a ∧ K (a.put o.dst v)
theorem evenOp_mono {i : Nat} {a : Act} {K K' : Act → Prop} (h : ∀ a, K a → K' a) (hh : evenOp P ops D R i K a) : evenOp P ops D R i K' a :=
 let ⟨o, v, h1, h2, h3⟩ := hh
 ⟨o, v, h1, h2, h _ h3⟩
theorem evenOp_put {j : Nat} {oi oj : Oper} {v : Value} (hj : ops[j]? = some oj) (hap : oi.apart ops oj = true) (hsi : ∀ cs b, oi.op ≠ .select cs b) (hsj : ∀ cs b, oj.op ≠ .select cs b) {K : Act → Prop} {a : Act}
  (hy : Even P ops D R oi v a) (h : evenOp P ops D R j K (a.put oi.dst v)) : evenOp P ops D R j (fun a' => Even P ops D R oi v a' ∧ K (a'.put oi.dst v)) a := by
 obtain ⟨h1, h2, h3⟩ := Oper.apart_spec hap
 obtain ⟨o, u, ho, he, hk⟩ := h
 obtain rfl : oj = o := Option.some.inj (hj.symm.trans ho)
 exact ⟨oj, u, hj, he.unput hsj h1, hy.put hsi oj.dst u h3, by rw [← Act.put_comm a v u h2]; exact hk⟩
def anyEven (P : Program) (md : Region.Mode) (ops : Array Oper) (D : World → Prop) (R : World → World → Prop) (H : List Nat) (L : Array Bool → Act → Prop) : Nat → Array Bool → Act → Prop
 | 0, listed, a => L listed a
 | f + 1, listed, a => Region.ready md ops listed ≠ [] ∧ ∀ i ∈ Region.ready md ops listed, i ∈ H ∧ evenOp P ops D R i (anyEven P md ops D R H L f (listed.setIfInBounds i true)) a
def partB (ops : Array Oper) (H T : List Nat) : Bool := (List.range ops.size).all (fun i => H.contains i || T.contains i) && H.all (fun i => !T.contains i)
theorem part_ready {H T : List Nat} (hp : partB ops H T = true) {listed : Array Bool} {i : Nat} (hi : i ∈ Region.ready md ops listed) (hT : i ∉ T) : i ∈ H := by
 simp only [partB, Bool.and_eq_true, List.all_eq_true] at hp
 obtain ⟨_, o, ho, _⟩ := mem_ready.1 hi
 have := hp.1 i (List.mem_range.2 (Array.getElem?_eq_some_iff.1 ho).1)
 simp only [Bool.or_eq_true, List.contains_iff_mem] at this
 exact this.resolve_right hT
theorem part_not {H T : List Nat} (hp : partB ops H T = true) {i : Nat} (hi : i ∈ H) : i ∉ T := by
 simp only [partB, Bool.and_eq_true, List.all_eq_true] at hp
 have := hp.2 i hi
 simpa using this
theorem anyEven_first {i t : Nat} {H T : List Nat} {oi : Oper} {v : Value} {L : Array Bool → Act → Prop} (hi : ops[i]? = some oi) (hsel : ∀ (j : Nat) (o : Oper) cs b, ops[j]? = some o → o.op ≠ .select cs b)
  (hs : sinkL md ops t H = true) (hc : chainL md ops t T = true) (hp : partB ops H (t :: T) = true) (hin : i ∈ H) (hdone : ∀ listed a, L listed a → ∀ j ∈ Region.ready md ops listed, j ∈ t :: T) :
  ∀ (f : Nat) (listed : Array Bool) (a : Act), Inv md ops (t :: T) listed →
   (∀ j oj, ops[j]? = some oj → j ≠ i → listed.getD j true = false → (∀ e ∈ oj.after, Region.binds md e = true → e.on ≠ i) → oi.apart ops oj = true) →
   i ∈ Region.ready md ops listed → Even P ops D R oi v a → anyEven P md ops D R H L f (listed.setIfInBounds i true) (a.put oi.dst v) → anyEven P md ops D R H L (f + 1) listed a := by
 intro f
 induction f with
 | zero =>
  intro listed a inv _ hr hy hh
  have hun := (mem_ready.1 hr).1
  have hoff := tail_off hs hc inv ⟨i, hin, hun⟩
  refine ⟨fun h => (by rw [h] at hr; cases hr), fun j hj => ?_⟩
  have hjT : j ∉ t :: T := fun h => hoff j h hj
  refine ⟨part_ready hp hj hjT, ?_⟩
  by_cases hji : j = i
  ·subst hji; exact ⟨oi, v, hi, hy, hh⟩
  ·exact absurd (hdone _ _ hh j (ready_mono hj hji)) hjT
 | succ f ih =>
  intro listed a inv hfree hr hy hh
  have hun := (mem_ready.1 hr).1
  have hoff := tail_off hs hc inv ⟨i, hin, hun⟩
  refine ⟨fun h => (by rw [h] at hr; cases hr), fun j hj => ?_⟩
  have hjT : j ∉ t :: T := fun h => hoff j h hj
  refine ⟨part_ready hp hj hjT, ?_⟩
  by_cases hji : j = i
  ·subst hji; exact ⟨oi, v, hi, hy, hh⟩
  ·have h1 := (hh.2 j (ready_mono hj hji)).2
   obtain ⟨hjun, oj, hoj, hall⟩ := mem_ready.1 hj
   have hnot : ∀ e ∈ oj.after, Region.binds md e = true → e.on ≠ i := fun e he hb heq => by
    have h1 := hall e he hb
    rw [heq, off_true hun] at h1
    cases h1
   have h2 := evenOp_put hoj (hfree j oj hoj hji hjun hnot) (fun cs b => hsel i oi cs b hi) (fun cs b => hsel j oj cs b hoj) hy h1
   refine evenOp_mono (fun a' h3 => ih (listed.setIfInBounds j true) a' (inv.set hj hjT) (fun k ok hk hki hun' hno => ?_) (ready_mono hr (Ne.symm hji)) h3.1 ?_) h2
   ·refine hfree k ok hk hki ?_ hno
    by_cases hjk : j = k
    ·subst hjk; exact hjun
    ·rw [getD_set_ne true hjk] at hun'; exact hun'
   ·rw [Array.setIfInBounds_comm _ _ hji]
    exact h3.2
def evenList (P : Program) (ops : Array Oper) (D : World → Prop) (R : World → World → Prop) (Q : Act → Prop) : List Oper → Act → Prop
 | [], a => Q a
 | o :: rest, a => ∃ v, Even P ops D R o v a ∧ evenList P ops D R Q rest (a.put o.dst v)
def seqL (md : Region.Mode) (ops : Array Oper) : List Nat → Array Bool → Bool
 | [], listed => (Region.ready md ops listed).isEmpty
 | k :: r, listed => decide (Region.ready md ops listed = [k]) && seqL md ops r (listed.setIfInBounds k true)
theorem seqL_ready {T : List Nat} {listed : Array Bool} (h : seqL md ops T listed = true) : ∀ j ∈ Region.ready md ops listed, j ∈ T := by
 cases T with
 | nil => intro j hj; simp only [seqL, List.isEmpty_iff] at h; rw [h] at hj; cases hj
 | cons k r =>
  intro j hj
  simp only [seqL, Bool.and_eq_true, decide_eq_true_eq] at h
  rw [h.1] at hj
  simp only [List.mem_cons, List.not_mem_nil, or_false] at hj
  simp [hj]
def pick (l : List Oper) : List Nat → List Oper
 | [] => []
 | k :: r => match l[k]? with | some o => o :: pick l r | none => pick l r
def allIn (n : Nat) (H : List Nat) : Bool := H.all fun k => decide (k < n)
theorem pick_cons (l : List Oper) (k : Nat) (r : List Nat) (o : Oper) (h : l[k]? = some o) : pick l (k :: r) = o :: pick l r := by
 simp only [pick, h]
theorem any_of_seq {l : List Oper} {Q : Exit → Act → World → Prop} : ∀ (T : List Nat) (listed : Array Bool) (a : Act) (w : World), allIn l.length T = true →
  seqL md l.toArray T listed = true → wpList P l.toArray Q (pick l T) a w → wpAny P md l.toArray Q T.length listed a w
 | [], _, _, _, _, hB, h => ⟨by simpa [seqL] using hB, h⟩
 | k :: r, listed, a, w, hin, hB, h => by
  simp only [allIn, List.all_cons, Bool.and_eq_true, decide_eq_true_eq] at hin
  obtain ⟨o, ho⟩ : ∃ o, l[k]? = some o := ⟨l[k], by simp [hin.1]⟩
  rw [pick_cons l k r o ho] at h
  simp only [seqL, Bool.and_eq_true, decide_eq_true_eq] at hB
  refine ⟨fun h1 => (by rw [hB.1] at h1; cases h1), fun i hi => ?_⟩
  rw [hB.1] at hi
  have hik : i = k := by simpa using hi
  subst hik
  have h0 : l.toArray[i]? = some o := by simpa using ho
  have hw : wpOp P l.toArray Q i (wpList P l.toArray Q (pick l r)) a w := by unfold wpOp; simp only [h0]; exact h
  exact wpOp_mono (fun a' w' h' => any_of_seq r _ a' w' hin.2 hB.2 h') hw
def lexL (md : Region.Mode) (ops : Array Oper) (T : List Nat) : List Nat → Array Bool → Bool
 | [], listed => seqL md ops T listed
 | k :: r, listed => (Region.ready md ops listed).contains k && Region.free md ops listed k && lexL md ops T r (listed.setIfInBounds k true)
theorem anyEven_lex {t : Nat} {H T : List Nat} {l : List Oper} {Lq : Act → Prop} (hsel : Region.noSelect l.toArray = true) (hs : sinkL md l.toArray t H = true) (hc : chainL md l.toArray t T = true) (hp : partB l.toArray H (t :: T) = true) :
  ∀ (S : List Nat) (listed : Array Bool) (a : Act), (∀ k ∈ S, k ∈ H) → allIn l.length S = true → Inv md l.toArray (t :: T) listed →
  lexL md l.toArray (t :: T) S listed = true → evenList P l.toArray D R Lq (pick l S) a →
  anyEven P md l.toArray D R H (fun listed' a' => seqL md l.toArray (t :: T) listed' = true ∧ Lq a') S.length listed a
 | [], listed, a, _, _, inv, hB, h => ⟨by simpa [lexL] using hB, h⟩
 | k :: S, listed, a, hSH, hin, inv, hB, h => by
  simp only [allIn, List.all_cons, Bool.and_eq_true, decide_eq_true_eq] at hin
  obtain ⟨o, ho⟩ : ∃ o, l[k]? = some o := ⟨l[k], by simp [hin.1]⟩
  have h0 : l.toArray[k]? = some o := by simpa using ho
  rw [pick_cons l k S o ho] at h
  simp only [lexL, Bool.and_eq_true] at hB
  obtain ⟨⟨hr, hf⟩, hB'⟩ := hB
  have hkH := hSH k (by simp)
  have hr' : k ∈ Region.ready md l.toArray listed := by simpa using hr
  obtain ⟨v, hy, hK⟩ := h
  exact anyEven_first h0 (Region.noSelect_spec hsel) hs hc hp hkH (fun listed' a' hL => seqL_ready hL.1) S.length listed a inv (Region.free_spec h0 hf) hr' hy
   (anyEven_lex hsel hs hc hp S _ _ (fun j hj => hSH j (by simp [hj])) hin.2 (inv.set hr' (part_not hp hkH)) hB' hK)
theorem wpOp_of_even {i : Nat} {o : Oper} {v : Value} {a : Act} {w : World} {K : Act → World → Prop} {Q : Exit → Act → World → Prop} (hi : ops[i]? = some o) (hw : D w) (hrf : R w w) (he : Even P ops D R o v a)
  (hK : ∀ w', R w w' → K (a.put o.dst v) w') : wpOp P ops Q i K a w := by
 unfold wpOp
 simp only [hi]
 rcases he with ⟨h1, h2⟩ | ⟨h1, rfl⟩
 ·simp only [h1, if_true]
  left
  have h3 := h2 w hw
  unfold Oper.quietAt at h3
  unfold Oper.wp
  generalize (execOp a.eval o).run P w = r at *
  cases r with
  | ok n w' =>
   cases n <;> simp only [Oper.quietUpon] at h3 <;> simp only [Oper.upon]
   case value u => obtain ⟨rfl, rfl⟩ := h3; exact hK _ hrf
   case skip => obtain ⟨rfl, rfl⟩ := h3; exact hK _ hrf
   case enter f args =>
    obtain ⟨rfl, hc⟩ := h3
    exact hc.mono fun e w'' ⟨he, hw''⟩ => by subst he; exact hK _ hw''
  | halt x w' => simp only [Oper.quietUpon] at h3
 ·simp only [h1, Bool.false_eq_true, if_false]
  exact hK _ hrf
abbrev Over (w w'' : World) : Prop := Below w.heap.size w w''
theorem any_after {g m : Nat} {H T : List Nat} {om : Oper} {obj : Obj} {Lq : Act → Prop} {Q : Exit → Act → World → Prop} (hm : ops[m]? = some om) (hsel : Region.noSelect ops = true)
  (hap : ∀ j oj, ops[j]? = some oj → j ∈ H → j ≠ m → om.apart ops oj = true) (hD : ∀ w w', D w → Below w.heap.size w w' → D w') (k : Nat)
  (hend : ∀ listed a w, seqL md ops T listed = true → Lq a → D w → w.heap[k]? = some obj → wpAny P md ops Q g listed (a.put om.dst (.pointer (some ⟨k, 0, none⟩))) w) :
  ∀ (f : Nat) (listed : Array Bool) (a : Act) (w : World), listed.getD m false = true → anyEven P md ops D Over H (fun listed' a' => seqL md ops T listed' = true ∧ Lq a') f listed a → D w → w.heap[k]? = some obj →
   wpAny P md ops Q (f + g) listed (a.put om.dst (.pointer (some ⟨k, 0, none⟩))) w
 | 0, listed, a, w, _, h, hw, hk => by rw [Nat.zero_add]; exact hend _ _ _ h.1 h.2 hw hk
 | f + 1, listed, a, w, hl, h, hw, hk => by
  rw [show f + 1 + g = (f + g) + 1 by omega]
  refine ⟨fun h0 => absurd h0 h.1, fun i hi => ?_⟩
  obtain ⟨hiH, oi, v, hoi, he, hK⟩ := h.2 i hi
  have him : i ≠ m := by
   rintro rfl
   have := (mem_ready.1 hi).1
   rw [off_true this] at hl
   cases hl
  obtain ⟨h1, h2, h3⟩ := Oper.apart_spec (hap i oi hoi hiH him)
  refine wpOp_of_even (R := Over) hoi hw (Below.refl _ _) (he.put (fun cs b => Region.noSelect_spec hsel i oi cs b hoi) om.dst _ h1) fun w' hb => ?_
  rw [Act.put_comm a _ v h2]
  exact any_after hm hsel hap hD k hend f _ _ w' (getD_set_true hl) hK (hD w w' hw hb) ((hb.block k (lt_of_block hk)).trans hk)
theorem any_before {g m t : Nat} {H T : List Nat} {om : Oper} {obj : Obj} {Lq : Act → Prop} {Q : Exit → Act → World → Prop} (hm : ops[m]? = some om) (hmH : m ∈ H) (hsel : Region.noSelect ops = true)
  (hs : sinkL md ops t H = true) (hc : chainL md ops t T = true) (hp : partB ops H (t :: T) = true)
  (hfree : ∀ e ∈ om.after, Region.binds md e = false) (hgd : om.guard = none)
  (hap : ∀ j oj, ops[j]? = some oj → j ∈ H → j ≠ m → om.apart ops oj = true) (hD : ∀ w w', D w → Below w.heap.size w w' → D w')
  (hrun : ∀ (a : Act) w, (execOp a.eval om).run P w = .ok (.value (.pointer (some ⟨w.heap.size, 0, none⟩))) (w.alloc obj))
  (K0 : Nat) (hK0 : ∀ w, D w → K0 ≤ w.heap.size)
  (hend : ∀ k, K0 ≤ k → ∀ listed a w, seqL md ops (t :: T) listed = true → Lq a → D w → w.heap[k]? = some obj → wpAny P md ops Q g listed (a.put om.dst (.pointer (some ⟨k, 0, none⟩))) w) :
  ∀ (f : Nat) (listed : Array Bool) (a : Act) (w : World), Inv md ops (t :: T) listed → listed.getD m true = false → anyEven P md ops D Over H (fun listed' a' => seqL md ops (t :: T) listed' = true ∧ Lq a') f (listed.setIfInBounds m true) a → D w →
   wpAny P md ops Q (f + 1 + g) listed a w := by
 intro f
 induction f with
 | zero =>
  intro listed a w inv hun h hw
  have hmr : m ∈ Region.ready md ops listed := mem_ready.2 ⟨hun, om, hm, fun e he hb => by rw [hfree e he] at hb; cases hb⟩
  have hsz : m < listed.size := by rw [inv.size]; exact (Array.getElem?_eq_some_iff.1 hm).1
  rw [show 0 + 1 + g = (0 + g) + 1 by omega]
  refine ⟨fun h0 => (by rw [h0] at hmr; cases hmr), fun i hi => ?_⟩
  by_cases him : i = m
  ·subst him
   unfold wpOp
   simp only [hm, Region.wanted, hgd, if_true]
   left
   unfold Oper.wp
   rw [hrun a w]
   exact any_after hm hsel hap hD _ (hend _ (hK0 w hw)) 0 _ a _ (by simp [hsz]) h (hD _ _ hw ((Below.refl _ _).alloc (Nat.le_refl _) _)) (heap_alloc_new w obj)
  ·exact absurd hi (tail_off hs hc inv ⟨m, hmH, hun⟩ i (seqL_ready h.1 i (ready_mono hi him)))
 | succ f ih =>
  intro listed a w inv hun h hw
  have hmr : m ∈ Region.ready md ops listed := mem_ready.2 ⟨hun, om, hm, fun e he hb => by rw [hfree e he] at hb; cases hb⟩
  have hsz : m < listed.size := by rw [inv.size]; exact (Array.getElem?_eq_some_iff.1 hm).1
  rw [show f + 1 + 1 + g = (f + 1 + g) + 1 by omega]
  refine ⟨fun h0 => (by rw [h0] at hmr; cases hmr), fun i hi => ?_⟩
  by_cases him : i = m
  ·subst him
   unfold wpOp
   simp only [hm, Region.wanted, hgd, if_true]
   left
   unfold Oper.wp
   rw [hrun a w]
   exact any_after hm hsel hap hD _ (hend _ (hK0 w hw)) (f + 1) _ a _ (by simp [hsz]) h (hD _ _ hw ((Below.refl _ _).alloc (Nat.le_refl _) _)) (heap_alloc_new w obj)
  ·obtain ⟨hiH, oi, v, hoi, he, hK⟩ := h.2 i (ready_mono hi him)
   refine wpOp_of_even (R := Over) hoi hw (Below.refl _ _) he fun w' hb => ?_
   have hun' : (listed.setIfInBounds i true).getD m true = false := by rw [getD_set_ne true him]; exact hun
   exact ih _ _ w' (inv.set hi (part_not hp hiH)) hun' (by rw [Array.setIfInBounds_comm _ _ him]; exact hK) (hD w w' hw hb)
abbrev Cls (W : World) : World → Prop := fun w' => ∃ p : Regrown, w' = Sort.grow (redrawn W p.d) p.os
theorem cls_iff (W w' : World) : Cls W w' ↔ Below W.heap.size W w' := grows_iff W w'
theorem slot_put_ne (a : Act) (x : Option Tmp) (v : Value) (d : Nat) (h : x ≠ some d) : (a.put x v).tmps[d]? = a.tmps[d]? := by
 cases x with
 | none => rfl
 | some e =>
  have : e ≠ d := fun he => h (by rw [he])
  simp [Act.put, Array.getElem?_setIfInBounds_ne this]
theorem slot_put_same (a : Act) (v : Value) (d : Nat) (h : d < a.tmps.size) : (a.put (some d) v).tmps[d]? = some v := by
 simp [Act.put, h]
theorem size_put (a : Act) (x : Option Tmp) (v : Value) : (a.put x v).tmps.size = a.tmps.size := by
 cases x <;> simp [Act.put]
theorem quiet_slot {C : World → Prop} {af : Act} {d : Nat} : ∀ (l : List Oper) (a : Act), wpQuiet P ops C (fun a' => a' = af) l a → (∀ o ∈ l, o.dst ≠ some d) → af.tmps[d]? = a.tmps[d]?
 | [], a, h, _ => by
  have h : a = af := h
  rw [h]
 | o :: r, a, h, hd => by
  unfold wpQuiet at h
  have h1 := hd o (by simp)
  have h2 : ∀ x ∈ r, x.dst ≠ some d := fun x hx => hd x (by simp [hx])
  split at h
  ·obtain ⟨v, _, h3⟩ := h
   rw [quiet_slot r _ h3 h2, slot_put_ne _ _ _ _ h1]
  ·rw [quiet_slot r _ h h2, slot_put_ne _ _ _ _ h1]
def distB (n : Nat) : List Oper → Bool
 | [] => true
 | o :: r => (match o.dst with | some d => decide (d < n) && r.all (fun x => x.dst != some d) | none => false) && distB n r
theorem even_of_quiet {af : Act} (W0 : World) (h0 : D W0) : ∀ (l : List Oper) (a : Act), distB a.tmps.size l = true → (∀ W, D W → wpQuiet P ops (Cls W) (fun a' => a' = af) l a) → evenList P ops D Over (fun a' => a' = af) l a
 | [], a, _, h => h W0 h0
 | o :: r, a, hd, h => by
  simp only [distB, Bool.and_eq_true] at hd
  obtain ⟨hd1, hd2⟩ := hd
  obtain ⟨d, hdst⟩ : ∃ d, o.dst = some d := by
   cases ho : o.dst with
   | none => rw [ho] at hd1; cases hd1
   | some d => exact ⟨d, rfl⟩
  rw [hdst] at hd1
  simp only [Bool.and_eq_true, decide_eq_true_eq, List.all_eq_true, bne_iff_ne, ne_eq] at hd1
  by_cases hw : Region.wanted o (yielded ops a.tmps) = true
  ·have key : ∀ W, D W → ∃ v, (∀ w, Cls W w → o.quietAt P a (Cls W) w v) ∧ wpQuiet P ops (Cls W) (fun a' => a' = af) r (a.put o.dst v) ∧ af.tmps[d]? = some v := by
    intro W hW
    have h1 := h W hW
    unfold wpQuiet at h1
    rw [if_pos hw] at h1
    obtain ⟨v, h2, h3⟩ := h1
    exact ⟨v, h2, h3, by rw [quiet_slot r _ h3 (fun x hx => hd1.2 x hx), hdst, slot_put_same _ _ _ hd1.1]⟩
   obtain ⟨v, _, _, hv⟩ := key W0 h0
   refine ⟨v, .inl ⟨hw, fun w hwD => ?_⟩, even_of_quiet W0 h0 r _ (by rw [size_put]; exact hd2) fun W hW => ?_⟩
   ·obtain ⟨v', h2, _, hv'⟩ := key w hwD
    obtain rfl : v = v' := Option.some.inj (hv.symm.trans hv')
    have h4 := h2 w ((cls_iff w w).2 (Below.refl _ _))
    unfold Oper.quietAt at *
    generalize (execOp a.eval o).run P w = x at *
    cases x with
    | ok n w' =>
     cases n <;> simp only [Oper.quietUpon] at h4 ⊢ <;> first
      | exact h4
      | exact ⟨h4.1, h4.2.mono fun e w'' ⟨he, hc⟩ => ⟨he, (cls_iff w w'').1 hc⟩⟩
    | halt x w' => simp only [Oper.quietUpon] at h4
   ·obtain ⟨v', _, h3, hv'⟩ := key W hW
    obtain rfl : v = v' := Option.some.inj (hv.symm.trans hv')
    exact h3
  ·refine ⟨undef, .inr ⟨by simpa using hw, rfl⟩, even_of_quiet W0 h0 r _ (by rw [size_put]; exact hd2) fun W hW => ?_⟩
   have h1 := h W hW
   unfold wpQuiet at h1
   rw [if_neg hw] at h1
   exact h1
theorem even_of_class : ∀ (l : List Oper) (a : Act) (Q : Act → Prop), wpQuiet P ops D Q l a → evenList P ops D (fun _ => D) Q l a
 | [], _, _, h => h
 | o :: r, a, Q, h => by
  unfold wpQuiet at h
  split at h
  ·rename_i hw
   obtain ⟨v, h1, h2⟩ := h
   exact ⟨v, .inl ⟨hw, h1⟩, even_of_class r _ Q h2⟩
  ·rename_i hw
   exact ⟨undef, .inr ⟨by simpa using hw, rfl⟩, even_of_class r _ Q h⟩
theorem any_class {g : Nat} {H : List Nat} {L : Array Bool → Act → Prop} {Q : Exit → Act → World → Prop} (hend : ∀ listed a w, L listed a → D w → wpAny P md ops Q g listed a w) :
  ∀ (f : Nat) (listed : Array Bool) (a : Act) (w : World), anyEven P md ops D (fun _ => D) H L f listed a → D w → wpAny P md ops Q (f + g) listed a w
 | 0, listed, a, w, h, hw => by rw [Nat.zero_add]; exact hend _ _ _ h hw
 | f + 1, listed, a, w, h, hw => by
  rw [show f + 1 + g = (f + g) + 1 by omega]
  refine ⟨fun h0 => absurd h0 h.1, fun i hi => ?_⟩
  obtain ⟨hin, oi, v, hoi, he, hK⟩ := h.2 i hi
  exact wpOp_of_even hoi hw hw he fun w' hb => any_class hend f _ _ w' hK hb
theorem repl_false (m j : Nat) : (Array.replicate m false).getD j false = false := by
 rcases Nat.lt_or_ge j m with h | h
 ·simp [h]
 ·simp [h]
theorem inv_none {T : List Nat} (hT : allIn ops.size T = true) : Inv md ops T (Array.replicate ops.size false) :=
 ⟨by simp, fun j oj _ hl => (by rw [repl_false] at hl; cases hl), fun t ht => off_in (by simp only [allIn, List.all_eq_true, decide_eq_true_eq] at hT; simpa using hT t ht) (repl_false _ _)⟩
def growB (md : Region.Mode) (ops : Array Oper) (S : List Nat) (t : Nat) (T : List Nat) : Bool :=
 Region.noSelect ops && sinkL md ops t S && chainL md ops t T && partB ops S (t :: T) && allIn ops.size (t :: T) && allIn ops.size S && lexL md ops (t :: T) S (Array.replicate ops.size false) &&
 decide (S.length + (t :: T).length = ops.size)
theorem region_grow {id : Nat} {Q : Exit → Act → World → Prop} {a : Act} {w : World} {l : List Oper} (S : List Nat) (t : Nat) (T : List Nat) (hm : P.follows .mixedOrders = true) (hB : growB .any l.toArray S t T = true)
  (h : wpQuiet P l.toArray (fun w' => ∃ p : Regrown, w' = Sort.grow (redrawn w p.d) p.os) (fun a' => ∀ w', Below w.heap.size w w' → wpList P l.toArray Q (pick l (t :: T)) a' w') (pick l S) a) : (Code.region id l.toArray true).wp P Q a w := by
 simp only [growB, Bool.and_eq_true, decide_eq_true_eq] at hB
 obtain ⟨⟨⟨⟨⟨⟨⟨hsel, hs⟩, hc⟩, hp⟩, hT⟩, hS⟩, hlex⟩, hsz⟩ := hB
 have hsz' : l.toArray.size = l.length := by simp
 rw [hsz'] at hT hS
 have inv0 : Inv .any l.toArray (t :: T) (Array.replicate l.toArray.size false) := inv_none (by rw [hsz']; exact hT)
 have H := anyEven_lex (md := .any) hsel hs hc hp S _ a (fun _ h => h) hS inv0 hlex (even_of_class _ _ _ h)
 refine wp_region_any hm ?_
 have E := any_class (Q := Q) (g := (t :: T).length) (fun listed a' w' hL hD => any_of_seq (md := .any) (Q := Q) (t :: T) listed a' w' hT hL.1 (hL.2 w' ((cls_iff w w').1 hD)))
  S.length _ a { w with drawn := w.drawn + 1 } H ((cls_iff w _).2 ⟨rfl, rfl, rfl, Nat.le_refl _, fun _ _ => rfl⟩)
 rw [hsz] at E
 exact E
def blockB (md : Region.Mode) (ops : Array Oper) (S : List Nat) (m t : Nat) (T : List Nat) : Bool :=
 Region.noSelect ops && sinkL md ops t (S ++ [m]) && chainL md ops t T && partB ops (S ++ [m]) (t :: T) && allIn ops.size (t :: T) && allIn ops.size S && lexL md ops (t :: T) S ((Array.replicate ops.size false).setIfInBounds m true) &&
 decide (S.length + 1 + (t :: T).length = ops.size) &&
 (match ops[m]? with
  | some om => om.guard.isNone && om.after.all (fun e => !Region.binds md e) && S.all (fun j => match ops[j]? with | some oj => om.apart ops oj | none => true) && decide (m ∉ S)
  | none => false)
theorem region_block {id : Nat} {Q : Exit → Act → World → Prop} {a : Act} {w : World} {l : List Oper} (S : List Nat) (m t : Nat) (T : List Nat) (om : Oper) (obj : Obj) (af : Act) (hm : P.follows .mixedOrders = true) (hB : blockB .any l.toArray S m t T = true)
  (hd : distB a.tmps.size (pick l S) = true) (hom : l.toArray[m]? = some om)
  (hrun : ∀ (a : Act) w, (execOp a.eval om).run P w = .ok (.value (.pointer (some ⟨w.heap.size, 0, none⟩))) (w.alloc obj))
  (h : ∀ W, Below w.heap.size w W → wpQuiet P l.toArray (fun w' => ∃ p : Regrown, w' = Sort.grow (redrawn W p.d) p.os) (fun a' => a' = af) (pick l S) a)
  (hend : ∀ k w', Below w.heap.size w w' → w.heap.size ≤ k → w'.heap[k]? = some obj → wpList P l.toArray Q (pick l (t :: T)) (af.put om.dst (.pointer (some ⟨k, 0, none⟩))) w') :
  (Code.region id l.toArray true).wp P Q a w := by
 simp only [blockB, Bool.and_eq_true, decide_eq_true_eq, hom] at hB
 obtain ⟨⟨⟨⟨⟨⟨⟨⟨hsel, hs⟩, hc⟩, hp⟩, hT⟩, hS⟩, hlex⟩, hsz⟩, ⟨⟨hgd, hfree⟩, hap⟩, hmS⟩ := hB
 have hsz' : l.toArray.size = l.length := by simp
 have inv0 : Inv .any l.toArray (t :: T) (Array.replicate l.toArray.size false) := inv_none hT
 rw [hsz'] at hT hS
 have hfree' : ∀ e ∈ om.after, Region.binds .any e = false := fun e he => by
  have := Array.all_eq_true_iff_forall_mem.1 hfree e he
  simpa using this
 have hap' : ∀ j oj, l.toArray[j]? = some oj → j ∈ S ++ [m] → j ≠ m → om.apart l.toArray oj = true := fun j oj hj hjS hjm => by
  have hjS' : j ∈ S := by
   rcases List.mem_append.1 hjS with h | h
   ·exact h
   ·exact absurd (by simpa using h) hjm
  have := List.all_eq_true.1 hap j hjS'
  simpa only [hj] using this
 have hmlt : m < l.toArray.size := (Array.getElem?_eq_some_iff.1 hom).1
 have hun : (Array.replicate l.toArray.size false).getD m true = false := off_in (by simpa using hmlt) (repl_false _ _)
 have hmr : m ∈ Region.ready .any l.toArray (Array.replicate l.toArray.size false) := mem_ready.2 ⟨hun, om, hom, fun e he hb => by rw [hfree' e he] at hb; cases hb⟩
 have inv1 := inv0.set hmr (part_not hp (by simp))
 have E := even_of_quiet (ops := l.toArray) (D := Below w.heap.size w) w (Below.refl _ _) (pick l S) a hd h
 have H := anyEven_lex (md := .any) hsel hs hc hp S _ a (fun _ h => by simp [h]) hS inv1 hlex E
 refine wp_region_any hm ?_
 have R := any_before (md := .any) (g := (t :: T).length) (Q := Q) hom (by simp) hsel hs hc hp hfree' (by simpa using hgd) hap' (fun w1 w2 h1 h2 => h1.trans (h2.mono h1.size)) hrun w.heap.size (fun w1 h1 => h1.size)
  (fun k hk listed a' w' hseq hLq hD hobj => by
   have h5 : a' = af := hLq
   subst h5
   exact any_of_seq (md := .any) (Q := Q) (t :: T) listed (a'.put om.dst (.pointer (some ⟨k, 0, none⟩))) w' hT hseq (hend k w' hD hk hobj)) S.length _ a { w with drawn := w.drawn + 1 } inv0 hun H ⟨rfl, rfl, rfl, Nat.le_refl _, fun _ _ => rfl⟩
 rw [hsz] at R
 exact R
end
end Go.Proofs.YtlkkclooihjpiaaGreat
