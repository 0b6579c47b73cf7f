/- A region that draws, by hand (as XHeld), where operation z, which waits for what is taken first, may turn what the region itself has read: S is not asked behind it. -/
import Derived.Test.YtlkkclooihjpiaaGreatHeld
set_option linter.unusedVariables false
set_option linter.unusedSimpArgs false
namespace Go.Proofs.YtlkkclooihjpiaaGreat
open Go.RowKit
set_option maxRecDepth 20000
section
variable (P : Program) (md : Region.Mode) (ops : Array Oper) (Q : Exit → Act → World → Prop) (S : World → Prop) (z : Nat)
def wpAnyL : Nat → Array Bool → Act → World → Prop
 | 0, d, a, w => Region.ready md ops d = [] ∧ Q .normal a w
 | k + 1, d, a, w => (Region.ready md ops d = [] → Q .normal a w) ∧ ∀ i ∈ Region.ready md ops d, wpOp P ops Q i (fun a' w' => (i ≠ z → S w') ∧ wpAnyL k (d.setIfInBounds i true) a' w') a w
end
def zWaits (md : Region.Mode) (ops : Array Oper) (z i : Nat) : Bool := match ops[z]? with
 | some o => o.after.any fun e => Region.binds md e && e.on == i
 | none => false
section
variable {P : Program} {md : Region.Mode} {ops : Array Oper} {Q : Exit → Act → World → Prop} {S : World → Prop} {z : Nat}
theorem wpAnyL_any (k : Nat) : ∀ (d : Array Bool) (a : Act) (w : World), wpAnyL P md ops Q S z k d a w → wpAny P md ops Q k d a w := by
 induction k with
 | zero => exact fun d a w h => h
 | succ k ih => exact fun d a w h => ⟨h.1, fun i hi => wpOp_mono (fun a' w' x => ih _ a' w' x.2) (h.2 i hi)⟩
theorem last_first {i : Nat} {o : Oper} {v : Value} (ho : ops[i]? = some o) (hzi : zWaits md ops z i = true) (hsel : ∀ (j : Nat) (o : Oper) cs b, ops[j]? = some o → o.op ≠ .select cs b) (hQ : ∀ c a w, Q (.panic c) (a.put o.dst v) w → Q (.panic c) a w) (k : Nat) :
  ∀ (d : Array Bool) (a : Act) (w : World), (∀ j oj, ops[j]? = some oj → j ≠ i → d.getD j true = false → (∀ e ∈ oj.after, Region.binds md e = true → e.on ≠ i) → o.apart ops oj = true) →
   i ∈ Region.ready md ops d → YieldsIf P ops S o v a → S w → wpAnyL P md ops Q S z k (d.setIfInBounds i true) (a.put o.dst v) w → wpAnyL P md ops Q S z (k + 1) d a w := by
 induction k with
 | zero =>
  intro d a w hf hi hy hS h
  refine ⟨fun e => absurd (e ▸ hi) (by simp), fun j hj => ?_⟩
  rcases Decidable.em (j = i) with rfl | hne
  ·exact hy.wpOp ho hS ⟨fun _ => hS, h⟩
  ·exact absurd (h.1 ▸ ready_mono hj hne) (by simp)
 | succ k ih =>
  intro d a w hf hi hy hS h
  refine ⟨fun e => absurd (e ▸ hi) (by simp), fun j hj => ?_⟩
  rcases Decidable.em (j = i) with rfl | hne
  ·exact hy.wpOp ho hS ⟨fun _ => hS, h⟩
  obtain ⟨hun, oj, hoj, hw⟩ := mem_ready.1 hj
  have hdi := (mem_ready.1 hi).1
  have hno : ∀ e ∈ oj.after, Region.binds md e = true → e.on ≠ i := by
   intro e he hb heq
   have hx := hw e he hb
   rw [heq] at hx
   by_cases hlt : i < d.size
   ·simp only [Array.getD, hlt, dite_true] at hdi hx
    rw [hdi] at hx
    cases hx
   ·simp only [Array.getD, hlt, dite_false] at hdi
    cases hdi
  have hjz : j ≠ z := by
   rintro rfl
   unfold zWaits at hzi
   rw [hoj] at hzi
   simp only [Array.any_eq_true, Bool.and_eq_true, beq_iff_eq] at hzi
   obtain ⟨n, hn, h1, h2⟩ := hzi
   exact hno _ (Array.getElem_mem hn) h1 h2
  have step := wpOp_putIf (S := S) hoj (hf j oj hoj hne hun hno) (fun cs b => hsel i o cs b ho) (fun cs b => hsel j oj cs b hoj) hQ hy (h.2 j (ready_mono hj hne))
  have hi2 := ready_mono hi (Ne.symm hne)
  have hf2 : ∀ m om, ops[m]? = some om → m ≠ i → (d.setIfInBounds j true).getD m true = false → (∀ e ∈ om.after, Region.binds md e = true → e.on ≠ i) → o.apart ops om = true := by
   intro m om hm hmi hmu hmn
   refine hf m om hm hmi ?_ hmn
   rcases Decidable.em (j = m) with rfl | e
   ·exact hun
   ·rwa [getD_set_ne true e] at hmu
  refine wpOp_mono (fun a' w' x => ?_) step
  obtain ⟨hy', hs', hrest⟩ := x
  refine ⟨hs', ih _ a' w' hf2 hi2 hy' (hs' hjz) ?_⟩
  rw [Array.setIfInBounds_comm _ _ hne]
  exact hrest
end
section
variable {P : Program} {l : List Oper} {Q : Exit → Act → World → Prop} {md : Region.Mode} {S : World → Prop} {z : Nat}
theorem last_take (i : Nat) {oi : Oper} {v : Value} {fuel : Nat} {listed : Array Bool} {a : Act} {w : World} (hi : l[i]? = some oi) (hz : zWaits md l.toArray z i = true)
  (hs : Region.noSelect l.toArray = true) (hf : Region.free md l.toArray listed i = true) (hr : (Region.ready md l.toArray listed).contains i = true)
  (hQ : ∀ c a w, Q (.panic c) (a.put oi.dst v) w → Q (.panic c) a w) (hw : Region.wanted oi (yielded l.toArray a.tmps) = true)
  (hS : S w) (hy : ∀ w, S w → (execOp a.eval oi).run P w = .ok (.value v) w)
  (h : wpAnyL P md l.toArray Q S z fuel (listed.setIfInBounds i true) (a.put oi.dst v) w) : wpAnyL P md l.toArray Q S z (fuel + 1) listed a w :=
 last_first (by simpa using hi) hz (Region.noSelect_spec hs) hQ fuel listed a w (Region.free_spec (by simpa using hi) hf) (by simpa using hr) (.inl ⟨hw, hy⟩) hS h
theorem last_one (i : Nat) {oi : Oper} {fuel : Nat} {listed : Array Bool} {a : Act} {w : World} (hr : Region.ready md l.toArray listed = [i]) (hi : l[i]? = some oi)
  (h : ∀ K' : Act → World → Prop, Shut (∀ a w, (i ≠ z → S w) → ((i ≠ z → S w) → wpAnyL P md l.toArray Q S z fuel (listed.setIfInBounds i true) a w) → K' a w) → if Region.wanted oi (yielded l.toArray a.tmps) = true then Oper.wp P oi a w K' Q else K' (a.put oi.dst undef) w) :
  wpAnyL P md l.toArray Q S z (fuel + 1) listed a w := by
 refine ⟨fun e => absurd (hr ▸ e) (by simp), fun j hj => ?_⟩
 rw [hr] at hj
 obtain rfl : j = i := by simpa using hj
 exact wpOp_step (by simpa using hi) (fun K' hK => h K' (fun a w hS hW => hK a w ⟨hS, hW hS⟩))
theorem wpAnyL_done {listed : Array Bool} {a : Act} {w : World} (hr : Region.ready md l.toArray listed = []) (h : Q .normal a w) : ∀ fuel, wpAnyL P md l.toArray Q S z fuel listed a w
 | 0 => ⟨hr, h⟩
 | _ + 1 => ⟨fun _ => h, by rw [hr]; simp⟩
theorem wp_region_last {id : Nat} {a : Act} {w : World} (z : Nat) (S : World → Prop) (hm : P.follows .mixedOrders = true) (hS : S w.drew)
  (h : S w.drew → wpAnyL P .any l.toArray Q S z l.toArray.size (Array.replicate l.toArray.size false) a w.drew) : (Code.region id l.toArray true).wp P Q a w :=
 wp_region_any hm (wpAnyL_any _ _ _ _ (h hS))
end
end Go.Proofs.YtlkkclooihjpiaaGreat
