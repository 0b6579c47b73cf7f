/- A region that draws its order, by hand: take an operation first that yields one value in every world that meets S; or go on with the one that must come next. (For a region in which the last store hits a cell that the region itself reads.) -/
import Derived.Test.YtlkkclooihjpiaaGreatBase
import Derived.Deep.RegionHeld
import Derived.Deep.MidRow
import Derived.Deep.WholeRow
import Derived.Great.FillDense
set_option linter.unusedVariables false
set_option linter.unusedSimpArgs false
namespace Go.Proofs.YtlkkclooihjpiaaGreat
open Go.RowKit
set_option maxRecDepth 20000
section
variable {P : Program} {l : List Oper} {Q : Exit → Act → World → Prop} {md : Region.Mode} {S : World → Prop}
theorem held_take (i : Nat) {oi : Oper} {v : Value} {fuel : Nat} {listed : Array Bool} {a : Act} {w : World} (hi : l[i]? = some oi)
  (hs : Region.noSelect l.toArray = true) (hf : Region.free md l.toArray listed i = true) (hr : (Region.ready md l.toArray listed).contains i = true)
  (hQ : ∀ c a w, Q (.panic c) (a.put oi.dst v) w → Q (.panic c) a w) (hw : Region.wanted oi (yielded l.toArray a.tmps) = true)
  (hS : S w) (hy : ∀ w, S w → (execOp a.eval oi).run P w = .ok (.value v) w)
  (h : wpAnyH P md l.toArray Q S fuel (listed.setIfInBounds i true) (a.put oi.dst v) w) : wpAnyH P md l.toArray Q S (fuel + 1) listed a w :=
 wpAnyH_take (by simpa using hi) hs hf hr hQ (.inl ⟨hw, hy⟩) hS h
theorem held_one (i : Nat) {oi : Oper} {fuel : Nat} {listed : Array Bool} {a : Act} {w : World} (hr : Region.ready md l.toArray listed = [i]) (hi : l[i]? = some oi)
  (h : ∀ K' : Act → World → Prop, Shut (∀ a w, S w → (S w → wpAnyH P md l.toArray Q S fuel (listed.setIfInBounds i true) a w) → K' a w) → if Region.wanted oi (yielded l.toArray a.tmps) = true then Oper.wp P oi a w K' Q else K' (a.put oi.dst undef) w) :
  wpAnyH P md l.toArray Q S (fuel + 1) listed a w :=
 wpAnyH_ready hr (by simp) (AllReadyH.cons (by simpa using hi) h AllReadyH.nil)
theorem held_two (i j : Nat) (hij : i ≠ j) {oi oj : Oper} {vi vj : Value} {w' : World} {fuel : Nat} {listed : Array Bool} {a : Act} {w : World} (hr : Region.ready md l.toArray listed = [i, j])
  (hri : Region.ready md l.toArray (listed.setIfInBounds i true) = [j]) (hrj : Region.ready md l.toArray (listed.setIfInBounds j true) = [i]) (hi : l[i]? = some oi) (hj : l[j]? = some oj)
  (wi : Region.wanted oi (yielded l.toArray a.tmps) = true) (wj : Region.wanted oj (yielded l.toArray a.tmps) = true)
  (wi' : Region.wanted oi (yielded l.toArray (a.put oj.dst vj).tmps) = true) (wj' : Region.wanted oj (yielded l.toArray (a.put oi.dst vi).tmps) = true)
  (ri : (execOp a.eval oi).run P w = .ok (.value vi) w) (rj : (execOp a.eval oj).run P w = .ok (.value vj) w')
  (ri' : (execOp (a.put oj.dst vj).eval oi).run P w' = .ok (.value vi) w') (rj' : (execOp (a.put oi.dst vi).eval oj).run P w = .ok (.value vj) w')
  (hc : (a.put oj.dst vj).put oi.dst vi = (a.put oi.dst vi).put oj.dst vj) (hS : S w) (hS' : S w')
  (h : wpAnyH P md l.toArray Q S fuel ((listed.setIfInBounds i true).setIfInBounds j true) ((a.put oi.dst vi).put oj.dst vj) w') : wpAnyH P md l.toArray Q S (fuel + 1 + 1) listed a w := by
 have hi' : l.toArray[i]? = some oi := by simpa using hi
 have hj' : l.toArray[j]? = some oj := by simpa using hj
 refine wpAnyH_ready hr (by simp) (AllReadyH.cons hi' (fun K hK => ?_) (AllReadyH.cons hj' (fun K hK => ?_) AllReadyH.nil))
 ·rw [if_pos wi]
  unfold Oper.wp
  rw [ri]
  refine hK.out _ _ hS (fun _ => wpAnyH_ready hri (by simp) (AllReadyH.cons hj' (fun K hK => ?_) AllReadyH.nil))
  rw [if_pos wj']
  unfold Oper.wp
  rw [rj']
  exact hK.out _ _ hS' (fun _ => h)
 ·rw [if_pos wj]
  unfold Oper.wp
  rw [rj]
  refine hK.out _ _ hS' (fun _ => wpAnyH_ready hrj (by simp) (AllReadyH.cons hi' (fun K hK => ?_) AllReadyH.nil))
  rw [if_pos wi']
  unfold Oper.wp
  rw [ri']
  refine hK.out _ _ hS' (fun _ => ?_)
  rw [hc, Array.setIfInBounds_comm _ _ (Ne.symm hij)]
  exact h
theorem held_both (i j : Nat) {oi oj : Oper} {fuel : Nat} {listed : Array Bool} {a : Act} {w : World} (hr : Region.ready md l.toArray listed = [i, j]) (hi : l[i]? = some oi) (hj : l[j]? = some oj)
  (h1 : ∀ K' : Act → World → Prop, Shut (∀ a w, S w → (S w → wpAnyH P md l.toArray Q S fuel (listed.setIfInBounds i true) a w) → K' a w) → if Region.wanted oi (yielded l.toArray a.tmps) = true then Oper.wp P oi a w K' Q else K' (a.put oi.dst undef) w)
  (h2 : ∀ K' : Act → World → Prop, Shut (∀ a w, S w → (S w → wpAnyH P md l.toArray Q S fuel (listed.setIfInBounds j true) a w) → K' a w) → if Region.wanted oj (yielded l.toArray a.tmps) = true then Oper.wp P oj a w K' Q else K' (a.put oj.dst undef) w) :
  wpAnyH P md l.toArray Q S (fuel + 1) listed a w :=
 wpAnyH_ready hr (by simp) (AllReadyH.cons (by simpa using hi) h1 (AllReadyH.cons (by simpa using hj) h2 AllReadyH.nil))
theorem wpList_value {ops : Array Oper} {rest : List Oper} {o : Oper} {a : Act} {w w' : World} (hg : o.guard = none) (v : Value) (hrun : (execOp a.eval o).run P w = .ok (.value v) w')
  (h : wpList P ops Q rest (a.put o.dst v) w') : wpList P ops Q (o :: rest) a w := by
 refine wpList_plain hg fun K hK => ?_
 unfold Oper.wp
 rw [hrun]
 exact hK _ _ h
theorem wpList_skip {ops : Array Oper} {rest : List Oper} {o : Oper} {a : Act} {w w' : World} (hg : o.guard = none) (hrun : (execOp a.eval o).run P w = .ok .skip w')
  (h : wpList P ops Q rest (a.put o.dst undef) w') : wpList P ops Q (o :: rest) a w := by
 refine wpList_plain hg fun K hK => ?_
 unfold Oper.wp
 rw [hrun]
 exact hK _ _ h
theorem exec_load {o : Oper} {a : Act} {w : World} {ty : TypeId} {x : Operand} {p v : Value} (ho : o.op = .load ty x) (hx : a.eval x = p) (h : (Instr.loadAt ty p).run P w = .ok v w) :
  (execOp a.eval o).run P w = .ok (.value v) w := by
 unfold execOp
 simp only [ho, hx, Sem.run_bind, h, Result.andThen_ok, Sem.run_pure]
theorem exec_store {o : Oper} {a : Act} {w w' : World} {ty : TypeId} {x y : Operand} {p v : Value} (ho : o.op = .store ty x y) (hx : a.eval x = p) (hy : a.eval y = v) (h : (Instr.storeAt ty p v).run P w = .ok () w') :
  (execOp a.eval o).run P w = .ok .skip w' := by
 unfold execOp
 simp only [ho, hx, hy, Sem.run_bind, h, Result.andThen_ok, Sem.run_pure]
theorem exec_build {o : Oper} {a : Act} {w : World} {ty : TypeId} {ps : Array (Nat × Operand)} {vs : Array (Nat × Value)} {v : Value} (ho : o.op = .build ty ps) (hx : (ps.map fun (i, x) => (i, a.eval x)) = vs) (h : (Instr.build ty vs).run P w = .ok v w) :
  (execOp a.eval o).run P w = .ok (.value v) w := by
 unfold execOp
 simp only [ho, hx, Sem.run_bind, h, Result.andThen_ok, Sem.run_pure]
theorem exec_buildSlice {o : Oper} {a : Act} {w w' : World} {ty : TypeId} {n : Nat} {ps : Array (Nat × Operand)} {vs : Array (Nat × Value)} {v : Value} (ho : o.op = .buildSlice ty n ps) (hx : (ps.map fun (i, x) => (i, a.eval x)) = vs) (h : (Instr.buildSlice ty n vs).run P w = .ok v w') :
  (execOp a.eval o).run P w = .ok (.value v) w' := by
 unfold execOp
 simp only [ho, hx, Sem.run_bind, h, Result.andThen_ok, Sem.run_pure]
theorem exec_convert {o : Oper} {a : Act} {w w' : World} {s t : TypeId} {x : Operand} {u v : Value} (ho : o.op = .convert s t x) (hx : a.eval x = u) (h : (convert s t u).run P w = .ok v w') :
  (execOp a.eval o).run P w = .ok (.value v) w' := by
 unfold execOp
 simp only [ho, hx, Sem.run_bind, h, Result.andThen_ok, Sem.run_pure]
theorem exec_array {o : Oper} {a : Act} {w w' : World} {t : TypeId} {x : Operand} {u v : Value} (ho : o.op = .sliceToArrayPointer t x) (hx : a.eval x = u) (h : (Instr.arrayAt t u).run P w = .ok v w') :
  (execOp a.eval o).run P w = .ok (.value v) w' := by
 unfold execOp
 simp only [ho, hx, Sem.run_bind, h, Result.andThen_ok, Sem.run_pure]
theorem run_buildSlice_one (w : World) (t e : TypeId) (cs : Array Value) (z : Value) (s : Nat) (ht : P.underlying t = some (.slice e)) (hi : (P.info? e).map (fun i => (i.zero, i.size)) = some (some z, s)) (hz : z.cells.size = s) (hc : cs.size = s) (hs : 0 < s) (hb : s ≤ 16777216) :
  (Instr.buildSlice t 1 #[(0, .agg cs)]).run P w = .ok (.slice (some ⟨w.heap.size, 0, none⟩) 1 1) (w.alloc (.cells cs e)) := by
 cases hq : P.info? e with
 | none => simp [hq] at hi
 | some i =>
  have h1 : i.zero = some z := by simp [hq] at hi; exact hi.1
  have h2 : i.size = s := by simp [hq] at hi; exact hi.2
  have hv : (Value.agg cs).cells = cs := rfl
  have hf : Instr.fill (fun i => some (i * s, s)) ((Array.range (1 * s)).map (fun x => z.cells[x % z.cells.size]!)) [(0, .agg cs)] = some cs := by
   have h := Great.fill_whole (s := s) hs [.agg cs] ((Array.range (1 * s)).map (fun x => z.cells[x % z.cells.size]!)) (by intro v hv; simp at hv; subst hv; exact hc) (by simp)
   simp only [List.zipIdx_cons, List.zipIdx_nil, List.map_cons, List.map_nil, List.flatMap_cons, List.flatMap_nil, List.append_nil, hv, Array.toArray_toList] at h
   exact h
  have hsz : ∀ w, (sizeOf e).run P w = .ok s w := fun w => by simp [sizeOf, typeInfo, hq, h2]
  have hzv : ∀ w, (zeroValue e).run P w = .ok z w := fun w => by simp [zeroValue, typeInfo, hq, h1]
  have n1 : ¬ (1 * s > 2 ^ 24) := by omega
  have n2 : ¬ (1 * s = 0) := by omega
  simp only [Instr.buildSlice, Sem.run_bind, run_underlying ht, Result.andThen_ok, hsz, n1, n2, if_false, hzv, Sem.run_pure, hf]
  rfl
end
end Go.Proofs.YtlkkclooihjpiaaGreat
