/- SpaceOwns in memory: the row of pages that are somebody's: one more, one less. -/
import Derived.Test.YtaelhejmedjgiaaGreatSqH
import Derived.Deep.RegionLaw
import Derived.Deep.Upon
set_option linter.unusedVariables false
set_option linter.unusedSimpArgs false
namespace Go.Proofs.YtaelhejmedjgiaaGreat
open Go.RowKit Go.Maps
set_option maxRecDepth 20000
theorem grown_none {W W' : World} (row : Option Nat) (h : W.grownBy W' none) : W.grownBy W' row := ⟨h.os, h.tape, h.output, h.size, fun i hi hne => h.block i hi (by simp)⟩
theorem row_mono {w : World} {base base' s n : Nat} {e : TypeId} {v : Value} {xs : List Value} (h : w.ownsRow base e s v n xs) (hb : base' ≤ base) : w.ownsRow base' e s v n xs := by
 refine ⟨h.1, ?_⟩
 rcases h.2 with h0 | ⟨g, cap, cur, rfl, h1, h2⟩
 ·exact .inl h0
 ·exact .inr ⟨g, cap, cur, rfl, Nat.le_trans hb h1, h2⟩
def intsV (xs : List Nat) : List Value := xs.map fun (x : Nat) => .int .i64 (x : Int)
theorem intsV_length (xs : List Nat) : (intsV xs).length = xs.length := by simp [intsV]
theorem intsV_one (xs : List Nat) : ∀ u ∈ intsV xs, u.oneCell' = true := by
 intro u hu
 obtain ⟨x, -, rfl⟩ := List.mem_map.1 hu
 rfl
theorem append_own {w : World} {t ty : TypeId} (ht : Tryz.prog.underlying t = some (.slice 3)) {base : Nat} {v : Value} {xs ys : List Nat} (hown : OwnI w base v xs) (ad : Addr) (c : Nat)
  (hc : ∀ j u, (intsV ys)[j]? = some u → w.cell? (ad.add j) = some u) (h0 : 0 < ys.length) (hlen : xs.length + ys.length ≤ 1000) (hbase : base ≤ w.heap.size) :
  ∃ v' w', (Builtin.append_ #[t, t] ty #[v, .slice (some ad) ys.length c]).run Tryz.prog w = .ok v' w' ∧ OwnI w' base v' (xs ++ ys) ∧ w.grownBy w' v.ownBlock ∧ (v'.ownBlock = v.ownBlock ∨ ∀ k, v'.ownBlock = some k → w.heap.size ≤ k) := by
 obtain ⟨i0, hi, hz0, hz1, hz2⟩ := info_parts (P := Tryz.prog) (e := 3) (z := .int .i64 0) (size := 1) (bytes := 8) (by kernel_rfl)
 have hl := intsV_length ys
 have hv : (xs ++ ys).map (fun (x : Nat) => Value.int .i64 (x : Int)) = (xs.map fun (x : Nat) => Value.int .i64 (x : Int)) ++ intsV ys := List.map_append
 rcases hown with hown | ⟨g, cur, rfl, h1, h2, h3, h4⟩
 ·obtain ⟨v', w', hr, r1, r2, r3, r4⟩ := run_append_own_at (P := Tryz.prog) w base t ty 3 i0 _ 1 8 ht hi hz0 hz1 hz2 rfl (by decide) v xs.length _ hown ad ys.length c (intsV ys) (by omega) hc (intsV_one ys) (by simp only [maxLen]; omega) (by omega) hbase
  refine ⟨v', w', hr, .inl ?_, r2, r4.imp id fun e k hk => ?_⟩
  ·rw [hv, List.length_append]; exact r1
  ·rw [e] at hk; cases hk; exact Nat.le_refl _
 ·have holds : ∀ j u, (xs.map fun (x : Nat) => Value.int .i64 (x : Int))[j]? = some u → w.cell? ((⟨g, 0, none⟩ : Addr).add j) = some u := by
   intro j u hj
   have hj2 : j < xs.length := by
    have := (List.getElem?_eq_some_iff.1 hj).1
    simpa using this
   rw [Addr.add_lit, Nat.zero_add, cell_of_block h2, ← Array.getElem?_toList, ← List.getElem?_take_of_lt hj2, h3]
   exact hj
  obtain ⟨v', w', hr, r1, r2⟩ := run_append_arg_grows (P := Tryz.prog) w t ty 3 i0 _ 1 8 ht hi hz0 hz1 hz2 rfl (by decide) ⟨g, 0, none⟩ xs.length xs.length (xs.map fun (x : Nat) => Value.int .i64 (x : Int)) (by simp) holds ad ys.length c (intsV ys) (by omega) hc (by omega) (by simp only [maxLen]; omega) (by omega)
  refine ⟨v', w', hr, .inl ?_, grown_none _ r2, .inr fun k hk => (row_base r1 hk).1⟩
  rw [hv, List.length_append]
  exact row_mono r1 hbase
theorem wpList_own_push {w : World} {ops : Array Oper} {rest : List Oper} {o : Oper} {a : Act} {Q : Exit → Act → World → Prop} (hgd : o.guard = none) (s x : Operand) (t : TypeId)
  (ho : o.op = .call { callee := .builtin .append, args := #[s, x], argTypes := #[t, t] }) (ht : Tryz.prog.underlying t = some (.slice 3))
  {base : Nat} {v : Value} {xs : List Nat} (hs : a.eval s = v) (hown : OwnI w base v xs) (ad : Addr) (c n : Nat) (hx : a.eval x = .slice (some ad) 1 c) (hc : w.cell? (ad.add 0) = some (.int .i64 (n : Int)))
  (hlen : xs.length ≤ 900) (hbase : base ≤ w.heap.size)
  (h : ∀ v' w', OwnI w' base v' (xs ++ [n]) → w.grownBy w' v.ownBlock → (v'.ownBlock = v.ownBlock ∨ ∀ k, v'.ownBlock = some k → w.heap.size ≤ k) → wpList Tryz.prog ops Q rest (a.put o.dst v') w') :
  wpList Tryz.prog ops Q (o :: rest) a w := by
 refine wpList_plain hgd fun K hK => ?_
 obtain ⟨v', w', hr, h2, h3, h4⟩ := append_own (ty := o.type) ht hown (ys := [n]) ad c (fun j u hj => by
  match j, hj with
  | 0, hj =>
   have e : u = .int .i64 (n : Int) := by simpa [intsV] using hj.symm
   rw [e]; exact hc) (by simp) (by simp; omega) hbase
 have hr : (Builtin.append_ #[t, t] o.type #[v, .slice (some ad) 1 c]).run Tryz.prog w = .ok v' w' := hr
 unfold Oper.wp execOp
 simp only [ho, resolve, invoke, builtin, Sem.run_bind, Sem.run_pure, Result.andThen_ok, List.map_toArray, List.map_cons, List.map_nil, hs, hx, hr]
 exact hK _ _ (h v' w' h2 h3 h4)
theorem step_own_cut {w : World} {ops : Array Oper} {o : Oper} {a : Act} {K : Act → World → Prop} {Q : Exit → Act → World → Prop} {E : Prop} (hgd : o.guard = none) (s x : Operand) (t : TypeId)
  (ho : o.op = .call { callee := .builtin .append, args := #[s, x], argTypes := #[t, t] }) (ht : Tryz.prog.underlying t = some (.slice 3))
  {base g cap i : Nat} {xs : List Nat} (hown : OwnI w base (.slice (some ⟨g, 0, none⟩) xs.length cap) xs) (hi : i < xs.length) (hs : a.eval s = .slice (some ⟨g, 0, none⟩) i i) (A : Addr) (m c : Nat) (hx : a.eval x = .slice (some A) m c) (hm : m = xs.length - (i + 1)) (hA : A = ⟨g, i + 1, none⟩ ∨ m = 0)
  (hlen : xs.length ≤ 900) (hbase : base ≤ w.heap.size)
  (h : ∀ v' w', OwnI w' base v' (xs.eraseIdx i) → w.grownBy w' (some g) → (v'.ownBlock = some g ∨ ∀ k, v'.ownBlock = some k → w.heap.size ≤ k) → K (a.put o.dst v') w') :
  if Region.wanted o (yielded ops a.tmps) = true then Oper.wp Tryz.prog o a w K Q else E := by
 have hw : Region.wanted o (yielded ops a.tmps) = true := by simp [Region.wanted, hgd]
 rw [if_pos hw]
 obtain ⟨ao, cap', e, hle, hmax, hcell⟩ := hown.get
 injection e with e1 e2 e3
 subst e3
 obtain ⟨g', e4, hg, -⟩ := hcell i hi
 rw [← e1] at e4 hcell
 obtain rfl : g = g' := by injection e4 with e4; injection e4
 have hblk : base ≤ g ∧ ∃ cur, w.heap[g]? = some (.cells cur 3 (0, 0)) ∧ cur.toList.take xs.length = xs.map fun (x : Nat) => Value.int .i64 (x : Int) := by
  rcases hown with ⟨h0, ⟨e, -⟩ | ⟨g', cap, cur, e, h2, h3, h4, h5, h6, h7⟩⟩ | ⟨g', cur, e, h1, h2, h3, -⟩
  ·cases e
  ·injection e with e; injection e with e; injection e with e
   subst e
   exact ⟨h2, cur, h3, by simpa using h7⟩
  ·injection e with e; injection e with e; injection e with e
   subst e
   exact ⟨h1, cur, h2, h3⟩
 obtain ⟨hbg, cur, hb1, hb2⟩ := hblk
 have hcut : OwnI w base (.slice (some ⟨g, 0, none⟩) i i) (xs.take i) := by
  have hl : (xs.take i).length = i := by rw [List.length_take]; omega
  refine .inr ⟨g, cur, by rw [hl], hbg, hb1, ?_, by rw [hl]; simp only [maxLen]; omega⟩
  rw [hl, List.map_take, ← hb2, List.take_take, Nat.min_eq_left (by omega)]
 have hrun : ∃ v' w', (Builtin.append_ #[t, t] o.type #[.slice (some ⟨g, 0, none⟩) i i, .slice (some A) m c]).run Tryz.prog w = .ok v' w' ∧ OwnI w' base v' (xs.eraseIdx i) ∧ w.grownBy w' (some g) ∧ (v'.ownBlock = some g ∨ ∀ k, v'.ownBlock = some k → w.heap.size ≤ k) := by
  rw [List.eraseIdx_eq_take_drop_succ]
  have hd : (xs.drop (i + 1)).length = m := by rw [List.length_drop, hm]
  by_cases h0 : m = 0
  ·obtain ⟨i0, hi0, hz0, hz1, hz2⟩ := info_parts (P := Tryz.prog) (e := 3) (z := .int .i64 0) (size := 1) (bytes := 8) (by kernel_rfl)
   have hd0 : xs.drop (i + 1) = [] := List.eq_nil_of_length_eq_zero (by omega)
   rw [hd0, List.append_nil, h0]
   refine ⟨_, w, run_append_nothing (P := Tryz.prog) w t t o.type 3 i0 ht hi0 _ i i (Nat.le_refl _) _ (Src.ofSlice w ht A 0 c [] (by simp) (fun j u hj => by simp at hj) (fun u hu => by cases hu)), hcut, World.grownBy.refl _ _, .inl rfl⟩
  ·obtain ⟨v', w', hr, r1, r2, r3⟩ := append_own (ty := o.type) ht hcut (ys := xs.drop (i + 1)) A c (fun j u hj => by
    have hj2 : j < m := by
     have := (List.getElem?_eq_some_iff.1 hj).1
     rw [intsV_length] at this
     omega
    rw [hA.resolve_right h0, Addr.add_lit]
    obtain ⟨g2, e5, -, e6⟩ := hcell (i + 1 + j) (by omega)
    obtain rfl : g = g2 := by injection e5 with e5; injection e5
    rw [e6, ← hj]
    unfold intsV
    rw [List.getElem?_map, List.getElem?_drop, List.getElem?_eq_getElem (by omega)]
    rfl) (by omega) (by rw [List.length_take, hd]; omega) hbase
   rw [hd] at hr
   exact ⟨v', w', hr, r1, r2, r3⟩
 obtain ⟨v', w', hr, h2, h3, h4⟩ := hrun
 unfold Oper.wp
 simp [execOp, ho, resolve, invoke, builtin, hs, hx, hr, Result.andThen]
 exact h v' w' h2 h3 h4
structure OwSt (w W : World) (pb l b : Nat) (p : Pg) (g : Lg) (d : Dsk) (v : Value) (O P : List Nat) (N : Nat) (X : Nat → Prop) : Prop where
 px : PgX w W pb l b p g d X
 ow : OwT p g d P
 row : OwnI W w.heap.size v O
 own : ∀ k, v.ownBlock = some k → X k
 sm : d.Small N
section
variable {w W W' : World} {pb l b N : Nat} {p p' : Pg} {g g' : Lg} {d d' : Dsk} {X X' : Nat → Prop} {O P P' : List Nat} {v v' : Value}
theorem OwSt.below (h : OwSt w W pb l b p g d v O P N X) (hb : Below W.heap.size W W') : OwSt w W' pb l b p g d v O P N X :=
 ⟨h.px.below hb, h.ow, h.row.keep (fun k hk => hb.block k (h.px.xlt k (h.own k hk))), h.own, h.sm⟩
theorem OwSt.alloc (h : OwSt w W pb l b p g d v O P N X) (hP : P.length ≤ 200) : Calls Tryz.prog 9 #[.pointer (some ⟨pb, 0, none⟩)] W fun e w' => ∃ (n : Nat) (p' : Pg), e = .returned (.tuple #[.int .i64 (n : Int), .int .i64 0]) ∧ (2 ≤ n ∧ n ≤ 257 ∧ n ∉ P) ∧ OwSt w w' pb l b p' g d v O (P ++ [n]) N X := by
 refine (owt_alloc h.px h.ow hP).mono ?_
 rintro e w' ⟨n, p', rfl, h1, h2, h3, h4⟩
 exact ⟨n, p', rfl, h1, h2, h3, h.row.keep (fun k hk => h4 k (h.own k hk)), h.own, h.sm⟩
theorem OwSt.free (h : OwSt w W pb l b p g d v O P N X) {i : Nat} (hi : i < P.length) : Calls Tryz.prog 10 #[.pointer (some ⟨pb, 0, none⟩), .int .i64 (P[i] : Int)] W fun e w' => ∃ p' : Pg, e = .returned (.int .i64 0) ∧ OwSt w w' pb l b p' g d v O (P.eraseIdx i) N X := by
 refine (owt_free h.px h.ow hi).mono ?_
 rintro e w' ⟨p', rfl, h2, h3, h4⟩
 exact ⟨p', rfl, h2, h3, h.row.keep (fun k hk => h4 k (h.own k hk)), h.own, h.sm⟩
theorem OwSt.commit (h : OwSt w W pb l b p g d v O P N X) (hN : N + 33554432 ≤ 1099511527776) : Calls Tryz.prog 11 #[.pointer (some ⟨pb, 0, none⟩)] W fun e w1 => e = .returned (.int .i64 0) ∧
  Calls Tryz.prog 12 #[.pointer (some ⟨b, 0, none⟩), .slice none 0 0] w1 fun e w2 => e = .returned (.int .i64 0) ∧
  Calls Tryz.prog 7 #[.pointer (some ⟨b, 0, none⟩)] w2 fun e w3 => ∃ pb2 l2, e = .returned (.tuple #[.pointer (some ⟨pb2, 0, none⟩), .int .i64 0]) ∧
  Calls Tryz.prog 8 #[.pointer (some ⟨pb2, 0, none⟩)] w3 fun e w4 => ∃ p' g' d', e = .returned (.int .i64 0) ∧ OwSt w w4 pb2 l2 b p' g' d' v O P (N + 8519680) X := by
 refine (owt_commit h.px h.ow h.sm hN).mono ?_
 rintro e w1 ⟨g1, d1, rfl, a1, a2, a3, a4⟩
 refine ⟨rfl, (owc_crash a1 a2 a3 (by omega)).mono ?_⟩
 rintro e w2 ⟨g2, d2, rfl, b1, b2, b3, b4, b5⟩
 refine ⟨rfl, (px_again b3 b1).mono ?_⟩
 rintro e w3 ⟨pb2, l2, rfl, c1, c2⟩
 refine ⟨pb2, l2, rfl, (owc_begin c1 rfl rfl b2).mono ?_⟩
 rintro e w4 ⟨p', rfl, d1, d2, d3⟩
 exact ⟨p', g2, _, rfl, d1, d2, h.row.keep (fun k hk => (d3 k (h.own k hk)).trans ((c2 k (h.own k hk)).trans ((b5 k (h.own k hk)).trans (a4 k (h.own k hk))))), h.own, b4⟩
theorem OwSt.turn (h : OwSt w W pb l b p g d v O P N X) {O' : List Nat} (hg : W.grownBy W' v.ownBlock) (hr : OwnI W' w.heap.size v' O') (hat : v'.ownBlock = v.ownBlock ∨ ∀ k, v'.ownBlock = some k → W.heap.size ≤ k) : ∃ X', OwSt w W' pb l b p g d v' O' P N X' := by
 have hlt : ∀ k, v'.ownBlock = some k → k < W'.heap.size := fun k hk => by
  rcases hr with hr | ⟨q, cur, rfl, h1, h2, h3⟩
  ·exact (row_base hr hk).2
  ·have : q = k := by injection hk
   rw [← this]
   exact lt_of_block h2
 refine ⟨fun k => X k ∨ v'.ownBlock = some k, h.px.grow hg (fun k hk => h.own k hk) (fun k hk => ?_) (fun k hk => ?_) (fun k hk => ?_), h.ow, hr, fun k hk => .inr hk, h.sm⟩
 ·rcases h.row with hr | ⟨q, cur, rfl, h1, h2, h3⟩
  ·exact (row_base hr hk).1
  ·have : q = k := by injection hk
   rw [← this]
   exact h1
 ·rcases hk with hk | hk
  ·exact .inl hk
  ·rcases hat with e | e
   ·exact .inl (h.own k (e ▸ hk))
   ·exact .inr (e k hk)
 ·rcases hk with hk | hk
  ·exact Nat.lt_of_lt_of_le (h.px.xlt k hk) hg.size
  ·exact hlt k hk
end
end Go.Proofs.YtaelhejmedjgiaaGreat
