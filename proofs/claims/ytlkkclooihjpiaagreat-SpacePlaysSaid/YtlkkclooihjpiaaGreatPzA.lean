/- SpacePlays: the document's world: its models, and what it is in memory. -/
import Derived.Test.YtlkkclooihjpiaaGreatDkM
set_option linter.unusedVariables false
set_option linter.unusedSimpArgs false
namespace Go.Proofs.YtlkkclooihjpiaaGreat
open Go.RowKit Go.Maps
set_option maxRecDepth 20000
structure RSt where
 pages : Int
 free : List Nat
 commits : Int
 roots : List Int
structure RWd where
 sure : RSt
 inn : Bool
 now : RSt
 saves : List RSt
def rst0 : RSt := ⟨0, [], 0, [0, 0, 0, 0, 0, 0, 0, 0]⟩
def rwd0 : RWd := ⟨rst0, false, rst0, []⟩
def RWd.st (m : RWd) : RSt := if m.inn then m.now else m.sure
def rbeginM (m : RWd) : Int × RWd := if m.inn then (9, m) else (0, { m with inn := true, now := { m.sure with pages := if m.sure.pages = 0 then 1 else m.sure.pages } })
def rallocM (m : RWd) : Int × Int × RWd :=
 if m.inn = false then (0, 9, m)
 else if m.now.free ≠ [] then (((m.now.free.getLast?.getD 0 : Nat) : Int), 0, { m with now := { m.now with free := m.now.free.dropLast } })
 else if m.now.pages = 256 then (0, 8, m) else (m.now.pages + 1, 0, { m with now := { m.now with pages := m.now.pages + 1 } })
def rfreeM (m : RWd) (n : Int) : Int × RWd := if m.inn = false then (9, m) else if n < 2 ∨ m.now.pages < n then (5, m) else (0, { m with now := { m.now with free := m.now.free ++ [n.toNat] } })
def rrootM (m : RWd) (i n : Int) : Int × RWd := if m.inn = false then (9, m) else if i < 0 ∨ 8 ≤ i ∨ n < 0 ∨ m.now.pages < n then (2, m) else (0, { m with now := { m.now with roots := m.now.roots.set i.toNat n } })
def rsaveM (m : RWd) : Int × Int × RWd := if m.inn = false then (0, 9, m) else ((m.saves.length : Int) + 1, 0, { m with saves := m.saves ++ [m.now] })
def rbackM (m : RWd) (k : Int) : Int × RWd := if m.inn = false then (9, m) else if k < 1 ∨ (m.saves.length : Int) < k then (5, m) else (0, { m with now := m.saves.getD (k.toNat - 1) rst0, saves := m.saves.take k.toNat })
def rrollM (m : RWd) : Int × RWd := if m.inn = false then (9, m) else (0, { m with inn := false, saves := [] })
def bumpSt (s : RSt) : RSt := { s with commits := IntKind.u64.wrap (s.commits + 1) }
def rcommitM (m : RWd) : Int × RWd := if m.inn = false then (9, m) else (0, ⟨bumpSt m.now, false, bumpSt m.now, []⟩)
theorem wpList_append_rows_at {P : Program} {w : World} {ops : Array Oper} {rest : List Oper} {o : Oper} {a : Act} {Q : Exit → Act → World → Prop} (hgd : o.guard = none) (s x : Operand) (t : TypeId)
  (ho : o.op = .call { callee := .builtin .append, args := #[s, x], argTypes := #[t, t] })
  (base base2 : Nat) (e : TypeId) (i : TypeInfo) (z : Value) (size bytes : Nat) (ht : P.underlying t = some (.slice e)) (hi : P.info? e = some i) (hz : i.zero = some z)
  (hsize : i.size = size) (hby : i.bytes = bytes) (hzs : z.cells.size = size) (hsz : 0 < size)
  (v : Value) (n : Nat) (xs : List Value) (hs : a.eval s = v) (hown : w.ownsRow base e size v n xs)
  (v2 : Value) (m : Nat) (news : List Value) (hx : a.eval x = v2) (hown2 : w.ownsRow base2 e size v2 m news) (h1 : ∀ u ∈ news, u.oneCell' = true)
  (h63 : n + m ≤ maxLen) (hbytes : (n + m) * bytes ≤ 140737488355328) (hbase : base ≤ w.heap.size)
  (h : ∀ v' w', w'.ownsRow base e size v' (n + m) (xs ++ news) → w.grownBy w' v.ownBlock → (v'.ownBlock = v.ownBlock ∨ v'.ownBlock = some w.heap.size) → wpList P ops Q rest (a.put o.dst v') w') : wpList P ops Q (o :: rest) a w := by
 rcases hown2.2 with ⟨rfl, rfl⟩ | ⟨g, cap, cur, rfl, _, hg, hnc, _, _, _⟩
 ·have hnil : news = [] := List.eq_nil_of_length_eq_zero (by simpa using hown2.1)
  subst hnil
  exact wpList_append_own_none hgd s x t ho base e i size ht hi v n xs hs hown hx (h v w (by simpa using hown) (World.grownBy.refl _ _) (.inl rfl))
 ·exact wpList_append_own_at w hgd s x t ho base e i z size bytes ht hi hz hsize hby hzs hsz v n xs hs hown ⟨g, 0, none⟩ m cap news hx hown2.1 (hown2.cells rfl) h1 h63 hbytes hbase fun v' w' h2 h3 _ h5 => h v' w' h2 h3 h5
def intsN (xs : List Nat) : List Value := xs.map fun (x : Nat) => .int .i64 (x : Int)
theorem intsN_one (xs : List Nat) : ∀ u ∈ intsN xs, u.oneCell' = true := by
 intro u hu
 obtain ⟨x, -, rfl⟩ := List.mem_map.1 hu
 rfl
def IRow (W : World) (base : Nat) (v : Value) (xs : List Nat) : Prop := W.ownsRow base 3 1 v xs.length (intsN xs)
def rstCells (s : RSt) (fv : Value) : List Value := .int .i64 s.pages :: fv :: .int .u64 s.commits :: s.roots.map (.int .i64 ·)
def rstV (s : RSt) (fv : Value) : Value := .agg (rstCells s fv).toArray
def rwdCells (m : RWd) (fs fn sv : Value) : List Value := rstCells m.sure fs ++ (.bool m.inn :: (rstCells m.now fn ++ [sv]))
def savesC (l : List (RSt × Value)) : List Value := l.flatMap fun x => rstCells x.1 x.2
structure WdAt (W : World) (base wb : Nat) (m : RWd) (fs fn sv : Value) (l : List (RSt × Value)) : Prop where
 blk : W.heap[wb]? = some (.cells (rwdCells m fs fn sv).toArray 56 (0, 0))
 ge : base ≤ wb
 l1 : m.sure.roots.length = 8
 l2 : m.now.roots.length = 8
 l3 : ∀ x ∈ l, x.1.roots.length = 8
 rs : IRow W base fs m.sure.free
 rn : IRow W base fn m.now.free
 rv : W.ownsRow base 53 11 sv l.length (savesC l)
 ls : l.map (·.1) = m.saves
 lf : ∀ x ∈ l, IRow W base x.2 x.1.free
 apart : m.inn = true → ∀ k, fn.ownBlock = some k → fs.ownBlock ≠ some k ∧ ∀ x ∈ l, x.2.ownBlock ≠ some k
def WdB (wb : Nat) (fs fn sv : Value) (l : List (RSt × Value)) (k : Nat) : Prop := k = wb ∨ fs.ownBlock = some k ∨ fn.ownBlock = some k ∨ sv.ownBlock = some k ∨ ∃ x ∈ l, x.2.ownBlock = some k
def WdX (W : World) (base wb : Nat) (m : RWd) (B : Nat → Prop) : Prop := ∃ fs fn sv l, WdAt W base wb m fs fn sv l ∧ ∀ k, WdB wb fs fn sv l k → B k
def moreB (W W' : World) (B : Nat → Prop) (k : Nat) : Prop := B k ∨ (W.heap.size ≤ k ∧ k < W'.heap.size)
structure WdDid (W W' : World) (base wb : Nat) (m : RWd) (B : Nat → Prop) : Prop where
 x : WdX W' base wb m (moreB W W' B)
 f : Frm B W W'
section
variable {W W' : World} {base wb : Nat} {m m' : RWd} {fs fn sv : Value} {l : List (RSt × Value)} {B : Nat → Prop} {s : RSt} {fv : Value}
theorem WdAt.keep (h : WdAt W base wb m fs fn sv l) (hk : ∀ k, WdB wb fs fn sv l k → W'.heap[k]? = W.heap[k]?) : WdAt W' base wb m fs fn sv l :=
 ⟨(hk wb (.inl rfl)).trans h.blk, h.ge, h.l1, h.l2, h.l3, row_keep h.rs (fun k e => hk k (.inr (.inl e))), row_keep h.rn (fun k e => hk k (.inr (.inr (.inl e)))), row_keep h.rv (fun k e => hk k (.inr (.inr (.inr (.inl e))))), h.ls, fun x hx => row_keep (h.lf x hx) (fun k e => hk k (.inr (.inr (.inr (.inr ⟨x, hx, e⟩))))), h.apart⟩
theorem WdX.keep (h : WdX W base wb m B) (hk : ∀ k, B k → W'.heap[k]? = W.heap[k]?) : WdX W' base wb m B := by
 obtain ⟨fs, fn, sv, l, h1, h2⟩ := h
 exact ⟨fs, fn, sv, l, h1.keep (fun k e => hk k (h2 k e)), h2⟩
theorem roots8 {r : List Int} (h : r.length = 8) : ∃ r0 r1 r2 r3 r4 r5 r6 r7, r = [r0, r1, r2, r3, r4, r5, r6, r7] := by
 match r, h with
 | [r0, r1, r2, r3, r4, r5, r6, r7], _ => exact ⟨r0, r1, r2, r3, r4, r5, r6, r7, rfl⟩
theorem row_low {w : World} {base b2 n size : Nat} {e : TypeId} {v : Value} {xs : List Value} (h : w.ownsRow base e size v n xs) (hb : b2 ≤ base) : w.ownsRow b2 e size v n xs := by
 refine ⟨h.1, ?_⟩
 rcases h.2 with h0 | ⟨g, cap, cur, rfl, h1, h2⟩
 ·exact .inl h0
 ·exact .inr ⟨g, cap, cur, rfl, Nat.le_trans hb h1, h2⟩
theorem row_empty (W : World) : (W.alloc (.cells #[] 3)).ownsRow W.heap.size 3 1 (.slice (some ⟨W.heap.size, 0, none⟩) 0 0) 0 [] := ⟨rfl, .inr ⟨W.heap.size, 0, #[], rfl, Nat.le_refl _, heap_alloc_new _ _, Nat.le_refl _, by decide, rfl, rfl⟩⟩
theorem row_empty2 {b : Nat} (W : World) (h : b = W.heap.size) : (W.alloc (.cells #[] 3)).ownsRow b 3 1 (.slice (some ⟨b, 0, none⟩) 0 0) 0 [] := by rw [h]; exact row_empty W
theorem IRow.shape {xs : List Nat} (h : IRow W base fv xs) : ∃ ao cap, fv = .slice ao xs.length cap ∧ xs.length ≤ cap ∧ cap ≤ maxLen ∧ (ao = none → xs.length = 0) ∧ ∀ (i : Nat) (hi : i < xs.length), ∃ g, ao = some ⟨g, 0, none⟩ ∧ base ≤ g ∧ g < W.heap.size ∧ W.cell? ⟨g, i, none⟩ = some (.int .i64 (xs[i] : Int)) := by
 rcases h with ⟨h0, ⟨rfl, h1⟩ | ⟨g, cap, cur, rfl, h2, h3, h4, h5, h6, h7⟩⟩
 ·exact ⟨none, 0, by rw [h1], by omega, by simp [maxLen], fun _ => h1, fun i hi => by omega⟩
 ·refine ⟨_, cap, rfl, h4, h5, (fun e => by cases e), fun i hi => ⟨g, rfl, h2, lt_of_block h3, ?_⟩⟩
  rw [Nat.mul_one] at h7
  have e : cur.toList[i]? = some (.int .i64 (xs[i] : Int)) := by
   have e1 : (cur.toList.take xs.length)[i]? = some (.int .i64 (xs[i] : Int)) := by rw [h7]; simp [hi, intsN]
   rwa [List.getElem?_take_of_lt hi] at e1
  rw [cell_of_block h3]
  simpa using e
theorem frm11 {S : Nat → Prop} {W0 w : World} {z : Nat} (h : Frm S W0 w) (hz : S z ∨ W0.heap.size ≤ z) (o0 o1 o2 o3 o4 o5 o6 o7 o8 o9 o10 : Nat) (a0 a1 a2 a3 a4 a5 a6 a7 a8 a9 a10 : Value) : Frm S W0 (((((((((((w.setCell ⟨z, o0, none⟩ a0).setCell ⟨z, o1, none⟩ a1).setCell ⟨z, o2, none⟩ a2).setCell ⟨z, o3, none⟩ a3).setCell ⟨z, o4, none⟩ a4).setCell ⟨z, o5, none⟩ a5).setCell ⟨z, o6, none⟩ a6).setCell ⟨z, o7, none⟩ a7).setCell ⟨z, o8, none⟩ a8).setCell ⟨z, o9, none⟩ a9).setCell ⟨z, o10, none⟩ a10) := by
 iterate 11 refine Frm.setCell ?_ hz _
 exact h
theorem cells11w {W : World} {b : Nat} {T : TypeId} {a0 a1 a2 a3 a4 a5 a6 a7 a8 a9 a10 : Value} (h : W.heap[b]? = some (.cells #[a0, a1, a2, a3, a4, a5, a6, a7, a8, a9, a10] T (0, 0))) :
  W.cell? ⟨b, 0, none⟩ = some a0 ∧ W.cell? ⟨b, 1, none⟩ = some a1 ∧ W.cell? ⟨b, 2, none⟩ = some a2 ∧ W.cell? ⟨b, 3, none⟩ = some a3 ∧ W.cell? ⟨b, 4, none⟩ = some a4 ∧ W.cell? ⟨b, 5, none⟩ = some a5 ∧ W.cell? ⟨b, 6, none⟩ = some a6 ∧ W.cell? ⟨b, 7, none⟩ = some a7 ∧ W.cell? ⟨b, 8, none⟩ = some a8 ∧ W.cell? ⟨b, 9, none⟩ = some a9 ∧ W.cell? ⟨b, 10, none⟩ = some a10 ∧ (∀ o, W.frozen? ⟨b, o, none⟩ = false) := by
 refine ⟨?_, ?_, ?_, ?_, ?_, ?_, ?_, ?_, ?_, ?_, ?_, fun o => by simp [World.frozen?, h]⟩ <;> simp [World.cell?, h]
theorem cells24w {W : World} {b : Nat} {T : TypeId} {a0 a1 a2 a3 a4 a5 a6 a7 a8 a9 a10 a11 a12 a13 a14 a15 a16 a17 a18 a19 a20 a21 a22 a23 : Value} (h : W.heap[b]? = some (.cells #[a0, a1, a2, a3, a4, a5, a6, a7, a8, a9, a10, a11, a12, a13, a14, a15, a16, a17, a18, a19, a20, a21, a22, a23] T (0, 0))) :
  W.cell? ⟨b, 0, none⟩ = some a0 ∧ W.cell? ⟨b, 1, none⟩ = some a1 ∧ W.cell? ⟨b, 2, none⟩ = some a2 ∧ W.cell? ⟨b, 3, none⟩ = some a3 ∧ W.cell? ⟨b, 4, none⟩ = some a4 ∧ W.cell? ⟨b, 5, none⟩ = some a5 ∧ W.cell? ⟨b, 6, none⟩ = some a6 ∧ W.cell? ⟨b, 7, none⟩ = some a7 ∧ W.cell? ⟨b, 8, none⟩ = some a8 ∧ W.cell? ⟨b, 9, none⟩ = some a9 ∧ W.cell? ⟨b, 10, none⟩ = some a10 ∧ W.cell? ⟨b, 11, none⟩ = some a11 ∧ W.cell? ⟨b, 12, none⟩ = some a12 ∧ W.cell? ⟨b, 13, none⟩ = some a13 ∧ W.cell? ⟨b, 14, none⟩ = some a14 ∧ W.cell? ⟨b, 15, none⟩ = some a15 ∧ W.cell? ⟨b, 16, none⟩ = some a16 ∧ W.cell? ⟨b, 17, none⟩ = some a17 ∧ W.cell? ⟨b, 18, none⟩ = some a18 ∧ W.cell? ⟨b, 19, none⟩ = some a19 ∧ W.cell? ⟨b, 20, none⟩ = some a20 ∧ W.cell? ⟨b, 21, none⟩ = some a21 ∧ W.cell? ⟨b, 22, none⟩ = some a22 ∧ W.cell? ⟨b, 23, none⟩ = some a23 ∧ (∀ o, W.frozen? ⟨b, o, none⟩ = false) := by
 refine ⟨?_, ?_, ?_, ?_, ?_, ?_, ?_, ?_, ?_, ?_, ?_, ?_, ?_, ?_, ?_, ?_, ?_, ?_, ?_, ?_, ?_, ?_, ?_, ?_, fun o => by simp [World.frozen?, h]⟩ <;> simp [World.cell?, h]
set_option maxHeartbeats 4000000 in
set_option maxRecDepth 20000 in
theorem rcopied_any (h : IRow W base fv s.free) (hr : s.roots.length = 8) (hl : s.free.length ≤ 900) (hb : base ≤ W.heap.size) : Calls Tryz.prog 68 #[rstV s fv] W fun e w' => ∃ fv', e = .returned (rstV s fv') ∧ IRow w' W.heap.size fv' s.free ∧ Below W.heap.size W w' := by
 obtain ⟨P, F, K, r⟩ := s
 obtain ⟨r0, r1, r2, r3, r4, r5, r6, r7, rfl⟩ := roots8 hr
 dsimp only at h hl
 unfold rstV rstCells
 simp only [List.map_cons, List.map_nil]
 obtain ⟨ao, cap, rfl, -⟩ := h.shape
 have hk3 := fun (w3 : World) (hb : Below W.heap.size W w3) => row_keep h (w' := w3) (fun k hk => hb.block k (row_base h hk).2)
 obtain ⟨n, hn⟩ : ∃ n, n = F.length := ⟨_, rfl⟩
 rw [← hn] at hk3 ⊢
 have HK := hid hk3
 obtain ⟨i0, hi, hz0, hz1, hz2⟩ := info_parts (P := Tryz.prog) (e := 3) (z := .int .i64 0) (size := 1) (bytes := 8) (by kernel_rfl)
 have Hn := hid hn
 have hl9 : n ≤ 900 := by omega
 clear h hr hl hn hk3
 go_enter Tryz.func68, Tryz.ntmps68
 go_wp2_with (first
  | (at_builtin; go_must (refine wpList_append_rows_at rfl _ _ 51 rfl (W.heap.size + 1 + 1) base 3 i0 _ 1 8 Tryz.underlying51 hi hz0 hz1 hz2 rfl (by decide) (.slice (some ⟨W.heap.size + 1 + 1, 0, none⟩) 0 0) 0 [] rfl (row_empty2 _ (by simp)) (.slice ao n cap) n (intsN F) rfl (HK.out _ ((((Below.refl _ W).alloc (Nat.le_refl _) _).alloc (by simp) _).alloc (by simp; omega) _)) (intsN_one _) (by simp only [maxLen]; omega) (by omega) (by simp) ?_); intro v' w4 hown hgr hat; simp only [Nat.zero_add, List.nil_append] at hown; have HOwn := hid hown; obtain ⟨ao', cap', rfl⟩ : ∃ ao' cap', v' = .slice ao' n cap' := (row_form hown).elim (fun e => ⟨none, 0, by rw [e.1, e.2]⟩) (fun ⟨q, c, e⟩ => ⟨_, c, e⟩); have hbx : w4.heap[W.heap.size]? = some (.cells #[.int .i64 P, .slice ao n cap, .int .u64 K, .int .i64 r0, .int .i64 r1, .int .i64 r2, .int .i64 r3, .int .i64 r4, .int .i64 r5, .int .i64 r6, .int .i64 r7] 53 (0, 0)) := (hgr.block W.heap.size (by simp; omega) (by simp [Value.ownBlock]; try omega)).trans (heap_alloc_old (heap_alloc_old (heap_alloc_new _ _))); have hby : w4.heap[W.heap.size + 1]? = some (.cells #[.int .i64 0, .slice none 0 0, .int .u64 0, .int .i64 0, .int .i64 0, .int .i64 0, .int .i64 0, .int .i64 0, .int .i64 0, .int .i64 0, .int .i64 0] 53 (0, 0)) := (hgr.block (W.heap.size + 1) (by simp) (by simp [Value.ownBlock]; try omega)).trans (heap_alloc_old (by have := heap_alloc_new (W.alloc (.cells #[.int .i64 P, .slice ao n cap, .int .u64 K, .int .i64 r0, .int .i64 r1, .int .i64 r2, .int .i64 r3, .int .i64 r4, .int .i64 r5, .int .i64 r6, .int .i64 r7] 53)) (.cells #[.int .i64 0, .slice none 0 0, .int .u64 0, .int .i64 0, .int .i64 0, .int .i64 0, .int .i64 0, .int .i64 0, .int .i64 0, .int .i64 0, .int .i64 0] 53); simpa using this)); obtain ⟨x0, x1, x2, x3, x4, x5, x6, x7, x8, x9, x10, xf⟩ := cells11w hbx; obtain ⟨y0, y1, y2, y3, y4, y5, y6, y7, y8, y9, y10, yf⟩ := cells11w hby; have xf1 := xf 1; have yfn := fun o => yf o; have HGr := hid hgr; have HB1 := hid hbx; have HB2 := hid hby; clear hown hgr hat hbx hby xf)
  | go_in)
 refine bodyPost_ret (v := .agg #[.int .i64 P, .slice ao' n cap', .int .u64 K, .int .i64 r0, .int .i64 r1, .int .i64 r2, .int .i64 r3, .int .i64 r4, .int .i64 r5, .int .i64 r6, .int .i64 r7]) (by simp [results, Tryz.results68, go_sem, y0, y1, y2, y3, y4, y5, y6, y7, y8, y9, y10, yf]) rfl ?_
 have hown := HOwn.out
 have hn1 := Hn.out
 have hf := frm11 (((Frm.refl (fun k => k = W.heap.size ∨ k = W.heap.size + 1) w4).setCell (p := ⟨W.heap.size, 1, none⟩) (.inl (.inl rfl)) (.slice ao' n cap'))) (z := W.heap.size + 1) (.inl (.inr rfl)) 0 1 2 3 4 5 6 7 8 9 10 (.int .i64 P) (.slice ao' n cap') (.int .u64 K) (.int .i64 r0) (.int .i64 r1) (.int .i64 r2) (.int .i64 r3) (.int .i64 r4) (.int .i64 r5) (.int .i64 r6) (.int .i64 r7)
 refine ⟨_, rfl, ?_, ?_⟩
 ·unfold IRow
  rw [← hn1]
  refine row_keep (row_low (b2 := W.heap.size) hown (by omega)) (fun k hk => ?_)
  have := row_base hown hk
  exact hf.block k this.2 (by omega)
 ·have hb4 : Below W.heap.size W w4 := ((((Below.refl _ W).alloc (Nat.le_refl _) _).alloc (by simp) _).alloc (by simp; omega) _).grown HGr.out (by simp; omega) (fun k e => by have e2 : W.heap.size + 1 + 1 = k := Option.some.inj e; omega)
  exact (Frm.of_below (S := fun k => k = W.heap.size ∨ k = W.heap.size + 1) hb4).trans hf |>.below (fun k hk e => by rcases e with e | e <;> omega)
end
end Go.Proofs.YtlkkclooihjpiaaGreat
