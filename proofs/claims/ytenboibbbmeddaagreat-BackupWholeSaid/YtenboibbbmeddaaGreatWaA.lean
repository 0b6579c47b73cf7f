import Derived.Test.YtenboibbbmeddaaGreatDkL
import Derived.Laws.OwnMore
import Derived.Test.YtenboibbbmeddaaGreatFrQ
set_option linter.unusedVariables false
set_option linter.unusedSimpArgs false
namespace Go.Proofs.YtenboibbbmeddaaGreat
open Go.RowKit Go.Maps
set_option maxRecDepth 20000
theorem exec_append {P : Program} {o : Oper} {a : Act} {w w' : World} {t : TypeId} {x y : Operand} {u z v : Value} (ho : o.op = .call { callee := .builtin .append, args := #[x, y], argTypes := #[t, t] }) (hx : a.eval x = u) (hy : a.eval y = z)
  (h : (Builtin.append_ #[t, t] o.type #[u, z]).run P w = .ok v w') : (execOp a.eval o).run P w = .ok (.value v) w' := by
 simp [execOp, ho, resolve, invoke, builtin, hx, hy, h, Result.andThen]
theorem run_buildSlice_none {P : Program} (w : World) (t e : TypeId) (s : Nat) (ht : P.underlying t = some (.slice e)) (hi : (P.info? e).map (·.size) = some s) :
  (Instr.buildSlice t 0 #[]).run P w = .ok (.slice (some ⟨w.heap.size, 0, none⟩) 0 0) (w.alloc (.cells #[] e)) := by
 cases hq : P.info? e with
 | none => simp [hq] at hi
 | some i =>
  have h2 : i.size = s := by simpa [hq] using hi
  have hsz : ∀ w, (sizeOf e).run P w = .ok s w := fun w => by simp [sizeOf, typeInfo, hq, h2]
  have n1 : ¬ (0 > 2 ^ 24) := by omega
  simp only [Instr.buildSlice, Sem.run_bind, run_underlying ht, Result.andThen_ok, hsz, Nat.zero_mul, n1, if_false, if_true, Sem.run_pure]
  have e1 : Instr.fill (fun i => some (i * s, s)) (Array.map (fun x => (#[] : Array Value)[x % (#[] : Array Value).size]!) (Array.range 0)) [] = some #[] := by simp [Instr.fill]
  rw [e1]
  rfl
theorem row_none {w : World} {base g size : Nat} {e : TypeId} (h : w.heap[g]? = some (.cells #[] e (0, 0))) (hb : base ≤ g) : w.ownsRow base e size (.slice (some ⟨g, 0, none⟩) 0 0) 0 [] :=
 ⟨by simp, .inr ⟨g, 0, #[], rfl, hb, h, Nat.le_refl _, by unfold maxLen; omega, by simp, by simp⟩⟩
def zeroDisk : List Value := fcells (fun _ => []) (fun _ => none) ++ fcells (fun _ => []) (fun _ => none) ++ [.slice none 0 0, .map none, .int .i64 0, .int .i64 0, .bool false]
theorem diskCells_one (d : Dsk) (nm sm : Nat → Option Nat) (lv : Value) (am : Nat) (h : lv.oneCell' = true) : ∀ u ∈ diskCells d nm sm lv am, u.oneCell' = true := by
 intro u hu
 simp only [diskCells, fcells, List.mem_append, List.mem_cons, List.not_mem_nil, or_false, List.cons_append, List.nil_append] at hu
 rcases hu with (rfl | rfl | rfl | rfl | rfl | rfl | rfl | rfl | rfl | rfl | rfl | rfl | rfl | rfl | rfl | rfl | rfl | rfl | rfl | rfl | rfl | rfl | rfl | rfl | rfl | rfl | rfl | rfl | rfl | rfl | rfl | rfl | rfl | rfl | rfl | rfl | rfl) <;> first | rfl | exact h
theorem copy_cells (d : Dsk) (nm sm : Nat → Option Nat) (lv lv2 : Value) (am am2 : Nat) : ((diskCells d nm sm lv am).toArray.setIfInBounds 32 lv2).setIfInBounds 33 (.map (some am2)) = (diskCells d nm sm lv2 am2).toArray := rfl
section
variable {w : World} {b : Nat} {F : Foot} {d : Dsk} {nm sm : Nat → Option Nat} {lv : Value} {am : Nat}
theorem append_loose {W : World} {B0 base n : Nat} {l : List Chg} (hn : n = l.length) (hrow : W.ownsRow 0 103 67 lv n (chgsCells l)) (h0 : W.heap[B0]? = some (.cells #[] 103 (0, 0))) (hb : base ≤ B0) (hl : l.length ≤ 1099511627776) (hs : ∀ c ∈ l, c.bytes.length = 64) (ty : TypeId) :
  ∃ v' w', (Builtin.append_ #[70, 70] ty #[.slice (some ⟨B0, 0, none⟩) 0 0, lv]).run Tryz.prog W = .ok v' w' ∧ w'.ownsRow base 103 67 v' n (chgsCells l) ∧ W.grownBy w' (some B0) := by
 obtain ⟨i0, hi, hz0, hz1, hz2⟩ := info_parts (P := Tryz.prog) (e := 103) (z := chgV ⟨0, 0, false, nought⟩) (size := 67) (bytes := 88) (by kernel_rfl)
 have hown := row_none (size := 67) h0 hb
 rcases hrow.2 with ⟨rfl, hnil⟩ | ⟨g, cap, cur, rfl, _, hg, _⟩
 ·have h2 : n = 0 := by omega
  have h1 : l = [] := List.eq_nil_of_length_eq_zero (by omega)
  subst h1
  subst h2
  exact ⟨_, _, run_append_owned_none (P := Tryz.prog) (w := W) base 70 ty 103 i0 67 Tryz.underlying70 hi _ 0 [] hown, hown, World.grownBy.refl _ _⟩
 ·obtain ⟨v', w', hr, ho, hgr, -, -⟩ := run_append_own_at (P := Tryz.prog) W base 70 ty 103 i0 _ 67 88 Tryz.underlying70 hi hz0 hz1 hz2 rfl (by omega) _ 0 [] hown ⟨g, 0, none⟩ n cap (chgsCells l) hrow.1 (hrow.cells rfl)
   (fun u hu => by obtain ⟨c, hc, hu⟩ := List.mem_flatMap.1 hu; exact chgCells_one c u hu) (by unfold maxLen; omega) (by omega) (Nat.le_trans hb (Nat.le_of_lt (lt_of_block h0)))
  refine ⟨v', w', hr, ?_, hgr⟩
  simpa using ho
theorem DiskMem.copy (h : DiskMem w b F d nm sm lv am) {w6 : World} {v5 : Value} {A2 B1 : Nat} (hb : Below w.heap.size w w6) (hblk : w6.heap[B1]? = some (.cells (diskCells d nm sm v5 A2).toArray 72 (0, 0))) (hB1 : w.heap.size ≤ B1)
  (hrow : w6.ownsRow w.heap.size 103 67 v5 d.loose.length (chgsCells d.loose)) (harm : ArmAt w6 A2 d.narm d.armed) (hA2 : w.heap.size ≤ A2) :
  DiskMem w6 B1 ⟨fun k => k = B1 ∨ k = A2 ∨ v5.ownBlock = some k, F.sh⟩ d nm sm v5 A2 := by
 have osh : ∀ k, F.sh k → w6.heap[k]? = w.heap[k]? := fun k hk => hb.block k (h.slt k hk)
 refine ⟨hblk, fun f hf => (h.now f hf).keep fun m hm => osh m (h.nsh f hf m hm), fun f hf => (h.sure f hf).keep fun m hm => osh m (h.ssh f hf m hm), h.nsh, h.ssh, row_zero hrow, fun g hg => .inr (.inr hg), harm, .inr (.inl rfl), .inl rfl, ?_, ?_, fun k hk => Nat.lt_of_lt_of_le (h.slt k hk) hb.size, h.ok⟩
 ·rintro k (rfl | rfl | h1) h2
  ·have := h.slt _ h2; omega
  ·have := h.slt _ h2; omega
  ·have := h.slt _ h2; have := (row_base hrow h1).1; omega
 ·rintro k (rfl | rfl | h1)
  ·exact lt_of_block hblk
  ·obtain ⟨D, ⟨es, clock, hes, -⟩, -⟩ := harm; exact lt_of_block hes
  ·exact (row_base hrow h1).2
end
section
variable {w : World} {b : Nat} {F : Foot} {d : Dsk}
set_option maxHeartbeats 1000000 in
set_option maxRecDepth 100000 in
theorem copy_any (h : DiskAt w b F d) (hs : d.Small 1099511627776) :
  Calls Tryz.prog 27 #[.pointer (some ⟨b, 0, none⟩)] w fun e w' => ∃ b2 F2, e = .returned (.pointer (some ⟨b2, 0, none⟩)) ∧ DiskAt w' b2 F2 d ∧ Below w.heap.size w w' ∧ (∀ k, F2.own k → w.heap.size ≤ k) ∧ (∀ k, F2.sh k → F.sh k) := by
 obtain ⟨nm, sm, lv, am, hmem⟩ := h
 have HM := hid hmem
 obtain ⟨n, hn⟩ : ∃ n, n = d.loose.length := ⟨_, rfl⟩
 have Hn := hid hn
 have HS := hid hs
 clear hmem hn hs
 go_enter Tryz.func27, Tryz.ntmps27
 go_upto_region 3 with fail
 have Hi37 := hid (show (Tryz.prog.info? 72).map (·.size) = some (diskCells d nm sm lv am).length by rw [diskCells_length]; kernel_rfl)
 refine wp_region_lit ?_
 refine wpList_value (w' := w) rfl (.pointer (some ⟨b, 0, none⟩)) (by go_simp) ?_
 simp only [Act.put, zl0, zl1, zl2]
 refine wpList_value (w' := w) rfl (.pointer (some ⟨b, 0, none⟩)) (by go_simp) ?_
 simp only [Act.put, zl0, zl1, zl2]
 refine wpList_value rfl (.agg (diskCells d nm sm lv am).toArray) (exec_load rfl (by rfl) (run_loadAt_mid w _ _ _ _ _ (range_whole HM.out.blk) Tryz.underlying72 rfl Hi37.out)) ?_
 simp only [Act.put, zl0, zl1, zl2]
 refine wpList_value rfl (.pointer (some ⟨w.heap.size, 0, none⟩)) (w' := w.alloc (.cells (zeroDisk).toArray 72)) (by kernel_rfl) ?_
 simp only [Act.put, zl0, zl1, zl2]
 refine wpList_skip rfl (exec_store rfl rfl rfl (run_storeAt_new w 72 _ _ (by rw [List.size_toArray, diskCells_length]; kernel_rfl) (by rw [List.size_toArray, List.size_toArray, diskCells_length]; rfl) (all_oneCell_toArray (diskCells_one d nm sm lv am (by rcases HM.out.row.2 with ⟨rfl, -⟩ | ⟨g, cap, cur, rfl, -⟩ <;> rfl))))) ?_
 refine wpList_nil ?_
 simp only [Act.put, zl0, zl1, zl2]
 obtain ⟨B, hB⟩ : ∃ B, B = w.heap.size := ⟨_, rfl⟩
 rw [← hB]
 have hBn := heap_alloc_new w (.cells (diskCells d nm sm lv am).toArray 72)
 have hbelA := (Below.refl w.heap.size w).alloc (Nat.le_refl _) (.cells (diskCells d nm sm lv am).toArray 72)
 have hsz : (w.alloc (.cells (diskCells d nm sm lv am).toArray 72)).heap.size = w.heap.size + 1 := by simp
 obtain ⟨wa, hwa⟩ : ∃ wa, wa = w.alloc (.cells (diskCells d nm sm lv am).toArray 72) := ⟨_, rfl⟩
 rw [← hwa] at hBn hbelA hsz ⊢
 rw [← hB] at hBn
 have HBn := hid hBn
 have HB := hid hB
 have HbelA := hid hbelA
 have Hsz := hid hsz
 have HMA := hid (HM.out.keep (fun k hk => hbelA.block k (hk.elim (HM.out.olt k) (HM.out.slt k))) hbelA.size)
 clear hBn hB hbelA hsz hwa
 go_upto_region 4 with fail
 have h32 : wa.drew.cell? ⟨b, 32, none⟩ = some lv ∧ wa.drew.cell? ⟨b, 33, none⟩ = some (.map (some am)) := ⟨HMA.out.five.1, HMA.out.five.2.1⟩
 refine wp_region_held_drew (S := fun W => W.cell? ⟨b, 32, none⟩ = some lv ∧ W.cell? ⟨b, 33, none⟩ = some (.map (some am))) (by kernel_rfl) h32 (fun hHeld => ?_)
 refine held_take (v := ?qv1) 1 rfl (by kernel_rfl) (by kernel_rfl) (by kernel_rfl) (fun _ _ _ h => h) (by rfl) hHeld ?qy1 ?qr1
 case qy1 => (intro W hSw; obtain ⟨y1, y2⟩ := hSw; go_simp; with_reducible rfl)
 simp only [Act.put, zl0, zl1, zl2]
 refine held_take (v := ?qv2) 2 rfl (by kernel_rfl) (by kernel_rfl) (by kernel_rfl) (fun _ _ _ h => h) (by rfl) hHeld ?qy2 ?qr2
 case qy2 => (intro W hSw; obtain ⟨y1, y2⟩ := hSw; go_simp; with_reducible rfl)
 simp only [Act.put, zl0, zl1, zl2]
 refine held_take (v := ?qv3) 3 rfl (by kernel_rfl) (by kernel_rfl) (by kernel_rfl) (fun _ _ _ h => h) (by rfl) hHeld ?qy3 ?qr3
 case qy3 => (intro W hSw; obtain ⟨y1, y2⟩ := hSw; go_simp; with_reducible rfl)
 simp only [Act.put, zl0, zl1, zl2]
 refine held_take (v := ?qv4) 4 rfl (by kernel_rfl) (by kernel_rfl) (by kernel_rfl) (fun _ _ _ h => h) (by rfl) hHeld ?qy4 ?qr4
 case qy4 => (intro W hSw; obtain ⟨y1, y2⟩ := hSw; go_simp; with_reducible rfl)
 simp only [Act.put, zl0, zl1, zl2]
 refine held_take (v := ?qv6) 6 rfl (by kernel_rfl) (by kernel_rfl) (by kernel_rfl) (fun _ _ _ h => h) (by rfl) hHeld ?qy6 ?qr6
 case qy6 => (intro W hSw; obtain ⟨y1, y2⟩ := hSw; go_simp; with_reducible rfl)
 simp only [Act.put, zl0, zl1, zl2]
 refine held_take (v := ?qv7) 7 rfl (by kernel_rfl) (by kernel_rfl) (by kernel_rfl) (fun _ _ _ h => h) (by rfl) hHeld ?qy7 ?qr7
 case qy7 => (intro W hSw; obtain ⟨y1, y2⟩ := hSw; go_simp; with_reducible rfl)
 simp only [Act.put, zl0, zl1, zl2]
 refine held_take (v := ?qv8) 8 rfl (by kernel_rfl) (by kernel_rfl) (by kernel_rfl) (fun _ _ _ h => h) (by rfl) hHeld ?qy8 ?qr8
 case qy8 => (intro W hSw; obtain ⟨y1, y2⟩ := hSw; go_simp; with_reducible rfl)
 simp only [Act.put, zl0, zl1, zl2]
 refine held_take (v := ?qv9) 9 rfl (by kernel_rfl) (by kernel_rfl) (by kernel_rfl) (fun _ _ _ h => h) (by rfl) hHeld ?qy9 ?qr9
 case qy9 => (intro W hSw; obtain ⟨y1, y2⟩ := hSw; go_simp; with_reducible rfl)
 simp only [Act.put, zl0, zl1, zl2]
 have hro := row_keep (HMA.out.row) (w' := wa.drew.alloc (.cells #[] 103)) (fun x hx => (Below.heap_alloc wa.drew _ x (row_base HMA.out.row hx).2))
 rw [← Hn.out] at hro
 have h0 := heap_alloc_new wa.drew (.cells #[] 103)
 have hmem0 := (cell_of_block (heap_alloc_old (w := wa.drew) (o := .cells #[] 103) HMA.out.blk))
 refine held_one 0 (by kernel_rfl) rfl (fun K hK => ?_)
 refine step_value (by rfl) (.slice (some ⟨wa.heap.size, 0, none⟩) 0 0) (exec_buildSlice (vs := #[]) rfl (by simp) (run_buildSlice_none wa.drew 70 103 67 Tryz.underlying70 (by kernel_rfl))) ?_
 refine hK.out _ _ ⟨(hmem0 32).trans rfl, (hmem0 33).trans rfl⟩ (fun hHeld => ?_)
 clear hK K
 try simp only [Act.put, zl0, zl1, zl2]
 obtain ⟨v5, w5, hrun5, hrow5, hgr5⟩ := append_loose (base := w.heap.size + 1) Hn.out hro h0 (by show _ ≤ wa.heap.size; rw [Hsz.out]; exact Nat.le_refl _) HS.out.loose (fun c hc => (HM.out.ok.lo c hc).2.2.1) 70
 have hb5 : Below wa.heap.size wa w5 := ⟨hgr5.os, hgr5.tape, hgr5.output, Nat.le_trans (by simp) hgr5.size, fun k hk => (hgr5.block k (by simp; omega) (fun e => by cases e; exact absurd hk (Nat.lt_irrefl _))).trans (Below.heap_alloc wa.drew _ k hk)⟩
 have Hb5 := hid hb5
 have Hrow5 := hid hrow5
 clear hb5 hrow5 hgr5 hro h0 hmem0 h32
 have hm5 := HMA.out.keep (fun k hk => Hb5.out.block k (hk.elim (HMA.out.olt k) (HMA.out.slt k))) Hb5.out.size
 have hm5f := hm5.five
 refine held_one 5 (by kernel_rfl) rfl (fun K hK => ?_)
 refine step_value (by rfl) v5 (exec_append rfl (by rfl) (by rfl) hrun5) ?_
 refine hK.out _ _ ⟨hm5f.1, hm5f.2.1⟩ (fun hHeld => ?_)
 clear hK K hrun5
 try simp only [Act.put, zl0, zl1, zl2]
 obtain ⟨D, ⟨es, clock, hes, hfix⟩, hgz⟩ := hm5.arm
 have Hes := hid hes
 have Hfix := hid hfix
 have Hgz := hid hgz
 have hcl := clone_err am es clock w5 hes
 have HM5 := hid hm5
 clear hm5 hm5f hes hfix hgz
 refine held_one 10 (by kernel_rfl) rfl (fun K hK => ?_)
 go_simp
 refine hcl.mono ?_
 rintro e w6 ⟨rfl, rfl⟩
 have hm6 := cell_of_block (heap_alloc_old (o := .map es clock) HM5.out.blk)
 try dsimp only
 refine hK.out _ _ ⟨(hm6 32).trans rfl, (hm6 33).trans rfl⟩ (fun hHeld => ?_)
 clear hK K hcl
 try simp only [Act.put, zl0, zl1, zl2]
 have hB5 : w5.heap[B]? = some (.cells (diskCells d nm sm lv am).toArray 72 (0, 0)) := (Hb5.out.block B (lt_of_block HBn.out)).trans HBn.out
 have hB6 : (w5.alloc (.map es clock)).heap[B]? = some (.cells (diskCells d nm sm lv am).toArray 72 (0, 0)) := heap_alloc_old hB5
 have hA6 := heap_alloc_new w5 (.map es clock)
 have hrow6 := row_keep Hrow5.out (w' := w5.alloc (.map es clock)) (fun x hx => Below.heap_alloc w5 _ x (row_base Hrow5.out hx).2)
 have hb6 : Below w.heap.size w (w5.alloc (.map es clock)) := (then_below HbelA.out Hb5.out).alloc (Nat.le_trans HbelA.out.size Hb5.out.size) _
 have hne : B ≠ w5.heap.size := by have := lt_of_block hB5; omega
 have hle5 : w.heap.size ≤ w5.heap.size := by have := Hb5.out.size; have := HbelA.out.size; omega
 have hBb : b ≠ B := by have := lt_of_block HM.out.blk; have := HB.out; omega
 obtain ⟨A2, hA2⟩ : ∃ A2, A2 = w5.heap.size := ⟨_, rfl⟩
 obtain ⟨w6, hw6⟩ : ∃ w6, w6 = w5.alloc (.map es clock) := ⟨_, rfl⟩
 rw [← hA2] at hA6 hne hle5 ⊢
 rw [← hw6] at hB6 hA6 hrow6 hb6 hm6 hHeld ⊢
 have hf6 := fun o => free_of_block hB6 o
 have hg6 := fun o => cell_of_block hB6 o
 have hc32 : w6.cell? ⟨B, 32, none⟩ = some lv := (hg6 32).trans rfl
 have hf32 := hf6 32
 have hc33 : w6.cell? ⟨B, 33, none⟩ = some (.map (some am)) := (hg6 33).trans rfl
 have hf33 := hf6 33
 have HB6 := hid hB6
 have HA6 := hid hA6
 have Hrow6 := hid hrow6
 have Hb6 := hid hb6
 have Hne := hid hne
 have Hle := hid hle5
 have HBb := hid hBb
 have hv5 : ∃ g cap, v5 = .slice g n cap := by
  rcases row_form Hrow5.out with ⟨rfl, rfl⟩ | ⟨g, cap, rfl⟩
  ·exact ⟨_, _, rfl⟩
  ·exact ⟨_, _, rfl⟩
 obtain ⟨g5, c5, rfl⟩ := hv5
 have Hm6 := hid (show w6.cell? ⟨b, 32, none⟩ = some lv ∧ w6.cell? ⟨b, 33, none⟩ = some (.map (some am)) from ⟨(hm6 32).trans rfl, (hm6 33).trans rfl⟩)
 clear hB5 hB6 hA6 hrow6 hb6 hne hle5 hBb hm6 hf6 hg6 hA2 hw6
 refine held_take (v := ?qv11) 11 rfl (by kernel_rfl) (by kernel_rfl) (by kernel_rfl) (fun _ _ _ h => h) (by rfl) hHeld ?qy11 ?qr11
 case qy11 => (intro W hSw; obtain ⟨y1, y2⟩ := hSw; go_simp; with_reducible rfl)
 simp only [Act.put, zl0, zl1, zl2]
 refine held_one 12 (by kernel_rfl) rfl (fun K hK => ?_)
 go_simp
 refine hK.out _ _ ⟨((World.cell?_of_block (Below.heap_setCell w6 ⟨B, 32, none⟩ _ b HBb.out))).trans Hm6.out.1, ((World.cell?_of_block (Below.heap_setCell w6 ⟨B, 32, none⟩ _ b HBb.out))).trans Hm6.out.2⟩ (fun hHeld => ?_)
 clear hK K
 try simp only [Act.put, zl0, zl1, zl2]
 refine held_take (v := ?qv13) 13 rfl (by kernel_rfl) (by kernel_rfl) (by kernel_rfl) (fun _ _ _ h => h) (by rfl) hHeld ?qy13 ?qr13
 case qy13 => (intro W hSw; obtain ⟨y1, y2⟩ := hSw; go_simp; with_reducible rfl)
 simp only [Act.put, zl0, zl1, zl2]
 refine held_one 14 (by kernel_rfl) rfl (fun K hK => ?_)
 go_simp
 refine hK.out _ _ ⟨((World.cell?_of_block ((Below.heap_setCell _ ⟨B, 33, none⟩ _ b HBb.out).trans (Below.heap_setCell w6 ⟨B, 32, none⟩ _ b HBb.out)))).trans Hm6.out.1, ((World.cell?_of_block ((Below.heap_setCell _ ⟨B, 33, none⟩ _ b HBb.out).trans (Below.heap_setCell w6 ⟨B, 32, none⟩ _ b HBb.out)))).trans Hm6.out.2⟩ (fun hHeld => ?_)
 clear hK K
 try simp only [Act.put, zl0, zl1, zl2]
 refine wpAnyH_done (by kernel_rfl) ?_ _
 clear hHeld hc32 hc33 hf32 hf33
 obtain ⟨w8, hw8⟩ : ∃ w8, w8 = (w6.setCell ⟨B, 32, none⟩ (.slice g5 n c5)).setCell ⟨B, 33, none⟩ (.map (some A2)) := ⟨_, rfl⟩
 have hb8 := heap_setCell_same (heap_setCell_same HB6.out 32 (.slice g5 n c5)) 33 (.map (some A2))
 rw [copy_cells] at hb8
 have ho8 : ∀ k, k ≠ B → w8.heap[k]? = w6.heap[k]? := fun k hk => by rw [hw8]; exact (Below.heap_setCell _ ⟨B, 33, none⟩ _ k hk).trans (Below.heap_setCell w6 ⟨B, 32, none⟩ _ k hk)
 have hz8 : w8.heap.size = w6.heap.size := by rw [hw8]; simp
 have hos8 : w8.os = w6.os ∧ w8.tape = w6.tape ∧ w8.output = w6.output := by rw [hw8]; exact ⟨rfl, rfl, rfl⟩
 rw [← hw8] at hb8 ⊢
 have hB8 : Below w.heap.size w w8 := ⟨hos8.1.trans Hb6.out.os, hos8.2.1.trans Hb6.out.tape, hos8.2.2.trans Hb6.out.output, by rw [hz8]; exact Hb6.out.size, fun k hk => (ho8 k (by have := HB.out; omega)).trans (Hb6.out.block k hk)⟩
 have hrow8 : w8.ownsRow w.heap.size 103 67 (.slice g5 n c5) d.loose.length (chgsCells d.loose) := by
  rw [← Hn.out]
  have h1 := row_keep Hrow6.out (w' := w8) (fun x hx => ho8 x (by have := (row_base Hrow6.out hx).1; have := HB.out; omega))
  refine ⟨h1.1, h1.2.imp id ?_⟩
  rintro ⟨g, cap, cur, e, hb, r⟩
  exact ⟨g, cap, cur, e, by omega, r⟩
 have harm8 : ArmAt w8 A2 d.narm d.armed := ⟨D, ⟨es, clock, (ho8 A2 (fun e => Hne.out e.symm)).trans HA6.out, Hfix.out⟩, Hgz.out⟩
 have hmem8 := HM.out.copy hB8 hb8 (by have := HB.out; omega) hrow8 harm8 Hle.out
 have HMEM8 := hid hmem8
 have HB8 := hid hB8
 have Hg8 := hid (fun x hx => (row_base hrow8 hx).1 : ∀ x, (Value.slice g5 n c5).ownBlock = some x → w.heap.size ≤ x)
 clear hmem8 hB8 hrow8 harm8 hb8 ho8 hz8 hos8 hw8
 go_wp2_with fail
 go_ret
 refine ⟨B, _, rfl, ⟨_, _, _, _, HMEM8.out⟩, HB8.out, ?_, fun k hk => hk⟩
 rintro k (rfl | rfl | h1)
 ·have := HB.out; omega
 ·exact Hle.out
 ·exact Hg8.out k h1
end
end Go.Proofs.YtenboibbbmeddaaGreat
namespace Go.Proofs.YtenboibbbmeddaaGreat
open Go.RowKit Go.Maps
set_option maxRecDepth 20000
structure Lg where
 head : Hd
 has : Bool
 list : List Fr
 pair : Int × Int
 torn : Bool
 off : Bool
structure Lg.Ok (g : Lg) : Prop where
 num : HdWf g.head
 pages : 0 ≤ g.head.pages ∧ g.head.pages ≤ 256
 frames : 0 ≤ g.head.frames ∧ g.head.frames ≤ 256
 pair : PairWf g.pair
 many : g.list.length ≤ 256
 data : ∀ f ∈ g.list, frOk f = true
def frCells (f : Fr) : List Value := [.int .i64 f.page, .int .i64 f.commit, .string (bs f.data)]
def frsCells (l : List Fr) : List Value := l.flatMap frCells
theorem frsCells_length : ∀ l : List Fr, (frsCells l).length = l.length * 3
 | [] => rfl
 | f :: r => by
  have := frsCells_length r
  simp only [frsCells, List.flatMap_cons, List.length_append, List.length_cons] at this ⊢
  rw [this]
  simp [frCells]
  omega
theorem frsCells_snoc (l : List Fr) (f : Fr) : frsCells (l ++ [f]) = frsCells l ++ frCells f := by simp [frsCells]
theorem frsCells_append (l k : List Fr) : frsCells (l ++ k) = frsCells l ++ frsCells k := by simp [frsCells]
theorem frCells_one (f : Fr) : ∀ u ∈ frCells f, u.oneCell' = true := by
 intro u hu
 simp only [frCells, List.mem_cons, List.not_mem_nil, or_false] at hu
 rcases hu with rfl | rfl | rfl <;> rfl
theorem frsCells_one (l : List Fr) : ∀ u ∈ frsCells l, u.oneCell' = true := by
 intro u hu
 obtain ⟨f, _, h⟩ := List.mem_flatMap.1 hu
 exact frCells_one f u h
theorem frsCells_get : ∀ (l : List Fr) (k : Nat) (h : k < l.length), (frsCells l)[k * 3]? = some (.int .i64 l[k].page) ∧ (frsCells l)[k * 3 + 1]? = some (.int .i64 l[k].commit) ∧ (frsCells l)[k * 3 + 2]? = some (.string (bs l[k].data))
 | f :: r, 0, _ => ⟨rfl, rfl, rfl⟩
 | f :: r, k + 1, h => by
  have := frsCells_get r k (by simpa using h)
  have e : frsCells (f :: r) = frCells f ++ frsCells r := rfl
  have h3 : (frCells f).length = 3 := rfl
  rw [e, List.getElem?_append_right (by omega), List.getElem?_append_right (by omega), List.getElem?_append_right (by omega)]
  have e0 : (k + 1) * 3 - (frCells f).length = k * 3 := by omega
  have e1 : (k + 1) * 3 + 1 - (frCells f).length = k * 3 + 1 := by omega
  have e2 : (k + 1) * 3 + 2 - (frCells f).length = k * 3 + 2 := by omega
  rw [e0, e1, e2]
  simpa using this
def logCells (b : Nat) (g : Lg) (lv : Value) : List Value :=
 [.pointer (some ⟨b, 0, none⟩), .int .u64 g.head.number, .int .i64 g.head.frames, .int .i64 g.head.pages, .bool g.has, lv, .int .u32 g.pair.1, .int .u32 g.pair.2, .bool g.torn, .bool g.off]
structure LogMem (w : World) (l b : Nat) (F : Foot) (G : Nat → Prop) (g : Lg) (lv : Value) : Prop where
 blk : w.heap[l]? = some (.cells (logCells b g lv).toArray 121 (0, 0))
 row : w.ownsRow 0 128 3 lv g.list.length (frsCells g.list)
 rown : ∀ k, lv.ownBlock = some k → G k
 lown : G l
 gout : ∀ k, G k → ¬ F.own k ∧ ¬ F.sh k
 glt : ∀ k, G k → k < w.heap.size
 ok : g.Ok
structure LgAt (w : World) (l b : Nat) (F : Foot) (G : Nat → Prop) (g : Lg) (d : Dsk) : Prop where
 disk : DiskAt w b F d
 log : ∃ lv, LogMem w l b F G g lv
structure LgStep (F F' : Foot) (G G' : Nat → Prop) (w w' : World) : Prop where
 frm : Frm (fun k => F.own k ∨ G k) w w'
 own : ∀ k, F'.own k → F.own k ∨ w.heap.size ≤ k
 sh : ∀ k, F'.sh k → F.sh k ∨ w.heap.size ≤ k
 gr : ∀ k, G' k → G k ∨ w.heap.size ≤ k
theorem LgStep.refl (F : Foot) (G : Nat → Prop) (w : World) : LgStep F F G G w w := ⟨Frm.refl _ _, fun _ h => .inl h, fun _ h => .inl h, fun _ h => .inl h⟩
theorem LgStep.trans {F F' F'' : Foot} {G G' G'' : Nat → Prop} {a b c : World} (h : LgStep F F' G G' a b) (k : LgStep F' F'' G' G'' b c) : LgStep F F'' G G'' a c :=
 ⟨h.frm.then k.frm (fun i hi h1 => h1.elim (fun h1 => .inl ((h.own i h1).resolve_right (by omega))) (fun h1 => .inr ((h.gr i h1).resolve_right (by omega)))),
  fun i h1 => (k.own i h1).elim (h.own i) (fun h2 => .inr (Nat.le_trans h.frm.size h2)),
  fun i h1 => (k.sh i h1).elim (h.sh i) (fun h2 => .inr (Nat.le_trans h.frm.size h2)),
  fun i h1 => (k.gr i h1).elim (h.gr i) (fun h2 => .inr (Nat.le_trans h.frm.size h2))⟩
theorem LgStep.below {F : Foot} {G : Nat → Prop} {w w' : World} (h : Below w.heap.size w w') : LgStep F F G G w w' := ⟨Frm.of_below h, fun _ h => .inl h, fun _ h => .inl h, fun _ h => .inl h⟩
theorem LgStep.of_foot {F F' : Foot} {G : Nat → Prop} {w w' : World} (h : FootStep F F' w w') : LgStep F F' G G w w' := ⟨h.frm.mono fun _ h => .inl h, h.own, h.sh, fun _ h => .inl h⟩
def LgDid (w : World) (l b : Nat) (F : Foot) (G : Nat → Prop) (g' : Lg) (d' : Dsk) (w' : World) : Prop := ∃ F' G', LgAt w' l b F' G' g' d' ∧ LgStep F F' G G' w w'
section
variable {w w' : World} {l b : Nat} {F F' : Foot} {G : Nat → Prop} {g : Lg} {d d' : Dsk} {lv : Value}
theorem LogMem.keep (h : LogMem w l b F G g lv) (hk : ∀ k, G k → w'.heap[k]? = w.heap[k]?) (hs : w.heap.size ≤ w'.heap.size) (hF : ∀ k, k < w.heap.size → (F'.own k → F.own k) ∧ (F'.sh k → F.sh k)) : LogMem w' l b F' G g lv :=
 ⟨(hk l h.lown).trans h.blk, row_keep h.row fun k hg => hk k (h.rown k hg), h.rown, h.lown, fun k hg => ⟨fun h1 => (h.gout k hg).1 ((hF k (h.glt k hg)).1 h1), fun h1 => (h.gout k hg).2 ((hF k (h.glt k hg)).2 h1)⟩,
  fun k hg => Nat.lt_of_lt_of_le (h.glt k hg) hs, h.ok⟩
theorem LgAt.ok (h : LgAt w l b F G g d) : g.Ok := by obtain ⟨_, h⟩ := h.log; exact h.ok
theorem LgAt.lt (h : LgAt w l b F G g d) : l < w.heap.size := by obtain ⟨_, h⟩ := h.log; exact lt_of_block h.blk
theorem LgAt.below (h : LgAt w l b F G g d) (hb : Below w.heap.size w w') : LgAt w' l b F G g d := by
 obtain ⟨lv, h1⟩ := h.log
 exact ⟨h.disk.below hb, lv, h1.keep (fun k hk => hb.block k (h1.glt k hk)) hb.size fun k _ => ⟨id, id⟩⟩
theorem LogMem.disk (h : LogMem w l b F G g lv) (hs : FootStep F F' w w') : LogMem w' l b F' G g lv :=
 h.keep (fun k hk => hs.frm.block k (h.glt k hk) (h.gout k hk).1) hs.frm.size fun k hk => ⟨fun h1 => (hs.own k h1).resolve_right (by omega), fun h1 => (hs.sh k h1).resolve_right (by omega)⟩
theorem LgAt.did (h : LgAt w l b F G g d) (hd : Did w b F d' w') : LgDid w l b F G g d' w' := by
 obtain ⟨F', h1, h2⟩ := hd
 obtain ⟨lv, h3⟩ := h.log
 exact ⟨F', G, ⟨h1, lv, h3.disk h2⟩, LgStep.of_foot h2⟩
theorem LgAt.other {b2 : Nat} {F2 F2' : Foot} {G2 G2' : Nat → Prop} (h : LgAt w l b F G g d) (hs : LgStep F2 F2' G2 G2' w w') (hd : ∀ k, F.own k ∨ F.sh k ∨ G k → ¬ F2.own k ∧ ¬ G2 k) : LgAt w' l b F G g d := by
 obtain ⟨lv, h1⟩ := h.log
 have hk : ∀ k, F.own k ∨ F.sh k ∨ G k → k < w.heap.size → w'.heap[k]? = w.heap[k]? := fun k h2 h3 => hs.frm.block k h3 (fun e => e.elim (hd k h2).1 (hd k h2).2)
 exact ⟨h.disk.keep (fun k h2 => hk k (h2.elim .inl (fun h => .inr (.inl h))) (h2.elim (h.disk.olt k) (h.disk.slt k))) hs.frm.size, lv, h1.keep (fun k h2 => hk k (.inr (.inr h2)) (h1.glt k h2)) hs.frm.size fun k _ => ⟨id, id⟩⟩
theorem LogMem.cell (h : LogMem w l b F G g lv) (o : Nat) : w.cell? ⟨l, o, none⟩ = (logCells b g lv)[o]? := by rw [cell_of_block h.blk]; simp
theorem LogMem.free (h : LogMem w l b F G g lv) (o : Nat) : w.frozen? ⟨l, o, none⟩ = false := free_of_block h.blk o
theorem LogMem.row_block (h : LogMem w l b F G g lv) {k : Nat} (hk : lv.ownBlock = some k) : ∃ cur, w.heap[k]? = some (.cells cur 128 (0, 0)) := by
 rcases h.row.2 with ⟨rfl, _⟩ | ⟨g', cap, cur, rfl, _, hh, _⟩
 ·cases hk
 ·cases hk; exact ⟨cur, hh⟩
theorem LogMem.ne_row (h : LogMem w l b F G g lv) {k : Nat} (hk : lv.ownBlock = some k) : k ≠ l := by
 obtain ⟨cur, hh⟩ := h.row_block hk
 intro e
 rw [e, h.blk] at hh
 injection hh with hh
 injection hh with h1 h2 h3
 exact absurd h2 (by decide)
theorem LogMem.turn {g' : Lg} (h : LogMem w l b F G g lv) (hf : Frm (fun k => k = l) w w') (hb : w'.heap[l]? = some (.cells (logCells b g' lv).toArray 121 (0, 0))) (hl : g'.list = g.list) (ho : g'.Ok) : LogMem w' l b F G g' lv := by
 refine ⟨hb, ?_, h.rown, h.lown, h.gout, fun k hg => Nat.lt_of_lt_of_le (h.glt k hg) hf.size, ho⟩
 rw [hl]
 exact row_keep h.row fun k hk => hf.block k (h.glt k (h.rown k hk)) (h.ne_row hk)
theorem LgAt.turn {g' : Lg} (h : LgAt w l b F G g d) (hf : Frm (fun k => k = l) w w') (hb : ∀ lv, LogMem w l b F G g lv → w'.heap[l]? = some (.cells (logCells b g' lv).toArray 121 (0, 0))) (hl : g'.list = g.list) (ho : g'.Ok) :
  LgDid w l b F G g' d w' := by
 obtain ⟨lv, h1⟩ := h.log
 have old : ∀ k, F.own k ∨ F.sh k → k < w.heap.size → w'.heap[k]? = w.heap[k]? := fun k h2 h3 => hf.block k h3 (fun e => by
  have := h1.gout l h1.lown
  subst e
  exact h2.elim this.1 this.2)
 exact ⟨F, G, ⟨h.disk.keep (fun k h2 => old k h2 (h2.elim (h.disk.olt k) (h.disk.slt k))) hf.size, lv, h1.turn hf (hb lv h1) hl ho⟩, hf.mono (fun k hk => .inr (hk ▸ h1.lown)), fun _ h => .inl h, fun _ h => .inl h, fun _ h => .inl h⟩
theorem LgDid.trans {g1 g2 : Lg} {d1 d2 : Dsk} {w1 w2 : World} {F1 : Foot} {G1 : Nat → Prop} (h : LgStep F F1 G G1 w w1) (k : LgDid w1 l b F1 G1 g2 d2 w2) : LgDid w l b F G g2 d2 w2 := by
 obtain ⟨F2, G2, h1, h2⟩ := k
 exact ⟨F2, G2, h1, h.trans h2⟩
theorem LgDid.same (h : LgAt w l b F G g d) : LgDid w l b F G g d w := ⟨F, G, h, LgStep.refl _ _ _⟩
theorem LgDid.ofBelow (h : LgAt w l b F G g d) (hb : Below w.heap.size w w') : LgDid w l b F G g d w' := ⟨F, G, h.below hb, LgStep.below hb⟩
end
theorem wnoughts_any (k : Nat) (w : World) (hk : k ≤ 1000) :
  Calls Tryz.prog 72 #[.int .i64 (k : Int)] w fun e w' => e = .returned (.string (bs (List.replicate k 0))) ∧ Below w.heap.size w w' := by
 have R := fun W => Tryz.strings_Repeat (bs [0]) k W (by omega) (by rw [bs_size]; simp; omega)
 have e0 : ByteArray.mk #[0] = bs [0] := rfl
 go_enter Tryz.func72, Tryz.ntmps72
 go_wp2_with fail
 refine (R _).mono ?_
 rintro e w1 ⟨rfl, hb1⟩
 go_wp2_with fail
 go_ret
 exact ⟨ret_str (repeat_one 0 k), hb1⟩
section
variable {w : World} {l b : Nat} {F : Foot} {G : Nat → Prop} {g : Lg} {d : Dsk}
theorem mark_any (h : LgAt w l b F G g d) : Calls Tryz.prog 79 #[.pointer (some ⟨l, 0, none⟩)] w fun e w' => e = .returned (.int .i64 g.list.length) ∧ w' = w := by
 obtain ⟨lv, h⟩ := h.log
 have c := h.cell 5
 simp only [logCells, List.getElem?_cons_succ, List.getElem?_cons_zero] at c
 rcases h.row.2 with ⟨rfl, h0⟩ | ⟨k, cap, cur, rfl, -⟩
 ·have hz : (g.list.length : Int) = 0 := by omega
  rw [hz]
  clear h h0 hz
  go_enter Tryz.func79, Tryz.ntmps79
  go_wp2_with fail
  go_ret
  exact ⟨rfl, rfl⟩
 ·obtain ⟨n, hn⟩ : ∃ n, n = g.list.length := ⟨_, rfl⟩
  rw [← hn] at c ⊢
  clear h hn
  go_enter Tryz.func79, Tryz.ntmps79
  go_wp2_with fail
  go_ret
  exact ⟨rfl, rfl⟩
theorem pages_any (h : LgAt w l b F G g d) : Calls Tryz.prog 77 #[.pointer (some ⟨l, 0, none⟩)] w fun e w' => e = .returned (.int .i64 g.head.pages) ∧ w' = w := by
 obtain ⟨lv, h⟩ := h.log
 have c := h.cell 3
 simp only [logCells, List.getElem?_cons_succ, List.getElem?_cons_zero] at c
 clear h
 go_enter Tryz.func77, Tryz.ntmps77
 go_wp2_with fail
 go_ret
 exact ⟨rfl, rfl⟩
def lreadyM (g : Lg) : Int := if g.off then 32 else 0
theorem lready_any (h : LgAt w l b F G g d) : Calls Tryz.prog 84 #[.pointer (some ⟨l, 0, none⟩)] w fun e w' => e = .returned (.int .i64 (lreadyM g)) ∧ w' = w := by
 obtain ⟨lv, h⟩ := h.log
 have c := h.cell 9
 simp only [logCells, List.getElem?_cons_succ, List.getElem?_cons_zero] at c
 clear h
 unfold lreadyM
 cases ho : g.off <;> rw [ho] at c
 all_goals
  go_enter Tryz.func84, Tryz.ntmps84
  go_wp2_with fail
  go_ret
  exact ⟨rfl, rfl⟩
end
section
variable (w : World)
end
end Go.Proofs.YtenboibbbmeddaaGreat
