/- SpacePlays: the document's Save walked. -/
import Derived.Test.YtlkkclooihjpiaaGreatPzB
import Derived.Test.YtlkkclooihjpiaaGreatLast
import Derived.Test.YtlkkclooihjpiaaGreatHeld
import Derived.Deep.AppendLies
set_option linter.unusedVariables false
set_option linter.unusedSimpArgs false
namespace Go.Proofs.YtlkkclooihjpiaaGreat
open Go.RowKit Go.Maps
set_option maxRecDepth 20000
section
variable {W W' : World} {base wb : Nat} {m m' : RWd} {fs fn sv : Value} {l : List (RSt × Value)} {B : Nat → Prop} {s : RSt} {fv : Value}
theorem below_undrewW {w w1 : World} (h : Below w.drew.heap.size w.drew w1) : Below w.heap.size w w1 := (Below.refl w.heap.size w).drew.trans h
theorem savesC_snoc (l : List (RSt × Value)) (s : RSt) (v : Value) : savesC (l ++ [(s, v)]) = savesC l ++ rstCells s v := by simp [savesC]
set_option maxHeartbeats 8000000 in
set_option maxRecDepth 20000 in
theorem rsave_any (h : WdX W base wb m B) (hl : m.inn = true → m.now.free.length ≤ 900) (hm : m.saves.length ≤ 900) (hbase : base ≤ W.heap.size) : Calls Tryz.prog 44 #[.pointer (some ⟨wb, 0, none⟩)] W fun e w' => e = .returned (.tuple #[.int .i64 (rsaveM m).1, .int .i64 (rsaveM m).2.1]) ∧ WdDid W w' base wb (rsaveM m).2.2 B := by
 have H := hid h.did
 obtain ⟨fs, fn, sv, l, hA, hB⟩ := h
 obtain ⟨ao1, cap1, ao2, cap2, ao3, cap3, rfl, rfl, rfl⟩ := hA.shapes
 obtain ⟨⟨P1, F1, K1, R1⟩, inn, ⟨P2, F2, K2, R2⟩, S⟩ := m
 obtain ⟨a0, a1, a2, a3, a4, a5, a6, a7, rfl⟩ := roots8 hA.l1
 obtain ⟨b0, b1, b2, b3, b4, b5, b6, b7, rfl⟩ := roots8 hA.l2
 dsimp only at hA hB hl hm
 obtain ⟨n1, hn1⟩ : ∃ n1, n1 = F1.length := ⟨_, rfl⟩
 obtain ⟨n2, hn2⟩ : ∃ n2, n2 = F2.length := ⟨_, rfl⟩
 obtain ⟨n3, hn3⟩ : ∃ n3, n3 = l.length := ⟨_, rfl⟩
 rw [← hn1, ← hn2, ← hn3] at hA hB
 have hN1 := hid hn1
 have hN2 := hid hn2
 have hN3 := hid hn3
 have hblk : W.heap[wb]? = some (.cells #[.int .i64 P1, .slice ao1 n1 cap1, .int .u64 K1, .int .i64 a0, .int .i64 a1, .int .i64 a2, .int .i64 a3, .int .i64 a4, .int .i64 a5, .int .i64 a6, .int .i64 a7, .bool inn, .int .i64 P2, .slice ao2 n2 cap2, .int .u64 K2, .int .i64 b0, .int .i64 b1, .int .i64 b2, .int .i64 b3, .int .i64 b4, .int .i64 b5, .int .i64 b6, .int .i64 b7, .slice ao3 n3 cap3] 56 (0, 0)) := hA.blk
 obtain ⟨x0, x1, x2, x3, x4, x5, x6, x7, x8, x9, x10, x11, x12, x13, x14, x15, x16, x17, x18, x19, x20, x21, x22, x23, xf⟩ := cells24w hblk
 have Hwl := hid (lt_of_block hblk)
 have HA := hid hA
 have HB := hid hB
 have Hblk := hid hblk
 have hls : l.map (·.1) = S := HA.out.ls
 have hS : S.length = n3 := by rw [hN3.out, ← hls]; simp
 unfold rsaveM
 dsimp only
 rw [hS] at hm
 rw [hS]
 clear hA hB hblk hn1 hn2 hn3 hS
 have Hls := hid hls
 clear hls
 cases inn
 ·rw [if_pos rfl]
  clear hl hm hbase
  go_enter Tryz.func44, Tryz.ntmps44
  go_wp2_with fail
  go_ret2
  exact ⟨rfl, H.out⟩
 rw [if_neg (by simp)]
 have hl := hl rfl
 try dsimp only at hl
 have hk3 : ∀ w3 : World, Below W.heap.size W w3 → IRow w3 base (.slice ao2 n2 cap2) F2 := fun w3 hb => row_keep HA.out.rn (fun k hk => hb.block k (row_base HA.out.rn hk).2)
 have CP := fun (w1 : World) (hb : Below W.heap.size W w1) (hbs : base ≤ w1.heap.size) => rcopied_any (W := w1) (s := ⟨P2, F2, K2, [b0, b1, b2, b3, b4, b5, b6, b7]⟩) (hk3 w1 hb) rfl hl hbs
 unfold rstV rstCells at CP
 simp only [List.map_cons, List.map_nil] at CP
 have CP := hid CP
 have HBs := hid hbase
 have Hm := hid hm
 have HS := hid (show ∀ W' : World, W'.heap[wb]? = W.heap[wb]? → (W'.cell? ⟨wb, 12, none⟩ = some (.int .i64 P2) ∧ W'.cell? ⟨wb, 13, none⟩ = some (.slice ao2 n2 cap2) ∧ W'.cell? ⟨wb, 14, none⟩ = some (.int .u64 K2) ∧ W'.cell? ⟨wb, 15, none⟩ = some (.int .i64 b0) ∧ W'.cell? ⟨wb, 16, none⟩ = some (.int .i64 b1) ∧ W'.cell? ⟨wb, 17, none⟩ = some (.int .i64 b2) ∧ W'.cell? ⟨wb, 18, none⟩ = some (.int .i64 b3) ∧ W'.cell? ⟨wb, 19, none⟩ = some (.int .i64 b4) ∧ W'.cell? ⟨wb, 20, none⟩ = some (.int .i64 b5) ∧ W'.cell? ⟨wb, 21, none⟩ = some (.int .i64 b6) ∧ W'.cell? ⟨wb, 22, none⟩ = some (.int .i64 b7) ∧ W'.cell? ⟨wb, 23, none⟩ = some (.slice ao3 n3 cap3)) from fun W' h1 =>
  let c := cells24w (h1.trans Hblk.out)
  ⟨c.2.2.2.2.2.2.2.2.2.2.2.2.1, c.2.2.2.2.2.2.2.2.2.2.2.2.2.1, c.2.2.2.2.2.2.2.2.2.2.2.2.2.2.1, c.2.2.2.2.2.2.2.2.2.2.2.2.2.2.2.1, c.2.2.2.2.2.2.2.2.2.2.2.2.2.2.2.2.1, c.2.2.2.2.2.2.2.2.2.2.2.2.2.2.2.2.2.1, c.2.2.2.2.2.2.2.2.2.2.2.2.2.2.2.2.2.2.1, c.2.2.2.2.2.2.2.2.2.2.2.2.2.2.2.2.2.2.2.1, c.2.2.2.2.2.2.2.2.2.2.2.2.2.2.2.2.2.2.2.2.1, c.2.2.2.2.2.2.2.2.2.2.2.2.2.2.2.2.2.2.2.2.2.1, c.2.2.2.2.2.2.2.2.2.2.2.2.2.2.2.2.2.2.2.2.2.2.1, c.2.2.2.2.2.2.2.2.2.2.2.2.2.2.2.2.2.2.2.2.2.2.2.1⟩)
 clear hk3 hl hbase hm
 go_enter Tryz.func44, Tryz.ntmps44
 go_upto_region 3 with fail
 refine wp_region_last 14 (fun W => W.cell? ⟨wb, 12, none⟩ = some (.int .i64 P2) ∧ W.cell? ⟨wb, 13, none⟩ = some (.slice ao2 n2 cap2) ∧ W.cell? ⟨wb, 14, none⟩ = some (.int .u64 K2) ∧ W.cell? ⟨wb, 15, none⟩ = some (.int .i64 b0) ∧ W.cell? ⟨wb, 16, none⟩ = some (.int .i64 b1) ∧ W.cell? ⟨wb, 17, none⟩ = some (.int .i64 b2) ∧ W.cell? ⟨wb, 18, none⟩ = some (.int .i64 b3) ∧ W.cell? ⟨wb, 19, none⟩ = some (.int .i64 b4) ∧ W.cell? ⟨wb, 20, none⟩ = some (.int .i64 b5) ∧ W.cell? ⟨wb, 21, none⟩ = some (.int .i64 b6) ∧ W.cell? ⟨wb, 22, none⟩ = some (.int .i64 b7) ∧ W.cell? ⟨wb, 23, none⟩ = some (.slice ao3 n3 cap3)) (by kernel_rfl) ⟨x12, x13, x14, x15, x16, x17, x18, x19, x20, x21, x22, x23⟩ (fun hHeld => ?_)
 clear x0 x1 x2 x3 x4 x5 x6 x7 x8 x9 x10 x11 x12 x13 x14 x15 x16 x17 x18 x19 x20 x21 x22 x23 xf
 refine last_take (v := ?sv0) 0 rfl (by kernel_rfl) (by kernel_rfl) (by kernel_rfl) (by kernel_rfl) (fun _ _ _ h => h) (by rfl) hHeld ?sy0 ?sr0
 case sy0 => (intro W hSw; obtain ⟨y0, y1, y2, y3, y4, y5, y6, y7, y8, y9, y10, y11⟩ := hSw; go_simp; with_reducible rfl)
 simp only [Act.put, List.setIfInBounds_toArray, List.set_cons_zero, List.set_cons_succ]
 refine last_take (v := ?sv1) 1 rfl (by kernel_rfl) (by kernel_rfl) (by kernel_rfl) (by kernel_rfl) (fun _ _ _ h => h) (by rfl) hHeld ?sy1 ?sr1
 case sy1 => (intro W hSw; obtain ⟨y0, y1, y2, y3, y4, y5, y6, y7, y8, y9, y10, y11⟩ := hSw; go_simp; with_reducible rfl)
 simp only [Act.put, List.setIfInBounds_toArray, List.set_cons_zero, List.set_cons_succ]
 refine last_take (v := ?sv2) 2 rfl (by kernel_rfl) (by kernel_rfl) (by kernel_rfl) (by kernel_rfl) (fun _ _ _ h => h) (by rfl) hHeld ?sy2 ?sr2
 case sy2 => (intro W hSw; obtain ⟨y0, y1, y2, y3, y4, y5, y6, y7, y8, y9, y10, y11⟩ := hSw; go_simp; with_reducible rfl)
 simp only [Act.put, List.setIfInBounds_toArray, List.set_cons_zero, List.set_cons_succ]
 refine last_take (v := ?sv3) 3 rfl (by kernel_rfl) (by kernel_rfl) (by kernel_rfl) (by kernel_rfl) (fun _ _ _ h => h) (by rfl) hHeld ?sy3 ?sr3
 case sy3 => (intro W hSw; obtain ⟨y0, y1, y2, y3, y4, y5, y6, y7, y8, y9, y10, y11⟩ := hSw; go_simp; with_reducible rfl)
 simp only [Act.put, List.setIfInBounds_toArray, List.set_cons_zero, List.set_cons_succ]
 refine last_take (v := ?sv4) 4 rfl (by kernel_rfl) (by kernel_rfl) (by kernel_rfl) (by kernel_rfl) (fun _ _ _ h => h) (by rfl) hHeld ?sy4 ?sr4
 case sy4 => (intro W hSw; obtain ⟨y0, y1, y2, y3, y4, y5, y6, y7, y8, y9, y10, y11⟩ := hSw; go_simp; with_reducible rfl)
 simp only [Act.put, List.setIfInBounds_toArray, List.set_cons_zero, List.set_cons_succ]
 refine last_take (v := ?sv5) 5 rfl (by kernel_rfl) (by kernel_rfl) (by kernel_rfl) (by kernel_rfl) (fun _ _ _ h => h) (by rfl) hHeld ?sy5 ?sr5
 case sy5 => (intro W hSw; obtain ⟨y0, y1, y2, y3, y4, y5, y6, y7, y8, y9, y10, y11⟩ := hSw; go_simp; with_reducible rfl)
 simp only [Act.put, List.setIfInBounds_toArray, List.set_cons_zero, List.set_cons_succ]
 refine last_take (v := ?sv6) 6 rfl (by kernel_rfl) (by kernel_rfl) (by kernel_rfl) (by kernel_rfl) (fun _ _ _ h => h) (by rfl) hHeld ?sy6 ?sr6
 case sy6 => (intro W hSw; obtain ⟨y0, y1, y2, y3, y4, y5, y6, y7, y8, y9, y10, y11⟩ := hSw; go_simp; with_reducible rfl)
 simp only [Act.put, List.setIfInBounds_toArray, List.set_cons_zero, List.set_cons_succ]
 refine last_take (v := ?sv7) 7 rfl (by kernel_rfl) (by kernel_rfl) (by kernel_rfl) (by kernel_rfl) (fun _ _ _ h => h) (by rfl) hHeld ?sy7 ?sr7
 case sy7 => (intro W hSw; obtain ⟨y0, y1, y2, y3, y4, y5, y6, y7, y8, y9, y10, y11⟩ := hSw; go_simp; with_reducible rfl)
 simp only [Act.put, List.setIfInBounds_toArray, List.set_cons_zero, List.set_cons_succ]
 refine last_take (v := ?sv8) 8 rfl (by kernel_rfl) (by kernel_rfl) (by kernel_rfl) (by kernel_rfl) (fun _ _ _ h => h) (by rfl) hHeld ?sy8 ?sr8
 case sy8 => (intro W hSw; obtain ⟨y0, y1, y2, y3, y4, y5, y6, y7, y8, y9, y10, y11⟩ := hSw; go_simp; with_reducible rfl)
 simp only [Act.put, List.setIfInBounds_toArray, List.set_cons_zero, List.set_cons_succ]
 refine last_one 9 (by kernel_rfl) rfl (fun K hK => ?_)
 go_simp
 refine (CP.out _ (Below.refl _ W).drew (by simpa using HBs.out)).mono ?_
 rintro e w1 ⟨fv, rfl, hrow, hb1⟩
 obtain ⟨ao4, cap4, rfl, -⟩ := hrow.shape
 rw [← hN2.out] at hrow ⊢
 have hb1' : Below W.heap.size W w1 := below_undrewW hb1
 have hrow : IRow w1 W.heap.size (.slice ao4 n2 cap4) F2 := hrow
 have Hb1 := hid hb1'
 have Hrow := hid hrow
 clear hb1 hb1' hrow
 try dsimp only
 refine hK.out _ _ (fun _ => HS.out _ (Hb1.out.block wb Hwl.out)) (fun hHeld => ?_)
 have hHeld := hHeld (by decide)
 clear hK K
 try simp only [Act.put, List.setIfInBounds_toArray, List.set_cons_zero, List.set_cons_succ]
 refine last_one 10 (by kernel_rfl) rfl (fun K hK => ?_)
 go_simp
 have hn2 := heap_alloc_new w1 (.cells #[.int .i64 P2, .slice ao4 n2 cap4, .int .u64 K2, .int .i64 b0, .int .i64 b1, .int .i64 b2, .int .i64 b3, .int .i64 b4, .int .i64 b5, .int .i64 b6, .int .i64 b7] 53)
 have hb2 : Below w1.heap.size w1 (w1.alloc (.cells #[.int .i64 P2, .slice ao4 n2 cap4, .int .u64 K2, .int .i64 b0, .int .i64 b1, .int .i64 b2, .int .i64 b3, .int .i64 b4, .int .i64 b5, .int .i64 b6, .int .i64 b7] 53)) := (Below.refl _ w1).alloc (Nat.le_refl _) _
 have hs2 : (w1.alloc (.cells #[.int .i64 P2, .slice ao4 n2 cap4, .int .u64 K2, .int .i64 b0, .int .i64 b1, .int .i64 b2, .int .i64 b3, .int .i64 b4, .int .i64 b5, .int .i64 b6, .int .i64 b7] 53)).heap.size = w1.heap.size + 1 := by simp
 obtain ⟨w2, hw2⟩ : ∃ w2, w2 = w1.alloc (.cells #[.int .i64 P2, .slice ao4 n2 cap4, .int .u64 K2, .int .i64 b0, .int .i64 b1, .int .i64 b2, .int .i64 b3, .int .i64 b4, .int .i64 b5, .int .i64 b6, .int .i64 b7] 53) := ⟨_, rfl⟩
 have Hw12 := hid (fun k hk => Below.heap_alloc w1 (.cells #[.int .i64 P2, .slice ao4 n2 cap4, .int .u64 K2, .int .i64 b0, .int .i64 b1, .int .i64 b2, .int .i64 b3, .int .i64 b4, .int .i64 b5, .int .i64 b6, .int .i64 b7] 53) k hk)
 rw [← hw2] at hn2 hb2 hs2 Hw12 ⊢
 clear hw2
 have hb02 : Below W.heap.size W w2 := Hb1.out.trans (hb2.mono Hb1.out.size)
 have hrow2 : w2.ownsRow base 53 11 (.slice ao3 n3 cap3) n3 (savesC l) := by
  have h := row_keep HA.out.rv (w' := w2) fun k hk => hb02.block k (row_base HA.out.rv hk).2
  rwa [← hN3.out] at h
 refine hK.out _ _ (fun _ => HS.out _ (hb02.block wb Hwl.out)) (fun hHeld => ?_)
 have hHeld := hHeld (by decide)
 clear hK K
 try simp only [Act.put, List.setIfInBounds_toArray, List.set_cons_zero, List.set_cons_succ]
 obtain ⟨i0, hi0, hz0, hz1, hz2⟩ := info_parts (P := Tryz.prog) (e := 53) (z := .agg #[.int .i64 0, .slice none 0 0, .int .u64 0, .int .i64 0, .int .i64 0, .int .i64 0, .int .i64 0, .int .i64 0, .int .i64 0, .int .i64 0, .int .i64 0]) (size := 11) (bytes := 104) (by kernel_rfl)
 have hm9 := Hm.out
 have hbs9 := HBs.out
 have hsz9 := hb02.size
 refine last_one 11 (by kernel_rfl) rfl (fun K hK => ?_)
 refine step_append_lies _ (by rfl) _ _ 54 (by rfl) base 53 i0 _ 11 104 Tryz.underlying54 hi0 hz0 hz1 hz2 rfl (by decide) (.slice ao3 n3 cap3) n3 (savesC l) (by rfl) hrow2 ⟨w1.heap.size, 0, none⟩ 1 1 [.int .i64 P2, .slice ao4 n2 cap4, .int .u64 K2, .int .i64 b0, .int .i64 b1, .int .i64 b2, .int .i64 b3, .int .i64 b4, .int .i64 b5, .int .i64 b6, .int .i64 b7] (by rfl) (by rfl) (World.news_of_block (w := w2) (cs := #[.int .i64 P2, .slice ao4 n2 cap4, .int .u64 K2, .int .i64 b0, .int .i64 b1, .int .i64 b2, .int .i64 b3, .int .i64 b4, .int .i64 b5, .int .i64 b6, .int .i64 b7]) (t := 53) (fr := (0, 0)) hn2) (by intro u hu; simp only [List.mem_cons, List.not_mem_nil, or_false] at hu; rcases hu with rfl | rfl | rfl | rfl | rfl | rfl | rfl | rfl | rfl | rfl | rfl <;> rfl) (by omega) (by unfold maxLen; omega) (by omega) (by omega) (w1.heap.size + 1) hs2 ?_
 intro q cap5 w3 hown3 hgrow3 hat3 hlt3
 have hnewb : ∀ k, (Value.slice ao3 n3 cap3).ownBlock = some k → k ≠ wb := fun k hk => row_neT HA.out.rv Hblk.out (by decide) hk
 have hwb3 := ((hgrow3.block wb (Nat.lt_of_lt_of_le Hwl.out hb02.size) (fun e => hnewb wb e.symm rfl)).trans (hb02.block wb Hwl.out))
 have hblk3 := hwb3.trans Hblk.out
 have c3 := (cell_of_block hblk3 23)
 have f3 := free_of_block hblk3 23
 have hblk4 := heap_setCell_same hblk3 23 (.slice (some ⟨q, 0, none⟩) (n3 + 1) cap5)
 have c4 : (w3.setCell ⟨wb, 23, none⟩ (.slice (some ⟨q, 0, none⟩) (n3 + 1) cap5)).cell? ⟨wb, 23, none⟩ = some (.slice (some ⟨q, 0, none⟩) (n3 + 1) cap5) := (cell_of_block hblk4 23).trans rfl
 simp only [List.getElem?_toArray, List.getElem?_cons_succ, List.getElem?_cons_zero] at c3
 have HS3 := hid (HS.out w3 hwb3)
 have Hown3 := hid hown3
 have Hgrow3 := hid hgrow3
 have Hat3 := hid hat3
 have Hb02 := hid hb02
 have Hblk3 := hid hblk3
 have Hs2 := hid hs2
 clear hn2 hb2 hs2 hb02 hrow2 hown3 hgrow3 hat3 hlt3 hwb3 hblk3 hblk4 hnewb hm9 hbs9 hsz9
 refine hK.out _ _ (fun _ => HS3.out) (fun hHeld => ?_)
 have hHeld := hHeld (by decide)
 clear hK K
 try simp only [Act.put, List.setIfInBounds_toArray, List.set_cons_zero, List.set_cons_succ]
 refine last_one 12 (by kernel_rfl) rfl (fun K hK => ?_)
 go_simp
 refine hK.out _ _ (fun _ => HS3.out) (fun hHeld => ?_)
 have hHeld := hHeld (by decide)
 clear hK K
 try simp only [Act.put, List.setIfInBounds_toArray, List.set_cons_zero, List.set_cons_succ]
 refine last_one 13 (by kernel_rfl) rfl (fun K hK => ?_)
 go_simp
 refine hK.out _ _ (fun _ => HS3.out) (fun hHeld => ?_)
 have hHeld := hHeld (by decide)
 clear hK K
 try simp only [Act.put, List.setIfInBounds_toArray, List.set_cons_zero, List.set_cons_succ]
 refine last_one 14 (by kernel_rfl) rfl (fun K hK => ?_)
 go_simp
 refine hK.out _ _ (fun e => absurd rfl e) (fun _ => ?_)
 clear hK K hHeld
 try simp only [Act.put, List.setIfInBounds_toArray, List.set_cons_zero, List.set_cons_succ]
 refine wpAnyL_done (by kernel_rfl) ?_ _
 go_wp2_with fail
 go_ret2
 have hap := HA.out.apart rfl
 have hw : B wb := HB.out wb (.inl rfl)
 have hg := Hgrow3.out
 have hf3 : Frm (fun k => k = wb ∨ (Value.slice ao3 n3 cap3).ownBlock = some k) W w3 :=
  (Frm.of_below Hb02.out).trans ⟨hg.os, hg.tape, hg.output, hg.size, fun k hk hn => hg.block k hk (fun e => hn (.inr e.symm))⟩
 have hf := hf3.setCell (p := ⟨wb, 23, none⟩) (.inl (.inl rfl)) (.slice (some ⟨q, 0, none⟩) (n3 + 1) cap5)
 have hq3 : (Value.slice ao3 n3 cap3).ownBlock = some q ∨ W.heap.size ≤ q := Hat3.out.imp id (fun e => by have := Hb1.out.size; omega)
 have hs4 : (w3.setCell ⟨wb, 23, none⟩ (.slice (some ⟨q, 0, none⟩) (n3 + 1) cap5)).heap.size = w3.heap.size := by simp
 have hkeep : ∀ (fv : Value) (F : List Nat), IRow W base fv F → IRow (w3.setCell ⟨wb, 23, none⟩ (.slice (some ⟨q, 0, none⟩) (n3 + 1) cap5)) base fv F := fun fv F h =>
  row_keep h (fun k hk => hf.block k (row_base h hk).2 (fun e => e.elim (row_neT h Hblk.out (by decide) hk) (fun e => row_two h HA.out.rv (by decide) hk e)))
 have hnew : IRow (w3.setCell ⟨wb, 23, none⟩ (.slice (some ⟨q, 0, none⟩) (n3 + 1) cap5)) base (.slice ao4 n2 cap4) F2 := by
  have h1 : IRow w1 base (.slice ao4 n2 cap4) F2 := row_low Hrow.out HBs.out
  refine row_keep h1 (fun k hk => ?_)
  obtain ⟨k1, k2⟩ := row_base Hrow.out hk
  have k3 : k ≠ wb := Nat.ne_of_gt (Nat.lt_of_lt_of_le Hwl.out k1)
  have k4 : (Value.slice ao3 n3 cap3).ownBlock ≠ some k := fun e => by have := (row_base HA.out.rv e).2; exact absurd k1 (Nat.not_le_of_lt this)
  refine (Below.heap_setCell _ ⟨wb, 23, none⟩ _ k k3).trans ((hg.block k ?_ (fun e => k4 e.symm)).trans (Hw12.out k k2))
  rw [Hs2.out]
  exact Nat.lt_succ_of_lt k2
 have hX : WdX (w3.setCell ⟨wb, 23, none⟩ (.slice (some ⟨q, 0, none⟩) (n3 + 1) cap5)) base wb ⟨⟨P1, F1, K1, [a0, a1, a2, a3, a4, a5, a6, a7]⟩, true, ⟨P2, F2, K2, [b0, b1, b2, b3, b4, b5, b6, b7]⟩, S ++ [⟨P2, F2, K2, [b0, b1, b2, b3, b4, b5, b6, b7]⟩]⟩ (moreB W (w3.setCell ⟨wb, 23, none⟩ (.slice (some ⟨q, 0, none⟩) (n3 + 1) cap5)) B) := by
  refine ⟨.slice ao1 n1 cap1, .slice ao2 n2 cap2, .slice (some ⟨q, 0, none⟩) (n3 + 1) cap5, l ++ [(⟨P2, F2, K2, [b0, b1, b2, b3, b4, b5, b6, b7]⟩, .slice ao4 n2 cap4)], ⟨?_, HA.out.ge, rfl, rfl, fun x hx => ?_, hkeep _ _ HA.out.rs, hkeep _ _ HA.out.rn, ?_, ?_, fun x hx => ?_, fun _ k hk => ?_⟩, fun k hk => ?_⟩
  ·rw [heap_setCell_same Hblk3.out 23 (.slice (some ⟨q, 0, none⟩) (n3 + 1) cap5)]
   simp only [List.setIfInBounds_toArray, List.set_cons_zero, List.set_cons_succ]
   rfl
  ·rcases List.mem_append.1 hx with e | e
   ·exact HA.out.l3 x e
   ·rw [List.mem_singleton.1 e]; rfl
  ·rw [List.length_append, List.length_singleton, ← hN3.out, savesC_snoc]
   exact row_keep Hown3.out (fun k hk => Below.heap_setCell _ ⟨wb, 23, none⟩ _ k (row_neT Hown3.out Hblk3.out (by decide) hk))
  ·rw [List.map_append, Hls.out]; rfl
  ·rcases List.mem_append.1 hx with e | e
   ·exact hkeep _ _ (HA.out.lf x e)
   ·rw [List.mem_singleton.1 e]; exact hnew
  ·refine ⟨(hap k hk).1, fun x hx e => ?_⟩
   rcases List.mem_append.1 hx with e2 | e2
   ·exact (hap k hk).2 x e2 e
   ·rw [List.mem_singleton.1 e2] at e
    have h1 := (row_base Hrow.out e).1
    have h2 := (row_base HA.out.rn hk).2
    exact absurd h1 (Nat.not_le_of_lt h2)
  ·rcases hk with e | e | e | e | ⟨x, hx, e⟩
   ·exact .inl (e ▸ hw)
   ·exact .inl (HB.out k (.inr (.inl e)))
   ·exact .inl (HB.out k (.inr (.inr (.inl e))))
   ·have e : q = k := Option.some.inj e
    subst e
    rcases hq3 with e2 | e2
    ·exact .inl (HB.out q (.inr (.inr (.inr (.inl e2)))))
    ·exact .inr ⟨e2, by rw [hs4]; exact (row_base Hown3.out rfl).2⟩
   ·rcases List.mem_append.1 hx with e2 | e2
    ·exact .inl (HB.out k (.inr (.inr (.inr (.inr ⟨x, e2, e⟩)))))
    ·rw [List.mem_singleton.1 e2] at e
     exact .inr ⟨(row_base Hrow.out e).1, (row_base hnew e).2⟩
 exact ⟨rfl, hX, hf.mono (fun k e => e.elim (fun e => by rw [e]; exact hw) (fun e => HB.out k (.inr (.inr (.inr (.inl e))))))⟩
end
end Go.Proofs.YtlkkclooihjpiaaGreat
