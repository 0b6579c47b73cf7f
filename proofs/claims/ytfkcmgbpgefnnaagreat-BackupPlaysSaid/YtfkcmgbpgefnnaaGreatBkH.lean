import Derived.Test.YtfkcmgbpgefnnaaGreatBkF
set_option linter.unusedVariables false
set_option linter.unusedSimpArgs false
namespace Go.Proofs.YtfkcmgbpgefnnaaGreat
open Go.RowKit Go.Maps
set_option maxRecDepth 20000
section
variable {w W W' : World} {a : PgD} {db : Nat} {d d' : Dsk} {X X' : Nat → Prop}
def bkObj (pb db : Nat) (B : Bk) : Obj := .cells (bkCells pb db B) 91 (0, 0)
set_option maxHeartbeats 2000000 in
theorem banew_any {bb : Nat} {B : Bk} (h : PD w W a db d X) (hX : X bb) (hge : w.heap.size ≤ bb) (hbk : W.heap[bb]? = some (bkObj a.pb db B)) (k : Int) :
  Calls Tryz.prog 46 #[.pointer (some ⟨bb, 0, none⟩), .int .u64 k] W fun e w' => e = .returned (.tuple #[]) ∧ PD w w' a db d X ∧ w'.heap[bb]? = some (bkObj a.pb db (bkAnew a.p a.g B k)) ∧ ∀ j, X j → j ≠ bb → w'.heap[j]? = W.heap[j]? := by
 unfold bkObj bkCells at hbk
 have c0 : W.cell? ⟨bb, 0, none⟩ = some (.pointer (some ⟨a.pb, 0, none⟩)) := (za hbk 0).trans rfl
 have c2 : W.cell? ⟨bb, 2, none⟩ = some (.int .u64 B.k) := (za hbk 2).trans rfl
 have c3 : W.cell? ⟨bb, 3, none⟩ = some (.int .i64 B.pages) := (za hbk 3).trans rfl
 have c4 : W.cell? ⟨bb, 4, none⟩ = some (.int .i64 B.next) := (za hbk 4).trans rfl
 have f2 := zg hbk 2
 have f3 := zg hbk 3
 have f4 := zg hbk 4
 have PG := px_pages h.pg
 obtain ⟨P, hP⟩ : ∃ P, P = ppagesM a.p a.g := ⟨_, rfl⟩
 rw [← hP] at PG
 have PG := hid PG
 have hnew : bkAnew a.p a.g B k = ⟨k, P, if P = 1 then 1 else 2, B.opn, B.restarts⟩ := by unfold bkAnew; rw [← hP]
 rw [hnew]
 have Hbk := hid hbk
 have H := hid h
 have HL := hid (fun (W5 : World) (hf : Frm (fun j => j = bb) W W5) => And.intro (h.law hf (fun j hj => ⟨by rw [hj]; exact hX, by rw [hj]; exact hge⟩)) (fun j (hj : X j) (hn : j ≠ bb) => hf.block j (h.xlt j hj) hn))
 clear hP hnew hbk h
 by_cases h1 : P = 1
 ·subst h1
  go_enter Tryz.func46, Tryz.ntmps46
  go_wp2_with (first
   | (go_at_call 47; refine (PG.out).mono ?_; rintro e w1 ⟨rfl, hw⟩; obtain rfl := hw.symm)
   | go_in)
  go_end0
  refine (fun hq => ⟨rfl, hq.1, ?_, hq.2⟩ : (PD w _ a db d X ∧ ∀ j, X j → j ≠ bb → _ = W.heap[j]?) → _) (HL.out _ ?_)
  ·exact ((((Frm.refl (fun j => j = bb) W).setCell (p := ⟨bb, 2, none⟩) (.inl rfl) _).setCell (p := ⟨bb, 3, none⟩) (.inl rfl) _).setCell (p := ⟨bb, 4, none⟩) (.inl rfl) _).setCell (p := ⟨bb, 4, none⟩) (.inl rfl) _
  ·exact (zd (zd (zd (zd Hbk.out 2 (.int .u64 k)) 3 (.int .i64 1)) 4 (.int .i64 2)) 4 (.int .i64 1)).trans rfl
 ·have b1 : (P == 1) = false := by simp [h1]
  rw [if_neg h1]
  clear h1
  go_enter Tryz.func46, Tryz.ntmps46
  go_wp2_with (first
   | (go_at_call 47; refine (PG.out).mono ?_; rintro e w1 ⟨rfl, hw⟩; obtain rfl := hw.symm)
   | go_in)
  go_end0
  refine (fun hq => ⟨rfl, hq.1, ?_, hq.2⟩ : (PD w _ a db d X ∧ ∀ j, X j → j ≠ bb → _ = W.heap[j]?) → _) (HL.out _ ?_)
  ·exact (((Frm.refl (fun j => j = bb) W).setCell (p := ⟨bb, 2, none⟩) (.inl rfl) _).setCell (p := ⟨bb, 3, none⟩) (.inl rfl) _).setCell (p := ⟨bb, 4, none⟩) (.inl rfl) _
  ·exact (zd (zd (zd Hbk.out 2 (.int .u64 k)) 3 (.int .i64 P)) 4 (.int .i64 2)).trans rfl
def StartGave (w W : World) (a : PgD) (db : Nat) (X : Nat → Prop) (R : Option Bk × Int × Dsk) (e : Ending) (w' : World) : Prop :=
 match R.1 with
 | none => e = .returned (.tuple #[.pointer none, .int .i64 R.2.1]) ∧ PD w w' a db R.2.2 X ∧ ∀ k, X k → w'.heap[k]? = W.heap[k]?
 | some B => ∃ bb, e = .returned (.tuple #[.pointer (some ⟨bb, 0, none⟩), .int .i64 0]) ∧ PD w w' a db R.2.2 (fun k => X k ∨ k = bb) ∧ w'.heap[bb]? = some (bkObj a.pb db B) ∧ W.heap.size ≤ bb ∧ ∀ k, X k → w'.heap[k]? = W.heap[k]?
set_option maxHeartbeats 8000000 in
theorem bstart_any {N : Nat} (h : PD w W a db d X) (hsm : d.Small N) (hN : N + 524288 ≤ 1099511527776) :
  Calls Tryz.prog 10 #[.pointer (some ⟨a.pb, 0, none⟩), .pointer (some ⟨db, 0, none⟩)] W fun e w' => StartGave w W a db X (bstartM a.p a.g a.d d) e w' := by
 have hx1 := ze W (.cells #[.pointer (some ⟨db, 0, none⟩)] 30)
 have hb1 := (Below.refl W.heap.size W).alloc (Nat.le_refl _) (.cells #[.pointer (some ⟨db, 0, none⟩)] 30)
 have hp1 := h.add (X' := fun k => X k ∨ k = W.heap.size) hb1 (fun k hk => hk.imp id (fun e => Nat.le_of_eq e.symm)) (fun k hk => hk.elim (fun e => Nat.lt_of_lt_of_le (h.xlt k e) hb1.size) (fun e => by rw [e]; exact zc hx1))
 have hxW : ∀ k, X k → k < W.heap.size := h.xlt
 obtain ⟨T, hpg, hcl⟩ := hp1.left
 have HV := have_any hpg
 obtain ⟨R, hR⟩ : ∃ R, R = bstartM a.p a.g a.d d := ⟨_, rfl⟩
 rw [← hR]
 unfold bstartM at hR
 obtain ⟨Q, hQ⟩ : ∃ Q, Q = haveM a.p a.g a.d := ⟨_, rfl⟩
 rw [← hQ] at HV hR
 have HVc := hid HV
 have HCL := hid (fun (w' : World) (a' : PgD) (h1 : PgAtX w w' a' (fun k => (X k ∨ k = W.heap.size) ∨ T k)) (h2 : ∀ k, (X k ∨ k = W.heap.size) ∨ T k → w'.heap[k]? = (W.alloc (.cells #[.pointer (some ⟨db, 0, none⟩)] 30)).heap[k]?) => hcl w' a' h1 h2)
 have HX1 := hid hx1
 have HB1 := hid hb1
 have HxW := hid hxW
 have HS := hid hsm
 obtain ⟨O, hO⟩ : ∃ O, O = d.off := ⟨_, rfl⟩
 have ONc := fun (W1 : World) (X1 : Nat → Prop) (hm : PD w W1 a db d X1) => (fun (hq : MkD w W1 db d) => on_any hq.ex.choose_spec.1) hm.dsk
 simp only [← hO] at ONc
 have DBc := fun (W1 : World) (X1 : Nat → Prop) (hm : PD w W1 a db d X1) => database_any hm.dsk
 obtain ⟨I, hI⟩ : ∃ I, I = (openedM d).isSome := ⟨_, rfl⟩
 simp only [← hI] at DBc
 rw [← hO, ← hI] at hR
 have ONc := hid ONc
 have DBc := hid DBc
 clear h hx1 hb1 hp1 hpg hcl HV hQ hxW hsm hO hI
 obtain ⟨k, E⟩ := Q
 dsimp only at HVc hR
 by_cases hE : E = 0
 rotate_left
 ·have b1 : (E != 0) = true := by simp [hE]
  rw [if_pos hE] at hR
  have HR := hid hR
  clear hR hE
  go_enter Tryz.func10, Tryz.ntmps10
  go_wp2_with (first
   | (go_at_call 38; refine (HVc.out).mono ?_; rintro e w2 ⟨rfl, hx, hk⟩; have HP2 := hid (HCL.out _ _ hx hk).1; have HK2 := hid (HCL.out _ _ hx hk).2; clear hx hk)
   | go_in)
  go_ret2
  rw [HR.out]
  exact ⟨rfl, HP2.out.to (fun k hk => .inl hk), fun k hk => (HK2.out k (.inl hk)).trans (HB1.out.block k (HxW.out k hk))⟩
 have b1 : (E != 0) = false := by simp [hE]
 rw [if_neg (by simpa using hE)] at hR
 by_cases hk0 : k = 0
 ·have b2 : (k == 0) = true := by simp [hk0]
  rw [if_pos hk0] at hR
  have HR := hid hR
  clear hR hE hk0
  go_enter Tryz.func10, Tryz.ntmps10
  go_wp2_with (first
   | (go_at_call 38; refine (HVc.out).mono ?_; rintro e w2 ⟨rfl, hx, hk⟩; have HP2 := hid (HCL.out _ _ hx hk).1; have HK2 := hid (HCL.out _ _ hx hk).2; clear hx hk)
   | go_in)
  go_ret2
  rw [HR.out]
  exact ⟨rfl, HP2.out.to (fun k hk => .inl hk), fun k hk => (HK2.out k (.inl hk)).trans (HB1.out.block k (HxW.out k hk))⟩
 have b2 : (k == 0) = false := by simp [hk0]
 rw [if_neg hk0] at hR
 cases O with
 | true =>
  rw [if_pos rfl] at hR
  have HR := hid hR
  clear hR hE hk0
  go_enter Tryz.func10, Tryz.ntmps10
  go_wp2_with (first
   | (go_at_call 38; refine (HVc.out).mono ?_; rintro e w2 ⟨rfl, hx, hk⟩; have HP2 := hid (HCL.out _ _ hx hk).1; have HK2 := hid (HCL.out _ _ hx hk).2; clear hx hk; have cx2 : w2.cell? ⟨W.heap.size, 0, none⟩ = some (.pointer (some ⟨db, 0, none⟩)) := (za ((HK2.out _ (.inr rfl)).trans HX1.out) 0).trans rfl)
   | (go_at_call 26; refine (ONc.out _ _ HP2.out).mono ?_; rintro e w9 ⟨rfl, hw⟩; obtain rfl := hw.symm)
   | go_in)
  go_ret2
  rw [HR.out]
  exact ⟨rfl, HP2.out.to (fun k hk => .inl hk), fun k hk => (HK2.out k (.inl hk)).trans (HB1.out.block k (HxW.out k hk))⟩
 | false =>
 rw [if_neg (by decide)] at hR
 cases I with
 | true =>
  rw [if_pos rfl] at hR
  have HR := hid hR
  clear hR hE hk0
  go_enter Tryz.func10, Tryz.ntmps10
  go_wp2_with (first
   | (go_at_call 38; refine (HVc.out).mono ?_; rintro e w2 ⟨rfl, hx, hk⟩; have HP2 := hid (HCL.out _ _ hx hk).1; have HK2 := hid (HCL.out _ _ hx hk).2; clear hx hk; have cx2 : w2.cell? ⟨W.heap.size, 0, none⟩ = some (.pointer (some ⟨db, 0, none⟩)) := (za ((HK2.out _ (.inr rfl)).trans HX1.out) 0).trans rfl)
   | (go_at_call 26; refine (ONc.out _ _ HP2.out).mono ?_; rintro e w9 ⟨rfl, hw⟩; obtain rfl := hw.symm)
   | (go_at_call 39; refine (DBc.out _ _ HP2.out).mono ?_; rintro e w3 ⟨rfl, hb3⟩; have HB3 := hid hb3; clear hb3)
   | go_in)
  go_ret2
  rw [HR.out]
  exact ⟨rfl, (HP2.out.below HB3.out).to (fun k hk => .inl hk), fun k hk => (HB3.out.block k (HP2.out.xlt k (.inl hk))).trans ((HK2.out k (.inl hk)).trans (HB1.out.block k (HxW.out k hk)))⟩
 | false =>
 rw [if_neg (by decide)] at hR
 have HR := hid hR
 clear hR hE hk0
 go_enter Tryz.func10, Tryz.ntmps10
 go_upto_region 12 with (first
  | (go_at_call 38; refine (HVc.out).mono ?_; rintro e w2 ⟨rfl, hx, hk⟩; have HP2 := hid (HCL.out _ _ hx hk).1; have HK2 := hid (HCL.out _ _ hx hk).2; clear hx hk; have cx2 : w2.cell? ⟨W.heap.size, 0, none⟩ = some (.pointer (some ⟨db, 0, none⟩)) := (za ((HK2.out _ (.inr rfl)).trans HX1.out) 0).trans rfl)
  | (go_at_call 26; refine (ONc.out _ _ HP2.out).mono ?_; rintro e w9 ⟨rfl, hw⟩; obtain rfl := hw.symm)
  | (go_at_call 39; refine (DBc.out _ _ HP2.out).mono ?_; rintro e w3 ⟨rfl, hb3⟩; have HB3 := hid hb3; clear hb3; have cx3 : w3.cell? ⟨W.heap.size, 0, none⟩ = some (.pointer (some ⟨db, 0, none⟩)) := (za ((HB3.out.block _ (HP2.out.xlt _ (.inr rfl))).trans ((HK2.out _ (.inr rfl)).trans HX1.out)) 0).trans rfl)
  | go_in)
 have hp3 := HP2.out.below HB3.out
 have hx3 := (HB3.out.block _ (HP2.out.xlt _ (.inr rfl))).trans ((HK2.out _ (.inr rfl)).trans HX1.out)
 have hk3 : ∀ k, X k → w3.heap[k]? = W.heap[k]? := fun k hk => (HB3.out.block k (HP2.out.xlt k (.inl hk))).trans ((HK2.out k (.inl hk)).trans (HB1.out.block k (HxW.out k hk)))
 obtain ⟨F, hF, hFX, hcl⟩ := hp3.right
 have hW3 : W.heap.size ≤ w3.heap.size := Nat.le_trans HB1.out.size (by
  have h1 := (HP2.out.xlt W.heap.size (.inr rfl))
  have h2 := HB3.out.size
  simp
  omega)
 obtain ⟨x, hxe⟩ : ∃ x, x = W.heap.size := ⟨_, rfl⟩
 rw [← hxe] at hx3 hFX cx3 ⊢
 have HX3 := hid hx3
 have HP3 := hid hp3
 have HK3 := hid hk3
 have HF := hid hF
 have HFX := hid hFX
 have HCL3 := hid hcl
 have HW3 := hid hW3
 have Hxe := hid hxe
 clear hp3 hx3 hk3 hF hFX hcl hW3 hxe cx2 HVc HCL DBc ONc HP2 HK2 HB3 HX1
 refine wp_region_held_drew (S := fun W2 => W2.cell? ⟨x, 0, none⟩ = some (.pointer (some ⟨db, 0, none⟩))) (by kernel_rfl) cx3 (fun hHeld => ?_)
 clear cx3
 refine ht 0 hHeld ?_
 refine ht 2 hHeld ?_
 refine ht 4 hHeld ?_
 refine ht 6 hHeld ?_
 refine held_one 1 (by kernel_rfl) rfl (fun K hK => ?_)
 go_simp
 refine (lays_mk db _).mono ?_
 rintro e w4 ⟨v1, B1, rfl, hd1, hg1, hb1⟩
 obtain ⟨k1, a1, c1, rfl, -⟩ := id hd1
 have hx4 := (hb1.block x (zc HX3.out)).trans HX3.out
 have cx4 : w4.cell? ⟨x, 0, none⟩ = some (.pointer (some ⟨db, 0, none⟩)) := (za hx4 0).trans rfl
 have HD1 := hid hd1
 have HG1 := hid hg1
 have HBB1 := hid hb1
 have HX4 := hid hx4
 try dsimp only
 refine hK.out _ _ (cx4) (fun hHeld => ?_)
 clear hK K
 try simp only [Act.put, zl0, zl1, zl2]
 clear hd1 hg1 hb1 hx4
 refine held_one 3 (by kernel_rfl) rfl (fun K hK => ?_)
 go_simp
 refine (cut_mk db 0 8 _).mono ?_
 rintro e w5 ⟨v2, B2, rfl, hd2, hg2, hb2⟩
 obtain ⟨k2, a2, c2, rfl, -⟩ := id hd2
 have hx5 := (hb2.block x (zc HX4.out)).trans HX4.out
 have cx5 : w5.cell? ⟨x, 0, none⟩ = some (.pointer (some ⟨db, 0, none⟩)) := (za hx5 0).trans rfl
 have HD2 := hid hd2
 have HG2 := hid hg2
 have HBB2 := hid hb2
 have HX5 := hid hx5
 try dsimp only
 refine hK.out _ _ (cx5) (fun hHeld => ?_)
 clear hK K
 try simp only [Act.put, zl0, zl1, zl2]
 clear hd2 hg2 hb2 hx5
 refine held_one 5 (by kernel_rfl) rfl (fun K hK => ?_)
 go_simp
 refine (sync_mk db 0 _).mono ?_
 rintro e w6 ⟨v3, B3, rfl, hd3, hg3, hb3⟩
 obtain ⟨k3, a3, c3, rfl, -⟩ := id hd3
 have hx6 := (hb3.block x (zc HX5.out)).trans HX5.out
 have cx6 : w6.cell? ⟨x, 0, none⟩ = some (.pointer (some ⟨db, 0, none⟩)) := (za hx6 0).trans rfl
 have HD3 := hid hd3
 have HG3 := hid hg3
 have HBB3 := hid hb3
 have HX6 := hid hx6
 try dsimp only
 refine hK.out _ _ (cx6) (fun hHeld => ?_)
 clear hK K
 try simp only [Act.put, zl0, zl1, zl2]
 clear hd3 hg3 hb3 hx6
 refine held_one 7 (by kernel_rfl) rfl (fun K hK => ?_)
 go_simp
 obtain ⟨w7, hw7⟩ : ∃ w7, w7 = w6.alloc (.cells #[.func (.func k1) a1 c1, .func (.func k2) a2 c2, .func (.func k3) a3 c3, .func (.func 44) #[] #[.pointer (some ⟨x, 0, none⟩)]] 56) := ⟨_, rfl⟩
 rw [← hw7]
 have hb7 : Below w6.heap.size w6 w7 := by rw [hw7]; exact (Below.refl _ _).alloc (Nat.le_refl _) _
 have hblk := ze w6 (.cells #[.func (.func k1) a1 c1, .func (.func k2) a2 c2, .func (.func k3) a3 c3, .func (.func 44) #[] #[.pointer (some ⟨x, 0, none⟩)]] 56)
 rw [← hw7] at hblk
 have hx7 := (hb7.block x (zc HX6.out)).trans HX6.out
 have cx7 : w7.cell? ⟨x, 0, none⟩ = some (.pointer (some ⟨db, 0, none⟩)) := (za hx7 0).trans rfl
 try dsimp only
 refine hK.out _ _ (cx7) (fun hHeld => ?_)
 clear hK K
 try simp only [Act.put, zl0, zl1, zl2]
 have HX7 := hid hx7
 have hs1 := HBB1.out.size
 have hs2 := HBB2.out.size
 have hs3 := HBB3.out.size
 have h0 : w3.drew.heap.size = w3.heap.size := rfl
 have h34 : Below w3.heap.size w3 w4 := below_undrew HBB1.out
 have h37 : Below w3.heap.size w3 w7 := ((h34.trans (HBB2.out.mono (by omega))).trans (HBB3.out.mono (by omega))).trans (hb7.mono (by omega))
 have hD7 := HF.out.below h37
 have hx3l := zc HX3.out
 have hBlt : ∀ y ∈ B1 ++ (B2 ++ (B3 ++ [x])), y < w7.heap.size := fun y hy => by
  rcases List.mem_append.1 hy with e | hy
  ·exact ((((HD1.out.below HBB2.out).below HBB3.out).below hb7).lt y e)
  rcases List.mem_append.1 hy with e | hy
  ·exact (((HD2.out.below HBB3.out).below hb7).lt y e)
  rcases List.mem_append.1 hy with e | hy
  ·exact ((HD3.out.below hb7).lt y e)
  ·rw [List.mem_singleton.1 hy]; exact zc HX7.out
 have hBo : ∀ y ∈ B1 ++ (B2 ++ (B3 ++ [x])), ¬ F.own y := fun y hy ho => by
  have hol := HF.out.olt y ho
  rcases List.mem_append.1 hy with e | hy
  ·have := HG1.out y e; omega
  rcases List.mem_append.1 hy with e | hy
  ·have := HG2.out y e; omega
  rcases List.mem_append.1 hy with e | hy
  ·have := HG3.out y e; omega
  ·exact (HFX.out y (.inl ho)).1 (.inr (List.mem_singleton.1 hy))
 have ST := bseq_any (B := 131072) [.func (.func k1) a1 c1, .func (.func k2) a2 c2, .func (.func k3) a3 c3, .func (.func 44) #[] #[.pointer (some ⟨x, 0, none⟩)]] bstepsM (B1 ++ (B2 ++ (B3 ++ [x]))) rfl (by simp) w6.heap.size 4 N hD7 HS.out (by omega)
  (fun j v hv => by rw [za hblk]; simpa using hv) (zc hblk) (fun e => by have := HF.out.olt _ e; omega) hBo
  (fun i v m hv hm => by
   unfold bstepsM at hm
   match i, hv, hm with
   | 0, hv, hm =>
    simp only [List.getElem?_cons_zero, Option.some.injEq] at hv hm
    subst hv hm
    exact ((((HD1.out.below HBB2.out).below HBB3.out).below hb7).wider (fun y hy => List.mem_append.2 (.inl hy)) hBlt).up (by omega)
   | 1, hv, hm =>
    simp only [List.getElem?_cons_zero, List.getElem?_cons_succ, Option.some.injEq] at hv hm
    subst hv hm
    exact (((HD2.out.below HBB3.out).below hb7).wider (fun y hy => List.mem_append.2 (.inr (List.mem_append.2 (.inl hy)))) hBlt).up (by omega)
   | 2, hv, hm =>
    simp only [List.getElem?_cons_zero, List.getElem?_cons_succ, Option.some.injEq] at hv hm
    subst hv hm
    exact ((HD3.out.below hb7).wider (fun y hy => List.mem_append.2 (.inr (List.mem_append.2 (.inr (List.mem_append.2 (.inl hy)))))) hBlt).up (by omega)
   | 3, hv, hm =>
    simp only [List.getElem?_cons_zero, List.getElem?_cons_succ, Option.some.injEq] at hv hm
    subst hv hm
    exact (ddoes_start HX7.out).wider (fun y hy => List.mem_append.2 (.inr (List.mem_append.2 (.inr (List.mem_append.2 (.inr hy)))))) hBlt)
 obtain ⟨Z, hZ⟩ : ∃ Z, Z = bseqM bstepsM d := ⟨_, rfl⟩
 have hR := HR.out
 rw [← hZ] at ST hR
 replace HR := hid hR
 have ST := hid ST
 have H37 := hid h37
 clear hZ hR h37 hD7 hBlt hBo hblk hb7 hw7 hx7 cx4 cx5 cx6 hs1 hs2 hs3 h0 h34 hx3l
 refine held_one 8 (by kernel_rfl) rfl (fun K hK => ?_)
 go_simp
 refine (ST.out).mono ?_
 rintro e w8 ⟨rfl, hd8⟩
 have hd3 := Did.then (foot_below F H37.out) hd8
 have HP8 := hid (HCL3.out _ _ hd3).1
 have HK8 := hid (HCL3.out _ _ hd3).2
 have cx8 : w8.cell? ⟨x, 0, none⟩ = some (.pointer (some ⟨db, 0, none⟩)) := (za ((HK8.out x (.inr Hxe.out)).trans HX3.out) 0).trans rfl
 clear hd8 hd3
 try dsimp only
 refine hK.out _ _ (cx8) (fun hHeld => ?_)
 clear hK K
 try simp only [Act.put, zl0, zl1, zl2]
 clear cx7
 refine ht 9 hHeld ?_
 clear hHeld
 refine wpAnyH_done (by kernel_rfl) ?_ _
 have HKX := hid (fun k (hk : X k) => (HK8.out k (.inl hk)).trans (HK3.out k hk))
 by_cases hz : Z.1 = 0
 rotate_left
 ·have b3 : (Z.1 != 0) = true := by simp [hz]
  have hR := HR.out
  rw [if_pos hz] at hR
  replace HR := hid hR
  clear hR hz
  go_wp2_with fail
  go_ret2
  rw [HR.out]
  exact ⟨rfl, HP8.out.to (fun k hk => .inl hk), HKX.out⟩
 have b3 : (Z.1 != 0) = false := by simp [hz]
 have hR := HR.out
 rw [if_neg (by simpa using hz)] at hR
 replace HR := hid hR
 have hn9 := ze w8 (.cells (bkCells a.pb db ⟨0, 0, 0, false, 0⟩) 91)
 have hb9 := (Below.refl w8.heap.size w8).alloc (Nat.le_refl _) (.cells (bkCells a.pb db ⟨0, 0, 0, false, 0⟩) 91)
 have hp9 := HP8.out.add (X' := fun k => X k ∨ k = w8.heap.size) hb9 (fun k hk => hk.imp .inl (fun e => Nat.le_of_eq e.symm)) (fun k hk => hk.elim (fun e => Nat.lt_of_lt_of_le (HP8.out.xlt k (.inl e)) hb9.size) (fun e => by rw [e]; exact zc hn9))
 have hsz8 : W.heap.size ≤ w8.heap.size := by
  have := HP8.out.xlt W.heap.size (.inr rfl)
  omega
 have AN := banew_any (bb := w8.heap.size) (B := ⟨0, 0, 0, false, 0⟩) hp9 (.inr rfl) HP8.out.bel.size hn9 k
 have hkx9 : ∀ k, X k → (w8.alloc (.cells (bkCells a.pb db ⟨0, 0, 0, false, 0⟩) 91)).heap[k]? = W.heap[k]? := fun k hk => (hb9.block k (HP8.out.xlt k (.inl hk))).trans (HKX.out k hk)
 have hxl8 : ∀ k, X k → k ≠ w8.heap.size := fun k hk e => by have := HP8.out.xlt k (.inl hk); omega
 unfold bkCells at AN hkx9
 dsimp only at AN hkx9
 have AN := hid AN
 have HKX9 := hid hkx9
 have HXL8 := hid hxl8
 have Hsz8 := hid hsz8
 clear hR hz hn9 hb9 hp9 hkx9 hxl8 hsz8
 go_wp2_with (first
  | (go_at_call 46; refine (AN.out).mono ?_; rintro e w10 ⟨rfl, hp, hb, hk⟩; have HP10 := hid hp; have HB10 := hid hb; have HK10 := hid hk; clear hp hb hk)
  | go_in)
 go_ret2
 rw [HR.out]
 exact ⟨_, rfl, HP10.out, HB10.out, Hsz8.out, fun k hk => (HK10.out k (.inl hk) (HXL8.out k hk)).trans (HKX9.out k hk)⟩
end
section
variable {w W W' : World} {a : PgD} {pb db bb xb sb : Nat} {F : Foot} {d d' : Dsk} {B : Bk} {X X' : Nat → Prop}
def boxB (W : World) (x bb : Nat) : Prop := W.heap[x]? = some (.cells #[.pointer (some ⟨bb, 0, none⟩)] 34 (0, 0))
def boxS (W : World) (x : Nat) (s : List UInt8) : Prop := W.heap[x]? = some (.cells #[.string (bs s)] 9 (0, 0))
structure BkCells (W : World) (bb pb db : Nat) (B : Bk) : Prop where
 c0 : W.cell? ⟨bb, 0, none⟩ = some (.pointer (some ⟨pb, 0, none⟩))
 c1 : W.cell? ⟨bb, 1, none⟩ = some (.pointer (some ⟨db, 0, none⟩))
 c2 : W.cell? ⟨bb, 2, none⟩ = some (.int .u64 B.k)
 c3 : W.cell? ⟨bb, 3, none⟩ = some (.int .i64 B.pages)
 c4 : W.cell? ⟨bb, 4, none⟩ = some (.int .i64 B.next)
 c5 : W.cell? ⟨bb, 5, none⟩ = some (.bool B.opn)
 c6 : W.cell? ⟨bb, 6, none⟩ = some (.int .i64 B.restarts)
theorem bk_cells (h : W.heap[bb]? = some (bkObj pb db B)) : BkCells W bb pb db B := by
 unfold bkObj bkCells at h
 exact ⟨(za h 0).trans rfl, (za h 1).trans rfl, (za h 2).trans rfl, (za h 3).trans rfl, (za h 4).trans rfl, (za h 5).trans rfl, (za h 6).trans rfl⟩
theorem bk_free (h : W.heap[bb]? = some (bkObj pb db B)) (o : Nat) : W.frozen? ⟨bb, o, none⟩ = false := zg h o
set_option maxHeartbeats 1000000 in
theorem bwritec_any {s : List UInt8} (hx : boxB W xb bb) (hsb : boxS W sb s) (hbk : W.heap[bb]? = some (bkObj pb db B)) (hn : 0 ≤ B.next ∧ B.next ≤ 1000) (h : DiskAt W db F d) (hs : d.Small 1099511527776) (hsl : s.length ≤ 1000) (hxo : ¬ F.own xb) (hso : ¬ F.own sb) (hbo : ¬ F.own bb) :
  Calls Tryz.prog 85 #[.pointer (some ⟨xb, 0, none⟩), .pointer (some ⟨sb, 0, none⟩)] W fun e w' => e = .returned (.int .i64 (writeM d 0 (8 * (B.next - 1)) s).1) ∧ Did W db F (writeM d 0 (8 * (B.next - 1)) s).2 w' := by
 have c0 : W.cell? ⟨xb, 0, none⟩ = some (.pointer (some ⟨bb, 0, none⟩)) := (za hx 0).trans rfl
 have c1 : W.cell? ⟨sb, 0, none⟩ = some (.string (bs s)) := (za hsb 0).trans rfl
 have d1 := (bk_cells hbk).c1
 have d4 := (bk_cells hbk).c4
 have hD : DiskAt W.drew db F d := h.below ((Below.refl _ _).drew)
 obtain ⟨n, hne⟩ : ∃ n, n = B.next := ⟨_, rfl⟩
 rw [← hne] at d4 hn ⊢
 have hw1 : IntKind.i64.wrap (n - 1) = n - 1 := IntWalk.i64_in _ (by omega)
 have hw2 : IntKind.i64.wrap (8 * (n - 1)) = 8 * (n - 1) := IntWalk.i64_in _ (by omega)
 have WR := hid (write_any hD 0 (8 * (n - 1)) s hs (by omega))
 have HKS := hid (fun (W2 : World) (hd : Did W.drew db F (writeM d 0 (8 * (n - 1)) s).2 W2) => (show W2.cell? ⟨xb, 0, none⟩ = some (.pointer (some ⟨bb, 0, none⟩)) ∧ W2.cell? ⟨sb, 0, none⟩ = some (.string (bs s)) ∧ W2.cell? ⟨bb, 1, none⟩ = some (.pointer (some ⟨db, 0, none⟩)) ∧ W2.cell? ⟨bb, 4, none⟩ = some (.int .i64 n) from by
  obtain ⟨F', -, hst⟩ := hd
  have k1 := hst.frm.block xb (zc hx) hxo
  have k2 := hst.frm.block sb (zc hsb) hso
  have k3 := hst.frm.block bb (zc hbk) hbo
  refine ⟨?_, ?_, ?_, ?_⟩
  ·rw [← c0]; unfold World.cell?; rw [k1]; rfl
  ·rw [← c1]; unfold World.cell?; rw [k2]; rfl
  ·rw [← d1]; unfold World.cell?; rw [k3]; rfl
  ·rw [← d4]; unfold World.cell?; rw [k3]; rfl))
 clear hx hsb hbk h hs hD hne
 go_enter Tryz.func85, Tryz.ntmps85
 go_upto_region 1 with fail
 refine wp_region_held_drew (S := fun W2 => W2.cell? ⟨xb, 0, none⟩ = some (.pointer (some ⟨bb, 0, none⟩)) ∧ W2.cell? ⟨sb, 0, none⟩ = some (.string (bs s)) ∧ W2.cell? ⟨bb, 1, none⟩ = some (.pointer (some ⟨db, 0, none⟩)) ∧ W2.cell? ⟨bb, 4, none⟩ = some (.int .i64 n)) (by kernel_rfl) ⟨c0, c1, d1, d4⟩ (fun hHeld => ?_)
 clear c0 c1 d1 d4
 refine ht 0 hHeld ?_
 refine ht 1 hHeld ?_
 refine ht 2 hHeld ?_
 refine ht 3 hHeld ?_
 refine ht 4 hHeld ?_
 refine ht 5 hHeld ?_
 refine ht 6 hHeld ?_
 refine ht 7 hHeld ?_
 refine ht 8 hHeld ?_
 refine ht 9 hHeld ?_
 refine ht 10 hHeld ?_
 refine held_one 11 (by kernel_rfl) rfl (fun K hK => ?_)
 go_simp
 refine (WR.out).mono ?_
 rintro e w1 ⟨rfl, hd⟩
 have hks := HKS.out _ hd
 have HD := hid hd
 clear hd
 try dsimp only
 refine hK.out _ _ (hks) (fun hHeld => ?_)
 clear hK K
 try simp only [Act.put, zl0, zl1, zl2]
 clear hks
 refine ht 12 hHeld ?_
 clear hHeld
 refine wpAnyH_done (by kernel_rfl) ?_ _
 go_wp2_with fail
 go_ret
 exact ⟨rfl, ddid_drew HD.out⟩
theorem last_skip {P : Program} {l : List Oper} {Q : Exit → Act → World → Prop} {md : Region.Mode} {S : World → Prop} {z : Nat} (i : Nat) {oi : Oper} {fuel : Nat} {listed : Array Bool} {a : Act} {w : World} (hi : l[i]? = some oi) (hz : zWaits md l.toArray z i = true)
  (hs : Region.noSelect l.toArray = true) (hf : Region.free md l.toArray listed i = true) (hr : (Region.ready md l.toArray listed).contains i = true)
  (hQ : ∀ c a w, Q (.panic c) (a.put oi.dst undef) w → Q (.panic c) a w) (hw : Region.wanted oi (yielded l.toArray a.tmps) = false)
  (hS : S w) (h : wpAnyL P md l.toArray Q S z fuel (listed.setIfInBounds i true) (a.put oi.dst undef) w) : wpAnyL P md l.toArray Q S z (fuel + 1) listed a w :=
 last_first (by simpa using hi) hz (Region.noSelect_spec hs) hQ fuel listed a w (Region.free_spec (by simpa using hi) hf) (by simpa using hr) (.inr ⟨hw, rfl⟩) hS h
set_option maxHeartbeats 1000000 in
theorem bopenc_f {s : List UInt8} {wb : Nat} (hop : B.opn = false) (hwb : W.heap[wb]? = some (.cells #[.func (.func 85) #[] #[.pointer (some ⟨xb, 0, none⟩), .pointer (some ⟨sb, 0, none⟩)]] 56 (0, 0))) (hx : boxB W xb bb) (hsb : boxS W sb s) (hbk : W.heap[bb]? = some (bkObj pb db B)) (hn : 0 ≤ B.next ∧ B.next ≤ 1000) (h : DiskAt W db F d) (hs : d.Small 1099511527776) (hsl : s.length ≤ 1000) (hxo : ¬ F.own xb) (hso : ¬ F.own sb) (hbo : ¬ F.own bb) :
  Calls Tryz.prog 86 #[.pointer (some ⟨wb, 0, none⟩), .pointer (some ⟨xb, 0, none⟩)] W fun e w' => e = .returned (.int .i64 (writeM d 0 (8 * (B.next - 1)) s).1) ∧ ∃ W1, Did W db F (writeM d 0 (8 * (B.next - 1)) s).2 W1 ∧ Frm (fun j => j = bb) W1 w' ∧ w'.heap[bb]? = some (bkObj pb db { B with opn := B.opn || (writeM d 0 (8 * (B.next - 1)) s).1 == 0 }) := by
 have e0 : W.cell? ⟨wb, 0, none⟩ = some (.func (.func 85) #[] #[.pointer (some ⟨xb, 0, none⟩), .pointer (some ⟨sb, 0, none⟩)]) := (za hwb 0).trans rfl
 have WC := bwritec_any hx hsb hbk hn h hs hsl hxo hso hbo
 have hen := fun args w => run_enter Tryz.func85 (by kernel_rfl) rfl args w
 obtain ⟨Z, hZ⟩ : ∃ Z, Z = writeM d 0 (8 * (B.next - 1)) s := ⟨_, rfl⟩
 rw [← hZ] at WC ⊢
 have WC := hid WC
 have HX := hid hx
 have HBK := hid hbk
 have HXO := hid hxo
 have HBO := hid hbo
 clear hwb hx hsb hbk h hs hxo hbo hso hZ
 go_enter Tryz.func86, Tryz.ntmps86
 go_upto_region 2 with (first
  | (refine (WC.out).mono ?_; rintro e w1 ⟨rfl, hd⟩; have HD := hid hd; clear hd)
  | go_in)
 have hxo := HXO.out
 have hbo := HBO.out
 have hx1 : boxB w1 xb bb := by
  obtain ⟨F', -, hst⟩ := HD.out
  exact (hst.frm.block xb (zc HX.out) hxo).trans HX.out
 have hk1 : w1.heap[bb]? = some (bkObj pb db B) := by
  obtain ⟨F', -, hst⟩ := HD.out
  exact (hst.frm.block bb (zc HBK.out) hbo).trans HBK.out
 have x0 : w1.drew.cell? ⟨xb, 0, none⟩ = some (.pointer (some ⟨bb, 0, none⟩)) := (za (show w1.drew.heap[xb]? = _ from hx1) 0).trans rfl
 have x5 : w1.drew.cell? ⟨bb, 5, none⟩ = some (.bool false) := by
  have := (bk_cells (show w1.drew.heap[bb]? = _ from hk1)).c5
  rw [hop] at this
  exact this
 have f5 := bk_free (show w1.drew.heap[bb]? = _ from hk1) 5
 have HK1 := hid hk1
 have Hop := hid hop
 clear hxo hbo hx1 hk1 hop
 obtain ⟨z, hz⟩ : ∃ z, z = Z.1 := ⟨_, rfl⟩
 rw [← hz]
 have Hz := hid hz
 clear hz
 refine wp_region_last 11 (fun W2 => W2.cell? ⟨xb, 0, none⟩ = some (.pointer (some ⟨bb, 0, none⟩)) ∧ W2.cell? ⟨bb, 5, none⟩ = some (.bool false)) (by kernel_rfl) ⟨x0, x5⟩ (fun hHeld => ?_)
 refine lt0 0 hHeld ?_
 refine lt0 1 hHeld ?_
 refine lt0 2 hHeld ?_
 refine lt0 3 hHeld ?_
 refine lt0 4 hHeld ?_
 refine lt0 5 hHeld ?_
 refine lt0 6 hHeld ?_
 refine lt0 7 hHeld ?_
 refine lt0 8 hHeld ?_
 refine last_one 9 (by kernel_rfl) rfl (fun K hK => ?_)
 go_simp
 refine hK.out _ _ (fun _ => ⟨x0, x5⟩) (fun hHeld => ?_)
 have hHeld := hHeld (by decide)
 clear hK K
 try simp only [Act.put, zl0, zl1, zl2]
 refine last_one 10 (by kernel_rfl) rfl (fun K hK => ?_)
 go_simp
 refine hK.out _ _ (fun _ => ⟨x0, x5⟩) (fun hHeld => ?_)
 have hHeld := hHeld (by decide)
 clear hK K
 try simp only [Act.put, zl0, zl1, zl2]
 refine last_one 11 (by kernel_rfl) rfl (fun K hK => ?_)
 go_simp
 refine hK.out _ _ (fun e => absurd rfl e) (fun _ => ?_)
 clear hK K hHeld
 try simp only [Act.put, zl0, zl1, zl2]
 refine wpAnyL_done (by kernel_rfl) ?_ _
 go_wp2_with fail
 go_ret
 rw [Hz.out]
 refine ⟨rfl, w1, HD.out, ?_, ?_⟩
 ·exact ((Frm.refl (fun j => j = bb) w1).setCell (p := ⟨bb, 5, none⟩) (.inl rfl) _).drew
 ·have hk := HK1.out
  unfold bkObj at hk
  have h5 := zd hk 5 (.bool (Z.1 == 0))
  refine h5.trans ?_
  rw [Hop.out, Bool.false_or]
  rfl
set_option maxHeartbeats 1000000 in
theorem bopenc_t {s : List UInt8} {wb : Nat} (hop : B.opn = true) (hwb : W.heap[wb]? = some (.cells #[.func (.func 85) #[] #[.pointer (some ⟨xb, 0, none⟩), .pointer (some ⟨sb, 0, none⟩)]] 56 (0, 0))) (hx : boxB W xb bb) (hsb : boxS W sb s) (hbk : W.heap[bb]? = some (bkObj pb db B)) (hn : 0 ≤ B.next ∧ B.next ≤ 1000) (h : DiskAt W db F d) (hs : d.Small 1099511527776) (hsl : s.length ≤ 1000) (hxo : ¬ F.own xb) (hso : ¬ F.own sb) (hbo : ¬ F.own bb) :
  Calls Tryz.prog 86 #[.pointer (some ⟨wb, 0, none⟩), .pointer (some ⟨xb, 0, none⟩)] W fun e w' => e = .returned (.int .i64 (writeM d 0 (8 * (B.next - 1)) s).1) ∧ ∃ W1, Did W db F (writeM d 0 (8 * (B.next - 1)) s).2 W1 ∧ Frm (fun j => j = bb) W1 w' ∧ w'.heap[bb]? = some (bkObj pb db { B with opn := B.opn || (writeM d 0 (8 * (B.next - 1)) s).1 == 0 }) := by
 have e0 : W.cell? ⟨wb, 0, none⟩ = some (.func (.func 85) #[] #[.pointer (some ⟨xb, 0, none⟩), .pointer (some ⟨sb, 0, none⟩)]) := (za hwb 0).trans rfl
 have WC := bwritec_any hx hsb hbk hn h hs hsl hxo hso hbo
 have hen := fun args w => run_enter Tryz.func85 (by kernel_rfl) rfl args w
 obtain ⟨Z, hZ⟩ : ∃ Z, Z = writeM d 0 (8 * (B.next - 1)) s := ⟨_, rfl⟩
 rw [← hZ] at WC ⊢
 have WC := hid WC
 have HX := hid hx
 have HBK := hid hbk
 have HXO := hid hxo
 have HBO := hid hbo
 clear hwb hx hsb hbk h hs hxo hbo hso hZ
 go_enter Tryz.func86, Tryz.ntmps86
 go_upto_region 2 with (first
  | (refine (WC.out).mono ?_; rintro e w1 ⟨rfl, hd⟩; have HD := hid hd; clear hd)
  | go_in)
 have hxo := HXO.out
 have hbo := HBO.out
 have hx1 : boxB w1 xb bb := by
  obtain ⟨F', -, hst⟩ := HD.out
  exact (hst.frm.block xb (zc HX.out) hxo).trans HX.out
 have hk1 : w1.heap[bb]? = some (bkObj pb db B) := by
  obtain ⟨F', -, hst⟩ := HD.out
  exact (hst.frm.block bb (zc HBK.out) hbo).trans HBK.out
 have x0 : w1.drew.cell? ⟨xb, 0, none⟩ = some (.pointer (some ⟨bb, 0, none⟩)) := (za (show w1.drew.heap[xb]? = _ from hx1) 0).trans rfl
 have x5 : w1.drew.cell? ⟨bb, 5, none⟩ = some (.bool true) := by
  have := (bk_cells (show w1.drew.heap[bb]? = _ from hk1)).c5
  rw [hop] at this
  exact this
 have f5 := bk_free (show w1.drew.heap[bb]? = _ from hk1) 5
 have HK1 := hid hk1
 have Hop := hid hop
 clear hxo hbo hx1 hk1 hop
 obtain ⟨z, hz⟩ : ∃ z, z = Z.1 := ⟨_, rfl⟩
 rw [← hz]
 have Hz := hid hz
 clear hz
 refine wp_region_last 11 (fun W2 => W2.cell? ⟨xb, 0, none⟩ = some (.pointer (some ⟨bb, 0, none⟩)) ∧ W2.cell? ⟨bb, 5, none⟩ = some (.bool true)) (by kernel_rfl) ⟨x0, x5⟩ (fun hHeld => ?_)
 refine lt0 0 hHeld ?_
 refine lt0 1 hHeld ?_
 refine lt0 2 hHeld ?_
 refine lt0 3 hHeld ?_
 refine lt0 4 hHeld ?_
 refine lt0 5 hHeld ?_
 refine last_skip 6 rfl (by kernel_rfl) (by kernel_rfl) (by kernel_rfl) (by kernel_rfl) (fun _ _ _ h => h) (by rfl) hHeld ?_
 simp only [Act.put, zl0, zl1, zl2]
 refine last_skip 7 rfl (by kernel_rfl) (by kernel_rfl) (by kernel_rfl) (by kernel_rfl) (fun _ _ _ h => h) (by rfl) hHeld ?_
 simp only [Act.put, zl0, zl1, zl2]
 refine lt0 8 hHeld ?_
 refine last_one 9 (by kernel_rfl) rfl (fun K hK => ?_)
 go_simp
 refine hK.out _ _ (fun _ => ⟨x0, x5⟩) (fun hHeld => ?_)
 have hHeld := hHeld (by decide)
 clear hK K
 try simp only [Act.put, zl0, zl1, zl2]
 refine last_one 10 (by kernel_rfl) rfl (fun K hK => ?_)
 go_simp
 refine hK.out _ _ (fun _ => ⟨x0, x5⟩) (fun hHeld => ?_)
 have hHeld := hHeld (by decide)
 clear hK K
 try simp only [Act.put, zl0, zl1, zl2]
 refine last_one 11 (by kernel_rfl) rfl (fun K hK => ?_)
 go_simp
 refine hK.out _ _ (fun e => absurd rfl e) (fun _ => ?_)
 clear hK K hHeld
 try simp only [Act.put, zl0, zl1, zl2]
 refine wpAnyL_done (by kernel_rfl) ?_ _
 go_wp2_with fail
 go_ret
 rw [Hz.out]
 refine ⟨rfl, w1, HD.out, ?_, ?_⟩
 ·exact ((Frm.refl (fun j => j = bb) w1).setCell (p := ⟨bb, 5, none⟩) (.inl rfl) _).drew
 ·have hk := HK1.out
  unfold bkObj at hk
  have h5 := zd hk 5 (.bool true)
  refine h5.trans ?_
  rw [Hop.out, Bool.true_or]
  rfl
theorem bopenc_any {s : List UInt8} {wb : Nat} (hwb : W.heap[wb]? = some (.cells #[.func (.func 85) #[] #[.pointer (some ⟨xb, 0, none⟩), .pointer (some ⟨sb, 0, none⟩)]] 56 (0, 0))) (hx : boxB W xb bb) (hsb : boxS W sb s) (hbk : W.heap[bb]? = some (bkObj pb db B)) (hn : 0 ≤ B.next ∧ B.next ≤ 1000) (h : DiskAt W db F d) (hs : d.Small 1099511527776) (hsl : s.length ≤ 1000) (hxo : ¬ F.own xb) (hso : ¬ F.own sb) (hbo : ¬ F.own bb) :
  Calls Tryz.prog 86 #[.pointer (some ⟨wb, 0, none⟩), .pointer (some ⟨xb, 0, none⟩)] W fun e w' => e = .returned (.int .i64 (writeM d 0 (8 * (B.next - 1)) s).1) ∧ ∃ W1, Did W db F (writeM d 0 (8 * (B.next - 1)) s).2 W1 ∧ Frm (fun j => j = bb) W1 w' ∧ w'.heap[bb]? = some (bkObj pb db { B with opn := B.opn || (writeM d 0 (8 * (B.next - 1)) s).1 == 0 }) := by
 cases hop : B.opn with
 | false => have := bopenc_f hop hwb hx hsb hbk hn h hs hsl hxo hso hbo; rw [hop] at this; exact this
 | true => have := bopenc_t hop hwb hx hsb hbk hn h hs hsl hxo hso hbo; rw [hop] at this; exact this
end
end Go.Proofs.YtfkcmgbpgefnnaaGreat
