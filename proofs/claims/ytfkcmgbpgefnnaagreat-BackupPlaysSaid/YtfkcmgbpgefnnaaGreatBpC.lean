/- BackupPlays: the reference's backup (counterfoilref29): its models, and that they are the code's. -/
import Derived.Test.YtfkcmgbpgefnnaaGreatBpA
import Derived.Test.YtfkcmgbpgefnnaaGreatSpY
import Derived.Laws.EntriesVeiled
set_option linter.unusedVariables false
set_option linter.unusedSimpArgs false
namespace Go.Proofs.YtfkcmgbpgefnnaaGreat
open Go.RowKit Go.Maps
set_option maxRecDepth 20000
def rbkObj (rd : Nat) (B : Bk) : Obj := .cells #[.pointer (some ⟨rd, 0, none⟩), .int .u64 B.k, .int .i64 B.pages, .int .i64 B.next, .bool B.opn, .int .i64 B.restarts] 65 (0, 0)
def ranewM (L : List (List UInt8)) (B : Bk) (k : Int) : Bk := { B with k := k, pages := (L.length : Int), next := if (L.length : Int) = 1 then 1 else 2 }
def rpageM (L : List (List UInt8)) (B : Bk) (d : Dsk) : Int × Bk × Dsk :=
 if 1 < B.next then (if (writeM d 0 (8 * (B.next - 1)) (L.getD (B.next - 1).toNat [])).1 ≠ 0 then ((writeM d 0 (8 * (B.next - 1)) (L.getD (B.next - 1).toNat [])).1, B, (writeM d 0 (8 * (B.next - 1)) (L.getD (B.next - 1).toNat [])).2)
  else (0, { B with next := if B.pages < B.next + 1 then 1 else B.next + 1 }, (writeM d 0 (8 * (B.next - 1)) (L.getD (B.next - 1).toNat [])).2))
 else blastM (L.getD 0 []) B d
section
variable {g : Lg} {ds d : Dsk} {B : Bk} {L : List (List UInt8)} {h : Hdr} {M : List (List UInt8)}
theorem rpage_eq (hD : Db g ds L) (h1 : 1 ≤ B.next) (h2 : B.next ≤ (L.length : Int)) : bcopyM p0 g ds B d = rpageM L B d := by
 obtain ⟨n, hn⟩ : ∃ n : Nat, B.next = (n : Int) := ⟨B.next.toNat, by omega⟩
 have hr := read_db hD n (by omega) (by omega)
 unfold bcopyM rpageM
 rw [hn, hr, if_neg (by simp)]
 by_cases hn1 : 1 < (n : Int)
 ·rw [if_pos hn1, if_pos hn1, show ((n : Int) - 1).toNat = n - 1 by omega]
 ·rw [if_neg hn1, if_neg hn1, show n - 1 = 0 by omega]
end
end Go.Proofs.YtfkcmgbpgefnnaaGreat
/- BackupPlays: the reference's backup (counterfoilref29) walked: Lid, cut, anew, page. -/
namespace Go.Proofs.YtfkcmgbpgefnnaaGreat
open Go.RowKit Go.Maps
set_option maxRecDepth 20000
theorem make_zerosB (k : Nat) (hk : k ≤ 1000) : ∃ C : Array Value, (∀ W : World, (Instr.makeSlice 73 (.int .i64 (k : Int)) (.int .i64 (k : Int))).run Tryz.prog W = .ok (.slice (some ⟨W.heap.size, 0, none⟩) k k) (W.alloc (.cells C 5))) ∧
  ∀ W : World, (convert 73 9 (.slice (some ⟨W.heap.size, 0, none⟩) k k)).run Tryz.prog (W.alloc (.cells C 5)) = .ok (.string (bs (zeros k))) (W.alloc (.cells C 5)) := by
 obtain ⟨iu, hiu, hu0, hu1, hu2⟩ := info_parts (P := Tryz.prog) (e := 5) (z := .int .u8 0) (size := 1) (bytes := 1) (by kernel_rfl)
 obtain ⟨C, hC⟩ : ∃ C, C = madeCells #[Value.int .u8 0] k := ⟨_, rfl⟩
 refine ⟨C, fun W => ?_, fun W => ?_⟩
 ·have h := run_make (P := Tryz.prog) (w := W) 73 5 iu (.int .u8 0) Tryz.underlying73 hiu hu0 .i64 .i64 k k (by omega) (by omega) (by rw [hu2]; omega) (by omega)
  rw [hu1] at h
  simp only [Int.toNat_natCast, Nat.mul_one] at h
  rw [hC]
  exact h
 ·have kc := run_convert_cells (P := Tryz.prog) (W.alloc (.cells C 5)) 73 9 5 Tryz.underlying73 Tryz.underlying5 Tryz.underlying9 W.heap.size 0 k k (List.replicate k 0) (by simp)
   (by
    intro i hi
    rw [za (ze W _), hC]
    have hl : (madeCells #[Value.int .u8 0] k).toList[i]? = some (.int .u8 0) := by
     rw [toList_madeCells_one]
     simp [hi]
    simp only [Array.getElem?_toList] at hl
    rw [Nat.zero_add, hl]
    simp [List.getD, hi])
  have e1 : ((List.replicate k (0 : Int)).map fun n => UInt8.ofNat n.toNat) = zeros k := by simp [zeros]
  rw [e1] at kc
  exact kc
set_option maxRecDepth 20000 in
theorem rlid_any (w : World) : Calls Tryz.prog 50 #[] w fun e w' => e = .returned (.string (bs lidL)) ∧ Below w.heap.size w w' := by
 obtain ⟨C, hmk0, kc0⟩ := make_zerosB 502 (by omega)
 have hmk : ∀ W : World, (Instr.makeSlice 73 (.int .i64 502) (.int .i64 502)).run Tryz.prog W = .ok (.slice (some ⟨W.heap.size, 0, none⟩) 502 502) (W.alloc (.cells C 5)) := hmk0
 have kc : ∀ W : World, (convert 73 9 (.slice (some ⟨W.heap.size, 0, none⟩) 502 502)).run Tryz.prog (W.alloc (.cells C 5)) = .ok (.string (bs (zeros 502))) (W.alloc (.cells C 5)) := kc0
 clear hmk0 kc0
 obtain ⟨Z5, hZ5⟩ : ∃ Z5, Z5 = zeros 502 := ⟨_, rfl⟩
 rw [← hZ5] at kc
 have HZ := hid hZ5
 have hz5 : Z5.length = 502 := by rw [hZ5]; simp [zeros]
 clear hZ5
 go_enter Tryz.func50, Tryz.ntmps50
 go_wp2_with fail
 go_ret
 refine ⟨?_, (Below.refl _ _).alloc (Nat.le_refl _) _⟩
 rw [show lidL = [117, 110, 102, 105, 110, 105, 115, 104, 101, 100] ++ Z5 by rw [HZ.out]; rfl]
 rfl
section
variable {w W W' : World}
set_option maxHeartbeats 2000000 in
set_option maxRecDepth 20000 in
theorem rcommits_cons {base : Nat} {v : Value} {s : List UInt8} {M : List (List UInt8)} (h : StrRow W base v (s :: M)) (hs : s.length ≤ 9223372036854775807) (hl : M.length ≤ 1000) :
  Calls Tryz.prog 56 #[v] W fun e w' => e = .returned (.tuple #[.int .u64 (takeH s).1.commits, .bool ((takeH s).2 == 0)]) ∧ Below W.heap.size W w' := by
 obtain ⟨ao, cap, rfl, hc⟩ := h.shape
 obtain ⟨q, rfl, c0⟩ := hc 0 (by simp)
 simp only [List.getElem_cons_zero] at c0
 have TK := rtake_any s hs W
 have hwf2 := (takeH_wf s).len
 obtain ⟨Q2, hQ2⟩ : ∃ Q2, Q2 = takeH s := ⟨_, rfl⟩
 rw [← hQ2] at TK hwf2 ⊢
 obtain ⟨H2, E2⟩ := Q2
 obtain ⟨f, c, kk, r0, r1, r2, r3, r4, r5, r6, r7, rfl⟩ := hdr_form hwf2
 unfold hdrV hdrCells at TK
 simp only [List.map_cons, List.map_nil] at TK
 have TK := hid TK
 obtain ⟨n, hn⟩ : ∃ n, n = (s :: M).length := ⟨_, rfl⟩
 have hn1 : 0 < n := by rw [hn]; simp
 have hn2 : n ≤ 1001 := by rw [hn]; simpa using hl
 have bn : ((n : Int) == 0) = false := by simp; omega
 rw [← hn]
 clear h hc hwf2 hQ2 hn
 go_enter Tryz.func56, Tryz.ntmps56
 go_wp2_with (first
  | (go_at_call 87; refine (TK.out).mono ?_; rintro e w1 ⟨rfl, hb1⟩; have HB1 := hid hb1; clear hb1)
  | go_in)
 go_ret2
 exact ⟨rfl, HB1.out.alloc HB1.out.size _⟩
end
section
variable {w W W' : World} {rd rb : Nat} {d d' : Dsk} {B : Bk} {L : List (List UInt8)} {X : Nat → Prop}
theorem rcut29_any (h : RkX w W rd d X) (f : Nat) (hf : f = 0 ∨ f = 1) (n : Int) (hs : d.Small 1099511627776) :
  Calls Tryz.prog 51 #[.pointer (some ⟨rd, 0, none⟩), .int .i64 (f : Int), .int .i64 n] W fun e w' => e = .returned (.int .i64 (bcutM f n d).1) ∧ RkX w w' rd (bcutM f n d).2 X ∧ ∀ k, X k → w'.heap[k]? = W.heap[k]? := by
 obtain ⟨ga, cap, c0⟩ := h.file f (by omega)
 have CT := hid (rx_cut h f n hs)
 have hz : sizeM d f = ((d.now f).length : Int) := by
  unfold sizeM
  rw [if_pos (by omega), Int.toNat_natCast]
 have hB : bcutM f n d = if ((d.now f).length : Int) ≤ n then (0, d) else cutM d f n := by unfold bcutM; rw [hz]
 rw [hB]
 obtain ⟨q, hq⟩ : ∃ q, q = (d.now f).length := ⟨_, rfl⟩
 rw [← hq] at c0 ⊢
 have H := hid h
 clear h hs hz hB hq
 by_cases hle : (q : Int) ≤ n
 ·have b1 : decide (n < (q : Int)) = false := by simpa using hle
  rw [if_pos hle]
  clear hle
  rcases hf with rfl | rfl
  all_goals
   go_enter Tryz.func51, Tryz.ntmps51
   go_wp2_with fail
   go_ret
   exact ⟨rfl, H.out, fun _ _ => rfl⟩
 ·have b1 : decide (n < (q : Int)) = true := by simp; omega
  rw [if_neg hle]
  clear hle
  obtain ⟨Z, hZ⟩ : ∃ Z, Z = cutM d f n := ⟨_, rfl⟩
  have CT2 := CT.out
  rw [← hZ] at CT2 ⊢
  replace CT := hid CT2
  clear CT2 hZ
  rcases hf with rfl | rfl
  all_goals
   go_enter Tryz.func51, Tryz.ntmps51
   go_wp2_with (first
    | (go_at_call 53; refine (CT.out).mono ?_; rintro e w1 ⟨rfl, hx, hk⟩; have HX := hid hx; have HK := hid hk; clear hx hk)
    | go_in)
   go_ret
   exact ⟨rfl, HX.out, HK.out⟩
structure RbkCells (W : World) (rb rd : Nat) (B : Bk) : Prop where
 c0 : W.cell? ⟨rb, 0, none⟩ = some (.pointer (some ⟨rd, 0, none⟩))
 c1 : W.cell? ⟨rb, 1, none⟩ = some (.int .u64 B.k)
 c2 : W.cell? ⟨rb, 2, none⟩ = some (.int .i64 B.pages)
 c3 : W.cell? ⟨rb, 3, none⟩ = some (.int .i64 B.next)
 c4 : W.cell? ⟨rb, 4, none⟩ = some (.bool B.opn)
 c5 : W.cell? ⟨rb, 5, none⟩ = some (.int .i64 B.restarts)
theorem rbk_cells (h : W.heap[rb]? = some (rbkObj rd B)) : RbkCells W rb rd B := by
 unfold rbkObj at h
 exact ⟨(za h 0).trans rfl, (za h 1).trans rfl, (za h 2).trans rfl, (za h 3).trans rfl, (za h 4).trans rfl, (za h 5).trans rfl⟩
theorem rbk_free (h : W.heap[rb]? = some (rbkObj rd B)) (o : Nat) : W.frozen? ⟨rb, o, none⟩ = false := zg h o
set_option maxHeartbeats 1000000 in
set_option maxRecDepth 20000 in
theorem ranew_any {base : Nat} {v : Value} {h0 : Hdr} {M : List (List UInt8)} (h : RkX w W rd d X) (hX : X rb) (hge : w.heap.size ≤ rb) (hbk : W.heap[rb]? = some (rbkObj rd B)) (hr : StrRow W base v (hdrPg h0 :: M)) (hh : HdOk h0) (hM : M.length ≤ 255) :
  Calls Tryz.prog 54 #[.pointer (some ⟨rb, 0, none⟩), v] W fun e w' => e = .returned (.tuple #[]) ∧ RkX w w' rd d X ∧ w'.heap[rb]? = some (rbkObj rd (ranewM (hdrPg h0 :: M) B h0.commits)) ∧ ∀ j, X j → j ≠ rb → w'.heap[j]? = W.heap[j]? := by
 have htk : takeH (hdrPg h0) = (h0, 0) := takeH_put hh.may hh.wf
 have RC := rcommits_cons hr (by rw [hdrPg_length h0 hh.wf.len]; omega) (by omega)
 rw [htk] at RC
 have RC := hid RC
 obtain ⟨ao, cap, rfl, -⟩ := hr.shape
 obtain ⟨n, hn⟩ : ∃ n, n = (hdrPg h0 :: M).length := ⟨_, rfl⟩
 have hn2 : n ≤ 256 := by rw [hn]; simp; omega
 obtain ⟨nx, hnx⟩ : ∃ nx : Int, nx = if (n : Int) = 1 then 1 else 2 := ⟨_, rfl⟩
 have hnew : ranewM (hdrPg h0 :: M) B h0.commits = ⟨h0.commits, n, nx, B.opn, B.restarts⟩ := by unfold ranewM; rw [hnx, ← hn]
 have Hnx := hid hnx
 rw [hnew]
 rw [← hn] at RC ⊢
 have H := hid h
 have HBK := hid hbk
 have HXr := hid hX
 have Hge := hid hge
 clear h hr hh hM htk hn hnew hbk hX hge hnx
 go_enter Tryz.func54, Tryz.ntmps54
 go_upto_region 1 with (first
  | (go_at_call 56; refine (RC.out).mono ?_; rintro e w1 ⟨rfl, hb⟩; have HB := hid hb; clear hb)
  | go_in)
 have hx1 := H.out.below HB.out
 have hbk1 := (HB.out.block rb (H.out.xlt rb HXr.out)).trans HBK.out
 have c1 := (rbk_cells hbk1).c1
 have c2 := (rbk_cells hbk1).c2
 have c3 := (rbk_cells hbk1).c3
 have f1 := rbk_free hbk1 1
 have f2 := rbk_free hbk1 2
 have f3 := rbk_free hbk1 3
 have HX1 := hid hx1
 have HBK1 := hid hbk1
 have HL := hid (fun (W5 : World) (hf : Frm (fun j => j = rb) w1 W5) => And.intro (hx1.law hf (fun j hj => ⟨by rw [hj]; exact HXr.out, by rw [hj]; exact Hge.out⟩)) (fun j (hj : X j) (hn : j ≠ rb) => (hf.block j (hx1.xlt j hj) hn).trans (HB.out.block j (H.out.xlt j hj))))
 clear hx1 hbk1
 by_cases h1 : n = 1
 ·subst h1
  have hnx1 : nx = 1 := by rw [Hnx.out]; rfl
  have Hnx1 := hid hnx1
  clear hnx1
  go_wp2_with fail
  go_end0
  refine (fun hq => ⟨rfl, hq.1, ?_, hq.2⟩ : (RkX w _ rd d X ∧ ∀ j, X j → j ≠ rb → _ = W.heap[j]?) → _) (HL.out _ ?_)
  ·exact ((((Frm.refl (fun j => j = rb) w1).setCell (p := ⟨rb, 1, none⟩) (.inl rfl) _).setCell (p := ⟨rb, 2, none⟩) (.inl rfl) _).setCell (p := ⟨rb, 3, none⟩) (.inl rfl) _).setCell (p := ⟨rb, 3, none⟩) (.inl rfl) _
  ·have hk := HBK1.out
   unfold rbkObj at hk
   refine (zd (zd (zd (zd hk 1 (.int .u64 h0.commits)) 2 (.int .i64 1)) 3 (.int .i64 2)) 3 (.int .i64 1)).trans ?_
   rw [Hnx1.out]
   rfl
 ·have b1 : ((n : Int) == 1) = false := by simp; omega
  have hnx1 : nx = 2 := by rw [Hnx.out, if_neg (by omega)]
  have Hnx1 := hid hnx1
  clear hnx1
  go_wp2_with fail
  go_end0
  refine (fun hq => ⟨rfl, hq.1, ?_, hq.2⟩ : (RkX w _ rd d X ∧ ∀ j, X j → j ≠ rb → _ = W.heap[j]?) → _) (HL.out _ ?_)
  ·exact (((Frm.refl (fun j => j = rb) w1).setCell (p := ⟨rb, 1, none⟩) (.inl rfl) _).setCell (p := ⟨rb, 2, none⟩) (.inl rfl) _).setCell (p := ⟨rb, 3, none⟩) (.inl rfl) _
  ·have hk := HBK1.out
   unfold rbkObj at hk
   refine (zd (zd (zd hk 1 (.int .u64 h0.commits)) 2 (.int .i64 n)) 3 (.int .i64 2)).trans ?_
   rw [Hnx1.out]
   rfl
end
end Go.Proofs.YtfkcmgbpgefnnaaGreat
