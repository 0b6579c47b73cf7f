/- BackupPlays: the reference's Start and Left, walked. -/
import Derived.Test.YtfkcmgbpgefnnaaGreatBpG
import Derived.Test.YtfkcmgbpgefnnaaGreatBpE
set_option linter.unusedVariables false
set_option linter.unusedSimpArgs false
namespace Go.Proofs.YtfkcmgbpgefnnaaGreat
open Go.RowKit Go.Maps
set_option maxRecDepth 20000
section
variable {w W W' : World} {rd rb : Nat} {d : Dsk} {B : Bk} {X : Nat → Prop} {g : Lg} {ds : Dsk} {h0 : Hdr} {M : List (List UInt8)}
theorem steps_eq (h : NoLog d) : bseqM bstepsM d = if (writeM d 0 0 lidL).1 ≠ 0 then writeM d 0 0 lidL else if (bcutM 0 8 (writeM d 0 0 lidL).2).1 ≠ 0 then bcutM 0 8 (writeM d 0 0 lidL).2 else if (syncM (bcutM 0 8 (writeM d 0 0 lidL).2).2 0).1 ≠ 0 then syncM (bcutM 0 8 (writeM d 0 0 lidL).2).2 0 else (0, (syncM (bcutM 0 8 (writeM d 0 0 lidL).2).2 0).2) := by
 have h1 : NoLog (syncM (bcutM 0 8 (writeM d 0 0 lidL).2).2 0).2 := nolog_sync (nolog_cut (nolog_write h (by decide) _) (by decide))
 have e : bseqM bstepsM d = if (writeM d 0 0 lidL).1 ≠ 0 then writeM d 0 0 lidL else if (bcutM 0 8 (writeM d 0 0 lidL).2).1 ≠ 0 then bcutM 0 8 (writeM d 0 0 lidL).2 else if (syncM (bcutM 0 8 (writeM d 0 0 lidL).2).2 0).1 ≠ 0 then syncM (bcutM 0 8 (writeM d 0 0 lidL).2).2 0 else if (emptyLogM (syncM (bcutM 0 8 (writeM d 0 0 lidL).2).2 0).2).1 ≠ 0 then emptyLogM (syncM (bcutM 0 8 (writeM d 0 0 lidL).2).2 0).2 else (0, (emptyLogM (syncM (bcutM 0 8 (writeM d 0 0 lidL).2).2 0).2).2) := rfl
 rw [e, nolog_empty h1]
 rfl
def RStartGave (w W : World) (rd : Nat) (X : Nat → Prop) (B0 : Bk) (R : Int × Dsk) (e : Ending) (w' : World) : Prop :=
 (∀ k, X k → w'.heap[k]? = W.heap[k]?) ∧ ((R.1 ≠ 0 ∧ e = .returned (.tuple #[.pointer none, .int .i64 R.1]) ∧ RkX w w' rd R.2 X) ∨
  (R.1 = 0 ∧ ∃ rb, e = .returned (.tuple #[.pointer (some ⟨rb, 0, none⟩), .int .i64 0]) ∧ RkX w w' rd R.2 (fun k => X k ∨ k = rb) ∧ w'.heap[rb]? = some (rbkObj rd B0) ∧ ¬ X rb ∧ w.heap.size ≤ rb))
set_option maxHeartbeats 4000000 in
set_option maxRecDepth 20000 in
theorem rstart29_any {base N : Nat} {v : Value} (h : RkX w W rd d X) (hr : StrRow W base v (hdrPg h0 :: M)) (hv : ∀ k, v.ownBlock = some k → X k) (hD : Db g ds (hdrPg h0 :: M)) (hh : HdOk h0) (hlog : NoLog d) (hsm : d.Small N) (hN : N + 262144 ≤ 1099511527776) :
  Calls Tryz.prog 12 #[v, .pointer (some ⟨rd, 0, none⟩)] W (RStartGave w W rd X (bkAnew p0 g ⟨0, 0, 0, false, 0⟩ h0.commits) (bseqM bstepsM d)) := by
 have hmany := hD.many
 have hM : M.length ≤ 255 := by simp at hmany; omega
 have hanew : ∀ B1 : Bk, ranewM (hdrPg h0 :: M) B1 h0.commits = bkAnew p0 g B1 h0.commits := fun B1 => by
  unfold bkAnew ranewM
  rw [db_pages (p := p0) hD rfl]
 have hRd := steps_eq hlog
 obtain ⟨R, hR⟩ : ∃ R, R = bseqM bstepsM d := ⟨_, rfl⟩
 rw [← hR] at hRd ⊢
 have hlog3 : NoLog (syncM (bcutM 0 8 (writeM d 0 0 lidL).2).2 0).2 := nolog_sync (nolog_cut (nolog_write hlog (by decide) _) (by decide))
 obtain ⟨Z1, hZ1⟩ : ∃ Z1, Z1 = writeM d 0 0 lidL := ⟨_, rfl⟩
 obtain ⟨Z2, hZ2⟩ : ∃ Z2, Z2 = bcutM 0 8 Z1.2 := ⟨_, rfl⟩
 obtain ⟨Z3, hZ3⟩ : ∃ Z3, Z3 = syncM Z2.2 0 := ⟨_, rfl⟩
 have hs1 : Z1.2.Small (N + 32768) := by rw [hZ1]; exact (write_small hsm).mono (by omega)
 have hs2 : Z2.2.Small (N + 65536) := by rw [hZ2]; exact (bcut_sm8 hs1).mono (by omega)
 have W1 := fun (W1 : World) (hx : RkX w W1 rd d X) => rx_write hx 0 0 lidL (hsm.mono (by omega)) (by decide)
 have W2 := fun (W1 : World) (hx : RkX w W1 rd Z1.2 X) => rcut29_any hx 0 (.inl rfl) 8 (hs1.mono (by omega))
 have W3 := fun (W1 : World) (hx : RkX w W1 rd Z2.2 X) => rx_sync hx 0 (hs2.mono (by omega))
 have e2 : bcutM ((0 : Nat) : Int) 8 Z1.2 = Z2 := hZ2.symm
 rw [← hZ1, ← hZ2, ← hZ3] at hlog3 hRd
 have HRd := hid hRd
 simp only [← hZ1] at W1
 simp only [e2] at W2
 simp only [← hZ3] at W3
 have LID := hid (fun W => rlid_any W)
 obtain ⟨ll, hll⟩ : ∃ ll, ll = lidL := ⟨_, rfl⟩
 rw [← hll] at W1 LID
 have AN := hid (fun (W4 : World) (b4 : Nat) (hx : RkX w W4 rd Z3.2 (fun k => X k ∨ k = b4)) (hk4 : w.heap.size ≤ b4) (hb4 : W4.heap[b4]? = some (rbkObj rd ⟨0, 0, 0, false, 0⟩)) (hkk : ∀ k, X k → W4.heap[k]? = W.heap[k]?) => ranew_any hx (.inr rfl) hk4 hb4 (row_keep hr (fun k e => hkk k (hv k e))) hh hM)
 obtain ⟨ao, cap, rfl, -⟩ := hr.shape
 have H := hid h
 have HW1 := hid W1
 have HW2 := hid W2
 have HW3 := hid W3
 have Hlog3 := hid hlog3.now
 have HANW := hid hanew
 clear hRd hR h W1 W2 W3 hll hZ1 hZ2 hZ3 e2 hs1 hs2 hsm hlog hlog3 hr hv hD hh hM hmany hanew
 go_enter Tryz.func12, Tryz.ntmps12
 go_upto_region 2 with (first
  | (go_at_call 50; refine (LID.out _).mono ?_; rintro e w1 ⟨rfl, hb⟩; have H1 := hid (H.out.below hb); have HK1 := hid (fun j (hj : X j) => hb.block j (H.out.xlt j hj)); clear hb)
  | (go_at_call 49; refine (HW1.out _ H1.out).mono ?_; rintro e w2 ⟨rfl, hx, hk⟩; have H2 := hid hx; have HK2 := hid (fun j (hj : X j) => (hk j hj).trans (HK1.out j hj)); clear hx hk)
  | go_in)
 obtain ⟨z1, hz1⟩ : ∃ z1, z1 = Z1.1 := ⟨_, rfl⟩
 rw [← hz1]
 have Hz1 := hid hz1
 clear hz1
 by_cases h1 : z1 = 0
 rotate_left
 ·have b1 : (z1 == 0) = false := by simp [h1]
  have b2 : (z1 != 0) = true := by simp [h1]
  have Hne := hid h1
  clear h1
  go_wp2_with fail
  go_ret2
  have e : R = Z1 := by rw [HRd.out, if_pos (show Z1.1 ≠ 0 by rw [← Hz1.out]; exact Hne.out)]
  rw [e]
  exact ⟨HK2.out, .inl ⟨by rw [← Hz1.out]; exact Hne.out, by rw [← Hz1.out]; rfl, H2.out⟩⟩
 have H10' := hid (show Z1.1 = 0 from Hz1.out.symm.trans h1)
 subst h1
 clear Hz1
 go_upto_region 4 with (first
  | (go_at_call 51; refine (HW2.out _ H2.out).mono ?_; rintro e w3 ⟨rfl, hx, hk⟩; have H3 := hid hx; have HK3 := hid (fun j (hj : X j) => (hk j hj).trans (HK2.out j hj)); clear hx hk)
  | go_in)
 obtain ⟨z2, hz2⟩ : ∃ z2, z2 = Z2.1 := ⟨_, rfl⟩
 rw [← hz2]
 have Hz2 := hid hz2
 clear hz2
 by_cases h1 : z2 = 0
 rotate_left
 ·have b1 : (z2 == 0) = false := by simp [h1]
  have b2 : (z2 != 0) = true := by simp [h1]
  have Hne := hid h1
  clear h1
  go_wp2_with fail
  go_ret2
  have e : R = Z2 := by rw [HRd.out, if_neg (show ¬ Z1.1 ≠ 0 from fun e => e H10'.out), if_pos (show Z2.1 ≠ 0 by rw [← Hz2.out]; exact Hne.out)]
  rw [e]
  exact ⟨HK3.out, .inl ⟨by rw [← Hz2.out]; exact Hne.out, by rw [← Hz2.out]; rfl, H3.out⟩⟩
 have H20' := hid (show Z2.1 = 0 from Hz2.out.symm.trans h1)
 subst h1
 clear Hz2
 go_upto_region 6 with (first
  | (go_at_call 52; refine (HW3.out _ H3.out).mono ?_; rintro e w4 ⟨rfl, hx, hk⟩; have H4 := hid hx; have HK4 := hid (fun j (hj : X j) => (hk j hj).trans (HK3.out j hj)); clear hx hk)
  | go_in)
 obtain ⟨z3, hz3⟩ : ∃ z3, z3 = Z3.1 := ⟨_, rfl⟩
 rw [← hz3]
 have Hz3 := hid hz3
 clear hz3
 by_cases h1 : z3 = 0
 rotate_left
 ·have b1 : (z3 == 0) = false := by simp [h1]
  have b2 : (z3 != 0) = true := by simp [h1]
  have Hne := hid h1
  clear h1
  go_wp2_with fail
  go_ret2
  have e : R = Z3 := by rw [HRd.out, if_neg (show ¬ Z1.1 ≠ 0 from fun e => e H10'.out), if_neg (show ¬ Z2.1 ≠ 0 from fun e => e H20'.out), if_pos (show Z3.1 ≠ 0 by rw [← Hz3.out]; exact Hne.out)]
  rw [e]
  exact ⟨HK4.out, .inl ⟨by rw [← Hz3.out]; exact Hne.out, by rw [← Hz3.out]; rfl, H4.out⟩⟩
 have H30' := hid (show Z3.1 = 0 from Hz3.out.symm.trans h1)
 subst h1
 clear Hz3
 obtain ⟨ga, gcap, c1⟩ := H4.out.file 1 (by decide)
 rw [Hlog3.out] at c1
 have c1 : w4.cell? ⟨rd, 1, none⟩ = some (.slice ga 0 gcap) := c1
 go_upto_region 13 with fail
 have hn9 := ze w4 (.cells #[.pointer (some ⟨rd, 0, none⟩), .int .u64 0, .int .i64 0, .int .i64 0, .bool false, .int .i64 0] 65)
 have hb9 := (Below.refl w4.heap.size w4).alloc (Nat.le_refl _) (.cells #[.pointer (some ⟨rd, 0, none⟩), .int .u64 0, .int .i64 0, .int .i64 0, .bool false, .int .i64 0] 65)
 have hx9 := H4.out.add (X' := fun k => X k ∨ k = w4.heap.size) hb9 (fun k hk => hk.imp id (fun e => Nat.le_of_eq e.symm)) (fun k hk => hk.elim (fun e => Nat.lt_of_lt_of_le (H4.out.xlt k e) hb9.size) (fun e => by rw [e]; exact zc hn9))
 have hk9 : ∀ k, X k → (w4.alloc (.cells #[.pointer (some ⟨rd, 0, none⟩), .int .u64 0, .int .i64 0, .int .i64 0, .bool false, .int .i64 0] 65)).heap[k]? = W.heap[k]? := fun k hk => (hb9.block k (H4.out.xlt k hk)).trans (HK4.out k hk)
 have AN9 := AN.out _ w4.heap.size hx9 H4.out.bel.size hn9 hk9
 rw [HANW.out] at AN9
 have AN9 := hid AN9
 have HK9 := hid hk9
 have HXL := hid (fun k (hk : X k) => (show k ≠ w4.heap.size from fun e => by have := H4.out.xlt k hk; omega))
 clear hn9 hb9 hx9 hk9 c1
 go_wp2_with (first
  | (go_at_call 54; refine (AN9.out).mono ?_; rintro e w10 ⟨rfl, hx, hb, hk⟩; have H10 := hid hx; have HB10 := hid hb; have HK10 := hid hk; clear hx hb hk)
  | go_in)
 go_ret2
 have e : R = (0, Z3.2) := by rw [HRd.out, if_neg (show ¬ Z1.1 ≠ 0 from fun e => e H10'.out), if_neg (show ¬ Z2.1 ≠ 0 from fun e => e H20'.out), if_neg (show ¬ Z3.1 ≠ 0 from fun e => e H30'.out)]
 rw [e]
 exact ⟨fun k hk => (HK10.out k (.inl hk) (HXL.out k hk)).trans (HK9.out k hk), .inr ⟨rfl, _, rfl, H10.out, HB10.out, fun hk => HXL.out _ hk rfl, H4.out.bel.size⟩⟩
end
end Go.Proofs.YtfkcmgbpgefnnaaGreat
/- BackupPlays: all that stands at any time, and every call on it. -/
namespace Go.Proofs.YtfkcmgbpgefnnaaGreat
open Go.RowKit Go.Maps
set_option maxRecDepth 20000
section
variable {p : Pg} {g : Lg} {ds d : Dsk} {B : Bk}
theorem bcopies_small3 : ∀ (n : Nat) (B : Bk) (d : Dsk) (N : Nat), BkIn B → d.Small N → (bcopiesM p g ds n B d).2.2.Small (N + 65536 * (bleftM B).toNat)
 | 0, B, d, N, _, h => h.mono (by omega)
 | n + 1, B, d, N, hk, h => by
  show (if B.next ≤ 0 then _ else if _ then _ else _ : Int × Bk × Dsk).2.2.Small _
  by_cases hn : B.next ≤ 0
  ·rw [if_pos hn]
   exact h.mono (by omega)
  ·rw [if_neg hn]
   have hp := bleft_least hk (by omega)
   have hs := bcopy_small (B := B) (p := p) (g := g) (ds := ds) h
   by_cases h0 : (bcopyM p g ds B d).1 = 0
   ·rw [if_neg (by simpa using h0)]
    obtain ⟨o1, o2, -⟩ := bcopy_in (p := p) (g := g) (ds := ds) (d := d) hk (by omega) h0
    exact (bcopies_small3 n _ _ _ o1 hs).mono (by rw [o2]; omega)
   ·rw [if_pos h0]
    exact hs.mono (by omega)
theorem blid_small3 {N : Nat} (h : d.Small N) : (blidM B d).2.2.Small (N + 65536) := by
 have hs : (bseqM [fun d => writeM d 0 0 lidL, fun d => syncM d 0] d).2.Small (N + 32768 * 2) := by
  refine bseq_small2 _ d N ?_ h
  intro m hm d N hd
  simp only [List.mem_cons, List.not_mem_nil, or_false] at hm
  rcases hm with rfl | rfl
  ·exact (write_small hd).mono (by omega)
  ·exact (sync_small hd).mono (by omega)
 unfold blidM
 split
 ·split
  ·exact hs
  ·exact hs
 ·exact h.mono (by omega)
theorem bstep_small3 {N : Nat} (hk : BkIn B) (hP : 1 ≤ ppagesM p g ∧ ppagesM p g ≤ 256) (h : d.Small N) (n : Int) : (bstepM p g ds n B d).2.2.Small (N + 16908288) := by
 unfold bstepM
 by_cases hn : B.next = 0
 ·rw [if_pos hn]; exact h.mono (by omega)
 rw [if_neg hn]
 split
 ·exact h.mono (by omega)
 split
 ·have := (bleft_in hk).2
  exact (bcopies_small3 _ _ _ _ hk h).mono (by omega)
 have hl := blid_small3 (B := B) h
 split
 ·exact hl.mono (by omega)
 have hka : ∀ k r : Int, BkIn { bkAnew p g (blidM B d).2.1 k with restarts := r } := fun k r => by
  unfold bkAnew
  refine ⟨hP, .inr ?_⟩
  dsimp only
  split <;> omega
 have := (bleft_in (hka (haveM p g ds).1 (IntKind.i64.wrap ((blidM B d).2.1.restarts + 1)))).2
 exact (bcopies_small3 _ _ _ _ (hka _ _) hl).mono (by omega)
end
structure BkSt (h : Hdr) (P : Int) (m : Nat) (B : Bk) : Prop where
 ok : BkIn B
 le : B.k ≤ h.commits
 pg : B.k = h.commits → B.pages = P
 rs : 0 ≤ B.restarts ∧ B.restarts ≤ m
section
variable {g : Lg} {ds d : Dsk} {B : Bk} {h : Hdr} {P : Int} {m : Nat}
theorem bcopy_st {p : Pg} (hs : BkSt h P m B) (hn : B.next ≠ 0) : BkSt h P m (bcopyM p g ds B d).2.1 := by
 obtain ⟨h1, h2⟩ := hs.ok.next.resolve_left hn
 have hp := hs.ok.pages
 have keep : ∀ B' : Bk, B'.k = B.k → B'.pages = B.pages → B'.restarts = B.restarts → (B'.next = 0 ∨ (1 ≤ B'.next ∧ B'.next ≤ B'.pages)) → BkSt h P m B' := fun B' e1 e2 e3 e4 => ⟨⟨by rw [e2]; exact hp, e4⟩, by rw [e1]; exact hs.le, fun e => by rw [e2]; exact hs.pg (e1.symm.trans e), by rw [e3]; exact hs.rs⟩
 unfold bcopyM
 split
 ·exact hs
 split
 ·split
  ·exact hs
  ·refine keep _ rfl rfl rfl (.inr ?_)
   dsimp only
   split <;> omega
 rw [blast_eq]
 split
 ·exact hs
 split
 ·exact hs
 split
 ·exact hs
 split
 ·exact keep _ rfl rfl rfl (.inr ⟨h1, h2⟩)
 ·exact keep _ rfl rfl rfl (.inl rfl)
theorem bcopies_st {p : Pg} : ∀ (n : Nat) (B : Bk) (d : Dsk), BkSt h P m B → BkSt h P m (bcopiesM p g ds n B d).2.1
 | 0, B, d, hs => hs
 | n + 1, B, d, hs => by
  show BkSt h P m (if B.next ≤ 0 then (0, B, d) else if (bcopyM p g ds B d).1 ≠ 0 then bcopyM p g ds B d else bcopiesM p g ds n (bcopyM p g ds B d).2.1 (bcopyM p g ds B d).2.2 : Int × Bk × Dsk).2.1
  split
  ·exact hs
  rename_i h0
  have hc := bcopy_st (p := p) (g := g) (ds := ds) (d := d) hs (by omega)
  split
  ·exact hc
  ·exact bcopies_st n _ _ hc
theorem blid_eq : (blidM B d).2.1 = B ∨ (blidM B d).2.1 = { B with opn := false } := by
 unfold blidM
 split
 ·split
  ·exact .inl rfl
  ·exact .inr rfl
 ·exact .inl rfl
theorem bstep_st {M : List (List UInt8)} (hD : Db g ds (hdrPg h :: M)) (hh : HdOk h) (hs : BkSt h ((hdrPg h :: M).length : Int) m B) (hm : m ≤ 100000) (n : Int) : BkSt h ((hdrPg h :: M).length : Int) (m + 1) (bstepM p0 g ds n B d).2.1 := by
 have hP := db_pages (p := p0) hD rfl
 have hmany := hD.many
 have up : ∀ B' : Bk, BkSt h ((hdrPg h :: M).length : Int) m B' → BkSt h ((hdrPg h :: M).length : Int) (m + 1) B' := fun B' h' => ⟨h'.ok, h'.le, h'.pg, by have := h'.rs; omega⟩
 have hr := hs.rs
 unfold bstepM
 rw [have_db hD hh]
 split
 ·exact up _ hs
 split
 ·exact up _ hs
 split
 ·exact up _ (bcopies_st _ _ _ hs)
 have hlk : (blidM B d).2.1.k = B.k ∧ (blidM B d).2.1.pages = B.pages ∧ (blidM B d).2.1.restarts = B.restarts ∧ (blidM B d).2.1.next = B.next := by
  rcases blid_eq (B := B) (d := d) with e | e <;> (rw [e]; exact ⟨rfl, rfl, rfl, rfl⟩)
 split
 ·obtain ⟨a, b, c, e⟩ := hlk
  exact up _ ⟨⟨by rw [b]; exact hs.ok.pages, by rw [b, e]; exact hs.ok.next⟩, by rw [a]; exact hs.le, fun h1 => by rw [b]; exact hs.pg (a.symm.trans h1), by rw [c]; exact hs.rs⟩
 ·refine bcopies_st _ _ _ ?_
  dsimp only
  rw [hlk.2.2.1, IntWalk.i64_in _ (by omega)]
  unfold bkAnew
  have h1 : (1 : Int) ≤ ((hdrPg h :: M).length : Int) := by have e1 : (hdrPg h :: M).length = M.length + 1 := rfl; omega
  rw [hP]
  obtain ⟨q, hq⟩ : ∃ q : Int, q = ((hdrPg h :: M).length : Int) := ⟨_, rfl⟩
  rw [← hq] at h1 ⊢
  refine ⟨⟨⟨h1, by dsimp only; omega⟩, .inr ?_⟩, Int.le_refl _, fun _ => rfl, ?_⟩
  ·dsimp only
   split <;> omega
  ·dsimp only
   omega
end
end Go.Proofs.YtfkcmgbpgefnnaaGreat
/- BackupPlays: all that stands at any time, and every call on it. -/
namespace Go.Proofs.YtfkcmgbpgefnnaaGreat
open Go.RowKit Go.Maps
set_option maxRecDepth 20000
section
variable {W : World} {pb db rd bb rb : Nat} {B : Bk}
theorem bleft_q (hbk : W.heap[bb]? = some (bkObj pb db B)) (hn : 0 ≤ B.next ∧ B.next ≤ 300) (hp : 0 ≤ B.pages ∧ B.pages ≤ 300) : Calls Tryz.prog 29 #[.pointer (some ⟨bb, 0, none⟩)] W fun e w' => e = .returned (.int .i64 (bleftM B)) ∧ ∃ m, w' = W.drewN m := by
 have x3 := (bk_cells hbk).c3
 have x4 := (bk_cells hbk).c4
 unfold bleftM
 obtain ⟨n, hne⟩ : ∃ n, n = B.next := ⟨_, rfl⟩
 obtain ⟨p, hpe⟩ : ∃ p, p = B.pages := ⟨_, rfl⟩
 rw [← hne] at x4 hn ⊢
 rw [← hpe] at x3 hp ⊢
 clear hbk hne hpe
 by_cases h0 : n = 0
 ·have b0 : (n == 0) = true := by simp [h0]
  rw [if_pos h0]
  clear h0
  go_enter Tryz.func29, Tryz.ntmps29
  go_wp2_with fail
  go_ret
  exact ⟨rfl, 0, rfl⟩
 have b0 : (n == 0) = false := by simp [h0]
 rw [if_neg h0]
 by_cases h1 : n = 1
 ·have b1 : (n == 1) = true := by simp [h1]
  rw [if_pos h1]
  clear h0 h1
  go_enter Tryz.func29, Tryz.ntmps29
  go_wp2_with fail
  go_ret
  exact ⟨rfl, 0, rfl⟩
 have b1 : (n == 1) = false := by simp [h1]
 rw [if_neg h1]
 have hw1 : IntKind.i64.wrap (p - n) = p - n := IntWalk.i64_in _ (by omega)
 have hw2 : IntKind.i64.wrap (p - n + 2) = p - n + 2 := IntWalk.i64_in _ (by omega)
 clear h0 h1
 go_enter Tryz.func29, Tryz.ntmps29
 go_wp2_with fail
 go_quiet (fail)
 go_wp2_with fail
 go_ret
 exact ⟨rfl, _, rfl⟩
theorem rleft_q (hbk : W.heap[rb]? = some (rbkObj rd B)) (hn : 0 ≤ B.next ∧ B.next ≤ 300) (hp : 0 ≤ B.pages ∧ B.pages ≤ 300) : Calls Tryz.prog 30 #[.pointer (some ⟨rb, 0, none⟩)] W fun e w' => e = .returned (.int .i64 (bleftM B)) ∧ ∃ m, w' = W.drewN m := by
 have x2 := (rbk_cells hbk).c2
 have x3 := (rbk_cells hbk).c3
 obtain ⟨nx, hnx⟩ : ∃ nx, nx = B.next := ⟨_, rfl⟩
 obtain ⟨pg, hpg⟩ : ∃ pg, pg = B.pages := ⟨_, rfl⟩
 rw [← hnx] at x3 hn
 rw [← hpg] at x2 hp
 have hL : bleftM B = if nx ≤ 1 then nx else pg - nx + 2 := by
  unfold bleftM
  rw [← hnx, ← hpg]
  by_cases h0 : nx = 0
  ·rw [if_pos h0, if_pos (by omega), h0]
  by_cases h1 : nx = 1
  ·rw [if_neg h0, if_pos h1, if_pos (by omega), h1]
  ·rw [if_neg h0, if_neg h1, if_neg (by omega)]
 rw [hL]
 have hw1 : IntKind.i64.wrap (pg - nx) = pg - nx := IntWalk.i64_in _ (by omega)
 have hw2 : IntKind.i64.wrap (pg - nx + 2) = pg - nx + 2 := IntWalk.i64_in _ (by omega)
 clear hbk hL hnx hpg
 by_cases h1 : nx ≤ 1
 ·have b1 : decide (nx ≤ 1) = true := by simpa using h1
  rw [if_pos h1]
  go_enter Tryz.func30, Tryz.ntmps30
  go_wp2_with fail
  go_ret
  exact ⟨rfl, 0, rfl⟩
 ·have b1 : decide (nx ≤ 1) = false := by simpa using h1
  rw [if_neg h1]
  clear h1
  go_enter Tryz.func30, Tryz.ntmps30
  go_wp2_with fail
  go_quiet (fail)
  go_wp2_with fail
  go_ret
  exact ⟨rfl, _, rfl⟩
end
section
theorem row_typeP {w : World} {base M n size : Nat} {e T : TypeId} {v : Value} {xs : List Value} {cs : Array Value} {fr : Nat × Nat} (h : w.ownsRow base e size v n xs) (hM : w.heap[M]? = some (.cells cs T fr)) (hT : T ≠ e) : v.ownBlock ≠ some M := by
 intro ho
 rcases h.2 with ⟨rfl, -⟩ | ⟨g, cap, cur, rfl, -, hg, -⟩
 ·cases ho
 ·have e : g = M := by injection ho
  rw [e, hM] at hg
  injection hg with hg
  injection hg with _ h2 _
  exact hT h2
end
def XWp (X : Nat → Prop) (s c : Nat) : Nat → Prop := fun k => X k ∨ (s ≤ k ∧ k < c)
def pV (o : Option (Nat × Bk)) : Value := match o with | none => .pointer none | some x => .pointer (some ⟨x.1, 0, none⟩)
structure PlSt (w W : World) (pb l b db rd : Nat) (vs : Value) (Lr : List (List UInt8)) (ob ow : Option (Nat × Bk)) (m : Nat) (g : Lg) (ds : Dsk) (h : Hdr) (M : List (List UInt8)) (d r : Dsk) (X : Nat → Prop) : Prop where
 bp : BPs w W ⟨pb, l, b, p0, g, ds⟩ db d rd r X
 src : Db g ds (hdrPg h :: M)
 hd : HdOk h
 com : 1 ≤ h.commits ∧ h.commits ≤ m + 1
 row : StrRow W w.heap.size vs Lr
 vx : ∀ k, vs.ownBlock = some k → X k
 bk : ∀ bb B, ob = some (bb, B) → X bb ∧ w.heap.size ≤ bb ∧ W.heap[bb]? = some (bkObj pb db B) ∧ BkSt h ((hdrPg h :: M).length : Int) m B
 wk : ∀ rb B, ow = some (rb, B) → X rb ∧ w.heap.size ≤ rb ∧ W.heap[rb]? = some (rbkObj rd B) ∧ BkSt h ((hdrPg h :: M).length : Int) m B
 logd : NoLog d
 logr : NoLog r
 ss : ds.Small (100 + 8519680 * (m + 1))
 sd : d.Small (400000 + 17039360 * m)
 sr : r.Small (400000 + 17039360 * m)
section
variable {w W W' : World} {pb l b db rd m : Nat} {vs vs' : Value} {Lr Lr' : List (List UInt8)} {ob ow ob' ow' : Option (Nat × Bk)} {g : Lg} {ds : Dsk} {h : Hdr} {M : List (List UInt8)} {d r d' r' : Dsk} {X X' : Nat → Prop}
theorem BkSt.up {m' : Nat} {P : Int} {B : Bk} (hs : BkSt h P m B) (hm : m ≤ m') : BkSt h P m' B := ⟨hs.ok, hs.le, hs.pg, by have := hs.rs; omega⟩
theorem PlSt.bel (hs : PlSt w W pb l b db rd vs Lr ob ow m g ds h M d r X) : Below w.heap.size w W := hs.bp.bel
theorem PlSt.more (hs : PlSt w W pb l b db rd vs Lr ob ow m g ds h M d r X) {m' : Nat} (hm : m ≤ m') : PlSt w W pb l b db rd vs Lr ob ow m' g ds h M d r X :=
 ⟨hs.bp, hs.src, hs.hd, by have := hs.com; omega, hs.row, hs.vx, fun bb B e => ⟨(hs.bk bb B e).1, (hs.bk bb B e).2.1, (hs.bk bb B e).2.2.1, (hs.bk bb B e).2.2.2.up hm⟩, fun bb B e => ⟨(hs.wk bb B e).1, (hs.wk bb B e).2.1, (hs.wk bb B e).2.2.1, (hs.wk bb B e).2.2.2.up hm⟩, hs.logd, hs.logr, hs.ss.mono (by omega), hs.sd.mono (by omega), hs.sr.mono (by omega)⟩
theorem PlSt.keep (hs : PlSt w W pb l b db rd vs Lr ob ow m g ds h M d r X) (hb : BPs w W' ⟨pb, l, b, p0, g, ds⟩ db d rd r X') (hx : ∀ k, X k → X' k) (hk : ∀ k, X k → W'.heap[k]? = W.heap[k]?) : PlSt w W' pb l b db rd vs Lr ob ow m g ds h M d r X' :=
 ⟨hb, hs.src, hs.hd, hs.com, row_keep hs.row (fun k e => hk k (hs.vx k e)), fun k e => hx k (hs.vx k e), fun bb B e => ⟨hx bb (hs.bk bb B e).1, (hs.bk bb B e).2.1, (hk bb (hs.bk bb B e).1).trans (hs.bk bb B e).2.2.1, (hs.bk bb B e).2.2.2⟩,
  fun bb B e => ⟨hx bb (hs.wk bb B e).1, (hs.wk bb B e).2.1, (hk bb (hs.wk bb B e).1).trans (hs.wk bb B e).2.2.1, (hs.wk bb B e).2.2.2⟩, hs.logd, hs.logr, hs.ss, hs.sd, hs.sr⟩
theorem PlSt.below (hs : PlSt w W pb l b db rd vs Lr ob ow m g ds h M d r X) (hb : Below W.heap.size W W') : PlSt w W' pb l b db rd vs Lr ob ow m g ds h M d r X := hs.keep (hs.bp.below hb) (fun _ h => h) (fun k hk => hb.block k (hs.bp.xlt k hk))
theorem PlSt.beside (hs : PlSt w W pb l b db rd vs Lr ob ow m g ds h M d r X) (hb : Below W.heap.size W W') : PlSt w W' pb l b db rd vs Lr ob ow m g ds h M d r (XWp X W.heap.size W'.heap.size) :=
 hs.keep (hs.bp.add hb (fun k hk => hk.imp id (fun e => e.1)) (fun k hk => hk.elim (fun e => Nat.lt_of_lt_of_le (hs.bp.xlt k e) hb.size) (fun e => e.2))) (fun k hk => .inl hk) (fun k hk => hb.block k (hs.bp.xlt k hk))
theorem PlSt.noB (hs : PlSt w W pb l b db rd vs Lr ob ow m g ds h M d r X) : PlSt w W pb l b db rd vs Lr none none m g ds h M d r X :=
 ⟨hs.bp, hs.src, hs.hd, hs.com, hs.row, hs.vx, (fun bb B e => by cases e), (fun bb B e => by cases e), hs.logd, hs.logr, hs.ss, hs.sd, hs.sr⟩
theorem PlSt.pages (hs : PlSt w W pb l b db rd vs Lr ob ow m g ds h M d r X) : ppagesM p0 g = ((hdrPg h :: M).length : Int) ∧ 1 ≤ ppagesM p0 g ∧ ppagesM p0 g ≤ 256 := by
 have h1 := db_pages (p := p0) hs.src rfl
 have h2 := hs.src.many
 have h3 : (hdrPg h :: M).length = M.length + 1 := rfl
 omega
theorem PlSt.turn (hs : PlSt w W pb l b db rd vs Lr ob ow m g ds h M d r X) (hm : m ≤ 1000) (rr : Nat) (hr : rr < 9) (n : Int) (hn : in64 n) (c : UInt8) :
  Calls Tryz.prog 7 #[.pointer (some ⟨pb, 0, none⟩), .int .i64 (1 + (rr : Int)), .int .i64 n, .int .u8 (c.toNat : Int)] W fun e w' => e = .returned (.int .i64 0) ∧ (∃ g' ds' h' M', PlSt w w' pb l b db rd vs Lr ob ow (m + 1) g' ds' h' M' d r X) ∧ ∀ k, X k → w'.heap[k]? = W.heap[k]? := by
 obtain ⟨R, hRX, hpd, hgo⟩ := hs.bp.left
 have hg : g.Ok := hs.bp.pg.oks.1
 have e1 : (1 + (rr : Int)) = ((1 + rr : Nat) : Int) := by omega
 obtain ⟨g', d', M', t1, t2, t3⟩ := turn_db hs.src (.inr ⟨M, rfl⟩) hs.hd hg (P := 1 + rr) (by omega) (by omega) n c
 have A := pd_turn hpd (1 + (rr : Int)) n c (by unfold in64; omega) hn (100 + 8519680 * (m + 1)) hs.ss (by omega)
 have hsm := turn_small (p := p0) hg.pages.2 hs.ss (1 + (rr : Int)) n c
 dsimp only at A
 unfold turned at A
 dsimp only at A
 rw [e1, t1] at A
 rw [e1, t1] at hsm
 rw [e1]
 have hcm : (bumped h).commits = h.commits + 1 := by
  show IntKind.u64.wrap (h.commits + 1) = _
  have := hs.com
  simp only [IntKind.wrap, IntKind.bits, IntKind.signed]
  simp
  omega
 have up : ∀ B : Bk, BkSt h ((hdrPg h :: M).length : Int) m B → BkSt (bumped h) ((hdrPg (bumped h) :: M').length : Int) (m + 1) B := fun B hb => ⟨hb.ok, by have := hb.le; omega, fun e => by have := hb.le; omega, by have := hb.rs; omega⟩
 refine A.mono fun e w' hh => ⟨hh.1, ⟨g', d', bumped h, M', hgo w' ⟨pb, l, b, p0, g', d'⟩ d (fun _ => False) X (fun k e => e.elim) hh.2.1 (fun k hk => (hRX k hk).1) (fun k hk _ => hh.2.2 k hk), t2, bumped_ok hs.hd, by have := hs.com; omega, row_keep hs.row (fun k e => hh.2.2 k (.inl (hs.vx k e))), hs.vx, fun bb B e => ?_, fun bb B e => ?_, hs.logd, hs.logr, Dsk.Small.mono hsm (by omega), hs.sd.mono (by omega), hs.sr.mono (by omega)⟩, fun k hk => hh.2.2 k (.inl hk)⟩
 ·obtain ⟨a1, a2, a3, a4⟩ := hs.bk bb B e
  exact ⟨a1, a2, (hh.2.2 bb (.inl a1)).trans a3, up B a4⟩
 ·obtain ⟨a1, a2, a3, a4⟩ := hs.wk bb B e
  exact ⟨a1, a2, (hh.2.2 bb (.inl a1)).trans a3, up B a4⟩
theorem PlSt.state (hs : PlSt w W pb l b db rd vs Lr ob ow m g ds h M d r X) : Calls Tryz.prog 11 #[.pointer (some ⟨pb, 0, none⟩)] W fun e w' => ∃ vm, e = .returned (.tuple #[vm, .bool true]) ∧ PlSt w w' pb l b db rd vm (hdrPg h :: M) ob ow m g ds h M d r (XWp X W.heap.size w'.heap.size) := by
 have hst := st_db hs.src
 have A := state_any hs.bp.pg hst.1
 dsimp only at A
 rw [hst.2] at A
 refine A.mono ?_
 rintro e w' ⟨vm, rfl, h1, h2⟩
 have h3 := hs.beside h2
 refine ⟨vm, rfl, ⟨h3.bp, h3.src, h3.hd, h3.com, row_lower h1 hs.bel.size, fun k e => .inr (row_base h1 e), h3.bk, h3.wk, h3.logd, h3.logr, h3.ss, h3.sd, h3.sr⟩⟩
theorem PlSt.check (hs : PlSt w W pb l b db rd vs Lr ob ow m g ds h M d r X) (hm : m ≤ 1000) : Calls Tryz.prog 23 #[.pointer (some ⟨pb, 0, none⟩)] W fun e w' => e = .returned (.int .i64 0) ∧ ∃ g' ds', PlSt w w' pb l b db rd vs Lr ob ow (m + 1) g' ds' h M d r X := by
 obtain ⟨R, hRX, hpd, hgo⟩ := hs.bp.left
 have hg : g.Ok := hs.bp.pg.oks.1
 have e0 : pcheckM p0 g ds = lcheckM g ds := by unfold pcheckM; rw [if_neg (by decide)]
 obtain ⟨T, h1, h2⟩ := hpd.left
 have A := px_check h1 (100 + 8519680 * (m + 1)) hs.ss (by omega)
 obtain ⟨ec, hk⟩ := check_calm hs.src.calm hg
 have hsm := ck_small g ds (100 + 8519680 * (m + 1)) (100 + 8519680 * (m + 1 + 1)) (by omega) hg.pages.2 hs.ss
 dsimp only at A
 rw [e0] at A
 obtain ⟨Q, hQ⟩ : ∃ Q, Q = lcheckM g ds := ⟨_, rfl⟩
 rw [← hQ] at A ec hk hsm
 obtain ⟨e1, g', d'⟩ := Q
 dsimp only at A ec hk hsm
 subst ec
 have hp := hs.src.pages
 have hmy := hs.src.many
 have hD : Db g' d' (hdrPg h :: M) := ⟨hk.calm, by rw [hk.pages, hp], hmy, fun n n1 n2 => (hk.page n n1 (by omega)).trans (hs.src.page n n1 n2), hs.src.len⟩
 refine A.mono ?_
 rintro e w' ⟨rfl, h3, h4⟩
 obtain ⟨q1, q2⟩ := h2 w' ⟨pb, l, b, p0, g', d'⟩ h3 h4
 have hb := hgo w' ⟨pb, l, b, p0, g', d'⟩ d (fun _ => False) X (fun k e => e.elim) q1 (fun k hk => (hRX k hk).1) (fun k hk _ => q2 k hk)
 have h5 := hs.more (Nat.le_succ m)
 exact ⟨rfl, g', d', hb, hD, hs.hd, h5.com, row_keep hs.row (fun k e => q2 k (.inl (hs.vx k e))), hs.vx, fun bb B e => ⟨(h5.bk bb B e).1, (h5.bk bb B e).2.1, (q2 bb (.inl (h5.bk bb B e).1)).trans (h5.bk bb B e).2.2.1, (h5.bk bb B e).2.2.2⟩, fun bb B e => ⟨(h5.wk bb B e).1, (h5.wk bb B e).2.1, (q2 bb (.inl (h5.wk bb B e).1)).trans (h5.wk bb B e).2.2.1, (h5.wk bb B e).2.2.2⟩, hs.logd, hs.logr, hsm, h5.sd, h5.sr⟩
theorem PlSt.dsk (hs : PlSt w W pb l b db rd vs Lr ob ow m g ds h M d r X) : ∃ F, DiskAt W db F d ∧ (∀ k, F.own k ∨ F.sh k → w.heap.size ≤ k) ∧ ∀ w' d', Did W db F d' w' → NoLog d' → d'.Small (400000 + 17039360 * (m + 1)) → PlSt w w' pb l b db rd vs Lr ob ow (m + 1) g ds h M d' r X ∧ ∀ k, X k → w'.heap[k]? = W.heap[k]? := by
 obtain ⟨R, hRX, hpd, hgo⟩ := hs.bp.left
 obtain ⟨F, hF, hFX, hcl⟩ := hpd.right
 refine ⟨F, hF, fun k hk => (hFX k hk).2, fun w' d' hd hl hsm => ?_⟩
 obtain ⟨q1, q2⟩ := hcl w' d' hd
 have hb := hgo w' _ d' (fun _ => False) X (fun k e => e.elim) q1 (fun k hk => (hRX k hk).1) (fun k hk _ => q2 k hk)
 have h5 := hs.more (Nat.le_succ m)
 exact ⟨⟨hb, hs.src, hs.hd, h5.com, row_keep hs.row (fun k e => q2 k (.inl (hs.vx k e))), hs.vx, fun bb B e => ⟨(h5.bk bb B e).1, (h5.bk bb B e).2.1, (q2 bb (.inl (h5.bk bb B e).1)).trans (h5.bk bb B e).2.2.1, (h5.bk bb B e).2.2.2⟩, fun bb B e => ⟨(h5.wk bb B e).1, (h5.wk bb B e).2.1, (q2 bb (.inl (h5.wk bb B e).1)).trans (h5.wk bb B e).2.2.1, (h5.wk bb B e).2.2.2⟩, hl, hs.logr, h5.ss, hsm, h5.sr⟩, fun k hk => q2 k (.inl hk)⟩
theorem PlSt.ref (hs : PlSt w W pb l b db rd vs Lr ob ow m g ds h M d r X) : ∃ Y : Nat → Prop, RkX w W rd r (fun k => X k ∨ Y k) ∧ ∀ w' r', RkX w w' rd r' (fun k => X k ∨ Y k) → (∀ k, X k ∨ Y k → w'.heap[k]? = W.heap[k]?) → NoLog r' → r'.Small (400000 + 17039360 * (m + 1)) → PlSt w w' pb l b db rd vs Lr ob ow (m + 1) g ds h M d r' X ∧ ∀ k, X k → w'.heap[k]? = W.heap[k]? := by
 obtain ⟨Y, hYX, hrx, hgo⟩ := hs.bp.right
 refine ⟨Y, hrx, fun w' r' hr hk hl hsm => ?_⟩
 have hb := hgo w' r' (fun _ => False) X (fun k e => e.elim) hr (fun k hk => (hYX k hk).1) (fun k hk1 _ => hk k hk1)
 have h5 := hs.more (Nat.le_succ m)
 exact ⟨⟨hb, hs.src, hs.hd, h5.com, row_keep hs.row (fun k e => hk k (.inl (hs.vx k e))), hs.vx, fun bb B e => ⟨(h5.bk bb B e).1, (h5.bk bb B e).2.1, (hk bb (.inl (h5.bk bb B e).1)).trans (h5.bk bb B e).2.2.1, (h5.bk bb B e).2.2.2⟩, fun bb B e => ⟨(h5.wk bb B e).1, (h5.wk bb B e).2.1, (hk bb (.inl (h5.wk bb B e).1)).trans (h5.wk bb B e).2.2.1, (h5.wk bb B e).2.2.2⟩, hs.logd, hl, h5.ss, h5.sd, hsm⟩, fun k hk1 => hk k (.inl hk1)⟩
theorem arm_log (hl : NoLog d) (n e : Int) : NoLog (armM d n e).2 := hl.alike (by unfold armM; split <;> exact ⟨rfl, rfl, rfl⟩)
theorem power_log (hl : NoLog d) (n : Int) : NoLog (powerM d n).2 := hl.alike (by unfold powerM; split <;> exact ⟨rfl, rfl, rfl⟩)
theorem arm_sm {N : Nat} (hq : d.Small N) (n e : Int) : (armM d n e).2.Small (N + 1) := by
 unfold armM
 split
 ·exact ⟨Int.le_trans hq.ops (by omega), by have := hq.arm; show d.narm + 1 ≤ _; omega, Nat.le_trans hq.loose (by omega)⟩
 ·exact hq.mono (by omega)
theorem power_sm {N : Nat} (hq : d.Small N) (n : Int) : (powerM d n).2.Small (N + 1) := by
 unfold powerM
 split
 ·exact ⟨Int.le_trans hq.ops (by omega), by have := hq.arm; show d.narm ≤ _; omega, Nat.le_trans hq.loose (by omega)⟩
 ·exact hq.mono (by omega)
theorem crash_sm {N : Nat} (hq : d.Small N) (keep : List Bool) : (crashM d keep).Small N := ⟨hq.ops, Nat.zero_le _, Nat.zero_le _⟩
theorem PlSt.arm (hs : PlSt w W pb l b db rd vs Lr ob ow m g ds h M d r X) (hm : m ≤ 1000) (n e : Int) : Calls Tryz.prog 16 #[.pointer (some ⟨db, 0, none⟩), .int .i64 n, .int .i64 e] W fun x w' => x = .returned (.int .i64 (armM d n e).1) ∧ PlSt w w' pb l b db rd vs Lr ob ow (m + 1) g ds h M (armM d n e).2 r X ∧ ∀ k, X k → w'.heap[k]? = W.heap[k]? := by
 obtain ⟨F, hF, -, hgo⟩ := hs.dsk
 exact (arm_any hF n e (hs.sd.mono (by omega))).mono fun x w' hh => ⟨hh.1, hgo w' _ hh.2 (arm_log hs.logd n e) ((arm_sm hs.sd n e).mono (by omega))⟩
theorem PlSt.power (hs : PlSt w W pb l b db rd vs Lr ob ow m g ds h M d r X) (hm : m ≤ 1000) (n : Int) : Calls Tryz.prog 18 #[.pointer (some ⟨db, 0, none⟩), .int .i64 n] W fun x w' => x = .returned (.int .i64 (powerM d n).1) ∧ PlSt w w' pb l b db rd vs Lr ob ow (m + 1) g ds h M (powerM d n).2 r X ∧ ∀ k, X k → w'.heap[k]? = W.heap[k]? := by
 obtain ⟨F, hF, -, hgo⟩ := hs.dsk
 exact (power_any hF n (hs.sd.mono (by omega))).mono fun x w' hh => ⟨hh.1, hgo w' _ hh.2 (power_log hs.logd n) ((power_sm hs.sd n).mono (by omega))⟩
theorem PlSt.crash (hs : PlSt w W pb l b db rd vs Lr ob ow m g ds h M d r X) (hm : m ≤ 1000) (kv : Value) (keep : List Bool) (hk : KeepAt W kv keep) (hkb : ∀ q, keepBlk kv keep = some q → q < w.heap.size) (hkl : keep.length ≤ 1099511627776) : Calls Tryz.prog 21 #[.pointer (some ⟨db, 0, none⟩), kv] W fun x w' => x = .returned (.int .i64 0) ∧ PlSt w w' pb l b db rd vs Lr ob ow (m + 1) g ds h M (crashM d keep) r X ∧ ∀ k, X k → w'.heap[k]? = W.heap[k]? := by
 obtain ⟨F, hF, hge, hgo⟩ := hs.dsk
 exact (crash_any hF kv keep hk (fun q hq => ⟨fun e => by have := hge q (.inl e); have := hkb q hq; omega, Nat.lt_of_lt_of_le (hkb q hq) hs.bel.size⟩) (hs.sd.mono (by omega)) hkl).mono fun x w' hh => ⟨hh.1, hgo w' _ hh.2 (nolog_crash hs.logd keep) ((crash_sm hs.sd keep).mono (by omega))⟩
theorem PlSt.rarm (hs : PlSt w W pb l b db rd vs Lr ob ow m g ds h M d r X) (hm : m ≤ 1000) (n e : Int) : Calls Tryz.prog 17 #[.pointer (some ⟨rd, 0, none⟩), .int .i64 n, .int .i64 e] W fun x w' => x = .returned (.int .i64 (armM r n e).1) ∧ PlSt w w' pb l b db rd vs Lr ob ow (m + 1) g ds h M d (armM r n e).2 X ∧ ∀ k, X k → w'.heap[k]? = W.heap[k]? := by
 obtain ⟨Y, hrx, hgo⟩ := hs.ref
 exact (rx_arms hrx n e (hs.sr.mono (by omega))).mono fun x w' hh => ⟨hh.1, hgo w' _ hh.2.1 hh.2.2 (arm_log hs.logr n e) ((arm_sm hs.sr n e).mono (by omega))⟩
theorem PlSt.rpower (hs : PlSt w W pb l b db rd vs Lr ob ow m g ds h M d r X) (hm : m ≤ 1000) (n : Int) : Calls Tryz.prog 19 #[.pointer (some ⟨rd, 0, none⟩), .int .i64 n] W fun x w' => x = .returned (.int .i64 (powerM r n).1) ∧ PlSt w w' pb l b db rd vs Lr ob ow (m + 1) g ds h M d (powerM r n).2 X ∧ ∀ k, X k → w'.heap[k]? = W.heap[k]? := by
 obtain ⟨Y, hrx, hgo⟩ := hs.ref
 exact (rx_power hrx n (hs.sr.mono (by omega))).mono fun x w' hh => ⟨hh.1, hgo w' _ hh.2.1 hh.2.2 (power_log hs.logr n) ((power_sm hs.sr n).mono (by omega))⟩
theorem PlSt.rcrash (hs : PlSt w W pb l b db rd vs Lr ob ow m g ds h M d r X) (hm : m ≤ 1000) (kv : Value) (keep : List Bool) (hk : KeepAt W kv keep) (hkb : ∀ q, keepBlk kv keep = some q → q < w.heap.size) (hkl : keep.length ≤ 1099511627776) : Calls Tryz.prog 20 #[.pointer (some ⟨rd, 0, none⟩), kv] W fun x w' => x = .returned (.tuple #[]) ∧ PlSt w w' pb l b db rd vs Lr ob ow (m + 1) g ds h M d (crashM r keep) X ∧ ∀ k, X k → w'.heap[k]? = W.heap[k]? := by
 obtain ⟨Y, hrx, hgo⟩ := hs.ref
 exact (rx_crash hrx kv keep hk hkb (hs.sr.mono (by omega)) hkl).mono fun x w' hh => ⟨hh.1, hgo w' _ hh.2.1 hh.2.2 (nolog_crash hs.logr keep) ((crash_sm hs.sr keep).mono (by omega))⟩
end
end Go.Proofs.YtfkcmgbpgefnnaaGreat
