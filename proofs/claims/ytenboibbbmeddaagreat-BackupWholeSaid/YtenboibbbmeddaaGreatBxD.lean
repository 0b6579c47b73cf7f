/- BackupWhole: all that stands at any time, and every call on it. -/
import Derived.Test.YtenboibbbmeddaaGreatBxA
import Derived.Test.YtenboibbbmeddaaGreatBkL
set_option linter.unusedVariables false
set_option linter.unusedSimpArgs false
namespace Go.Proofs.YtenboibbbmeddaaGreat
open Go.RowKit Go.Maps
set_option maxRecDepth 20000
section
variable {p : Pg} {g : Lg} {ds d : Dsk} {B : Bk} {h h' : Hdr} {M M' : List (List UInt8)}
theorem hdrPg_inj (hh : HdOk h) (hh' : HdOk h') (e : hdrPg h = hdrPg h') : h = h' := by
 have h1 := takeH_put hh.may hh.wf
 have h2 := takeH_put hh'.may hh'.wf
 have h1 : takeH (hdrPg h) = (h, 0) := h1
 have h2 : takeH (hdrPg h') = (h', 0) := h2
 rw [e, h2] at h1
 injection h1 with h1 _
 exact h1.symm
theorem Bw.toIn (hb : Bw B d h M) (hM : M.length ≤ 255) : BkIn B := by
 have hp := hb.pages
 refine ⟨by omega, ?_⟩
 rcases hb.phase with ⟨-, -, ⟨e, -⟩ | ⟨q, q2, qM, e, -⟩⟩ | ⟨-, -, e | ⟨e, -⟩⟩
 ·exact .inr (by omega)
 ·exact .inr (by omega)
 ·exact .inr (by omega)
 ·exact .inl e
theorem bcopies_small2 : ∀ (n : Nat) (B : Bk) (d : Dsk) (N : Nat), BkIn B → d.Small N → (bcopiesM p g ds n B d).2.2.Small (N + 65536 * (bleftM B).toNat)
 | 0, B, d, N, _, h => h.mono (by omega)
 | n + 1, B, d, N, hk, h => by
  show (if B.next ≤ 0 then _ else if _ then _ else _ : Int × Bk × Dsk).2.2.Small _
  by_cases hn : B.next ≤ 0
  ·rw [if_pos hn]
   exact h.mono (by omega)
  ·rw [if_neg hn]
   have hp := bleft_least hk (by omega)
   have hs := bcopy_small (B := B) (p := p) (g := g) (ds := ds) h
   by_cases h0 : (bcopyM p g ds B d).1 = 0
   ·rw [if_neg (by simpa using h0)]
    obtain ⟨o1, o2, -⟩ := bcopy_in (p := p) (g := g) (ds := ds) (d := d) hk (by omega) h0
    exact (bcopies_small2 n _ _ _ o1 hs).mono (by rw [o2]; omega)
   ·rw [if_pos h0]
    exact hs.mono (by omega)
theorem blid_small {N : Nat} (h : d.Small N) : (blidM B d).2.2.Small (N + 65536) := by
 have hs : (bseqM [fun d => writeM d 0 0 lidL, fun d => syncM d 0] d).2.Small (N + 32768 * 2) := by
  refine bseq_small2 _ d N ?_ h
  intro m hm d N hd
  simp only [List.mem_cons, List.not_mem_nil, or_false] at hm
  rcases hm with rfl | rfl
  ·exact (write_small hd).mono (by omega)
  ·exact (sync_small hd).mono (by omega)
 unfold blidM
 split
 ·split
  ·exact hs
  ·exact hs
 ·exact h.mono (by omega)
theorem blid_form : (blidM B d).2.1 = B ∨ (blidM B d).2.1 = { B with opn := false } := by
 unfold blidM
 split
 ·split
  ·exact .inl rfl
  ·exact .inr rfl
 ·exact .inl rfl
theorem bstep_small2 {N : Nat} (hk : BkIn B) (hP : 1 ≤ ppagesM p g ∧ ppagesM p g ≤ 256) (h : d.Small N) (n : Int) : (bstepM p g ds n B d).2.2.Small (N + 16908288) := by
 unfold bstepM
 by_cases hn : B.next = 0
 ·rw [if_pos hn]; exact h.mono (by omega)
 rw [if_neg hn]
 split
 ·exact h.mono (by omega)
 split
 ·have := (bleft_in hk).2
  exact (bcopies_small2 _ _ _ _ hk h).mono (by omega)
 have hl := blid_small (B := B) h
 split
 ·exact hl.mono (by omega)
 have hka : ∀ k r : Int, BkIn { bkAnew p g (blidM B d).2.1 k with restarts := r } := fun k r => by
  unfold bkAnew
  refine ⟨hP, .inr ?_⟩
  dsimp only
  split <;> omega
 have := (bleft_in (hka (haveM p g ds).1 (IntKind.i64.wrap ((blidM B d).2.1.restarts + 1)))).2
 exact (bcopies_small2 _ _ _ _ (hka _ _) hl).mono (by omega)
theorem bcopy_rs : (bcopyM p g ds B d).2.1.restarts = B.restarts := by
 unfold bcopyM
 split
 ·rfl
 split
 ·split <;> rfl
 rw [blast_eq]
 split
 ·rfl
 split
 ·rfl
 split
 ·rfl
 split <;> rfl
theorem bcopies_rs : ∀ (n : Nat) (B : Bk) (d : Dsk), (bcopiesM p g ds n B d).2.1.restarts = B.restarts
 | 0, B, d => rfl
 | n + 1, B, d => by
  show (if B.next ≤ 0 then (0, B, d) else if (bcopyM p g ds B d).1 ≠ 0 then bcopyM p g ds B d else bcopiesM p g ds n (bcopyM p g ds B d).2.1 (bcopyM p g ds B d).2.2 : Int × Bk × Dsk).2.1.restarts = _
  split
  ·rfl
  split
  ·exact bcopy_rs
  ·rw [bcopies_rs n _ _]; exact bcopy_rs
theorem bstep_rs (hr : 0 ≤ B.restarts ∧ B.restarts ≤ 100000) (n : Int) : 0 ≤ (bstepM p g ds n B d).2.1.restarts ∧ (bstepM p g ds n B d).2.1.restarts ≤ B.restarts + 1 := by
 unfold bstepM
 split
 ·exact ⟨hr.1, by dsimp only; omega⟩
 split
 ·exact ⟨hr.1, by dsimp only; omega⟩
 split
 ·rw [bcopies_rs]; omega
 have hb : (blidM B d).2.1.restarts = B.restarts := by rcases blid_form (B := B) (d := d) with e | e <;> rw [e]
 split
 ·rw [hb]; omega
 ·rw [bcopies_rs]
  dsimp only
  rw [hb, IntWalk.i64_in _ (by omega)]
  omega
end
structure State (L : List (List UInt8)) (k : Nat) (h : Hdr) (M : List (List UInt8)) : Prop where
 eq : L = hdrPg h :: M
 hd : HdOk h
 com : h.commits = (k : Int)
 few : M.length ≤ 255
 len : ∀ s ∈ M, s.length = 512
structure WSt (w W : World) (pb l b db bb : Nat) (v : Value) (m : Nat) (g : Lg) (ds : Dsk) (h : Hdr) (M : List (List UInt8)) (T TS : List (List (List UInt8))) (B : Bk) (d : Dsk) (X : Nat → Prop) : Prop where
 pd : PD w W ⟨pb, l, b, p0, g, ds⟩ db d X
 bbX : X bb
 bk : W.heap[bb]? = some (bkObj pb db B)
 ge : w.heap.size ≤ bb
 src : Db g ds (hdrPg h :: M)
 now : State (T.getD (T.length - 1) []) (T.length - 1) h M
 two : 2 ≤ T.length ∧ T.length ≤ m + 2
 st : StatesAt W w.heap.size v TS X
 bw : ∃ j hb Mb, 1 ≤ j ∧ j < T.length ∧ State (T.getD j []) j hb Mb ∧ Bw B d hb Mb
 rs : 0 ≤ B.restarts ∧ B.restarts ≤ m
 ss : ds.Small (100 + 8519680 * (m + 1))
 sd : d.Small (200000 + 16908288 * m)
theorem getD_old {α : Type} {T : List α} {x e : α} {i : Nat} (h : i < T.length) : (T ++ [x]).getD i e = T.getD i e := by
 rw [List.getD_eq_getElem?_getD, List.getD_eq_getElem?_getD, List.getElem?_append_left h]
theorem getD_lst {α : Type} {T : List α} {x e : α} : (T ++ [x]).getD T.length e = x := by
 rw [List.getD_eq_getElem?_getD, List.getElem?_append_right (Nat.le_refl _)]
 simp
theorem State.same {L : List (List UInt8)} {k : Nat} {h h' : Hdr} {M M' : List (List UInt8)} (h1 : State L k h M) (h2 : State L k h' M') : h = h' ∧ M = M' := by
 have e := h1.eq.symm.trans h2.eq
 injection e with e1 e2
 exact ⟨hdrPg_inj h1.hd h2.hd e1, e2⟩
section
variable {w W W' : World} {pb l b db bb m : Nat} {v v' vm : Value} {g : Lg} {ds : Dsk} {h : Hdr} {M : List (List UInt8)} {T TS : List (List (List UInt8))} {B : Bk} {d : Dsk} {X X' : Nat → Prop}
theorem WSt.below (hs : WSt w W pb l b db bb v m g ds h M T TS B d X) (hb : Below W.heap.size W W') : WSt w W' pb l b db bb v m g ds h M T TS B d X :=
 ⟨hs.pd.below hb, hs.bbX, (hb.block bb (lt_of_block hs.bk)).trans hs.bk, hs.ge, hs.src, hs.now, hs.two, hs.st.keep (fun k hk => hb.block k (hs.pd.xlt k hk)), hs.bw, hs.rs, hs.ss, hs.sd⟩
theorem WSt.more (hs : WSt w W pb l b db bb v m g ds h M T TS B d X) {m' : Nat} (hm : m ≤ m') : WSt w W pb l b db bb v m' g ds h M T TS B d X :=
 ⟨hs.pd, hs.bbX, hs.bk, hs.ge, hs.src, hs.now, ⟨hs.two.1, by have := hs.two.2; omega⟩, hs.st, hs.bw, ⟨hs.rs.1, by have := hs.rs.2; omega⟩, hs.ss.mono (by omega), hs.sd.mono (by omega)⟩
theorem WSt.pages (hs : WSt w W pb l b db bb v m g ds h M T TS B d X) : 1 ≤ ppagesM p0 g ∧ ppagesM p0 g ≤ 256 := by
 have h1 := db_pages (p := p0) hs.src rfl
 have h2 := hs.src.many
 rw [h1]
 simp at h2 ⊢
 omega
theorem WSt.bel (hs : WSt w W pb l b db bb v m g ds h M T TS B d X) : Below w.heap.size w W := hs.pd.bel
theorem WSt.turn (hs : WSt w W pb l b db bb v m g ds h M T TS B d X) (hm : m ≤ 1000) (r : Nat) (hr : r < 9) (n : Int) (hn : in64 n) (c : UInt8) :
  Calls Tryz.prog 11 #[.pointer (some ⟨pb, 0, none⟩), .int .i64 (1 + (r : Int)), .int .i64 n, .int .u8 (c.toNat : Int)] W fun e w' => e = .returned (.int .i64 0) ∧ (∃ g' ds' h' M', WSt w w' pb l b db bb v (m + 1) g' ds' h' M' (T ++ [hdrPg h' :: M']) TS B d X) ∧ ∀ k, X k → w'.heap[k]? = W.heap[k]? := by
 have hg : g.Ok := hs.pd.pg.oks.1
 have htw := hs.two
 have e1 : (1 + (r : Int)) = ((1 + r : Nat) : Int) := by omega
 obtain ⟨g', d', M', t1, t2, t3⟩ := turn_db hs.src (.inr ⟨M, rfl⟩) hs.now.hd hg (P := 1 + r) (by omega) (by omega) n c
 have A := pd_turn hs.pd (1 + (r : Int)) n c (by unfold in64; omega) hn (100 + 8519680 * (m + 1)) hs.ss (by omega)
 have hsm := turn_small (p := p0) hg.pages.2 hs.ss (1 + (r : Int)) n c
 dsimp only at A
 unfold turned at A
 dsimp only at A
 rw [e1, t1] at A
 rw [e1, t1] at hsm
 rw [e1]
 have hcm : (bumped h).commits = h.commits + 1 := by
  show IntKind.u64.wrap (h.commits + 1) = _
  have := hs.now.com
  simp only [IntKind.wrap, IntKind.bits, IntKind.signed]
  simp
  omega
 have hlen : (T ++ [hdrPg (bumped h) :: M']).length = T.length + 1 := by simp
 refine A.mono fun e w' hh => ⟨hh.1, ⟨g', d', bumped h, M', hh.2.1, hs.bbX, (hh.2.2 bb hs.bbX).trans hs.bk, hs.ge, t2, ?_, ?_, hs.st.keep hh.2.2, ?_, ?_, ?_, hs.sd.mono (by omega)⟩, hh.2.2⟩
 ·rw [hlen, Nat.add_sub_cancel, getD_lst]
  refine ⟨rfl, bumped_ok hs.now.hd, ?_, by omega, fun s hs' => t2.len s (List.mem_cons_of_mem _ hs')⟩
  have := hs.now.com
  omega
 ·rw [hlen]; omega
 ·obtain ⟨j, hb, Mb, j1, j2, j3, j4⟩ := hs.bw
  exact ⟨j, hb, Mb, j1, by rw [hlen]; omega, by rw [getD_old j2]; exact j3, j4⟩
 ·have := hs.rs; omega
 ·exact Dsk.Small.mono hsm (by omega)
theorem WSt.state (hs : WSt w W pb l b db bb v m g ds h M T TS B d X) : Calls Tryz.prog 21 #[.pointer (some ⟨pb, 0, none⟩)] W fun e w' => ∃ vm, e = .returned (.tuple #[vm, .bool true]) ∧ StrRow w' W.heap.size vm (T.getD (T.length - 1) []) ∧ Below W.heap.size W w' := by
 have hst := st_db hs.src
 have := state_any hs.pd.pg hst.1
 dsimp only at this
 rw [hst.2, ← hs.now.eq] at this
 exact this
theorem WSt.step (hs : WSt w W pb l b db bb v m g ds h M T TS B d X) (hm : m ≤ 1000) (n : Int) (hn : in64 n) :
  Calls Tryz.prog 15 #[.pointer (some ⟨bb, 0, none⟩), .int .i64 n] W fun e w' => ∃ e0 B' d', e = .returned (.int .i64 e0) ∧ WSt w w' pb l b db bb v (m + 1) g ds h M T TS B' d' X ∧ (B'.next = 0 → B.next ≠ 0 → B'.k = (T.length : Int) - 1) ∧ ∀ k, X k → k ≠ bb → w'.heap[k]? = W.heap[k]? := by
 have hr := hs.rs
 have htw := hs.two
 obtain ⟨j, hb, Mb, j1, j2, j3, j4⟩ := hs.bw
 have hin := j4.toIn j3.few
 have A := bstep_in hs.pd hs.bbX hs.ge hs.bk hin ⟨hr.1, by omega⟩ hs.pages.1 n hn hs.sd (by omega)
 have hsm := bstep_small2 (p := p0) (g := g) (ds := ds) hin hs.pages hs.sd n
 have hrs := bstep_rs (p := p0) (g := g) (ds := ds) (d := d) (B := B) ⟨hr.1, by omega⟩ n
 have hst := step_bw hs.src hs.now.hd hs.now.len j4 (fun e => by
  have e2 : j = T.length - 1 := by have h1 := j3.com; have h2 := hs.now.com; omega
  rw [e2] at j3
  exact State.same j3 hs.now) n
 dsimp only at A
 obtain ⟨R, hR⟩ : ∃ R, R = bstepM p0 g ds n B d := ⟨_, rfl⟩
 rw [← hR] at A hsm hrs hst
 refine A.mono ?_
 rintro e w' ⟨rfl, h1, h2, h3⟩
 refine ⟨_, R.2.1, R.2.2, rfl, ⟨h1, hs.bbX, h2, hs.ge, hs.src, hs.now, by omega, ?_, ?_, by omega, hs.ss.mono (by omega), Dsk.Small.mono hsm (by omega)⟩, ?_, h3⟩
 ·obtain ⟨⟨sv, s1, s3, s5⟩, s6⟩ := hs.st
  have hbt : ∀ {e : TypeId} {b2 s n : Nat} {u : Value} {xs : List Value}, W.ownsRow b2 e s u n xs → 82 ≠ e → ∀ k, u.ownBlock = some k → k ≠ bb := fun {e b2 s n u xs} hu hne k hk hkb => row_type hu hs.bk hne (by rw [← hkb]; exact hk)
  exact ⟨⟨sv, s1, row_keep s3 (fun k e => h3 k (s6 k e) (hbt s3 (by decide) k e)), fun i a b => ⟨row_keep (s5 i a b).1 (fun k e => h3 k ((s5 i a b).2 k e) (hbt (s5 i a b).1 (by decide) k e)), (s5 i a b).2⟩⟩, s6⟩
 ·rcases hst with ⟨e, -⟩ | e
  ·exact ⟨j, hb, Mb, j1, j2, j3, e⟩
  ·exact ⟨T.length - 1, h, M, by omega, by omega, hs.now, e⟩
 ·intro e0 e1
  rcases hst with ⟨-, e⟩ | e
  ·exact absurd (e e0) e1
  ·rw [e.k, hs.now.com]
   omega
theorem alike_arm (d : Dsk) (n e : Int) : Alike d (armM d n e).2 := by unfold armM; split <;> exact ⟨rfl, rfl, rfl⟩
theorem alike_power (d : Dsk) (n : Int) : Alike d (powerM d n).2 := by unfold powerM; split <;> exact ⟨rfl, rfl, rfl⟩
theorem WSt.dest {d' : Dsk} (hs : WSt w W pb l b db bb v m g ds h M T TS B d X) (ha : Alike d d') (hp : PD w W' ⟨pb, l, b, p0, g, ds⟩ db d' X) (hk : ∀ k, X k → W'.heap[k]? = W.heap[k]?) (hsd : d'.Small (200000 + 16908288 * (m + 1))) : WSt w W' pb l b db bb v (m + 1) g ds h M T TS B d' X := by
 have htw := hs.two
 have hr := hs.rs
 obtain ⟨j, hb, Mb, j1, j2, j3, j4⟩ := hs.bw
 exact ⟨hp, hs.bbX, (hk bb hs.bbX).trans hs.bk, hs.ge, hs.src, hs.now, by omega, hs.st.keep hk, ⟨j, hb, Mb, j1, j2, j3, j4.alike ha⟩, by omega, hs.ss.mono (by omega), hsd⟩
theorem WSt.arm (hs : WSt w W pb l b db bb v m g ds h M T TS B d X) (hm : m ≤ 1000) (n : Int) : Calls Tryz.prog 24 #[.pointer (some ⟨db, 0, none⟩), .int .i64 n, .int .i64 31] W fun e w' => ∃ e0 d', e = .returned (.int .i64 e0) ∧ WSt w w' pb l b db bb v (m + 1) g ds h M T TS B d' X := by
 refine (pd_arm hs.pd n 31 (hs.sd.mono (by omega))).mono ?_
 rintro e w' ⟨rfl, h1, h2⟩
 refine ⟨_, _, rfl, hs.dest (alike_arm d n 31) h1 h2 ?_⟩
 have hq := hs.sd
 unfold armM
 split
 ·exact ⟨Int.le_trans hq.ops (by omega), by have := hq.arm; show d.narm + 1 ≤ _; omega, Nat.le_trans hq.loose (by omega)⟩
 ·exact hq.mono (by omega)
theorem WSt.power (hs : WSt w W pb l b db bb v m g ds h M T TS B d X) (hm : m ≤ 1000) (n : Int) : Calls Tryz.prog 25 #[.pointer (some ⟨db, 0, none⟩), .int .i64 n] W fun e w' => ∃ e0 d', e = .returned (.int .i64 e0) ∧ WSt w w' pb l b db bb v (m + 1) g ds h M T TS B d' X := by
 refine (pd_power hs.pd n (hs.sd.mono (by omega))).mono ?_
 rintro e w' ⟨rfl, h1, h2⟩
 refine ⟨_, _, rfl, hs.dest (alike_power d n) h1 h2 ?_⟩
 have hq := hs.sd
 unfold powerM
 split
 ·exact ⟨Int.le_trans hq.ops (by omega), by have := hq.arm; show d.narm ≤ _; omega, Nat.le_trans hq.loose (by omega)⟩
 ·exact hq.mono (by omega)
theorem db_check {L : List (List UInt8)} (hD : Db g ds L) (hg : g.Ok) : ∃ g' d', pcheckM p0 g ds = (0, g', d') ∧ Db g' d' L := by
 have e0 : pcheckM p0 g ds = lcheckM g ds := by unfold pcheckM; rw [if_neg (by decide)]
 rw [e0]
 obtain ⟨e, hk⟩ := check_calm hD.calm hg
 obtain ⟨r, hr⟩ : ∃ r, r = lcheckM g ds := ⟨_, rfl⟩
 rw [← hr] at e hk ⊢
 obtain ⟨e0, g', d'⟩ := r
 dsimp only at e hk
 subst e
 have hp := hD.pages
 have hm := hD.many
 exact ⟨g', d', rfl, ⟨hk.calm, by rw [hk.pages, hp], hm, fun n n1 n2 => (hk.page n n1 (by omega)).trans (hD.page n n1 n2), hD.len⟩⟩
theorem WSt.check (hs : WSt w W pb l b db bb v m g ds h M T TS B d X) (hm : m ≤ 1000) : Calls Tryz.prog 26 #[.pointer (some ⟨pb, 0, none⟩)] W fun e w' => e = .returned (.int .i64 0) ∧ ∃ g' ds', WSt w w' pb l b db bb v (m + 1) g' ds' h M T TS B d X := by
 have htw := hs.two
 have hr := hs.rs
 have hg : g.Ok := hs.pd.pg.oks.1
 have A := pd_check hs.pd (100 + 8519680 * (m + 1)) hs.ss (by omega)
 obtain ⟨g', d', e1, e2⟩ := db_check hs.src hg
 have hsm : (pcheckM p0 g ds).2.2.Small (100 + 8519680 * (m + 1 + 1)) := by
  have e0 : pcheckM p0 g ds = lcheckM g ds := by unfold pcheckM; rw [if_neg (by decide)]
  rw [e0]
  exact ck_small g ds _ _ (by omega) hg.pages.2 hs.ss
 dsimp only at A
 rw [e1] at A hsm
 refine A.mono ?_
 rintro e w' ⟨rfl, h1, h2⟩
 exact ⟨rfl, g', d', h1, hs.bbX, (h2 bb hs.bbX).trans hs.bk, hs.ge, e2, hs.now, by omega, hs.st.keep h2, hs.bw, by omega, hsm, hs.sd.mono (by omega)⟩
theorem WSt.done (hs : WSt w W pb l b db bb v m g ds h M T TS B d X) : Calls Tryz.prog 14 #[.pointer (some ⟨bb, 0, none⟩)] W fun e w' => e = .returned (.bool (B.next == 0)) ∧ w' = W := bdone_any hs.bk
theorem WSt.commits (hs : WSt w W pb l b db bb v m g ds h M T TS B d X) : Calls Tryz.prog 13 #[.pointer (some ⟨bb, 0, none⟩)] W fun e w' => e = .returned (.int .u64 B.k) ∧ w' = W := bcommits_any hs.bk
theorem WSt.copy (hs : WSt w W pb l b db bb v m g ds h M T TS B d X) (hm : m ≤ 1001) : Calls Tryz.prog 27 #[.pointer (some ⟨db, 0, none⟩)] W fun e w' => ∃ b2, e = .returned (.pointer (some ⟨b2, 0, none⟩)) ∧ CpD w W w' b2 d ∧ Below W.heap.size W w' := cp_copy hs.pd.dsk (hs.sd.mono (by omega))
theorem WSt.seen (hs : WSt w W pb l b db bb v m g ds h M T TS B d X) (keep : List Bool) :
  (B.next ≠ 0 ∧ openedM (crashM d keep) = none) ∨ ∃ (j : Nat) (hb : Hdr) (Mb : List (List UInt8)) (g0 : Lg), 1 ≤ j ∧ j < T.length ∧ State (T.getD j []) j hb Mb ∧ B.k = (j : Int) ∧ openedM (crashM d keep) = some (g0, hdrPg hb :: Mb) ∧ stOk p0 g0 (crashM d keep) := by
 obtain ⟨j, hb, Mb, j1, j2, j3, j4⟩ := hs.bw
 rcases bw_crash j4 j3.hd j3.few j3.len keep with e | ⟨g0, e1, e2⟩
 ·exact .inl e
 ·exact .inr ⟨j, hb, Mb, g0, j1, j2, j3, by rw [j4.k, j3.com], e1, e2⟩
theorem WSt.pushS {W1 W2 : World} {L : List (List UInt8)} (h1 : WSt w W pb l b db bb v m g ds h M T TS B d X) (hb : Below W.heap.size W W1) (hm : StrRow W1 W.heap.size vm L) {sv : List Value} (s1 : sv.length = TS.length) (s3 : W1.ownsRow w.heap.size 52 1 v TS.length sv)
  (s5 : ∀ i (h1 : i < sv.length) (h2 : i < TS.length), StrRow W1 w.heap.size sv[i] TS[i] ∧ ∀ k, sv[i].ownBlock = some k → X k) (hg : (W1.alloc (.cells #[vm] 52)).grownBy W2 v.ownBlock) (ho : W2.ownsRow w.heap.size 52 1 v' (TS.length + 1) (sv ++ [vm]))
  (hat : v'.ownBlock = v.ownBlock ∨ v'.ownBlock = some (W1.alloc (.cells #[vm] 52)).heap.size) :
  WSt w W2 pb l b db bb v' m g ds h M T (TS ++ [L]) B d (XW X W.heap.size W2.heap.size) := by
 have bA := (Below.refl W1.heap.size W1).alloc (Nat.le_refl _) (.cells #[vm] 52)
 have zA : (W1.alloc (.cells #[vm] 52)).heap.size = W1.heap.size + 1 := by simp
 have z2 := hg.size
 have zb := hb.size
 have zw := h1.bel.size
 have ht := pd_moreg (pd_more (pd_start h1.pd hb) bA) hg h1.st.own (fun k e => (row_base s3 e).1)
 have hk2 : ∀ k, k < W1.heap.size → v.ownBlock ≠ some k → W2.heap[k]? = W1.heap[k]? := fun k hk hne => (hg.block k (by omega) (fun e => hne e.symm)).trans (bA.block k hk)
 have hbl : bb < W.heap.size := h1.pd.xlt bb h1.bbX
 have hbk1 : W1.heap[bb]? = some (bkObj pb db B) := (hb.block bb hbl).trans h1.bk
 have hne : v.ownBlock ≠ some bb := row_type s3 hbk1 (by decide)
 refine ⟨ht, .inl h1.bbX, (hk2 bb (by omega) hne).trans hbk1, h1.ge, h1.src, h1.now, h1.two, ?_, h1.bw, h1.rs, h1.ss, h1.sd⟩
 refine states_push s1 s3 s5 (row_lower hm zw) (fun k hk => .inr ?_) ho (fun k hk => ?_) (fun k hk => .inl hk) hk2
 ·have := row_base hm hk; omega
 ·rcases hat with e | e
  ·exact .inl (h1.st.own k (e ▸ hk))
  ·rw [hk] at e
   injection e with e
   have := (row_base ho hk).2
   exact .inr (by omega)
theorem nil_states (W : World) (base : Nat) (X : Nat → Prop) : StatesAt W base (.slice none 0 0) [] X := ⟨⟨[], rfl, World.ownsRow_nil _ _ _ _, fun i a b => absurd b (Nat.not_lt_zero _)⟩, fun k hk => by cases hk⟩
theorem ws_start (hp : PD w W ⟨pb, l, b, p0, g, ds⟩ db newM X) (hD : Db g ds (hdrPg h :: M)) (hh : HdOk h) (hc : h.commits = 1) (hss : ds.Small (100 + 8519680 * (0 + 1))) :
  Calls Tryz.prog 10 #[.pointer (some ⟨pb, 0, none⟩), .pointer (some ⟨db, 0, none⟩)] W fun e w' => ∃ bb B d, e = .returned (.tuple #[.pointer (some ⟨bb, 0, none⟩), .int .i64 0]) ∧ WSt w w' pb l b db bb (.slice none 0 0) 0 g ds h M [[], hdrPg h :: M] [] B d (fun k => k = bb) := by
 obtain ⟨e1, u1⟩ := start_bw hD hh (by omega)
 have hm := hD.many
 have hsd : (bseqM bstepsM newM).2.Small 200000 := by
  have := bstart_small (p := p0) (g := g) (ds := ds) new_small
  rw [e1] at this
  exact Dsk.Small.mono this (by omega)
 have hst : State (([[], hdrPg h :: M] : List (List (List UInt8))).getD 1 []) 1 h M := ⟨rfl, hh, by omega, by simp at hm; omega, fun s hs => hD.len s (List.mem_cons_of_mem _ hs)⟩
 refine (bstart_any hp (N := 100) new_small (by decide)).mono fun e w' hg => ?_
 unfold StartGave at hg
 dsimp only at hg
 rw [e1] at hg
 obtain ⟨bb, h1, h2, h3, h4, -⟩ := hg
 exact ⟨bb, _, _, h1, ⟨h2.to (fun k hk => .inr hk), rfl, h3, Nat.le_trans hp.bel.size h4, hD, hst, by simp, nil_states _ _ _, ⟨1, h, M, by omega, by simp, hst, u1⟩, ⟨Int.le_refl _, Int.le_refl _⟩, hss, hsd.mono (by omega)⟩⟩
theorem WSt.begin {W1 : World} {L : List (List UInt8)} (h1 : WSt w W pb l b db bb (.slice none 0 0) m g ds h M T [] B d X) (hb : Below W.heap.size W W1) (hm : StrRow W1 W.heap.size vm L) :
  WSt w (W1.alloc (.cells #[.slice none 0 0, vm] 52)) pb l b db bb (.slice (some ⟨W1.heap.size, 0, none⟩) 2 2) m g ds h M T [[], L] B d (XW X W.heap.size (W1.alloc (.cells #[.slice none 0 0, vm] 52)).heap.size) := by
 have bA := (Below.refl W1.heap.size W1).alloc (Nat.le_refl _) (.cells #[.slice none 0 0, vm] 52)
 have hn := heap_alloc_new W1 (.cells #[.slice none 0 0, vm] 52)
 have zA : (W1.alloc (.cells #[.slice none 0 0, vm] 52)).heap.size = W1.heap.size + 1 := by simp
 have zb := hb.size
 have zw := h1.bel.size
 have hbl : bb < W.heap.size := h1.pd.xlt bb h1.bbX
 refine ⟨pd_more (pd_start h1.pd hb) bA, .inl h1.bbX, (bA.block bb (by omega)).trans ((hb.block bb hbl).trans h1.bk), h1.ge, h1.src, h1.now, h1.two, ?_, h1.bw, h1.rs, h1.ss, h1.sd⟩
 refine ⟨⟨[.slice none 0 0, vm], rfl, ⟨rfl, .inr ⟨W1.heap.size, 2, #[.slice none 0 0, vm], rfl, by omega, hn, Nat.le_refl _, by decide, rfl, rfl⟩⟩, fun i a c => ?_⟩, fun k hk => by injection hk with hk; have hk : W1.heap.size = k := hk; exact .inr (by omega)⟩
 have c : i < 2 := c
 obtain rfl | rfl : i = 0 ∨ i = 1 := by omega
 ·exact ⟨World.ownsRow_nil _ _ _ _, fun k hk => by cases hk⟩
 ·exact ⟨row_keep (row_lower hm zw) (fun k e => bA.block k (row_base hm e).2), fun k hk => .inr (by have := row_base hm hk; have := hm.2; omega)⟩
end
end Go.Proofs.YtenboibbbmeddaaGreat
namespace Go.Proofs.YtenboibbbmeddaaGreat
open Go.ChangeShapes Go.WideShapes Go.ChangeAt Go.RowKit Go.Deep
set_option maxRecDepth 20000
set_option maxRecDepth 20000
section
variable {H : Type} {enc : TypeId × Value → H} {w : World} {base : Nat} {sp : Nat → Bool} {held : Bool}
theorem open_bools_cell {fuel : Nat} {cs : List Value} {x : DataW H × List MemPlace} (h : DataW.trod enc Tryz.prog w base sp held fuel 47 cs = some x) :
  ∃ (ka : Option Addr) (kcap : Nat) (ks : List Bool), cs = [.slice ka ks.length kcap] ∧ KeepAt w (.slice ka ks.length kcap) ks ∧ (∀ g, keepBlk (.slice ka ks.length kcap) ks = some g → g < w.heap.size) ∧ ks.length ≤ 9223372036854775807 := by
 rcases open_slice1 Tryz.underlying47 (by kernel_rfl) h with ⟨rfl, _⟩ | ⟨a, len, cap, m, n, V, D, Pl, rfl, hb, hle, hcap, hm, _, hx⟩
 ·exact ⟨none, 0, [], rfl, ⟨none, 0, rfl, .inl rfl⟩, (fun g hg => by cases hg), by simp⟩
 have hlm : len ≤ m := by rw [hm]; split <;> omega
 obtain ⟨B, hB⟩ := choose_lt (α := Bool) (p := fun i b => w.cell? (a.add i) = some (.bool b)) (n := len) (fun i hi => by
  obtain ⟨h1, h2⟩ := hx i (by omega)
  obtain ⟨b, e, _⟩ := DataW.trod_bool Tryz.underlying4 h2
  simp at e
  exact ⟨b, by rw [h1, e]⟩)
 have hm' : maxLen = 9223372036854775807 := rfl
 have hlen : ((List.range len).map B).length = len := by simp
 refine ⟨some a, cap, (List.range len).map B, by rw [hlen], ?_, ?_, by rw [hlen]; omega⟩
 ·refine ⟨some a, cap, rfl, ?_⟩
  by_cases h0 : len = 0
  ·subst h0
   exact .inl rfl
  ·obtain ⟨b, off, spot⟩ := a
   have hspot : spot = none := by simpa [Addr.add] using World.cell?_spot (hB 0 (by omega))
   subst hspot
   refine .inr ⟨b, off, rfl, fun i v hi => ?_⟩
   have hi' : i < len := by
    have := (List.getElem?_eq_some_iff.1 hi).1
    simpa using this
   have e := hB i hi'
   simp only [Addr.add_lit] at e
   rw [e]
   simp [List.getElem?_map, hi'] at hi
   rw [hi]
 ·intro g hg
  by_cases h0 : len = 0
  ·subst h0
   cases hg
  ·have h1 := lt_of_cell (hB 0 (by omega))
   unfold keepBlk at hg
   split at hg
   ·cases hg
   ·cases hg
    simpa [Addr.add] using h1
theorem open_bools {b0 : Nat} {v : Value} (hval : Value.okWide Tryz.prog w .any b0 47 v) (h : ∃ d p, DataW.Trod enc Tryz.prog w base sp held 47 v d p) : ∃ (z : (Option Addr × Nat) × List Bool), v = .slice z.1.1 z.2.length z.1.2 ∧ KeepAt w (.slice z.1.1 z.2.length z.1.2) z.2 ∧ (∀ g, keepBlk (.slice z.1.1 z.2.length z.1.2) z.2 = some g → g < w.heap.size) ∧ z.2.length ≤ 9223372036854775807 := by
 obtain ⟨d, p, fuel, hf⟩ := h
 obtain ⟨ao, n, cap, rfl⟩ := okWide_slice Tryz.underlying47 hval
 obtain ⟨ka, kcap, ks, e, h1, h2, h3⟩ := open_bools_cell hf
 simp [Value.cells] at e
 obtain ⟨rfl, rfl, rfl⟩ := e
 exact ⟨((ao, cap), ks), rfl, h1, h2, h3⟩
end
end Go.Proofs.YtenboibbbmeddaaGreat
