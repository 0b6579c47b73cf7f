/- BackupPlays: Step and Start on both, what is opened and read. -/
import Derived.Test.YtfkcmgbpgefnnaaGreatBpJ
import Derived.Test.YtfkcmgbpgefnnaaGreatLift
set_option linter.unusedVariables false
set_option linter.unusedSimpArgs false
namespace Go.Proofs.YtfkcmgbpgefnnaaGreat
open Go.RowKit Go.Maps
set_option maxRecDepth 20000
section
variable {w W W' : World} {pb l b db rd m bb rb : Nat} {vs vs' : Value} {Lr Lr' : List (List UInt8)} {ob ow ob' ow' : Option (Nat × Bk)} {g : Lg} {ds : Dsk} {h : Hdr} {M : List (List UInt8)} {d r d' r' : Dsk} {X X' : Nat → Prop} {B Br : Bk}
theorem step_log (hD : Db g ds (hdrPg h :: M)) (hl : NoLog d) (hb : BkSt h ((hdrPg h :: M).length : Int) m B) (n : Int) : NoLog (bstepM p0 g ds n B d).2.2 := by
 have h1 := db_pages (p := p0) hD rfl
 have h2 := hD.many
 have h3 : (hdrPg h :: M).length = M.length + 1 := rfl
 exact nolog_step hl hb.ok (by omega) n
theorem PlSt.step (hs : PlSt w W pb l b db rd vs Lr (some (bb, B)) (some (rb, Br)) m g ds h M d r X) (hm : m ≤ 1000) (n : Int) (hn : in64 n) :
  Calls Tryz.prog 14 #[.pointer (some ⟨bb, 0, none⟩), .int .i64 n] W fun e w' => e = .returned (.int .i64 (bstepM p0 g ds n B d).1) ∧ PlSt w w' pb l b db rd vs Lr (some (bb, (bstepM p0 g ds n B d).2.1)) (some (rb, Br)) (m + 1) g ds h M (bstepM p0 g ds n B d).2.2 r X ∧ ∀ k, X k → k ≠ bb → w'.heap[k]? = W.heap[k]? := by
 obtain ⟨R, hRX, hpd, hgo⟩ := hs.bp.left
 obtain ⟨b1, b2, b3, b4⟩ := hs.bk bb B rfl
 obtain ⟨a1, a2, a3, a4⟩ := hs.wk rb Br rfl
 obtain ⟨hP, hP1, hP2⟩ := hs.pages
 have hrs := b4.rs
 have A := bstep_in hpd (.inl b1) b2 b3 b4.ok ⟨hrs.1, by omega⟩ hP1 n hn hs.sd (by omega)
 have hsm := bstep_small3 (p := p0) (g := g) (ds := ds) b4.ok ⟨hP1, hP2⟩ hs.sd n
 have hst := bstep_st (d := d) hs.src hs.hd b4 (by omega) n
 have hlg := step_log hs.src hs.logd b4 n
 dsimp only at A
 obtain ⟨Q, hQ⟩ : ∃ Q, Q = bstepM p0 g ds n B d := ⟨_, rfl⟩
 rw [← hQ] at A hsm hst hlg ⊢
 refine A.mono ?_
 rintro e w' ⟨rfl, h1, h2, h3⟩
 have hne : rb ≠ bb := fun e => by
  rw [e] at a3
  rw [a3] at b3
  injection b3 with b3
  unfold rbkObj bkObj at b3
  injection b3 with _ b3 _
  exact absurd b3 (by decide)
 have hbp := hgo w' _ Q.2.2 (fun k => k = bb) X (fun k e => by rw [e]; exact b1) h1 (fun k hk => (hRX k hk).1) (fun k hk hn => h3 k hk hn)
 have h5 := hs.more (Nat.le_succ m)
 refine ⟨rfl, ⟨hbp, hs.src, hs.hd, h5.com, row_keep hs.row (fun k e => h3 k (.inl (hs.vx k e)) (fun e2 => row_typeP hs.row b3 (by decide) (by rw [← e2]; exact e))), hs.vx, fun bb' B' e => ?_, fun rb' B' e => ?_, hlg, hs.logr, h5.ss, Dsk.Small.mono hsm (by omega), h5.sr⟩, fun k hk hn => h3 k (.inl hk) hn⟩
 ·injection e with e
  injection e with e1 e2
  subst e1 e2
  exact ⟨b1, b2, h2, hst⟩
 ·obtain ⟨c1, c2, c3, c4⟩ := h5.wk rb' B' e
  injection e with e
  injection e with e1 e2
  subst e1
  exact ⟨c1, c2, (h3 rb (.inl c1) hne).trans c3, c4⟩
theorem PlSt.rstep (hs : PlSt w W pb l b db rd vs (hdrPg h :: M) (some (bb, B)) (some (rb, Br)) m g ds h M d r X) (hm : m ≤ 1000) (n : Int) (hn : in64 n) :
  Calls Tryz.prog 15 #[.pointer (some ⟨rb, 0, none⟩), vs, .int .i64 n] W fun e w' => e = .returned (.int .i64 (bstepM p0 g ds n Br r).1) ∧ PlSt w w' pb l b db rd vs (hdrPg h :: M) (some (bb, B)) (some (rb, (bstepM p0 g ds n Br r).2.1)) (m + 1) g ds h M d (bstepM p0 g ds n Br r).2.2 X ∧ ∀ k, X k → k ≠ rb → w'.heap[k]? = W.heap[k]? := by
 obtain ⟨Y, hYX, hrx, hgo⟩ := hs.bp.right
 obtain ⟨b1, b2, b3, b4⟩ := hs.bk bb B rfl
 obtain ⟨a1, a2, a3, a4⟩ := hs.wk rb Br rfl
 obtain ⟨hP, hP1, hP2⟩ := hs.pages
 have hrs := a4.rs
 obtain ⟨ao, cap, rfl, hc⟩ := hs.row.shape
 obtain ⟨q, rfl, -⟩ := hc 0 (by simp)
 have hqb : q ≠ rb := fun e => row_typeP hs.row a3 (by decide) (by rw [e]; rfl)
 have h0 : RpAt w W W rd rb w.heap.size q cap (hdrPg h :: M) r Br (fun k => X k ∨ Y k) := ⟨hrx, .inl a1, a2, a3, hs.row, .inl (hs.vx q rfl), hqb, fun _ _ _ => rfl⟩
 have A := rstep29_any h0 hs.src hs.hd a4.ok a4.pg ⟨hrs.1, by omega⟩ n hn hs.sr (by omega)
 have hsm := bstep_small3 (p := p0) (g := g) (ds := ds) a4.ok ⟨hP1, hP2⟩ hs.sr n
 have hst := bstep_st (d := r) hs.src hs.hd a4 (by omega) n
 have hlg := step_log hs.src hs.logr a4 n
 obtain ⟨Q, hQ⟩ : ∃ Q, Q = bstepM p0 g ds n Br r := ⟨_, rfl⟩
 rw [← hQ] at A hsm hst hlg ⊢
 refine A.mono ?_
 rintro e w' ⟨rfl, h1⟩
 have hne : bb ≠ rb := fun e => by
  rw [e] at b3
  rw [b3] at a3
  injection a3 with a3
  unfold rbkObj bkObj at a3
  injection a3 with _ a3 _
  exact absurd a3 (by decide)
 have hbp := hgo w' Q.2.2 (fun k => k = rb) X (fun k e => by rw [e]; exact a1) h1.rx (fun k hk => (hYX k hk).1) (fun k hk hn => h1.kp k hk hn)
 have h5 := hs.more (Nat.le_succ m)
 refine ⟨rfl, ⟨hbp, hs.src, hs.hd, h5.com, h1.row, hs.vx, fun bb' B' e => ?_, fun rb' B' e => ?_, hs.logd, hlg, h5.ss, h5.sd, Dsk.Small.mono hsm (by omega)⟩, fun k hk hn => h1.kp k (.inl hk) hn⟩
 ·obtain ⟨c1, c2, c3, c4⟩ := h5.bk bb' B' e
  injection e with e
  injection e with e1 e2
  subst e1
  exact ⟨c1, c2, (h1.kp bb (.inl c1) hne).trans c3, c4⟩
 ·injection e with e
  injection e with e1 e2
  subst e1 e2
  exact ⟨a1, a2, h1.bk, hst⟩
theorem anew_st (hD : Db g ds (hdrPg h :: M)) : BkSt h ((hdrPg h :: M).length : Int) m (bkAnew p0 g ⟨0, 0, 0, false, 0⟩ h.commits) := by
 have hP := db_pages (p := p0) hD rfl
 have h2 := hD.many
 have h1 : (1 : Int) ≤ ((hdrPg h :: M).length : Int) := by have e1 : (hdrPg h :: M).length = M.length + 1 := rfl; omega
 unfold bkAnew
 rw [hP]
 obtain ⟨q, hq⟩ : ∃ q : Int, q = ((hdrPg h :: M).length : Int) := ⟨_, rfl⟩
 have h3 : q ≤ 256 := by omega
 rw [← hq] at h1 ⊢
 refine ⟨⟨⟨h1, h3⟩, .inr ?_⟩, Int.le_refl _, fun _ => rfl, ?_⟩
 ·dsimp only
  split <;> omega
 ·dsimp only
  omega
def PStartGave (w : World) (pb l b db rd : Nat) (vs : Value) (Lr : List (List UInt8)) (m : Nat) (g : Lg) (ds : Dsk) (h : Hdr) (M : List (List UInt8)) (r : Dsk) (X : Nat → Prop) (R : Option Bk × Int × Dsk) (e : Ending) (w' : World) : Prop :=
 (R.1 = none ∧ e = .returned (.tuple #[.pointer none, .int .i64 R.2.1]) ∧ PlSt w w' pb l b db rd vs Lr none none (m + 1) g ds h M R.2.2 r X) ∨
 ∃ bb B, R.1 = some B ∧ e = .returned (.tuple #[.pointer (some ⟨bb, 0, none⟩), .int .i64 0]) ∧ PlSt w w' pb l b db rd vs Lr (some (bb, B)) none (m + 1) g ds h M R.2.2 r (fun k => X k ∨ k = bb)
theorem PlSt.start (hs : PlSt w W pb l b db rd vs Lr none none m g ds h M d r X) (hm : m ≤ 1000) :
  Calls Tryz.prog 10 #[.pointer (some ⟨pb, 0, none⟩), .pointer (some ⟨db, 0, none⟩)] W (PStartGave w pb l b db rd vs Lr m g ds h M r X (bstartM p0 g ds d)) := by
 obtain ⟨R, hRX, hpd, hgo⟩ := hs.bp.left
 have A := bstart_any hpd hs.sd (by omega)
 have hsm := bstart_small (p := p0) (g := g) (ds := ds) hs.sd
 have hlg := nolog_start (p := p0) (g := g) (ds := ds) hs.logd
 have hB : ∀ B, (bstartM p0 g ds d).1 = some B → B = bkAnew p0 g ⟨0, 0, 0, false, 0⟩ h.commits := by
  intro B e
  unfold bstartM at e
  rw [have_db hs.src hs.hd] at e
  split at e
  ·cases e
  split at e
  ·cases e
  split at e
  ·cases e
  split at e
  ·cases e
  split at e
  ·cases e
  ·injection e with e
   exact e.symm
 dsimp only at A
 obtain ⟨Q, hQ⟩ : ∃ Q, Q = bstartM p0 g ds d := ⟨_, rfl⟩
 rw [← hQ] at A hsm hlg hB ⊢
 have h5 := hs.more (Nat.le_succ m)
 refine A.mono ?_
 intro e w' hg
 unfold StartGave at hg
 obtain ⟨o, e0, d1⟩ := Q
 cases o with
 | none =>
  obtain ⟨h1, h2, h3⟩ := hg
  refine .inl ⟨rfl, h1, ?_⟩
  have hbp := hgo w' _ d1 (fun _ => False) X (fun k e => e.elim) h2 (fun k hk => (hRX k hk).1) (fun k hk _ => h3 k hk)
  exact ⟨hbp, hs.src, hs.hd, h5.com, row_keep hs.row (fun k e => h3 k (.inl (hs.vx k e))), hs.vx, (fun bb B e => by cases e), (fun bb B e => by cases e), hlg, hs.logr, h5.ss, Dsk.Small.mono hsm (by omega), h5.sr⟩
 | some B =>
  obtain ⟨bb, h1, h2, h3, h4, h6⟩ := hg
  have hbX : ∀ k, (X k ∨ R k) → k ≠ bb := fun k hk e => by have := hpd.xlt k hk; omega
  refine .inr ⟨bb, B, rfl, h1, ?_⟩
  have hbp := hgo w' _ d1 (fun _ => False) (fun k => X k ∨ k = bb) (fun k e => e.elim) (h2.to (fun k hk => by
   rcases hk with (hk | hk) | hk
   ·exact .inl (.inl hk)
   ·exact .inr hk
   ·exact .inl (.inr hk))) (fun k hk e => e.elim (hRX k hk).1 (hbX k (.inr hk))) (fun k hk _ => h6 k hk)
  refine ⟨hbp, hs.src, hs.hd, h5.com, row_keep hs.row (fun k e => h6 k (.inl (hs.vx k e))), fun k e => .inl (hs.vx k e), (fun bb' B' e => ?_), (fun bb B e => by cases e), hlg, hs.logr, h5.ss, Dsk.Small.mono hsm (by omega), h5.sr⟩
  injection e with e
  injection e with e1 e2
  subst e1 e2
  have hBe : B = bkAnew p0 g ⟨0, 0, 0, false, 0⟩ h.commits := hB B rfl
  exact ⟨.inr rfl, Nat.le_trans hs.bel.size h4, h3, by rw [hBe]; exact anew_st hs.src⟩
def PRStartGave (w : World) (pb l b db rd : Nat) (vs : Value) (Lr : List (List UInt8)) (ob : Option (Nat × Bk)) (m : Nat) (g : Lg) (ds : Dsk) (h : Hdr) (M : List (List UInt8)) (d : Dsk) (X : Nat → Prop) (R : Int × Dsk) (e : Ending) (w' : World) : Prop :=
 (R.1 ≠ 0 ∧ e = .returned (.tuple #[.pointer none, .int .i64 R.1]) ∧ PlSt w w' pb l b db rd vs Lr ob none (m + 1) g ds h M d R.2 X) ∨
 (R.1 = 0 ∧ ∃ rb, e = .returned (.tuple #[.pointer (some ⟨rb, 0, none⟩), .int .i64 0]) ∧ PlSt w w' pb l b db rd vs Lr ob (some (rb, bkAnew p0 g ⟨0, 0, 0, false, 0⟩ h.commits)) (m + 1) g ds h M d R.2 (fun k => X k ∨ k = rb))
theorem PlSt.rstart (hs : PlSt w W pb l b db rd vs (hdrPg h :: M) ob none m g ds h M d r X) (hm : m ≤ 1000) :
  Calls Tryz.prog 12 #[vs, .pointer (some ⟨rd, 0, none⟩)] W (PRStartGave w pb l b db rd vs (hdrPg h :: M) ob m g ds h M d X (bseqM bstepsM r)) := by
 obtain ⟨Y, hYX, hrx, hgo⟩ := hs.bp.right
 have A := rstart29_any hrx hs.row (fun k e => .inl (hs.vx k e)) hs.src hs.hd hs.logr hs.sr (by omega)
 have hsm : (bseqM bstepsM r).2.Small (400000 + 17039360 * m + 32768 * 4) := by
  refine bseq_small2 bstepsM r _ ?_ hs.sr
  intro x hx d N hd
  unfold bstepsM at hx
  simp only [List.mem_cons, List.not_mem_nil, or_false] at hx
  rcases hx with rfl | rfl | rfl | rfl
  ·exact (write_small hd).mono (by omega)
  ·exact bcut_small hd
  ·exact (sync_small hd).mono (by omega)
  ·exact emptyLog_small hd
 have hlg := nolog_steps hs.logr
 obtain ⟨Q, hQ⟩ : ∃ Q, Q = bseqM bstepsM r := ⟨_, rfl⟩
 rw [← hQ] at A hsm hlg ⊢
 have h5 := hs.more (Nat.le_succ m)
 refine A.mono ?_
 rintro e w' ⟨hk, ⟨z, rfl, hx⟩ | ⟨z, rb, rfl, hx, h1, h2, h3⟩⟩
 ·refine .inl ⟨z, rfl, ?_⟩
  have hbp := hgo w' Q.2 (fun _ => False) X (fun k e => e.elim) hx (fun k hk1 => (hYX k hk1).1) (fun k hk1 _ => hk k hk1)
  exact ⟨hbp, hs.src, hs.hd, h5.com, row_keep hs.row (fun k e => hk k (.inl (hs.vx k e))), hs.vx, fun bb B e => ⟨(h5.bk bb B e).1, (h5.bk bb B e).2.1, (hk bb (.inl (h5.bk bb B e).1)).trans (h5.bk bb B e).2.2.1, (h5.bk bb B e).2.2.2⟩, (fun bb B e => by cases e), hs.logd, hlg, h5.ss, h5.sd, Dsk.Small.mono hsm (by omega)⟩
 ·refine .inr ⟨z, rb, rfl, ?_⟩
  have hbp := hgo w' Q.2 (fun _ => False) (fun k => X k ∨ k = rb) (fun k e => e.elim) (hx.to (fun k hk1 => by
   rcases hk1 with (hk1 | hk1) | hk1
   ·exact .inl (.inl hk1)
   ·exact .inr hk1
   ·exact .inl (.inr hk1))) (fun k hk1 e => e.elim (hYX k hk1).1 (fun e2 => h2 (by rw [← e2]; exact .inr hk1))) (fun k hk1 _ => hk k hk1)
  refine ⟨hbp, hs.src, hs.hd, h5.com, row_keep hs.row (fun k e => hk k (.inl (hs.vx k e))), fun k e => .inl (hs.vx k e), fun bb B e => ⟨.inl (h5.bk bb B e).1, (h5.bk bb B e).2.1, (hk bb (.inl (h5.bk bb B e).1)).trans (h5.bk bb B e).2.2.1, (h5.bk bb B e).2.2.2⟩, (fun rb' B' e => ?_), hs.logd, hlg, h5.ss, h5.sd, Dsk.Small.mono hsm (by omega)⟩
  injection e with e
  injection e with e1 e2
  subst e1 e2
  exact ⟨.inr rfl, h3, h1, anew_st hs.src⟩
theorem PlSt.opened (hs : PlSt w W pb l b db rd vs Lr ob ow m g ds h M d r X) (ho : d.off = false) : Calls Tryz.prog 22 #[.pointer (some ⟨db, 0, none⟩)] W fun e w' => ∃ v, e = .returned (.tuple #[v, .bool (openedM d).isSome]) ∧ PlSt w w' pb l b db rd vs Lr ob ow m g ds h M d r X := by
 refine (opened_any hs.bp.dsk (nolog_open ho hs.logd.now)).mono ?_
 rintro e w' ⟨hb, hm⟩
 cases hop : openedM d with
 | none =>
  rw [hop] at hm
  exact ⟨_, hm, hs.below hb⟩
 | some x =>
  rw [hop] at hm
  obtain ⟨v, rfl, -⟩ := hm
  exact ⟨v, rfl, hs.below hb⟩
theorem start_eq (hs : PlSt w W pb l b db rd vs Lr ob ow m g ds h M d r X) (ho : d.off = false) : bstartM p0 g ds d = if (openedM d).isSome then (none, 9, d) else if (bseqM bstepsM d).1 ≠ 0 then (none, (bseqM bstepsM d).1, (bseqM bstepsM d).2) else (some (bkAnew p0 g ⟨0, 0, 0, false, 0⟩ h.commits), 0, (bseqM bstepsM d).2) := by
 unfold bstartM
 rw [have_db hs.src hs.hd, if_neg (by simp)]
 dsimp only
 rw [if_neg (by have := hs.com; omega), ho, if_neg (by decide)]
theorem PlSt.ops (hs : PlSt w W pb l b db rd vs Lr ob ow m g ds h M d r X) : Calls Tryz.prog 24 #[.pointer (some ⟨db, 0, none⟩)] W fun e w' => e = .returned (.int .i64 d.ops) ∧ w' = W := mk_ops hs.bp.dsk
theorem PlSt.loose (hs : PlSt w W pb l b db rd vs Lr ob ow m g ds h M d r X) : Calls Tryz.prog 25 #[.pointer (some ⟨db, 0, none⟩)] W fun e w' => e = .returned (.int .i64 d.loose.length) ∧ w' = W := mk_loose hs.bp.dsk
theorem PlSt.on (hs : PlSt w W pb l b db rd vs Lr ob ow m g ds h M d r X) : Calls Tryz.prog 26 #[.pointer (some ⟨db, 0, none⟩)] W fun e w' => e = .returned (.bool (!d.off)) ∧ w' = W := by
 obtain ⟨⟨F, h1, -⟩, -⟩ := hs.bp.dsk
 exact on_any h1
theorem PlSt.five (hs : PlSt w W pb l b db rd vs Lr ob ow m g ds h M d r X) : (∃ ga cap, W.cell? ⟨rd, 16, none⟩ = some (.slice ga r.loose.length cap)) ∧ W.cell? ⟨rd, 18, none⟩ = some (.int .i64 r.ops) ∧ W.cell? ⟨rd, 20, none⟩ = some (.bool r.off) := by
 obtain ⟨Y, -, hrx, -⟩ := hs.bp.right
 exact hrx.five
theorem PlSt.drewN (hs : PlSt w W pb l b db rd vs Lr ob ow m g ds h M d r X) (n : Nat) : PlSt w (W.drewN n) pb l b db rd vs Lr ob ow m g ds h M d r X := hs.below (below_drewN (Below.refl _ W) n)
end
end Go.Proofs.YtfkcmgbpgefnnaaGreat
/- The law BackupPlays: its script, what is too heavy, what stands at the start. -/
namespace Go.Proofs.YtfkcmgbpgefnnaaGreat
open Go.RowKit Go.Maps
set_option maxRecDepth 20000
structure PActOk (w : World) (x : AOp) : Prop where
 n : in64 x.n
 pages : in64 x.pages
 keep : KeepAt w (.slice x.ka x.keep.length x.kcap) x.keep
 blk : ∀ g, keepBlk (.slice x.ka x.keep.length x.kcap) x.keep = some g → g < w.heap.size
 len : x.keep.length ≤ 9223372036854775807
structure PActsIn (w : World) (v : Value) (l : List AOp) : Prop where
 at' : ActsAt w w.heap.size v l
 len : l.length ≤ 9223372036854775807
 each : ∀ x ∈ l, PActOk w x
def PHeavyGave (w : World) (l : List AOp) (e : Ending) (w' : World) : Prop := ∃ r : Bool, e = .returned (.bool r) ∧ (r = false → l.length ≤ 100 ∧ ∀ x ∈ l, x.keep.length ≤ 4096) ∧ Below w.heap.size w w'
set_option maxHeartbeats 2000000 in
set_option maxRecDepth 20000 in
theorem pheavy_any {B : Nat} (w : World) (v : Value) (l : List AOp) (h : ActsAt w B v l) (hl : l.length ≤ 9223372036854775807) : Calls Tryz.prog 5 #[v] w (PHeavyGave w l) := by
 obtain ⟨ao, cap, rfl, hc⟩ := h
 obtain ⟨n, hn⟩ : ∃ n, n = l.length := ⟨_, rfl⟩
 rw [← hn]
 have HC := hid hc
 have Hn := hid hn
 have Hl := hid hl
 have HB := hid (Below.refl w.heap.size w)
 clear hc hn hl
 go_enter Tryz.func5, Tryz.ntmps5
 go_wp2_with fail
 go_loopw [7] (fun v7 wr => ∃ (i : Nat), i ≤ n ∧ v7 = .int .i64 (i : Int) ∧ Below w.heap.size w wr ∧ ∀ x ∈ l.take i, x.keep.length ≤ 4096) (fun v7 _ => n - (intOf v7).toNat)
 case atStart => exact ⟨0, Nat.zero_le _, rfl, HB.out, fun x hx => by simp at hx⟩
 case round =>
  obtain ⟨i, hi, rfl, hbw, hsm⟩ := hrel
  have HBw := hid hbw
  have HSm := hid hsm
  by_cases hlt : i < n
  ·have hil : i < l.length := by have := Hn.out; omega
   obtain ⟨q, o, rfl, -, hq, hcell⟩ := HC.out i hil
   have HTK := hid (List.take_succ_eq_append_getElem hil)
   obtain ⟨y, hy⟩ : ∃ y, y = l[i] := ⟨_, rfl⟩
   rw [← hy] at hcell HTK
   have cc := fun j u hj => (hbw.cell (p := ⟨q, o + i * 5 + j, none⟩) hq).trans (hcell j u hj)
   have c0 := cc 0 _ rfl
   have c1 := cc 1 _ rfl
   have c2 := cc 2 _ rfl
   have c3 := cc 3 _ rfl
   have c4 := cc 4 _ rfl
   rw [Nat.add_zero] at c0
   have hi3 : (i : Int) < 9223372036854775807 := by have := Hl.out; omega
   have hw : IntKind.i64.wrap ((i : Int) + 1) = (i : Int) + 1 := IntWalk.i64_in _ (by omega)
   clear hy hcell cc hbw hsm
   obtain ⟨kl, hkl⟩ : ∃ kl : Int, ((y.keep.length : Nat) : Int) = kl := ⟨_, rfl⟩
   have Hkl := hid hkl
   by_cases t3 : 4096 < kl
   ·have b3 : decide (4096 < kl) = true := by simpa using t3
    clear t3
    go_wp2_with fail
    go_ret
    exact ⟨true, rfl, (fun e => by cases e), HBw.out.alloc HBw.out.size _⟩
   ·have b3 : decide (4096 < kl) = false := by simpa using t3
    have HT3 := hid t3
    clear t3
    go_wp2_with fail
    go_roundw
    case rel =>
     refine ⟨i + 1, by omega, by simp, HBw.out.alloc HBw.out.size _, fun x hx => ?_⟩
     rw [HTK.out] at hx
     rcases List.mem_append.1 hx with e | e
     ·exact HSm.out x e
     ·rw [List.mem_singleton.1 e]
      have := HT3.out
      have := Hkl.out
      omega
    case measure => (simp [intOf]) <;> omega
  ·obtain rfl : n = i := by omega
   have HAll := hid (fun x (hx : x ∈ l) => HSm.out x (by rw [Hn.out, List.take_length]; exact hx))
   clear hsm hbw
   by_cases h1 : 100 < n
   ·have b1 : decide (100 < n) = true := by simpa using h1
    go_wp2_with fail
    go_ret
    exact ⟨_, rfl, (fun e => by simp at e; omega), HBw.out⟩
   ·have b1 : decide (100 < n) = false := by simpa using h1
    have Hb1 := hid h1
    go_wp2_with fail
    go_ret
    exact ⟨_, rfl, (fun _ => ⟨by have := Hn.out; have := Hb1.out; omega, HAll.out⟩), HBw.out⟩
section
variable {w W W' : World} {pb l b db rd : Nat} {g : Lg} {ds : Dsk} {h : Hdr} {M : List (List UInt8)}
theorem pl_new (hp : PgAtX w W ⟨pb, l, b, p0, g, ds⟩ (fun _ => False)) (hd : MkD W W' db newM) (W0 : World) (h0 : W0 = W') : Calls Tryz.prog 9 #[] W0 fun e w' => ∃ rd, e = .returned (.pointer (some ⟨rd, 0, none⟩)) ∧ BPs w w' ⟨pb, l, b, p0, g, ds⟩ db newM rd newM (fun _ => False) := by
 subst h0
 have hpd := PgX.pd hp hd
 refine (Rf.rnew_any W0).mono ?_
 rintro e w' ⟨rd, G, rfl, h1, h2, h3, h4⟩
 refine ⟨rd, rfl, ⟨fun k => G.own k ∨ G.sh k, ?_, ⟨G, h1, fun k hk => hk⟩, fun k hk => ⟨fun e => e, Nat.le_trans hpd.bel.size (hk.elim (h3 k) (h4 k))⟩⟩⟩
 obtain ⟨nv, sv, lv, av, hm⟩ := id h1
 exact hpd.add h2 (fun k hk => hk.elim (fun e => e.elim) (fun e => .inr (e.elim (h3 k) (h4 k)))) (fun k hk => hk.elim (fun e => e.elim) (fun e => e.elim (hm.olt k) (hm.slt k)))
theorem pl_init (hb : BPs w W ⟨pb, l, b, p0, g, ds⟩ db newM rd newM (fun _ => False)) (hD : Db g ds (hdrPg h :: M)) (hh : HdOk h) (hc : h.commits = 1) (hss : ds.Small (100 + 8519680 * (0 + 1))) : PlSt w W pb l b db rd (.slice none 0 0) [] none none 0 g ds h M newM newM (fun _ => False) :=
 ⟨hb, hD, hh, by omega, World.ownsRow_nil _ _ _ _, (fun k hk => by cases hk), (fun bb B e => by cases e), (fun bb B e => by cases e), nolog_new, nolog_new, hss, new_small.mono (by decide), new_small.mono (by decide)⟩
theorem pl_new_steps : (bseqM bstepsM newM).1 = 0 := by decide +kernel
theorem pl_new_closed : openedM newM = none := by decide +kernel
end
end Go.Proofs.YtfkcmgbpgefnnaaGreat
/- BackupPlays: its script in memory, opened out of its readings. -/
namespace Go.Proofs.YtfkcmgbpgefnnaaGreat
open Go.ChangeShapes Go.WideShapes Go.ChangeAt Go.RowKit Go.Deep
set_option maxRecDepth 20000
set_option maxRecDepth 20000
section
variable {H : Type} {enc : TypeId × Value → H} {w : World} {base : Nat} {sp : Nat → Bool} {held : Bool}
theorem open_bools_cell {fuel : Nat} {cs : List Value} {x : DataW H × List MemPlace} (h : DataW.trod enc Tryz.prog w base sp held fuel 44 cs = some x) :
  ∃ (ka : Option Addr) (kcap : Nat) (ks : List Bool), cs = [.slice ka ks.length kcap] ∧ KeepAt w (.slice ka ks.length kcap) ks ∧ (∀ g, keepBlk (.slice ka ks.length kcap) ks = some g → g < w.heap.size) ∧ ks.length ≤ 9223372036854775807 := by
 rcases open_slice1 Tryz.underlying44 (by kernel_rfl) h with ⟨rfl, _⟩ | ⟨a, len, cap, m, n, V, D, Pl, rfl, hb, hle, hcap, hm, _, hx⟩
 ·exact ⟨none, 0, [], rfl, ⟨none, 0, rfl, .inl rfl⟩, (fun g hg => by cases hg), by simp⟩
 have hlm : len ≤ m := by rw [hm]; split <;> omega
 obtain ⟨B, hB⟩ := choose_lt (α := Bool) (p := fun i b => w.cell? (a.add i) = some (.bool b)) (n := len) (fun i hi => by
  obtain ⟨h1, h2⟩ := hx i (by omega)
  obtain ⟨b, e, _⟩ := DataW.trod_bool Tryz.underlying4 h2
  simp at e
  exact ⟨b, by rw [h1, e]⟩)
 have hm' : maxLen = 9223372036854775807 := rfl
 have hlen : ((List.range len).map B).length = len := by simp
 refine ⟨some a, cap, (List.range len).map B, by rw [hlen], ?_, ?_, by rw [hlen]; omega⟩
 ·refine ⟨some a, cap, rfl, ?_⟩
  by_cases h0 : len = 0
  ·subst h0
   exact .inl rfl
  ·obtain ⟨b, off, spot⟩ := a
   have hspot : spot = none := by simpa [Addr.add] using World.cell?_spot (hB 0 (by omega))
   subst hspot
   refine .inr ⟨b, off, rfl, fun i v hi => ?_⟩
   have hi' : i < len := by
    have := (List.getElem?_eq_some_iff.1 hi).1
    simpa using this
   have e := hB i hi'
   simp only [Addr.add_lit] at e
   rw [e]
   simp [List.getElem?_map, hi'] at hi
   rw [hi]
 ·intro g hg
  by_cases h0 : len = 0
  ·subst h0
   cases hg
  ·have h1 := lt_of_cell (hB 0 (by omega))
   unfold keepBlk at hg
   split at hg
   ·cases hg
   ·cases hg
    simpa [Addr.add] using h1
theorem open_actk_cells {fuel : Nat} {cs : List Value} {x : DataW H × List MemPlace} (h : DataW.trod enc Tryz.prog w base sp held fuel 46 cs = some x) :
  ∃ y : AOp, cs = aopCells y ∧ PActOk w y := by
 obtain ⟨hl, n, hf⟩ := open_cells_struct Tryz.underlying46 (by kernel_rfl) (by kernel_rfl) h
 obtain ⟨a0, a1, a2, a3, a4, rfl⟩ : ∃ a0 a1 a2 a3 a4, cs = [a0, a1, a2, a3, a4] := by
  match cs, hl with
  | [a0, a1, a2, a3, a4], _ => exact ⟨a0, a1, a2, a3, a4, rfl⟩
 obtain ⟨y0, h0⟩ := hf 0 _ rfl
 obtain ⟨y1, h1⟩ := hf 1 _ rfl
 obtain ⟨y2, h2⟩ := hf 2 _ rfl
 obtain ⟨y3, h3⟩ := hf 3 _ rfl
 obtain ⟨y4, h4⟩ := hf 4 _ rfl
 obtain ⟨k0, e0, _, w0⟩ := DataW.trod_int Tryz.underlying3 h0
 obtain ⟨k1, e1, _, w1⟩ := DataW.trod_int Tryz.underlying3 h1
 obtain ⟨k2, e2, _, w2⟩ := DataW.trod_int Tryz.underlying3 h2
 obtain ⟨k3, e3, _, w3⟩ := DataW.trod_int Tryz.underlying5 h3
 obtain ⟨ka, kcap, ks, e4, g1, g2, g3⟩ := open_bools_cell h4
 obtain ⟨c, rfl⟩ := u8_of w3
 simp at e0 e1 e2 e3 e4
 subst e0 e1 e2 e3 e4
 exact ⟨⟨k0, k1, k2, c, ks, ka, kcap⟩, rfl, ⟨i64_wf w1, i64_wf w2, g1, g2, g3⟩⟩
theorem open_actsk_cell {fuel : Nat} {cs : List Value} {x : DataW H × List MemPlace} (h : DataW.trod enc Tryz.prog w base sp held fuel 22 cs = some x) :
  ∃ (v : Value) (l : List AOp), cs = [v] ∧ PActsIn w v l := by
 rcases open_slice Tryz.underlying22 h with ⟨rfl, _⟩ | ⟨a, len, cap, m, n, D, Pl, rfl, hb, hle, hcap, hm, _, hx⟩
 ·exact ⟨_, [], rfl, ⟨⟨none, 0, rfl, (fun k hk => by simp at hk)⟩, by simp, (fun x hx => by cases hx)⟩⟩
 have hlm : len ≤ m := by rw [hm]; split <;> omega
 have hcells : Tryz.prog.cellsOf 46 = 5 := by kernel_rfl
 rw [hcells] at hx
 obtain ⟨V, hV⟩ := choose_lt (α := AOp) (p := fun i y => PActOk w y ∧ ∀ j u, (aopCells y)[j]? = some u → w.cell? (a.add (i * 5 + j)) = some u) (n := len) (fun i hi => by
  obtain ⟨cs', h1, h2⟩ := hx i (by omega)
  obtain ⟨y, rfl, hy⟩ := open_actk_cells h2
  refine ⟨y, hy, fun j u hj => ?_⟩
  obtain ⟨_, _, hc⟩ := World.cells?_some h1
  have hj7 : j < 5 := by
   have := (List.getElem?_eq_some_iff.1 hj).1
   simpa [aopCells] using this
  have c0 := hc j hj7
  rw [add_add] at c0
  rw [c0]
  simpa using hj)
 have hm' : maxLen = 9223372036854775807 := rfl
 have hlen : ((List.range len).map V).length = len := by simp
 have hall : ∀ y ∈ (List.range len).map V, PActOk w y := fun y hy => by
  obtain ⟨i, hi, rfl⟩ := List.mem_map.1 hy
  exact (hV i (by simpa using hi)).1
 refine ⟨_, (List.range len).map V, rfl, ⟨⟨some a, cap, by rw [hlen], fun k hk => ?_⟩, by rw [hlen]; omega, hall⟩⟩
 rw [hlen] at hk
 obtain ⟨b, off, spot⟩ := a
 have c0 := (hV 0 (by omega)).2 0 _ rfl
 have hspot : spot = none := by simpa [Addr.add] using World.cell?_spot c0
 subst hspot
 have hlt : b < w.heap.size := by simpa [Addr.add] using lt_of_cell c0
 refine ⟨b, off, rfl, hlt, hlt, fun j u hj => ?_⟩
 simp at hj
 have e := (hV k hk).2 j u hj
 simp only [Addr.add_lit] at e
 rw [← e]
 congr 2
 omega
theorem open_actsk {b0 : Nat} {v : Value} (hval : Value.okWide Tryz.prog w .any b0 22 v) (h : ∃ d p, DataW.Trod enc Tryz.prog w base sp held 22 v d p) : ∃ (z : Value × List AOp), v = z.1 ∧ PActsIn w z.1 z.2 := by
 obtain ⟨d, p, fuel, hf⟩ := h
 obtain ⟨ao, n, cap, rfl⟩ := okWide_slice Tryz.underlying22 hval
 obtain ⟨v, l, e, hl⟩ := open_actsk_cell hf
 simp [Value.cells] at e
 subst e
 exact ⟨(_, l), rfl, hl⟩
end
end Go.Proofs.YtfkcmgbpgefnnaaGreat
