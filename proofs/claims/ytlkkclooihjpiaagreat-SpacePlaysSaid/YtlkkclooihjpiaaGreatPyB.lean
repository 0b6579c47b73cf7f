/- SpacePlays, the plain part: the document's world, and how a pager answers beside it. -/
import Derived.Test.YtlkkclooihjpiaaGreatSqH
import Derived.Test.YtlkkclooihjpiaaGreatPzA
set_option linter.unusedVariables false
set_option linter.unusedSimpArgs false
namespace Go.Proofs.YtlkkclooihjpiaaGreat
open Go.RowKit Go.Maps
set_option maxRecDepth 20000
def RSt.hdr (s : RSt) : Hdr := ⟨((s.free.getLast?.getD 0 : Nat) : Int), (s.free.length : Int), s.commits, s.roots⟩
structure SRel (h : Hdr) (M : List (List UInt8)) (F : List Nat) (s : RSt) : Prop where
 pages : s.pages = (M.length : Int) + 1
 free : s.free = F.reverse
 commits : s.commits = h.commits
 roots : s.roots = h.roots
 spc : Spc h M F
def TxS (g : Lg) (d : Dsk) (t : Tr) (s : RSt) : Prop := ∃ h M F, Tx ⟨some t, [], 0⟩ g d t (hdrPg h :: M) ∧ SRel h M F s
def CmS (g : Lg) (d : Dsk) (s : RSt) : Prop := ∃ L h M F, Sure g d L ∧ ((L = [] ∧ h = hdr0 ∧ M = [] ∧ F = [] ∧ s = rst0) ∨ (L = hdrPg h :: M ∧ SRel h M F s))
structure PwInv (p : Pg) (g : Lg) (d : Dsk) (m : RWd) : Prop where
 opn : p.opn = 0
 cm : CmS g d m.sure
 on : m.inn = true → ∃ t, p.now = some t ∧ TxS g d t m.now
 off : m.inn = false → p.now = none ∧ m.saves = []
 many : p.saves.length = m.saves.length
 saves : m.inn = true → ∀ (i : Nat) (t : Tr) (s : RSt), p.saves[i]? = some t → m.saves[i]? = some s → TxS g d t s
theorem pw_new : PwInv p0 exG0 newM rwd0 := ⟨rfl, ⟨[], hdr0, [], [], sure_new, .inl ⟨rfl, rfl, rfl, rfl, rfl⟩⟩, (fun h => by cases h), (fun _ => ⟨rfl, rfl⟩), rfl, (fun h => by cases h)⟩
section
variable {w W W' : World} {pb l b N : Nat} {p p' : Pg} {g g' : Lg} {d d' : Dsk} {X X' : Nat → Prop} {m : RWd} {s : RSt} {t : Tr} {h : Hdr} {M L : List (List UInt8)} {F : List Nat}
theorem tx_other {p q : Pg} (h : Tx p g d t L) (hn : q.now = some t) (ho : q.opn = 0) : Tx q g d t L := ⟨hn, ho, h.ok, h.pages, h.page⟩
theorem SRel.hdr {H : Hdr} (h : SRel H M F s) : s.hdr = H := by
 obtain ⟨hf, hc, hk, hr⟩ := H
 have e1 := h.spc.free
 have e2 := h.spc.count
 have e3 := h.commits
 have e4 := h.roots
 dsimp only at e1 e2 e3 e4
 unfold RSt.hdr
 rw [h.free, List.getLast?_reverse, List.length_reverse, e1, e2, e3, e4]
 cases F <;> rfl
theorem pw_read (hi : PwInv p g d m) : readHM p g d = (m.st.hdr, 0) ∧ ppagesM p g = m.st.pages ∧ (m.inn = false → (readySM p g d).2 = 9) := by
 unfold RWd.st
 cases hin : m.inn with
 | true =>
  obtain ⟨t, hn, h, M, F, hT, hR⟩ := hi.on hin
  have hT' := tx_other hT hn hi.opn
  rw [if_pos rfl, hR.hdr]
  refine ⟨(tx_ready hT' hR.spc.hd).1, ?_, fun e => by cases e⟩
  rw [tx_pages hT', hR.pages]
  simp
 | false =>
  obtain ⟨hn, -⟩ := hi.off hin
  rw [if_neg (by simp)]
  have hq : ∀ hd, readHM p g d = (hd, 0) → (readySM p g d).2 = 9 := fun hd e => by
   unfold readySM
   rw [e, if_neg (by simp), if_pos (.inr hn)]
  obtain ⟨L, h, M, F, hS, ⟨rfl, rfl, rfl, rfl, e⟩ | ⟨rfl, hR⟩⟩ := hi.cm
  ·have hP : ppagesM p g = 0 := by
    have := db_pages hS.db hn
    simpa using this
   rw [e]
   have hr : readHM p g d = (rst0.hdr, 0) := by
    unfold readHM
    rw [if_pos hP]
    rfl
   exact ⟨hr, hP, fun _ => hq _ hr⟩
  ·have hr := db_head hS.db hn hR.spc.hd
   rw [hR.hdr]
   refine ⟨hr, ?_, fun _ => hq _ hr⟩
   rw [db_pages hS.db hn, hR.pages]
   simp
theorem pw_on (hi : PwInv p g d m) (hin : m.inn = true) {t' : Tr} {s' : RSt} (ht : TxS g d t' s') : PwInv { p with now := some t' } g d ⟨m.sure, true, s', m.saves⟩ :=
 ⟨hi.opn, hi.cm, fun _ => ⟨t', rfl, ht⟩, (fun e => by cases e), hi.many, fun _ => hi.saves hin⟩
theorem txs_of {p : Pg} (hT : Tx p g d t (hdrPg h :: M)) (hR : SRel h M F s) : TxS g d t s := ⟨h, M, F, tx_other hT rfl rfl, hR⟩
theorem err_ready (hi : PwInv p g d m) (hin : m.inn = false) : (readySM p g d).2 = 9 := (pw_read hi).2.2 hin
theorem pw_begin (hi : PwInv p g d m) : (spBeginM p g d).1 = (rbeginM m).1 ∧ PwInv (spBeginM p g d).2 g d (rbeginM m).2 := by
 unfold rbeginM
 cases hin : m.inn with
 | true =>
  obtain ⟨t, hn, -⟩ := hi.on hin
  have e : spBeginM p g d = (9, p) := by
   have e1 : beginM p g = (9, p) := by unfold beginM; rw [hn]
   unfold spBeginM
   rw [e1, if_pos (by simp)]
  rw [e, if_pos rfl]
  exact ⟨rfl, hi⟩
 | false =>
  obtain ⟨hn, hs⟩ := hi.off hin
  rw [if_neg (by simp)]
  obtain ⟨L, h, M, F, hS, hor⟩ := hi.cm
  have hL : (L = [] ∧ h = hdr0 ∧ M = [] ∧ F = []) ∨ (L = hdrPg h :: M ∧ Spc h M F) := hor.imp (fun e => ⟨e.1, e.2.1, e.2.2.1, e.2.2.2.1⟩) (fun e => ⟨e.1, e.2.spc⟩)
  obtain ⟨t', a1, a2, a3⟩ := spc_begin hS hL hn hi.opn
  rw [a1]
  refine ⟨rfl, hi.opn, hi.cm, fun _ => ⟨t', rfl, txs_of a2 (F := F) ?_⟩, (fun e => by cases e), ?_, fun _ i t s h1 h2 => ?_⟩
  ·rcases hor with ⟨rfl, rfl, rfl, rfl, e⟩ | ⟨rfl, hR⟩
   ·rw [e]
    exact ⟨rfl, rfl, rfl, rfl, a3⟩
   ·have := hR.pages
    refine ⟨?_, hR.free, hR.commits, hR.roots, hR.spc⟩
    show (if m.sure.pages = 0 then 1 else m.sure.pages) = _
    rw [if_neg (by omega)]
    exact this
  ·show p.saves.length = m.saves.length
   exact hi.many
  ·rw [show m.saves = [] from hs] at h2
   simp at h2
theorem pw_roll (hi : PwInv p g d m) : (prollM p).1 = (rrollM m).1 ∧ PwInv (prollM p).2 g d (rrollM m).2 := by
 unfold prollM rrollM
 cases hin : m.inn with
 | true =>
  obtain ⟨t, hn, -⟩ := hi.on hin
  rw [hn, if_neg (by simp)]
  exact ⟨rfl, hi.opn, hi.cm, (fun e => by cases e), fun _ => ⟨rfl, rfl⟩, rfl, (fun e => by cases e)⟩
 | false =>
  rw [(hi.off hin).1, if_pos rfl]
  exact ⟨rfl, hi⟩
theorem pw_save (hi : PwInv p g d m) (hm : m.saves.length < 60) : (psaveM p).1 = (rsaveM m).1 ∧ (psaveM p).2.1 = (rsaveM m).2.1 ∧ PwInv (psaveM p).2.2 g d (rsaveM m).2.2 := by
 unfold psaveM rsaveM
 cases hin : m.inn with
 | true =>
  obtain ⟨t, hn, ht⟩ := hi.on hin
  have hl := hi.many
  rw [hn, if_neg (by simp)]
  dsimp only
  rw [if_neg (by omega), hl]
  refine ⟨rfl, rfl, hi.opn, hi.cm, fun _ => ⟨t, rfl, ht⟩, (fun e => by cases e), by simp [hl], fun _ i t2 s2 h1 h2 => ?_⟩
  by_cases hlt : i < p.saves.length
  ·rw [List.getElem?_append_left hlt] at h1
   rw [List.getElem?_append_left (by omega)] at h2
   exact hi.saves hin i t2 s2 h1 h2
  ·rw [List.getElem?_append_right (by omega)] at h1
   rw [List.getElem?_append_right (by omega), ← hl] at h2
   by_cases h0 : i - p.saves.length = 0
   ·rw [h0] at h1 h2
    simp at h1 h2
    rw [← h1, ← h2]
    exact ht
   ·rw [List.getElem?_eq_none (by simp; omega)] at h1
    cases h1
 | false =>
  rw [(hi.off hin).1, if_pos rfl]
  exact ⟨rfl, rfl, hi⟩
theorem pw_back (hi : PwInv p g d m) (k : Int) : (pbackM p k).1 = (rbackM m k).1 ∧ PwInv (pbackM p k).2 g d (rbackM m k).2 := by
 unfold pbackM rbackM
 cases hin : m.inn with
 | true =>
  obtain ⟨t, hn, ht⟩ := hi.on hin
  have hl := hi.many
  rw [hn, if_neg (show ¬ (true = false) by simp)]
  dsimp only
  rw [hl]
  by_cases hk : k < 1 ∨ (m.saves.length : Int) < k
  ·rw [if_pos hk, if_pos hk]
   exact ⟨rfl, hi⟩
  ·rw [if_neg hk, if_neg hk]
   have hk1 : k.toNat - 1 < p.saves.length := by omega
   refine ⟨rfl, hi.opn, hi.cm, fun _ => ⟨p.saves[k.toNat - 1], by show p.saves[k.toNat - 1]? = _; rw [List.getElem?_eq_getElem hk1], ?_⟩, (fun e => by cases e), by simp [hl], fun _ i t2 s2 h1 h2 => ?_⟩
   ·refine hi.saves hin (k.toNat - 1) _ _ (List.getElem?_eq_getElem hk1) ?_
    show _ = some (m.saves.getD (k.toNat - 1) rst0)
    rw [List.getD_eq_getElem?_getD, List.getElem?_eq_getElem (by omega)]
    rfl
   ·have hi2 : i < k.toNat := by
     have := (List.getElem?_eq_some_iff.1 h2).1
     simp at this
     omega
    rw [List.getElem?_take_of_lt hi2] at h1 h2
    exact hi.saves hin i t2 s2 h1 h2
 | false =>
  rw [(hi.off hin).1, if_pos rfl]
  exact ⟨rfl, hi⟩
theorem pw_commit (hi : PwInv p g d m) (hg : g.Ok) : (spCommitM p g d).1 = (rcommitM m).1 ∧ PwInv (spCommitM p g d).2.1 (spCommitM p g d).2.2.1 (spCommitM p g d).2.2.2 (rcommitM m).2 := by
 unfold rcommitM
 cases hin : m.inn with
 | true =>
  obtain ⟨t, hn, h, M, F, hT, hR⟩ := hi.on hin
  obtain ⟨L, -, -, -, hS, -⟩ := hi.cm
  obtain ⟨g', d', a1, a2⟩ := sure_commit (tx_other hT hn hi.opn) hR.spc.hd hS hg hR.spc.len
  have hb : SRel (bumped h) M F (bumpSt m.now) := ⟨hR.pages, hR.free, by show IntKind.u64.wrap (m.now.commits + 1) = IntKind.u64.wrap (h.commits + 1); rw [hR.commits], hR.roots, spc_bumped hR.spc⟩
  rw [a1, if_neg (by simp)]
  exact ⟨rfl, hi.opn, ⟨_, bumped h, M, F, a2, .inr ⟨rfl, hb⟩⟩, (fun e => by cases e), fun _ => ⟨rfl, rfl⟩, rfl, (fun e => by cases e)⟩
 | false =>
  have e : spCommitM p g d = (9, p, g, d) := by
   have := err_ready hi hin
   unfold spCommitM
   rw [this, if_pos (by simp)]
  rw [e, if_pos rfl]
  exact ⟨rfl, hi⟩
theorem pw_root (hi : PwInv p g d m) (i n : Int) : (rootM p g d i n).1 = (rrootM m i n).1 ∧ PwInv (rootM p g d i n).2 g d (rrootM m i n).2 := by
 unfold rrootM
 cases hin : m.inn with
 | true =>
  obtain ⟨t, hn, h, M, F, hT, hR⟩ := hi.on hin
  have hT' := tx_other hT hn hi.opn
  have hP := hR.pages
  have hfw := hR.spc.few
  rw [if_neg (by simp)]
  unfold rootM
  rw [(tx_ready hT' hR.spc.hd).2, if_neg (by simp), tx_pages hT']
  have e : ((hdrPg h :: M).length : Int) = m.now.pages := by rw [hP]; simp
  rw [e]
  by_cases hc : i < 0 ∨ 8 ≤ i ∨ n < 0 ∨ m.now.pages < n
  ·rw [if_pos hc, if_pos hc]
   exact ⟨rfl, hi⟩
  ·rw [if_neg hc, if_neg hc]
   have hn0 : pageB n = true := pageB_nat (by omega) (by omega)
   have hok : HdOk (rootH h i n) := by
    have hm := hR.spc.hd.may
    have hw := hR.spc.hd.wf
    refine ⟨?_, ⟨hw.free, hw.count, hw.commits, by show (h.roots.set i.toNat n).length = 8; rw [List.length_set]; exact hw.len, fun x hx => ?_⟩⟩
    ·unfold hdrMayB at hm ⊢
     simp only [Bool.and_eq_true] at hm ⊢
     refine ⟨List.all_eq_true.2 fun x hx => ?_, hm.2⟩
     rcases List.mem_or_eq_of_mem_set hx with e | e
     ·exact List.all_eq_true.1 hm.1 x e
     ·rw [e]; exact hn0
    ·rcases List.mem_or_eq_of_mem_set hx with e | e
     ·exact hw.roots x e
     ·rw [e]; unfold in64; omega
   obtain ⟨t', w1, w2, -⟩ := sp_writeH hT' hok
   dsimp only
   rw [w1]
   refine ⟨rfl, pw_on hi hin (txs_of w2 (F := F) ⟨hP, hR.free, hR.commits, ?_, ⟨hok, hR.spc.len, hR.spc.few, hR.spc.free, hR.spc.count, hR.spc.chain, hR.spc.nodup, hR.spc.range⟩⟩)⟩
   show m.now.roots.set i.toNat n = h.roots.set i.toNat n
   rw [hR.roots]
 | false =>
  have e : rootM p g d i n = (9, p) := by
   have := err_ready hi hin
   unfold rootM
   rw [this, if_pos (by simp)]
  rw [e, if_pos rfl]
  exact ⟨rfl, hi⟩
theorem pw_free (hi : PwInv p g d m) (n : Int) (hF : ¬ (∃ k ∈ m.st.free, (k : Int) = n)) : (freeM p g d n).1 = (rfreeM m n).1 ∧ PwInv (freeM p g d n).2 g d (rfreeM m n).2 := by
 unfold rfreeM
 cases hin : m.inn with
 | true =>
  obtain ⟨t, hn, h, M, F, hT, hR⟩ := hi.on hin
  have hT' := tx_other hT hn hi.opn
  have hP := hR.pages
  rw [if_neg (by simp)]
  by_cases hc : n < 2 ∨ m.now.pages < n
  ·rw [if_pos hc]
   have e : freeM p g d n = (5, p) := by
    unfold freeM
    rw [(tx_ready hT' hR.spc.hd).2, if_neg (by simp), tx_pages hT']
    have e : ((hdrPg h :: M).length : Int) = m.now.pages := by rw [hP]; simp
    rw [e, if_pos hc]
   rw [e]
   exact ⟨rfl, hi⟩
  ·rw [if_neg hc]
   obtain ⟨k, rfl⟩ : ∃ k : Nat, n = (k : Int) := ⟨n.toNat, by omega⟩
   have hst : m.st = m.now := by unfold RWd.st; rw [hin]; rfl
   have hk : k ∉ F := fun e => hF ⟨k, by rw [hst, hR.free]; simpa using e, rfl⟩
   obtain ⟨t', a1, a2, a3⟩ := spc_give hT' hR.spc (n := k) (by omega) (by omega) hk
   rw [a1]
   refine ⟨rfl, pw_on hi hin (txs_of a2 ⟨?_, ?_, hR.commits, hR.roots, a3⟩)⟩
   ·show m.now.pages = _
    rw [List.length_set]
    exact hP
   ·show m.now.free ++ [(k : Int).toNat] = _
    rw [hR.free, Int.toNat_natCast, List.reverse_cons]
 | false =>
  have e : freeM p g d n = (9, p) := by
   have := err_ready hi hin
   unfold freeM
   rw [this, if_pos (by simp)]
  rw [e, if_pos rfl]
  exact ⟨rfl, hi⟩
theorem pw_crash (hi : PwInv p g d m) : ∃ g', lopenM (crashM d []) = (some g', 0) ∧ PwInv p0 g' (crashM d []) (rrollM m).2 := by
 obtain ⟨L, h, M, F, hS, hL⟩ := hi.cm
 obtain ⟨g', c1, c2⟩ := sure_crash hS
 have hcm : CmS g' (crashM d []) m.sure := ⟨L, h, M, F, c2, hL⟩
 refine ⟨g', c1, ?_⟩
 unfold rrollM
 cases hin : m.inn with
 | true =>
  rw [if_neg (by simp)]
  exact ⟨rfl, hcm, (fun e => by cases e), fun _ => ⟨rfl, rfl⟩, rfl, (fun e => by cases e)⟩
 | false =>
  rw [if_pos rfl]
  refine ⟨rfl, hcm, (fun e => by rw [hin] at e; cases e), fun _ => ⟨rfl, (hi.off hin).2⟩, ?_, (fun e => by rw [hin] at e; cases e)⟩
  rw [(hi.off hin).2]
  rfl
end
end Go.Proofs.YtlkkclooihjpiaaGreat
/- SpacePlays: the pager's side of each call. -/
namespace Go.Proofs.YtlkkclooihjpiaaGreat
open Go.RowKit Go.Maps
set_option maxRecDepth 20000
section
variable {w W W' : World} {pb l b N : Nat} {p p' : Pg} {g g' : Lg} {d d' : Dsk} {X X' : Nat → Prop} {m : RWd}
set_option maxHeartbeats 8000000 in
set_option maxRecDepth 20000 in
theorem alloc_err (h : PgX w W pb l b p g d X) (he : (readySM p g d).2 ≠ 0) : Calls Tryz.prog 12 #[.pointer (some ⟨pb, 0, none⟩)] W fun e w' => e = .returned (.tuple #[.int .i64 0, .int .i64 (readySM p g d).2]) ∧ PgX w w' pb l b p g d X ∧ ∀ k, X k → w'.heap[k]? = W.heap[k]? := by
 have SR := sready_any h
 have hwf := (readySM_wf p g d).len
 obtain ⟨Q, hQ⟩ : ∃ Q, Q = readySM p g d := ⟨_, rfl⟩
 rw [← hQ] at he hwf SR ⊢
 obtain ⟨H, E⟩ := Q
 obtain ⟨f, c, k, r0, r1, r2, r3, r4, r5, r6, r7, rfl⟩ := hdr_form hwf
 unfold hdrV hdrCells at SR
 simp only [List.map_cons, List.map_nil] at SR
 replace SR := hid SR
 dsimp only at he ⊢
 have HX := hid h
 have b1 : (E != 0) = true := by simp [he]
 clear hQ hwf h he
 go_enter Tryz.func12, Tryz.ntmps12
 go_wp2_with (first
  | (go_at_call 33; refine (SR.out).mono ?_; rintro e w1 ⟨rfl, hx, hk⟩; have HX1 := hid hx; have HK1 := hid hk; clear hx hk)
  | go_in)
 go_ret2
 have hf := px_fin HX1.out ((Below.refl w1.heap.size w1).alloc (Nat.le_refl _) (.cells #[.int .i64 f, .int .i64 c, .int .u64 k, .int .i64 r0, .int .i64 r1, .int .i64 r2, .int .i64 r3, .int .i64 r4, .int .i64 r5, .int .i64 r6, .int .i64 r7] 38))
 exact ⟨rfl, hf.1, fun k hk => (hf.2 k hk).trans (HK1.out k hk)⟩
theorem pw_alloc (hx : PgX w W pb l b p g d X) (hi : PwInv p g d m) : Calls Tryz.prog 12 #[.pointer (some ⟨pb, 0, none⟩)] W fun e w' => ∃ p', e = .returned (.tuple #[.int .i64 (rallocM m).1, .int .i64 (rallocM m).2.1]) ∧ PgX w w' pb l b p' g d X ∧ PwInv p' g d (rallocM m).2.2 ∧ ∀ k, X k → w'.heap[k]? = W.heap[k]? := by
 unfold rallocM
 cases hin : m.inn with
 | false =>
  have he := err_ready hi hin
  rw [if_pos rfl]
  have A := alloc_err hx (by rw [he]; decide)
  rw [he] at A
  exact A.mono fun e w' h => ⟨p, h.1, h.2.1, hi, h.2.2⟩
 | true =>
  obtain ⟨t, hn, h, M, F, hT, hR⟩ := hi.on hin
  have hT' := tx_other hT hn hi.opn
  have hP := hR.pages
  have hfw := hR.spc.few
  rw [if_neg (by simp)]
  cases F with
  | nil =>
   have hfr : m.now.free = [] := hR.free
   rw [if_neg (by rw [hfr]; simp)]
   have hz : (readySM p g d).1.free = 0 := by rw [(tx_ready hT' hR.spc.hd).2]; exact hR.spc.free
   have A := alloc0_any hx hz
   by_cases hbig : m.now.pages = 256
   ·rw [if_pos hbig]
    have e : alloc0M p g d = (0, 8, p) := by
     unfold alloc0M
     rw [(tx_ready hT' hR.spc.hd).2, if_neg (by simp), tx_pages hT', if_pos (by simp; omega)]
    rw [e] at A
    exact A.mono fun e w' h => ⟨p, h.1, h.2.1, hi, h.2.2⟩
   ·rw [if_neg hbig]
    obtain ⟨t', a1, a2, a3⟩ := spc_alloc0 hT' hR.spc (by omega)
    rw [a1] at A
    refine A.mono fun e w' h => ⟨_, ?_, h.2.1, pw_on hi hin (txs_of a2 (F := []) ⟨?_, hfr, hR.commits, hR.roots, a3⟩), h.2.2⟩
    ·rw [h.1, hP]
     have e2 : (M.length : Int) + 1 + 1 = (M.length : Int) + 2 := by omega
     rw [e2]
    ·show m.now.pages + 1 = _
     rw [hP]
     simp
  | cons x r =>
   have hfr : m.now.free = r.reverse ++ [x] := by rw [hR.free, List.reverse_cons]
   rw [if_pos (by rw [hfr]; simp)]
   obtain ⟨f1, f2, f3, f4, f5⟩ := spc_free hT' hR.spc
   obtain ⟨t', a1, a2, a3⟩ := spc_alloc1 hT' hR.spc
   have A := alloc1_any hx f1 f2 f3 ((r.headD 0 : Nat) : Int) (by omega) (by omega) f4
   rw [a1] at A
   refine A.mono fun e w' h => ⟨_, ?_, h.2.1, pw_on hi hin (txs_of a2 (F := r) ⟨hP, ?_, hR.commits, hR.roots, a3⟩), h.2.2⟩
   ·rw [h.1, hfr]
    simp
   ·show m.now.free.dropLast = _
    rw [hfr]
    simp
end
end Go.Proofs.YtlkkclooihjpiaaGreat
