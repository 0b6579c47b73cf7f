/- Plain laws of BackupWhole: what a crash of the destination shows. -/
import Derived.Test.YtenboibbbmeddaaGreatBwA
set_option linter.unusedVariables false
set_option linter.unusedSimpArgs false
namespace Go.Proofs.YtenboibbbmeddaaGreat
open Go.RowKit Go.Maps
set_option maxRecDepth 20000
structure NoLog (d : Dsk) : Prop where
 now : d.now 1 = []
 sure : d.sure 1 = []
 loose : ∀ c ∈ d.loose, c.file ≠ 1
structure Lid (d : Dsk) : Prop where
 log : NoLog d
 sure : 8 ≤ (d.sure 0).length
 now : 8 ≤ (d.now 0).length
 cut : ∀ c ∈ d.loose, c.file = 0 → c.cut = true → 8 ≤ c.at_
 lid : ∀ i, i < 8 → ∀ s, May d 0 i s → s = secOf lidL i
structure Opn (d : Dsk) (h : Hdr) (M : List (List UInt8)) : Prop where
 log : NoLog d
 sure : (d.sure 0).length = 8 * (M.length + 1)
 now : (d.now 0).length = 8 * (M.length + 1)
 loose : ∀ c ∈ d.loose, c.file = 0 → c.cut = false ∧ c.at_ < 8
 first : ∀ s, May d 0 0 s → s = secOf lidL 0 ∨ s = secOf (hdrPg h) 0
 rest : ∀ i, 1 ≤ i → i < 8 → ∀ s, May d 0 i s → s = nought
 pages : ∀ n, 1 ≤ n → n ≤ M.length → ∀ j, j < 8 → ∀ s, May d 0 (8 * n + j) s → s = secOf (M.getD (n - 1) []) j
theorem lid_sec : ∀ i, 1 ≤ i → i < 8 → secOf lidL i = nought := by
 have h : ∀ i : Fin 8, 1 ≤ i.val → secOf lidL i.val = nought := by decide +kernel
 exact fun i a b => h ⟨i, b⟩ a
theorem lid_whole : ((List.range 8).map (secOf lidL)).flatten = lidL := by decide +kernel
theorem lid_none : (takeH lidL).2 ≠ 0 := by decide +kernel
theorem hdr_sec {h : Hdr} (hw : h.Wf) {i : Nat} (h1 : 1 ≤ i) (h2 : i < 8) : secOf (hdrPg h) i = nought := by
 unfold secOf hdrPg
 have hl := hdrText_length h hw.len
 rw [List.drop_append, List.drop_eq_nil_of_le (by omega), List.nil_append, hl]
 unfold zeros
 rw [List.drop_replicate, List.take_replicate]
 unfold nought
 congr 1
 omega
theorem secs_whole {s : List UInt8} (h : s.length = 512) : ((List.range 8).map (secOf s)).flatten = s := by
 rw [flat_secs, List.take_of_length_le (by omega)]
section
variable {d d' : Dsk} {h : Hdr} {M : List (List UInt8)} {keep : List Bool} {a m : Nat} {s : List UInt8}
theorem nolog_first (hl : d.now 1 = []) : firstM d = zeros 64 := by unfold firstM; rw [hl]; rfl
theorem opened_lid (ho : d.off = false) (hl : d.now 1 = []) (hn : 8 ≤ (d.now 0).length) (hp : pg (d.now 0) 1 = lidL) : openedM d = none := by
 have hfm := nolog_first hl
 by_cases hb : (d.now 0).length % 8 ≠ 0 ∨ 256 < (d.now 0).length / 8
 ·have hlo : lopenM d = (none, 7) := by
   unfold lopenM
   rw [if_neg (by rw [ho]; decide), if_pos hfm, if_pos hb]
  unfold openedM
  rw [hlo]
 ·have hlo : lopenM d = (some ⟨⟨0, 0, ((d.now 0).length / 8 : Nat)⟩, false, [], startP 0, false, false⟩, 0) := by
   unfold lopenM
   rw [if_neg (by rw [ho]; decide), if_pos hfm, if_neg hb]
  obtain ⟨g0, hg0⟩ : ∃ g0 : Lg, g0 = ⟨⟨0, 0, ((d.now 0).length / 8 : Nat)⟩, false, [], startP 0, false, false⟩ := ⟨_, rfl⟩
  rw [← hg0] at hlo
  have hP : ppagesM p0 g0 = (((d.now 0).length / 8 : Nat) : Int) := by rw [hg0]; rfl
  have hrd : preadM p0 g0 d 1 = (lidL, 0) := by
   unfold preadM
   rw [hP, if_neg (by omega)]
   show pageM g0 d ((1 : Nat) : Int) ((g0.list.length : Nat) : Int) = _
   rw [pageM_calm ho (by omega) 1 _ (by decide) (by decide) (Nat.le_refl _), hg0]
   show (((none : Option (List UInt8)).getD (pg (d.now 0) 1)), (0 : Int)) = _
   rw [Option.getD_none, hp]
  have hhd : (readHM p0 g0 d).2 ≠ 0 := by
   unfold readHM
   rw [if_neg (by rw [hP]; omega), hrd, if_neg (by simp)]
   exact lid_none
  unfold openedM
  rw [hlo]
  exact if_pos (.inr hhd)
theorem opened_pages (ho : d.off = false) (hl : d.now 1 = []) (hn : (d.now 0).length = 8 * (M.length + 1)) (hM : M.length ≤ 255) (hh : HdOk h) (hp : pg (d.now 0) 1 = hdrPg h) (hpg : ∀ n, 1 ≤ n → n ≤ M.length → pg (d.now 0) (n + 1) = M.getD (n - 1) []) :
  ∃ g0, openedM d = some (g0, hdrPg h :: M) ∧ stOk p0 g0 d := by
 have hfm := nolog_first hl
 have hlo : lopenM d = (some ⟨⟨0, 0, ((d.now 0).length / 8 : Nat)⟩, false, [], startP 0, false, false⟩, 0) := by
  unfold lopenM
  rw [if_neg (by rw [ho]; decide), if_pos hfm, if_neg (by omega)]
 obtain ⟨g0, hg0⟩ : ∃ g0 : Lg, g0 = ⟨⟨0, 0, ((d.now 0).length / 8 : Nat)⟩, false, [], startP 0, false, false⟩ := ⟨_, rfl⟩
 rw [← hg0] at hlo
 have hP : ppagesM p0 g0 = ((M.length + 1 : Nat) : Int) := by
  rw [hg0]
  show (((d.now 0).length / 8 : Nat) : Int) = _
  rw [hn]
  simp
 have hrd : ∀ n : Nat, 1 ≤ n → n ≤ M.length + 1 → preadM p0 g0 d n = ((hdrPg h :: M).getD (n - 1) [], 0) := by
  intro n a b
  unfold preadM
  rw [hP, if_neg (by omega)]
  show pageM g0 d n g0.list.length = _
  rw [pageM_calm ho (by omega) n _ a (by omega) (Nat.le_refl _), hg0]
  show (((none : Option (List UInt8)).getD (pg (d.now 0) n)), (0 : Int)) = _
  rw [Option.getD_none]
  obtain ⟨k, rfl⟩ : ∃ k, n = k + 1 := ⟨n - 1, by omega⟩
  cases k with
  | zero => rw [hp]; rfl
  | succ k => rw [hpg (k + 1) (by omega) (by omega)]; rfl
 have hok : stOk p0 g0 d := fun k hk => by
  rw [hP] at hk
  have := hrd (k + 1) (by omega) (by omega)
  rw [show (((k + 1 : Nat) : Int)) = (k : Int) + 1 by omega] at this
  rw [this]
 have hhd : readHM p0 g0 d = (h, 0) := readHM_head (s := hdrPg h) (by rw [hP]; omega) (by have := hrd 1 (by omega) (by omega); simpa using this) hh rfl
 have hst : stL p0 g0 d = hdrPg h :: M := by
  unfold stL pgsR
  rw [hP, Int.toNat_natCast]
  apply List.ext_getElem
  ·simp
  ·intro i h1 h2
   simp only [List.length_map, List.length_range] at h1
   have := hrd (i + 1) (by omega) (by omega)
   rw [show (((i + 1 : Nat) : Int)) = (i : Int) + 1 by omega] at this
   simp only [List.getElem_map, List.getElem_range]
   rw [this]
   simp only [Nat.add_sub_cancel]
   rw [List.getD_eq_getElem?_getD, List.getElem?_eq_getElem h2]
   rfl
 refine ⟨g0, ?_, hok⟩
 unfold openedM
 rw [hlo]
 show (if ppagesM p0 g0 = 0 ∨ (readHM p0 g0 d).2 ≠ 0 then none else some (g0, stL p0 g0 d)) = _
 rw [hhd, if_neg (by rw [hP]; simp; omega), hst]
theorem lid_crash (hd : Lid d) (keep : List Bool) : openedM (crashM d keep) = none := by
 have hl : (crashM d keep).now 1 = [] := (crash_same 1 hd.log.loose _).trans hd.log.sure
 have hn : 8 ≤ ((crashM d keep).now 0).length := crash_len 0 8 hd.sure hd.cut _
 refine opened_lid rfl hl hn ?_
 rw [← lid_whole]
 unfold pg
 refine congrArg List.flatten (List.map_congr_left fun i hi => ?_)
 have hi8 := List.mem_range.1 hi
 have := crash_mayd (d := d) (keep := keep) (k := 0) (i := i) (fun x hx hf hc => by have := hd.cut x hx hf hc; omega) (.inr (.inl rfl))
 rw [show 8 * (1 - 1) + i = i by omega]
 exact hd.lid i hi8 _ this.1
theorem opn_crash (hd : Opn d h M) (hh : HdOk h) (hM : M.length ≤ 255) (hl5 : ∀ s ∈ M, s.length = 512) (keep : List Bool) : openedM (crashM d keep) = none ∨ ∃ g0, openedM (crashM d keep) = some (g0, hdrPg h :: M) ∧ stOk p0 g0 (crashM d keep) := by
 have hl : (crashM d keep).now 1 = [] := (crash_same 1 hd.log.loose _).trans hd.log.sure
 have hn : ((crashM d keep).now 0).length = 8 * (M.length + 1) := crash_len_eq 0 _ hd.sure (fun c hc hf => by have := hd.loose c hc hf; exact ⟨this.1, by omega⟩) _
 have hmay : ∀ i, May d 0 i (((crashM d keep).now 0).getD i nought) := fun i => (crash_mayd (d := d) (keep := keep) (k := 0) (i := i) (fun x hx hf hc => by rw [(hd.loose x hx hf).1] at hc; cases hc) (.inr (.inl rfl))).1
 have hsec : ∀ i, 1 ≤ i → i < 8 → ((crashM d keep).now 0).getD i nought = nought := fun i h1 h2 => hd.rest i h1 h2 _ (hmay i)
 rcases hd.first _ (hmay 0) with e | e
 ·left
  refine opened_lid rfl hl (by omega) ?_
  rw [← lid_whole]
  unfold pg
  refine congrArg List.flatten (List.map_congr_left fun i hi => ?_)
  have hi8 := List.mem_range.1 hi
  rw [show 8 * (1 - 1) + i = i by omega]
  by_cases h0 : i = 0
  ·subst h0; exact e
  ·rw [hsec i (by omega) hi8, lid_sec i (by omega) hi8]
 ·right
  refine opened_pages rfl hl hn hM hh ?_ (fun n n1 n2 => ?_)
  ·rw [← secs_whole (hdrPg_length h hh.wf.len)]
   unfold pg
   refine congrArg List.flatten (List.map_congr_left fun i hi => ?_)
   have hi8 := List.mem_range.1 hi
   rw [show 8 * (1 - 1) + i = i by omega]
   by_cases h0 : i = 0
   ·subst h0; exact e
   ·rw [hsec i (by omega) hi8, hdr_sec hh.wf (by omega) hi8]
  ·rw [← secs_whole (hl5 _ (getD_mem (L := M) (i := n - 1) (by omega)))]
   unfold pg
   refine congrArg List.flatten (List.map_congr_left fun i hi => ?_)
   have hi8 := List.mem_range.1 hi
   rw [show 8 * (n + 1 - 1) + i = 8 * n + i by omega]
   exact hd.pages n n1 n2 i hi8 _ (hmay _)
theorem done_crash (hd : Opn d h M) (hs : ∀ s, May d 0 0 s → s = secOf (hdrPg h) 0) (hh : HdOk h) (hM : M.length ≤ 255) (hl5 : ∀ s ∈ M, s.length = 512) (keep : List Bool) : ∃ g0, openedM (crashM d keep) = some (g0, hdrPg h :: M) ∧ stOk p0 g0 (crashM d keep) := by
 rcases opn_crash hd hh hM hl5 keep with e | e
 ·exfalso
  have hl : (crashM d keep).now 1 = [] := (crash_same 1 hd.log.loose _).trans hd.log.sure
  have hn : ((crashM d keep).now 0).length = 8 * (M.length + 1) := crash_len_eq 0 _ hd.sure (fun c hc hf => by have := hd.loose c hc hf; exact ⟨this.1, by omega⟩) _
  have hmay : ∀ i, May d 0 i (((crashM d keep).now 0).getD i nought) := fun i => (crash_mayd (d := d) (keep := keep) (k := 0) (i := i) (fun x hx hf hc => by rw [(hd.loose x hx hf).1] at hc; cases hc) (.inr (.inl rfl))).1
  obtain ⟨g0, e2, -⟩ := opened_pages (d := crashM d keep) (h := h) (M := M) rfl hl hn hM hh (by
   rw [← secs_whole (hdrPg_length h hh.wf.len)]
   unfold pg
   refine congrArg List.flatten (List.map_congr_left fun i hi => ?_)
   have hi8 := List.mem_range.1 hi
   rw [show 8 * (1 - 1) + i = i by omega]
   by_cases h0 : i = 0
   ·subst h0; exact hs _ (hmay 0)
   ·rw [hd.rest i (by omega) hi8 _ (hmay i), hdr_sec hh.wf (by omega) hi8]) (fun n n1 n2 => by
   rw [← secs_whole (hl5 _ (getD_mem (L := M) (i := n - 1) (by omega)))]
   unfold pg
   refine congrArg List.flatten (List.map_congr_left fun i hi => ?_)
   have hi8 := List.mem_range.1 hi
   rw [show 8 * (n + 1 - 1) + i = 8 * n + i by omega]
   exact hd.pages n n1 n2 i hi8 _ (hmay _))
  rw [e] at e2
  cases e2
 ·exact e
end
end Go.Proofs.YtenboibbbmeddaaGreat
/- Plain laws of BackupWhole: the steps of a backup on a destination that may fail. -/
namespace Go.Proofs.YtenboibbbmeddaaGreat
open Go.RowKit Go.Maps
set_option maxRecDepth 20000
section
variable {d d' : Dsk} {h : Hdr} {M : List (List UInt8)} {a m : Nat} {s : List UInt8}
theorem NoLog.alike (hd : NoLog d) (ha : Alike d d') : NoLog d' := ⟨by rw [ha.now]; exact hd.now, by rw [ha.sure]; exact hd.sure, by rw [ha.loose]; exact hd.loose⟩
theorem Lid.alike (hd : Lid d) (ha : Alike d d') : Lid d' := ⟨hd.log.alike ha, by rw [ha.sure]; exact hd.sure, by rw [ha.now]; exact hd.now, by rw [ha.loose]; exact hd.cut, fun i hi s hs => hd.lid i hi s (ha.may hs)⟩
theorem Opn.alike (hd : Opn d h M) (ha : Alike d d') : Opn d' h M :=
 ⟨hd.log.alike ha, by rw [ha.sure]; exact hd.sure, by rw [ha.now]; exact hd.now, by rw [ha.loose]; exact hd.loose, fun s hs => hd.first s (ha.may hs), fun i h1 h2 s hs => hd.rest i h1 h2 s (ha.may hs), fun n n1 n2 j hj s hs => hd.pages n n1 n2 j hj s (ha.may hs)⟩
theorem NoLog.wr (hd : NoLog d) : NoLog (wrN (meetsM d).2 0 a s m) :=
 ⟨(wrN_now a s (by decide) _ m).trans hd.now, by rw [wrN_sure]; exact hd.sure, fun c hc => by
  rcases wrN_mem hc with hc | ⟨i, hi, rfl⟩
  ·exact hd.loose c hc
  ·show (0 : Nat) ≠ 1
   decide⟩
theorem NoLog.sync (hd : NoLog d) : NoLog (sureM (meetsM d).2 0) :=
 ⟨hd.now, (sure_other _ (by decide)).trans hd.sure, fun c hc => by
  have hc : c ∈ keepsOf 0 d.loose := hc
  unfold keepsOf at hc
  exact hd.loose c (List.mem_filter.1 hc).1⟩
theorem NoLog.cut (hd : NoLog d) {n : Nat} : NoLog (applyM (meetsM d).2 ⟨0, n, true, nought⟩) :=
 ⟨(by show put d.now 0 (doesM (d.now 0) ⟨0, n, true, nought⟩) 1 = []; rw [put_other _ _ (by decide)]; exact hd.now), hd.sure, fun c hc => by
  have hc : c ∈ d.loose ++ [⟨0, n, true, nought⟩] := hc
  rcases List.mem_append.1 hc with hc | hc
  ·exact hd.loose c hc
  ·rw [List.mem_singleton.1 hc]
   show (0 : Nat) ≠ 1
   decide⟩
theorem wr_len0 : ∀ m, ((wrN d 0 a s m).now 0).length = if m = 0 then (d.now 0).length else max (d.now 0).length (a + m)
 | 0 => rfl
 | m + 1 => by
  rw [wr_at, doesM_length_write rfl, wr_len0 m, if_neg (show ¬ m + 1 = 0 by omega)]
  show max _ (a + m + 1) = _
  split <;> omega
theorem Lid.wr (hd : Lid d) (ha : 8 ≤ a) : Lid (wrN (meetsM d).2 0 a s m) := by
 refine ⟨hd.log.wr, by rw [wrN_sure]; exact hd.sure, ?_, fun c hc hf hcut => ?_, fun i hi t ht => ?_⟩
 ·rw [wr_len0]
  have h1 : 8 ≤ ((meetsM d).2.now 0).length := hd.now
  split <;> omega
 ·rcases wrN_mem hc with hc | ⟨j, hj, rfl⟩
  ·exact hd.cut c hc hf hcut
  ·cases hcut
 ·rcases may_wr ht with ht | ⟨-, h1, -, -⟩
  ·exact hd.lid i hi t ((alike_meets d).may ht)
  ·omega
theorem Lid.cut' (hd : Lid d) {n : Nat} (hn : 8 ≤ n) : Lid (applyM (meetsM d).2 ⟨0, n, true, nought⟩) := by
 have e0 : (applyM (meetsM d).2 ⟨0, n, true, nought⟩).now 0 = doesM (d.now 0) ⟨0, n, true, nought⟩ := by
  show put d.now 0 _ 0 = _
  exact put_same _ _ _
 refine ⟨hd.log.cut, hd.sure, ?_, fun c hc hf hcut => ?_, fun i hi t ht => hd.lid i hi t ((alike_meets d).may (may_cut ht (fun _ => by omega)))⟩
 ·rw [e0, doesM_length_cut rfl]
  have := hd.now
  show 8 ≤ min _ n
  omega
 ·have hc : c ∈ d.loose ++ [⟨0, n, true, nought⟩] := hc
  rcases List.mem_append.1 hc with hc | hc
  ·exact hd.cut c hc hf hcut
  ·rw [List.mem_singleton.1 hc]
   exact hn
theorem Lid.sync (hd : Lid d) : Lid (sureM (meetsM d).2 0) := by
 have e0 : (sureM (meetsM d).2 0).sure 0 = d.now 0 := sure_same _ _
 refine ⟨hd.log.sync, by rw [e0]; exact hd.now, hd.now, fun c hc hf hcut => ?_, fun i hi t ht => hd.lid i hi t ((alike_meets d).may (may_sync ht).1)⟩
 have hc : c ∈ keepsOf 0 d.loose := hc
 unfold keepsOf at hc
 exact hd.cut c (List.mem_filter.1 hc).1 hf hcut
def Has (d : Dsk) (M : List (List UInt8)) (k : Nat) : Prop := ∀ n, 1 ≤ n → n ≤ M.length → n < k → ∀ j, j < 8 → (d.now 0).getD (8 * n + j) nought = secOf (M.getD (n - 1) []) j
theorem Has.alike {k : Nat} (hd : Has d M k) (ha : Alike d d') : Has d' M k := by unfold Has; rw [ha.now]; exact hd
theorem Has.wr {k : Nat} (hd : Has d M k) : Has (wrN (meetsM d).2 0 (8 * k) (M.getD (k - 1) []) 8) M (k + 1) := by
 intro n n1 n2 n3 j hj
 rw [wr_getD]
 by_cases e : n = k
 ·subst e
  rw [if_pos (by omega)]
  congr 1
  omega
 ·rw [if_neg (by omega)]
  exact hd n n1 n2 (by omega) j hj
theorem Has.cut {k P : Nat} (hd : Has d M k) (hP : M.length < P) : Has (applyM (meetsM d).2 ⟨0, 8 * P, true, nought⟩) M k := by
 have e0 : (applyM (meetsM d).2 ⟨0, 8 * P, true, nought⟩).now 0 = doesM (d.now 0) ⟨0, 8 * P, true, nought⟩ := by
  show put d.now 0 _ 0 = _
  exact put_same _ _ _
 intro n n1 n2 n3 j hj
 rw [e0, does_cut_getD rfl (show 8 * n + j < 8 * P by omega)]
 exact hd n n1 n2 n3 j hj
theorem opn_first (hd : Lid d) (hs : d.sure 0 = d.now 0) (hl : ∀ c ∈ d.loose, c.file ≠ 0) (hn : (d.now 0).length = 8 * (M.length + 1)) (hh : Has d M (M.length + 1)) (hw : h.Wf) : Opn (wrN (meetsM d).2 0 0 (hdrPg h) 8) h M := by
 have hold : ∀ i t, May d 0 i t → t = (d.now 0).getD i nought := fun i t ht => by
  rcases ht with e | e | ⟨c, hc, hf, -⟩
  ·rw [hs] at e; exact e
  ·exact e
  ·exact absurd hf (hl c hc)
 refine ⟨hd.log.wr, ?_, ?_, fun c hc hf => ?_, fun t ht => ?_, fun i h1 h2 t ht => ?_, fun n n1 n2 j hj t ht => ?_⟩
 ·rw [wrN_sure]
  show (d.sure 0).length = _
  rw [hs, hn]
 ·rw [wr_len0, if_neg (by decide)]
  show max (d.now 0).length (0 + 8) = _
  omega
 ·rcases wrN_mem hc with hc | ⟨j, hj, rfl⟩
  ·exact absurd hf (hl c hc)
  ·exact ⟨rfl, by show 0 + j < 8; omega⟩
 ·rcases may_wr ht with ht | ⟨-, -, -, e⟩
  ·exact .inl (hd.lid 0 (by decide) t ((alike_meets d).may ht))
  ·exact .inr e
 ·rcases may_wr ht with ht | ⟨-, -, -, e⟩
  ·rw [hd.lid i h2 t ((alike_meets d).may ht), lid_sec i h1 h2]
  ·rw [e, Nat.sub_zero, hdr_sec hw h1 h2]
 ·rcases may_wr ht with ht | ⟨-, -, h2, -⟩
  ·rw [hold _ t ((alike_meets d).may ht)]
   exact hh n n1 n2 (by omega) j hj
  ·omega
theorem Opn.wr (hd : Opn d h M) {s : List UInt8} (h0 : secOf s 0 = secOf lidL 0 ∨ secOf s 0 = secOf (hdrPg h) 0) (hr : ∀ i, 1 ≤ i → i < 8 → secOf s i = nought) : Opn (wrN (meetsM d).2 0 0 s 8) h M := by
 refine ⟨hd.log.wr, by rw [wrN_sure]; exact hd.sure, ?_, fun c hc hf => ?_, fun t ht => ?_, fun i h1 h2 t ht => ?_, fun n n1 n2 j hj t ht => ?_⟩
 ·rw [wr_len0, if_neg (by decide)]
  have := hd.now
  show max (d.now 0).length (0 + 8) = _
  omega
 ·rcases wrN_mem hc with hc | ⟨j, hj, rfl⟩
  ·exact hd.loose c hc hf
  ·exact ⟨rfl, by show 0 + j < 8; omega⟩
 ·rcases may_wr ht with ht | ⟨-, -, -, e⟩
  ·exact hd.first t ((alike_meets d).may ht)
  ·rw [e]; exact h0
 ·rcases may_wr ht with ht | ⟨-, -, -, e⟩
  ·exact hd.rest i h1 h2 t ((alike_meets d).may ht)
  ·rw [e, Nat.sub_zero, hr i h1 h2]
 ·rcases may_wr ht with ht | ⟨-, -, h2, -⟩
  ·exact hd.pages n n1 n2 j hj t ((alike_meets d).may ht)
  ·omega
theorem Opn.sync (hd : Opn d h M) : Opn (sureM (meetsM d).2 0) h M := by
 have e0 : (sureM (meetsM d).2 0).sure 0 = d.now 0 := sure_same _ _
 refine ⟨hd.log.sync, by rw [e0]; exact hd.now, hd.now, fun c hc hf => ?_, fun t ht => hd.first t ((alike_meets d).may (may_sync ht).1), fun i h1 h2 t ht => hd.rest i h1 h2 t ((alike_meets d).may (may_sync ht).1), fun n n1 n2 j hj t ht => hd.pages n n1 n2 j hj t ((alike_meets d).may (may_sync ht).1)⟩
 have hc : c ∈ keepsOf 0 d.loose := hc
 unfold keepsOf at hc
 exact hd.loose c (List.mem_filter.1 hc).1 hf
theorem opn_done (hn : (d.now 0).getD 0 nought = secOf (hdrPg h) 0) : ∀ t, May (sureM (meetsM d).2 0) 0 0 t → t = secOf (hdrPg h) 0 := fun t ht => by
 rw [← hn]
 exact (may_sync ht).2 rfl
theorem opn_lid (hd : Opn d h M) (hn : ∀ i, i < 8 → (d.now 0).getD i nought = secOf lidL i) : Lid (sureM (meetsM d).2 0) := by
 have e0 : (sureM (meetsM d).2 0).sure 0 = d.now 0 := sure_same _ _
 refine ⟨hd.log.sync, by rw [e0, hd.now]; omega, by show 8 ≤ (d.now 0).length; rw [hd.now]; omega, fun c hc hf hcut => ?_, fun i hi t ht => ?_⟩
 ·have hc : c ∈ keepsOf 0 d.loose := hc
  unfold keepsOf at hc
  have := (hd.loose c (List.mem_filter.1 hc).1 hf).1
  rw [hcut] at this
  cases this
 ·rw [← hn i hi]
  exact (may_sync ht).2 rfl
end
end Go.Proofs.YtenboibbbmeddaaGreat
