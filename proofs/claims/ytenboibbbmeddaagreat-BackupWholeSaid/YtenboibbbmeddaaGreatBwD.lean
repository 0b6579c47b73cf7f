/- Plain laws of BackupWhole: copies, and Step, on a destination that may fail. -/
import Derived.Test.YtenboibbbmeddaaGreatBwC
set_option linter.unusedVariables false
set_option linter.unusedSimpArgs false
namespace Go.Proofs.YtenboibbbmeddaaGreat
open Go.RowKit Go.Maps
set_option maxRecDepth 20000
structure Bw (B : Bk) (d : Dsk) (h : Hdr) (M : List (List UInt8)) : Prop where
 k : B.k = h.commits
 pages : B.pages = (M.length : Int) + 1
 phase : (B.opn = false ∧ Lid d ∧ ((B.next = 1 ∧ Has d M (M.length + 1) ∧ 8 * (M.length + 1) ≤ (d.now 0).length) ∨ ∃ q : Nat, 2 ≤ q ∧ q ≤ M.length + 1 ∧ B.next = q ∧ Has d M (q - 1))) ∨
  (B.opn = true ∧ Opn d h M ∧ (B.next = 1 ∨ (B.next = 0 ∧ ∀ s, May d 0 0 s → s = secOf (hdrPg h) 0)))
section
variable {B : Bk} {d d' : Dsk} {h : Hdr} {M : List (List UInt8)} {p : Pg} {g : Lg} {ds : Dsk}
theorem Bw.alike (hb : Bw B d h M) (ha : Alike d d') : Bw B d' h M := by
 refine ⟨hb.k, hb.pages, ?_⟩
 rcases hb.phase with ⟨h1, h2, h3⟩ | ⟨h1, h2, h3⟩
 ·refine .inl ⟨h1, h2.alike ha, ?_⟩
  rcases h3 with ⟨a, b, c⟩ | ⟨q, a, b, c, e⟩
  ·exact .inl ⟨a, b.alike ha, by rw [ha.now]; exact c⟩
  ·exact .inr ⟨q, a, b, c, e.alike ha⟩
 ·refine .inr ⟨h1, h2.alike ha, h3.imp id fun ⟨a, b⟩ => ⟨a, fun s hs => b s (ha.may hs)⟩⟩
def Ready (B : Bk) (d : Dsk) (h : Hdr) (M : List (List UInt8)) : Prop :=
 (B.opn = false ∧ Lid d ∧ Has d M (M.length + 1) ∧ (d.now 0).length = 8 * (M.length + 1) ∧ d.sure 0 = d.now 0 ∧ ∀ c ∈ d.loose, c.file ≠ 0) ∨ (B.opn = true ∧ Opn d h M)
theorem sync_loose {d : Dsk} : ∀ c ∈ (sureM (meetsM d).2 0).loose, c.file ≠ 0 := fun c hc => by
 have hc : c ∈ keepsOf 0 d.loose := hc
 unfold keepsOf at hc
 simpa using (List.mem_filter.1 hc).2
theorem last_ready (hb : Bw B d h M) (hn : B.next = 1) : ((bseqM [bcutM 0 (8 * B.pages), fun d => syncM d 0] d).1 ≠ 0 ∧ Bw B (bseqM [bcutM 0 (8 * B.pages), fun d => syncM d 0] d).2 h M) ∨
  ((bseqM [bcutM 0 (8 * B.pages), fun d => syncM d 0] d).1 = 0 ∧ Ready B (bseqM [bcutM 0 (8 * B.pages), fun d => syncM d 0] d).2 h M) := by
 have e8 : 8 * B.pages = ((8 * (M.length + 1) : Nat) : Int) := by rw [hb.pages]; omega
 rw [e8]
 -- the cut
 have hcut : ((bcutM 0 ((8 * (M.length + 1) : Nat) : Int) d).1 ≠ 0 ∧ Bw B (bcutM 0 ((8 * (M.length + 1) : Nat) : Int) d).2 h M) ∨ ((bcutM 0 ((8 * (M.length + 1) : Nat) : Int) d).1 = 0 ∧ Bw B (bcutM 0 ((8 * (M.length + 1) : Nat) : Int) d).2 h M ∧ ((bcutM 0 ((8 * (M.length + 1) : Nat) : Int) d).2.now 0).length = 8 * (M.length + 1)) := by
  unfold bcutM
  have hsz : sizeM d 0 = ((d.now 0).length : Int) := rfl
  rw [hsz]
  by_cases hle : ((d.now 0).length : Int) ≤ ((8 * (M.length + 1) : Nat) : Int)
  ·rw [if_pos hle]
   refine .inr ⟨rfl, hb, ?_⟩
   rcases hb.phase with ⟨-, -, ⟨-, -, c⟩ | ⟨q, a, b, c, -⟩⟩ | ⟨-, h2, -⟩
   ·show (d.now 0).length = _
    omega
   ·omega
   ·exact h2.now
  ·rw [if_neg hle]
   rcases hb.phase with ⟨h1, h2, h3⟩ | ⟨h1, h2, h3⟩
   ·rcases cut_or (d := d) (k := 0) (n := 8 * (M.length + 1)) with ⟨c1, c2⟩ | ⟨c1, c2, c3⟩
    ·exact .inl ⟨c1, hb.alike c2⟩
    ·have c3 : (cutM d 0 ((8 * (M.length + 1) : Nat) : Int)).2 = applyM (meetsM d).2 ⟨0, 8 * (M.length + 1), true, nought⟩ := c3
     have e0 : (applyM (meetsM d).2 ⟨0, 8 * (M.length + 1), true, nought⟩).now 0 = doesM (d.now 0) ⟨0, 8 * (M.length + 1), true, nought⟩ := by
      show put d.now 0 _ 0 = _
      exact put_same _ _ _
     have hlen : ((applyM (meetsM d).2 ⟨0, 8 * (M.length + 1), true, nought⟩).now 0).length = 8 * (M.length + 1) := by
      rw [e0, doesM_length_cut rfl]
      show min _ (8 * (M.length + 1)) = _
      omega
     refine .inr ⟨c1, ?_, by rw [c3]; exact hlen⟩
     rw [c3]
     rcases h3 with ⟨a, b, -⟩ | ⟨q, a, b, c, -⟩
     ·exact ⟨hb.k, hb.pages, .inl ⟨h1, h2.cut' (by omega), .inl ⟨a, b.cut (by omega), by rw [hlen]; exact Nat.le_refl _⟩⟩⟩
     ·omega
   ·have := h2.now
    omega
 show ((if (bcutM 0 ((8 * (M.length + 1) : Nat) : Int) d).1 ≠ 0 then bcutM 0 ((8 * (M.length + 1) : Nat) : Int) d else bseqM [fun d => syncM d 0] (bcutM 0 ((8 * (M.length + 1) : Nat) : Int) d).2).1 ≠ 0 ∧ _) ∨ _
 obtain ⟨R, hR⟩ : ∃ R, R = bcutM 0 ((8 * (M.length + 1) : Nat) : Int) d := ⟨_, rfl⟩
 have hseq : bseqM [bcutM 0 ((8 * (M.length + 1) : Nat) : Int), fun d => syncM d 0] d = if R.1 ≠ 0 then R else bseqM [fun d => syncM d 0] R.2 := by rw [hR]; rfl
 rw [hseq, ← hR]
 rw [← hR] at hcut
 rcases hcut with ⟨c1, c2⟩ | ⟨c1, c2, c3⟩
 ·rw [if_pos c1]
  exact .inl ⟨c1, c2⟩
 ·rw [if_neg (by rw [c1]; simp)]
  have hs1 : bseqM [fun d => syncM d 0] R.2 = if (syncM R.2 0).1 ≠ 0 then syncM R.2 0 else (0, (syncM R.2 0).2) := rfl
  rw [hs1]
  rcases sync_or (d := R.2) (k := 0) with ⟨s1, s2⟩ | ⟨s1, s2⟩
  ·have s1 : (syncM R.2 0).1 ≠ 0 := s1
   rw [if_pos s1]
   exact .inl ⟨s1, c2.alike s2⟩
  ·have s1 : (syncM R.2 0).1 = 0 := s1
   have s2 : (syncM R.2 0).2 = sureM (meetsM R.2).2 0 := s2
   rw [if_neg (by rw [s1]; simp), s2]
   refine .inr ⟨rfl, ?_⟩
   rcases c2.phase with ⟨h1, h2, h3⟩ | ⟨h1, h2, h3⟩
   ·refine .inl ⟨h1, h2.sync, ?_, c3, sure_same _ _, sync_loose⟩
    rcases h3 with ⟨a, b, -⟩ | ⟨q, a, b, c, -⟩
    ·exact b
    ·omega
   ·exact .inr ⟨h1, h2.sync⟩
theorem last_bw (hb : Bw B d h M) (hn : B.next = 1) (hh : HdOk h) : Bw (blastM (hdrPg h) B d).2.1 (blastM (hdrPg h) B d).2.2 h M := by
 have hseq := last_ready hb hn
 have hlen := hdrPg_length h hh.wf.len
 obtain ⟨R, hR⟩ : ∃ R, R = bseqM [bcutM 0 (8 * B.pages), fun d => syncM d 0] d := ⟨_, rfl⟩
 unfold blastM
 rw [← hR] at hseq ⊢
 rcases hseq with ⟨c1, c2⟩ | ⟨c1, c2⟩
 ·rw [if_pos c1]
  exact c2
 rw [if_neg (by rw [c1]; simp)]
 have hbr : Bw B R.2 h M := by
  refine ⟨hb.k, hb.pages, ?_⟩
  rcases c2 with ⟨a, b, c, e, -⟩ | ⟨a, b⟩
  ·exact .inl ⟨a, b, .inl ⟨hn, c, by omega⟩⟩
  ·exact .inr ⟨a, b, .inl hn⟩
 have ez : 8 * (B.next - 1) = ((0 : Nat) : Int) := by rw [hn]; rfl
 rw [ez]
 rcases write_or (d := R.2) (k := 0) (a := 0) (s := hdrPg h) with ⟨w1, w2⟩ | ⟨w1, -, -, w4⟩
 ·have w1 : (writeM R.2 0 ((0 : Nat) : Int) (hdrPg h)).1 ≠ 0 := w1
  rw [if_pos w1]
  exact hbr.alike w2
 have w1 : (writeM R.2 0 ((0 : Nat) : Int) (hdrPg h)).1 = 0 := w1
 have w4 : (writeM R.2 0 ((0 : Nat) : Int) (hdrPg h)).2 = wrN (meetsM R.2).2 0 0 (hdrPg h) ((hdrPg h).length / 64) := w4
 rw [hlen] at w4
 rw [if_neg (by rw [w1]; simp), w4]
 have hopn : Opn (wrN (meetsM R.2).2 0 0 (hdrPg h) 8) h M := by
  rcases c2 with ⟨a, b, c, e, f, i⟩ | ⟨a, b⟩
  ·exact opn_first b f i e c hh.wf
  ·exact b.wr (.inr rfl) (fun i h1 h2 => hdr_sec hh.wf h1 h2)
 have hfirst : ((wrN (meetsM R.2).2 0 0 (hdrPg h) 8).now 0).getD 0 nought = secOf (hdrPg h) 0 := by rw [wr_getD, if_pos (by omega)]
 obtain ⟨D, hD⟩ : ∃ D, D = wrN (meetsM R.2).2 0 0 (hdrPg h) 8 := ⟨_, rfl⟩
 have e88 : 512 / 64 = 8 := rfl
 rw [e88, ← hD]
 rw [← hD] at hopn hfirst
 rcases sync_or (d := D) (k := 0) with ⟨s1, s2⟩ | ⟨s1, s2⟩
 ·have s1 : (syncM D 0).1 ≠ 0 := s1
  rw [if_pos s1]
  exact ⟨hb.k, hb.pages, .inr ⟨rfl, hopn.alike s2, .inl hn⟩⟩
 ·have s1 : (syncM D 0).1 = 0 := s1
  have s2 : (syncM D 0).2 = sureM (meetsM D).2 0 := s2
  rw [if_neg (by rw [s1]; simp), s2]
  exact ⟨hb.k, hb.pages, .inr ⟨rfl, hopn.sync, .inr ⟨rfl, opn_done hfirst⟩⟩⟩
theorem copy_bw (hb : Bw B d h M) (hn : B.next ≠ 0) (hh : HdOk h) (hl5 : ∀ s ∈ M, s.length = 512) (hr : ∀ n : Nat, 1 ≤ n → n ≤ M.length + 1 → preadM p g ds n = ((hdrPg h :: M).getD (n - 1) [], 0)) : Bw (bcopyM p g ds B d).2.1 (bcopyM p g ds B d).2.2 h M := by
 by_cases h1 : B.next = 1
 ·have hr1 : preadM p g ds B.next = (hdrPg h, 0) := by rw [h1]; exact hr 1 (by decide) (by omega)
  unfold bcopyM
  rw [hr1, if_neg (by simp), if_neg (by rw [h1]; decide)]
  exact last_bw hb h1 hh
 obtain ⟨q, q2, qM, hq, hlid, hopn, hhas⟩ : ∃ q : Nat, 2 ≤ q ∧ q ≤ M.length + 1 ∧ B.next = q ∧ Lid d ∧ B.opn = false ∧ Has d M (q - 1) := by
  rcases hb.phase with ⟨a, b, ⟨c, -⟩ | ⟨q, c1, c2, c3, c4⟩⟩ | ⟨a, b, c | ⟨c, -⟩⟩
  ·exact absurd c h1
  ·exact ⟨q, c1, c2, c3, b, a, c4⟩
  ·exact absurd c h1
  ·exact absurd c hn
 have hpage : (hdrPg h :: M).getD (q - 1) [] = M.getD (q - 1 - 1) [] := by
  obtain ⟨k, rfl⟩ : ∃ k, q = k + 2 := ⟨q - 2, by omega⟩
  rfl
 have hr1 : preadM p g ds B.next = (M.getD (q - 1 - 1) [], 0) := by rw [hq, hr q (by omega) qM, hpage]
 have hs512 : (M.getD (q - 1 - 1) []).length = 512 := hl5 _ (getD_mem (L := M) (i := q - 1 - 1) (by omega))
 have ea : 8 * (B.next - 1) = ((8 * (q - 1) : Nat) : Int) := by rw [hq]; omega
 unfold bcopyM
 rw [hr1, if_neg (by simp), if_pos (by rw [hq]; omega)]
 dsimp only
 rw [ea]
 rcases write_or (d := d) (k := 0) (a := 8 * (q - 1)) (s := M.getD (q - 1 - 1) []) with ⟨w1, w2⟩ | ⟨w1, -, -, w4⟩
 ·have w1 : (writeM d 0 ((8 * (q - 1) : Nat) : Int) (M.getD (q - 1 - 1) [])).1 ≠ 0 := w1
  rw [if_pos w1]
  exact hb.alike w2
 ·have w1 : (writeM d 0 ((8 * (q - 1) : Nat) : Int) (M.getD (q - 1 - 1) [])).1 = 0 := w1
  have w4 : (writeM d 0 ((8 * (q - 1) : Nat) : Int) (M.getD (q - 1 - 1) [])).2 = wrN (meetsM d).2 0 (8 * (q - 1)) (M.getD (q - 1 - 1) []) ((M.getD (q - 1 - 1) []).length / 64) := w4
  rw [hs512] at w4
  rw [if_neg (by rw [w1]; simp), w4]
  have e88 : 512 / 64 = 8 := rfl
  rw [e88]
  have hL := hlid.wr (a := 8 * (q - 1)) (m := 8) (s := M.getD (q - 1 - 1) []) (by omega)
  have hH := hhas.wr
  have e1 : q - 1 + 1 = q := by omega
  rw [e1] at hH
  refine ⟨hb.k, hb.pages, .inl ⟨hopn, hL, ?_⟩⟩
  by_cases hlast : q = M.length + 1
  ·refine .inl ⟨by show (if B.pages < B.next + 1 then (1 : Int) else B.next + 1) = 1; rw [if_pos (by rw [hb.pages, hq]; omega)], by rw [← hlast]; exact hH, ?_⟩
   rw [wr_len0, if_neg (by decide)]
   omega
  ·refine .inr ⟨q + 1, by omega, by omega, ?_, by rw [Nat.add_sub_cancel]; exact hH⟩
   show (if B.pages < B.next + 1 then (1 : Int) else B.next + 1) = _
   rw [if_neg (by rw [hb.pages, hq]; omega), hq]
   omega
theorem copies_bw (hh : HdOk h) (hl5 : ∀ s ∈ M, s.length = 512) (hr : ∀ n : Nat, 1 ≤ n → n ≤ M.length + 1 → preadM p g ds n = ((hdrPg h :: M).getD (n - 1) [], 0)) : ∀ (n : Nat) (B : Bk) (d : Dsk), Bw B d h M → Bw (bcopiesM p g ds n B d).2.1 (bcopiesM p g ds n B d).2.2 h M
 | 0, B, d, hb => hb
 | n + 1, B, d, hb => by
  show Bw (if B.next ≤ 0 then (0, B, d) else if (bcopyM p g ds B d).1 ≠ 0 then bcopyM p g ds B d else bcopiesM p g ds n (bcopyM p g ds B d).2.1 (bcopyM p g ds B d).2.2).2.1 (if B.next ≤ 0 then (0, B, d) else if (bcopyM p g ds B d).1 ≠ 0 then bcopyM p g ds B d else bcopiesM p g ds n (bcopyM p g ds B d).2.1 (bcopyM p g ds B d).2.2).2.2 h M
  by_cases h0 : B.next ≤ 0
  ·rw [if_pos h0]; exact hb
  ·rw [if_neg h0]
   have hc := copy_bw hb (by omega) hh hl5 hr
   split
   ·exact hc
   ·exact copies_bw hh hl5 hr n _ _ hc
end
end Go.Proofs.YtenboibbbmeddaaGreat
