/- A disk's Crash; Sync whole. -/
import Derived.Test.YtioafhkblmebmaaDkK
namespace Go.Proofs.Ytioafhkblmebmaa
open Go.RowKit Go.Maps
set_option linter.unusedVariables false
set_option linter.unusedSimpArgs false

section
variable {w w' : World} {b : Nat} {F : Foot} {d d' : Dsk} {nm sm : Nat → Option Nat} {lv : Value} {am : Nat}
/-- What is sure is written: a file and its map that is new. -/
theorem DiskMem.write_sure (h : DiskMem w b F d nm sm lv am) {f m : Nat} (hf : f < 8) (hb : Below w.heap.size w w') (hm : w.heap.size ≤ m) {l : List Sec} (hl : FileAt w' (some m) l) (h1 : l.length ≤ 8192) (h2 : ∀ s ∈ l, s.length = 64) :
    DiskMem ((w'.setCell ⟨b, 16 + f * 2, none⟩ (.int .i64 l.length)).setCell ⟨b, 16 + f * 2 + 1, none⟩ (.map (some m))) b (F.more m) { d with sure := put d.sure f l } nm (put sm f (some m)) lv am ∧
      FootStep F (F.more m) w ((w'.setCell ⟨b, 16 + f * 2, none⟩ (.int .i64 l.length)).setCell ⟨b, 16 + f * 2 + 1, none⟩ (.map (some m))) := by
  have hk := h.keep (w' := w') (fun k hk => hb.block k (hk.elim (h.olt k) (h.slt k))) hb.size
  have hblt := lt_of_block h.blk
  have hne : m ≠ b := by omega
  have old : ∀ k, k ≠ b → ((w'.setCell ⟨b, 16 + f * 2, none⟩ (.int .i64 l.length)).setCell ⟨b, 16 + f * 2 + 1, none⟩ (.map (some m))).heap[k]? = w'.heap[k]? := fun k hk => by
    rw [Below.heap_setCell _ ⟨b, _, none⟩ _ k hk, Below.heap_setCell _ ⟨b, _, none⟩ _ k hk]
  have hz : ((w'.setCell ⟨b, 16 + f * 2, none⟩ (.int .i64 l.length)).setCell ⟨b, 16 + f * 2 + 1, none⟩ (.map (some m))).heap.size = w'.heap.size := by simp
  have nb : ∀ k, F.sh k → k ≠ b := fun k hs e => h.apart k (e ▸ h.bown) hs
  have hmlt := hl.lt
  refine ⟨⟨?_, fun i hi => (hk.now i hi).keep fun x hx => old x (nb x (h.nsh i hi x hx)), fun i hi => ?_, fun i hi x hx => .inl (h.nsh i hi x hx), fun i hi x hx => ?_, row_keep hk.row fun g hg => old g (h.ne_row hg).1, h.rown, hk.arm.keep (old am h.ne_arm), h.aown, h.bown, ?_, fun k hk2 => by rw [hz]; exact Nat.lt_of_lt_of_le (h.olt k hk2) hb.size, ?_, ?_⟩, ?_, fun k hk => .inl hk, ?_⟩
  · rw [heap_setCell_same (heap_setCell_same hk.blk (16 + f * 2) _) (16 + f * 2 + 1) _, set_sure d nm sm lv am hf]
  · by_cases e : i = f
    · subst e
      simp only [put_same]
      exact hl.keep fun x hx => old x (by cases hx; exact hne)
    · simp only [put_other _ _ e]
      exact (hk.sure i hi).keep fun x hx => old x (nb x (h.ssh i hi x hx))
  · by_cases e : i = f
    · subst e
      rw [put_same] at hx
      exact .inr (Option.some.inj hx).symm
    · rw [put_other _ _ e] at hx
      exact .inl (h.ssh i hi x hx)
  · rintro k h1 (h2 | rfl)
    · exact h.apart k h1 h2
    · have := h.olt k h1
      omega
  · rintro k (h2 | rfl)
    · rw [hz]; exact Nat.lt_of_lt_of_le (h.slt k h2) hb.size
    · rw [hz]; exact hmlt
  · refine ⟨h.ok.nl, fun i hi => ?_, h.ok.ns, fun i hi => ?_, h.ok.lo, h.ok.op0⟩
    · by_cases e : i = f
      · subst e; simp only [put_same]; exact h1
      · simp only [put_other _ _ e]; exact h.ok.sl i hi
    · by_cases e : i = f
      · subst e; simp only [put_same]; exact h2
      · simp only [put_other _ _ e]; exact h.ok.ss i hi
  · exact (Frm.of_below hb).trans (((Frm.refl _ _).setCell (p := ⟨b, 16 + f * 2, none⟩) (.inl h.bown) _).setCell (p := ⟨b, 16 + f * 2 + 1, none⟩) (.inl h.bown) _)
  · rintro k (h2 | rfl)
    · exact .inl h2
    · exact .inr hm

set_option maxRecDepth 20000 in
theorem sync_any (h : DiskAt w b F d) (f : Int) (hs : d.Small 1099511527776) :
    Calls Try.prog 46 #[.pointer (some ⟨b, 0, none⟩), .int .i64 f] w fun e w' => e = .returned (.int .i64 (syncM d f).1) ∧ Did w b F (syncM d f).2 w' := by
  have R := ready_any h f
  by_cases hr : readyM d f = 0
  · obtain ⟨ho, hf0, hf8⟩ := ready_zero hr
    obtain ⟨k, rfl⟩ : ∃ k : Nat, f = k := ⟨f.toNat, by omega⟩
    have hk : k < 8 := by omega
    by_cases hm : (meetsM d).1 = 0
    · have e : syncM d k = (0, sureM (meetsM d).2 k) := by unfold syncM; rw [if_neg (by simpa using hr), if_neg (by simpa using hm), Int.toNat_natCast]
      rw [e]
      exact sync_main h k hs hk ho hm
    · have e : syncM d k = meetsM d := by unfold syncM; rw [if_neg (by simpa using hr), if_pos hm]
      rw [e]
      rw [hr] at R
      have M := meets_any h (hs.mono (by omega))
      obtain ⟨r, hr2⟩ : ∃ r, r = (meetsM d).1 := ⟨_, rfl⟩
      obtain ⟨d1, hd1⟩ : ∃ d1, d1 = (meetsM d).2 := ⟨_, rfl⟩
      rw [← hr2, ← hd1] at M ⊢
      rw [← hr2] at hm
      have hrne : (r != 0) = true := by simpa using hm
      have R := hid R
      have M := hid M
      clear e hr h hs hr2 hd1 hm
      go_enter Try.func46, Try.ntmps46
      go_wp2_with (first | (go_at_call 47; refine (R.out).mono ?_; rintro e w1 ⟨rfl, rfl⟩) | (go_at_call 48; refine (M.out).mono ?_; rintro e w2 ⟨rfl, hd2⟩) | go_in)
      go_ret
      exact ⟨rfl, hd2⟩
  · have e : syncM d f = (readyM d f, d) := by unfold syncM; rw [if_pos hr]
    rw [e]
    obtain ⟨r, hr2⟩ : ∃ r, r = readyM d f := ⟨_, rfl⟩
    rw [← hr2] at R ⊢
    rw [← hr2] at hr
    have hrne : (r != 0) = true := by simpa using hr
    have R := hid R
    have H := hid h
    clear hr2 e hr h hs
    go_enter Try.func46, Try.ntmps46
    go_wp2_with (first | (go_at_call 47; refine (R.out).mono ?_; rintro e w1 ⟨rfl, rfl⟩) | go_in)
    go_ret
    exact ⟨rfl, Did.same H.out⟩

end
end Go.Proofs.Ytioafhkblmebmaa
