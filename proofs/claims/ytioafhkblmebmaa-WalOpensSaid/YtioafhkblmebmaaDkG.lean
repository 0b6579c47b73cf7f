/- Cut and New of a disk. -/
import Derived.Test.YtioafhkblmebmaaDkF
namespace Go.Proofs.Ytioafhkblmebmaa
open Go.RowKit Go.Maps
set_option linter.unusedVariables false
set_option linter.unusedSimpArgs false

section
variable {w : World} {b : Nat} {F : Foot} {d : Dsk}
theorem Did.same (h : DiskAt w b F d) : Did w b F d w := ⟨F, h, FootStep.refl _ _⟩

set_option maxRecDepth 20000 in
theorem cut_any (h : DiskAt w b F d) (f n : Int) (hs : d.Small 1099511627776) :
    Calls Try.prog 44 #[.pointer (some ⟨b, 0, none⟩), .int .i64 f, .int .i64 n] w fun e w' => e = .returned (.int .i64 (cutM d f n).1) ∧ Did w b F (cutM d f n).2 w' := by
  have R := ready_any h f
  by_cases hr : readyM d f = 0
  · obtain ⟨ho, hf0, hf8⟩ : d.off = false ∧ 0 ≤ f ∧ f < 8 := by
      unfold readyM at hr
      split at hr
      · omega
      · split at hr
        · rename_i h1 h2; exact ⟨by simpa using h1, h2⟩
        · omega
    obtain ⟨k, rfl⟩ : ∃ k : Nat, f = k := ⟨f.toNat, by omega⟩
    have hk : k < 8 := by omega
    by_cases hn : n < 0 ∨ ((d.now k).length : Int) < n
    · have e : cutM d k n = (5, d) := by unfold cutM; rw [if_neg (by simpa using hr), Int.toNat_natCast, if_pos hn]
      rw [e]
      rw [hr] at R
      obtain ⟨nm0, sm0, lv0, am0, h0⟩ := id h
      have c0 := (h0.cell (k * 2)).trans (now_cells d nm0 sm0 lv0 am0 hk).1
      obtain ⟨z, hz⟩ : ∃ z : Int, z = (d.now k).length := ⟨_, rfl⟩
      rw [← hz] at c0 hn
      have R := hid R
      have H := hid h
      clear h0 hz e hr h hs
      by_cases h1 : n < 0
      · have h1' : decide (n < 0) = true := by simpa using h1
        clear hn
        go_enter Try.func44, Try.ntmps44
        go_wp2_with (first | (go_at_call 47; refine (R.out).mono ?_; rintro e w1 ⟨rfl, rfl⟩) | go_in)
        go_ret
        exact ⟨rfl, Did.same H.out⟩
      · have h1' : decide (n < 0) = false := by simpa using h1
        have h2 : z < n := by omega
        have h2' : decide (z < n) = true := by simpa using h2
        clear hn h1
        go_enter Try.func44, Try.ntmps44
        go_wp2_with (first | (go_at_call 47; refine (R.out).mono ?_; rintro e w1 ⟨rfl, rfl⟩) | go_in)
        go_ret
        exact ⟨rfl, Did.same H.out⟩
    · obtain ⟨j, rfl⟩ : ∃ j : Nat, n = j := ⟨n.toNat, by omega⟩
      have hj : j ≤ (d.now k).length := by omega
      by_cases hm : (meetsM d).1 = 0
      · have e : cutM d k j = (0, applyM (meetsM d).2 ⟨k, j, true, nought⟩) := by
          unfold cutM
          rw [if_neg (by simpa using hr), Int.toNat_natCast, if_neg hn, if_neg (by simpa using hm), Int.toNat_natCast]
        rw [e]
        exact cut_main h k j hs hk ho hj hm
      · have e : cutM d k j = meetsM d := by
          unfold cutM
          rw [if_neg (by simpa using hr), Int.toNat_natCast, if_neg hn, if_pos hm]
        rw [e]
        rw [hr] at R
        have M := meets_any h hs
        obtain ⟨r, hr2⟩ : ∃ r, r = (meetsM d).1 := ⟨_, rfl⟩
        obtain ⟨d1, hd1⟩ : ∃ d1, d1 = (meetsM d).2 := ⟨_, rfl⟩
        rw [← hr2, ← hd1] at M ⊢
        rw [← hr2] at hm
        have hrne : (r != 0) = true := by simpa using hm
        obtain ⟨nm0, sm0, lv0, am0, h0⟩ := id h
        have c0 := (h0.cell (k * 2)).trans (now_cells d nm0 sm0 lv0 am0 hk).1
        have h1' : decide ((j : Int) < 0) = false := by simp
        have h2' : decide (((d.now k).length : Int) < (j : Int)) = false := by simp; omega
        obtain ⟨z, hz⟩ : ∃ z : Int, z = (d.now k).length := ⟨_, rfl⟩
        rw [← hz] at c0 h2'
        have R := hid R
        have M := hid M
        clear hr2 hd1 h0 e hr h hs hz hj hn hm
        go_enter Try.func44, Try.ntmps44
        go_wp2_with (first | (go_at_call 47; refine (R.out).mono ?_; rintro e w1 ⟨rfl, rfl⟩) | (go_at_call 48; refine (M.out).mono ?_; rintro e w2 ⟨rfl, hd2⟩) | go_in)
        go_ret
        exact ⟨rfl, hd2⟩
  · have e : cutM d f n = (readyM d f, d) := by unfold cutM; rw [if_pos hr]
    rw [e]
    obtain ⟨r, hr2⟩ : ∃ r, r = readyM d f := ⟨_, rfl⟩
    rw [← hr2] at R ⊢
    rw [← hr2] at hr
    have hrne : (r != 0) = true := by simpa using hr
    have R := hid R
    have H := hid h
    clear hr2 e hr h hs
    go_enter Try.func44, Try.ntmps44
    go_wp2_with (first | (go_at_call 47; refine (R.out).mono ?_; rintro e w1 ⟨rfl, rfl⟩) | go_in)
    go_ret
    exact ⟨rfl, Did.same H.out⟩
end

/-! ### New -/
def newM : Dsk := ⟨fun _ => [], fun _ => [], [], fun _ => 0, 0, -1, false, 0⟩
def Foot.two (i j : Nat) : Foot := ⟨fun k => k = i ∨ k = j, fun _ => False⟩
theorem new_mem (w : World) : DiskMem ((w.alloc (.map #[] 0)).alloc (.cells (diskCells newM (fun _ => none) (fun _ => none) (.slice none 0 0) w.heap.size).toArray 70)) (w.heap.size + 1) (Foot.two w.heap.size (w.heap.size + 1)) newM (fun _ => none) (fun _ => none) (.slice none 0 0) w.heap.size := by
  have hz : (w.alloc (.map #[] 0)).heap.size = w.heap.size + 1 := by simp
  refine ⟨?_, fun f _ => rfl, fun f _ => rfl, fun f _ m hm => (by cases hm), fun f _ m hm => (by cases hm), World.ownsRow_nil _ _ _ _, fun g hg => (by cases hg), ?_, .inl rfl, .inr rfl, fun _ _ h => h, ?_, fun _ h => h.elim, ?_⟩
  · rw [← hz]; exact heap_alloc_new _ _
  · exact ⟨.map [], (World.ownsMap_made w _ _ _).alloc _, fun k => rfl⟩
  · rintro k (rfl | rfl)
    · simp; omega
    · simp
  · exact ⟨fun f _ => by simp [newM], fun f _ => by simp [newM], fun f _ s hs => (by cases hs), fun f _ s hs => (by cases hs), fun c hc => (by cases hc), by simp [newM]⟩
theorem new_any (w : World) : Calls Try.prog 10 #[] w fun e w' => ∃ b F, e = .returned (.pointer (some ⟨b, 0, none⟩)) ∧ DiskAt w' b F newM ∧ Below w.heap.size w w' ∧ (∀ k, F.own k → w.heap.size ≤ k) ∧ (∀ k, F.sh k → w.heap.size ≤ k) := by
  have hmm := @run_makeMap Try.prog
  go_enter Try.func10, Try.ntmps10
  go_wp2_with fail
  go_ret
  refine ⟨w.heap.size + 1, Foot.two w.heap.size (w.heap.size + 1), rfl, ⟨_, _, _, _, new_mem w⟩, ((Below.refl _ _).alloc (Nat.le_refl _) _).alloc (by simp) _, ?_, fun _ h => h.elim⟩
  rintro k (rfl | rfl) <;> simp
end Go.Proofs.Ytioafhkblmebmaa
