/- The reference's Sync whole, and Read. -/
import Derived.Test.YtifgnhbbcpmaiaaRfE
import Derived.Test.YtifgnhbbcpmaiaaDkT
namespace Go.Proofs.Ytifgnhbbcpmaiaa
open Go.RowKit Go.Maps
set_option linter.unusedVariables false
set_option linter.unusedSimpArgs false

theorem in_false {f : Int} (h : ¬ (0 ≤ f ∧ f < 8)) : (decide (0 ≤ f) && decide (f < 8)) = false := by simp; omega
theorem in_true {f : Int} (h : 0 ≤ f ∧ f < 8) : (decide (0 ≤ f) && decide (f < 8)) = true := by simp; omega
theorem ready_off {d : Dsk} {f : Int} (h : d.off = true) : readyM d f = 32 := by unfold readyM; rw [h]; rfl
theorem ready_out {d : Dsk} {f : Int} (h : d.off = false) (hf : ¬ (0 ≤ f ∧ f < 8)) : readyM d f = 2 := by unfold readyM; rw [h, if_neg (by simp), if_neg hf]

section
variable {w : World} {b : Nat} {F : Foot} {d : Dsk}
set_option maxRecDepth 20000 in
theorem rsync_any (h : RefAt w b F d) (f : Int) (hs : d.Small 1099511527776) :
    Calls Try.prog 31 #[.pointer (some ⟨b, 0, none⟩), .int .i64 f] w fun e w' => e = .returned (.int .i64 (syncM d f).1) ∧ RDid w b F (syncM d f).2 w' := by
  obtain ⟨nv, sv, lv, av, h0⟩ := id h
  have c20 := h0.five.2.2.2.2
  clear h0
  cases ho : d.off with
  | true =>
    rw [ho] at c20
    have e : syncM d f = (32, d) := by unfold syncM; rw [ready_off ho, if_pos (by decide)]
    rw [e]
    have H := hid h
    clear h hs e ho
    go_enter Try.func31, Try.ntmps31
    go_wp2_with fail
    go_ret
    exact ⟨rfl, RDid.same H.out⟩
  | false =>
    rw [ho] at c20
    by_cases hf : 0 ≤ f ∧ f < 8
    · obtain ⟨k, rfl⟩ : ∃ k : Nat, f = k := ⟨f.toNat, by omega⟩
      have hk : k < 8 := by omega
      by_cases hm : (meetsM d).1 = 0
      · have e : syncM d k = (0, sureM (meetsM d).2 k) := by unfold syncM; rw [if_neg (by simpa using ready_on hk ho), if_neg (by simpa using hm), Int.toNat_natCast]
        rw [e]
        exact rsync_main h k hs hk ho hm
      · have e : syncM d k = meetsM d := by unfold syncM; rw [if_neg (by simpa using ready_on hk ho), if_pos hm]
        rw [e]
        have M := rmeets_any h (hs.mono (by omega))
        have hin := in_any (k : Int)
        rw [in_true hf] at hin
        have IN := hid hin
        obtain ⟨r, hr2⟩ : ∃ r, r = (meetsM d).1 := ⟨_, rfl⟩
        obtain ⟨d1, hd1⟩ : ∃ d1, d1 = (meetsM d).2 := ⟨_, rfl⟩
        rw [← hr2, ← hd1] at M ⊢
        rw [← hr2] at hm
        have hrne : (r != 0) = true := by simpa using hm
        have M := hid M
        clear e h hs hr2 hd1 hm hin ho
        go_enter Try.func31, Try.ntmps31
        go_wp2_with (first | (go_at_call 48; refine (IN.out _).mono ?_; rintro e w1 ⟨rfl, rfl⟩) | (go_at_call 49; refine (M.out).mono ?_; rintro e w2 ⟨rfl, hd2⟩) | go_in)
        go_ret
        exact ⟨rfl, hd2⟩
    · have e : syncM d f = (2, d) := by unfold syncM; rw [ready_out ho hf, if_pos (by decide)]
      rw [e]
      have hin := in_any f
      rw [in_false hf] at hin
      have IN := hid hin
      have H := hid h
      clear h hs e ho hin hf
      go_enter Try.func31, Try.ntmps31
      go_wp2_with (first | (go_at_call 48; refine (IN.out _).mono ?_; rintro e w1 ⟨rfl, rfl⟩) | go_in)
      go_ret
      exact ⟨rfl, RDid.same H.out⟩

/-- A file's row, opened. -/
theorem RefMem.file {nv sv : Nat → Value} {lv av : Value} (h : RefMem w b F d nv sv lv av) {k : Nat} (hk : k < 8) : ∃ ga cap, nv k = .slice ga (d.now k).length cap ∧ w.cell? ⟨b, k, none⟩ = some (.slice ga (d.now k).length cap) ∧ ((d.now k).length = 0 ∨ ∃ g, ga = some ⟨g, 0, none⟩ ∧ ∀ i (hi : i < (d.now k).length), w.cell? ⟨g, i, none⟩ = some (.string (bs (d.now k)[i]))) := by
  have c := (h.cell k).trans (rnow_cell d nv sv lv av hk)
  have hr := h.now k hk
  rcases row_form hr with ⟨h1, h2⟩ | ⟨g, cap, h1⟩
  · exact ⟨none, 0, by rw [h1, h2], by rw [c, h1, h2], .inl h2⟩
  · rw [h1] at hr
    exact ⟨_, cap, h1, by rw [c, h1], .inr ⟨g, rfl, fun i hi => FileR.get hr hi⟩⟩
set_option maxHeartbeats 1000000 in
set_option maxRecDepth 20000 in
theorem rread_any (h : RefAt w b F d) (f a n : Int) (ha : in64 a) :
    Calls Try.prog 32 #[.pointer (some ⟨b, 0, none⟩), .int .i64 f, .int .i64 a, .int .i64 n] w fun e w' => e = .returned (.tuple #[.string (bs (readM d f a n).1), .int .i64 (readM d f a n).2]) ∧ w' = w := by
  obtain ⟨nv, sv, lv, av, h0⟩ := id h
  have c20 := h0.five.2.2.2.2
  cases ho : d.off with
  | true =>
    rw [ho] at c20
    have e : readM d f a n = ([], 32) := by unfold readM; rw [ready_off ho, if_pos (by decide)]
    rw [e]
    clear h h0 e ho
    go_enter Try.func32, Try.ntmps32
    go_wp2_with fail
    go_ret2
    exact ⟨rfl, rfl⟩
  | false =>
    rw [ho] at c20
    by_cases hf : 0 ≤ f ∧ f < 8
    · obtain ⟨k, rfl⟩ : ∃ k : Nat, f = k := ⟨f.toNat, by omega⟩
      have hk : k < 8 := by omega
      have hin := in_any (k : Int)
      rw [in_true hf] at hin
      have IN := hid hin
      have hk8 : (k : Int) < 8 := by omega
      have hlen := h0.ok.nl k hk
      have Hsec0 := hid (h0.ok.ns k hk)
      obtain ⟨ga, cap, -, ck, hget⟩ := h0.file hk
      obtain ⟨l, hl⟩ : ∃ l, l = d.now k := ⟨_, rfl⟩
      rw [← hl] at ck hget hlen Hsec0
      by_cases hb : a < 0 ∨ n < 0 ∨ (l.length : Int) < a ∨ (l.length : Int) - a < n
      · have e : readM d k a n = ([], 5) := by unfold readM; rw [if_neg (by simpa using ready_on hk ho), Int.toNat_natCast, ← hl, if_pos hb]
        rw [e]
        obtain ⟨zn, hzn⟩ : ∃ zn, zn = l.length := ⟨_, rfl⟩
        rw [← hzn] at ck hb hlen
        obtain ⟨z, hz⟩ : ∃ z : Int, (zn : Int) = z := ⟨_, rfl⟩
        rw [hz] at hb
        have ha' := ha
        unfold in64 at ha'
        have hlz : z ≤ 8192 ∧ 0 ≤ z := by omega
        clear h h0 e ho hin hget hl hzn
        by_cases h1 : a < 0
        · have h1' : decide (a < 0) = true := by simpa using h1
          clear hb
          go_enter Try.func32, Try.ntmps32
          go_wp2_with (first | (go_at_call 48; refine (IN.out _).mono ?_; rintro e w1 ⟨rfl, rfl⟩) | go_in)
          go_ret2
          exact ⟨rfl, rfl⟩
        · have h1' : decide (a < 0) = false := by simpa using h1
          by_cases h2 : n < 0
          · have h2' : decide (n < 0) = true := by simpa using h2
            clear hb
            go_enter Try.func32, Try.ntmps32
            go_wp2_with (first | (go_at_call 48; refine (IN.out _).mono ?_; rintro e w1 ⟨rfl, rfl⟩) | go_in)
            go_ret2
            exact ⟨rfl, rfl⟩
          · have h2' : decide (n < 0) = false := by simpa using h2
            by_cases h3 : z < a
            · have h3' : decide (z < a) = true := by simpa using h3
              clear hb
              go_enter Try.func32, Try.ntmps32
              go_wp2_with (first | (go_at_call 48; refine (IN.out _).mono ?_; rintro e w1 ⟨rfl, rfl⟩) | go_in)
              go_ret2
              exact ⟨rfl, rfl⟩
            · have h3' : decide (z < a) = false := by simpa using h3
              have hw : IntKind.i64.wrap (z - a) = z - a := IntWalk.i64_in _ (by omega)
              have h4' : decide (z - a < n) = true := by simp only [decide_eq_true_eq]; omega
              clear hb
              go_enter Try.func32, Try.ntmps32
              go_wp2_with (first | (go_at_call 48; refine (IN.out _).mono ?_; rintro e w1 ⟨rfl, rfl⟩) | go_in)
              go_ret2
              exact ⟨rfl, rfl⟩
      · obtain ⟨i0, rfl⟩ : ∃ i : Nat, a = i := ⟨a.toNat, by omega⟩
        obtain ⟨n0, rfl⟩ : ∃ j : Nat, n = j := ⟨n.toNat, by omega⟩
        have e : readM d k i0 n0 = (((l.drop i0).take n0).flatten, 0) := by
          unfold readM
          rw [if_neg (by simpa using ready_on hk ho), Int.toNat_natCast, ← hl, if_neg hb, Int.toNat_natCast, Int.toNat_natCast]
        rw [e]
        have hle : i0 + n0 ≤ l.length := by omega
        obtain ⟨zn, hzn⟩ : ∃ zn, zn = l.length := ⟨_, rfl⟩
        rw [← hzn] at ck hb hlen
        obtain ⟨z, hz⟩ : ∃ z : Int, (zn : Int) = z := ⟨_, rfl⟩
        rw [hz] at hb
        have h1' : decide ((i0 : Int) < 0) = false := by simp
        have h2' : decide ((n0 : Int) < 0) = false := by simp
        have h3' : decide (z < (i0 : Int)) = false := by simp only [decide_eq_false_iff_not]; omega
        have hw : IntKind.i64.wrap (z - (i0 : Int)) = z - (i0 : Int) := IntWalk.i64_in _ (by omega)
        have h4' : decide (z - (i0 : Int) < (n0 : Int)) = false := by simp only [decide_eq_false_iff_not]; omega
        have hw2 : IntKind.i64.wrap ((i0 : Int) + (n0 : Int)) = (i0 : Int) + (n0 : Int) := IntWalk.i64_in _ (by omega)
        have Hget := hid hget
        have Hle := hid hle
        have Hzn := hid hzn
        clear h h0 e ho hin hget hl hb hzn
        go_enter Try.func32, Try.ntmps32
        go_wp2_with (first | (go_at_call 48; refine (IN.out _).mono ?_; rintro e w1 ⟨rfl, rfl⟩) | go_in)
        go_loopw [11, 10] (fun v11 v10 wr => ∃ i : Nat, v11 = .int .i64 ((i0 : Int) + (i : Int)) ∧ v10 = .string (bs ((l.drop i0).take i).flatten) ∧ i ≤ n0 ∧ wr = w1) (fun v11 _ _ => i0 + n0 - (intOf v11).toNat)
        case atStart => exact ⟨0, by simp, rfl, Nat.zero_le _, rfl⟩
        case round =>
          obtain ⟨i, rfl, rfl, hin, rfl⟩ := hrel
          by_cases hlt : i < n0
          · have hil : i0 + i < l.length := by have := Hle.out; omega
            obtain ⟨g, rfl, hg⟩ := Hget.out.resolve_left (fun e => by omega)
            have hc := hg (i0 + i) hil
            obtain ⟨s, hs⟩ : ∃ s, s = l[i0 + i] := ⟨_, rfl⟩
            rw [← hs] at hc
            have Hs := hid hs
            have d1 : decide ((i0 : Int) + (i : Int) < (i0 : Int) + (n0 : Int)) = true := by simp only [decide_eq_true_eq]; omega
            have hin3 : (i0 : Int) + (i : Int) < z := by have := Hzn.out; omega
            have hw3 : IntKind.i64.wrap ((i0 : Int) + (i : Int) + 1) = (i0 : Int) + (i : Int) + 1 := IntWalk.i64_in _ (by omega)
            have hlt2 : i0 + i < zn := by have := Hzn.out; omega
            have hto : ((i0 : Int) + (i : Int)).toNat = i0 + i := by omega
            have hge0 : 0 ≤ (i0 : Int) + (i : Int) := by omega
            have hs64 : s.length = 64 := Hsec0.out s (by rw [hs]; exact List.getElem_mem _)
            have hfl := flat_take Hsec0.out (a := i0) (i := i) (by omega)
            obtain ⟨acc, hacc⟩ : ∃ acc, acc = ((l.drop i0).take i).flatten := ⟨_, rfl⟩
            have Hacc := hid hacc
            rw [← hacc] at hfl ⊢
            have hcat : acc.length + s.length ≤ 9223372036854775807 := by omega
            have hcat2 : ¬ (9223372036854775807 < acc.length + s.length) := by omega
            clear hs hg hs64 hfl hacc
            go_wp2_with fail
            go_roundw
            case rel =>
              refine ⟨i + 1, by rw [Int.natCast_add, Int.add_assoc]; rfl, ?_, by omega, trivial⟩
              rw [List.take_succ_eq_append_getElem (by simp; omega), List.flatten_append]
              have e : (l.drop i0)[i]'(by simp; omega) = s := by rw [Hs.out]; simp
              rw [e, ← Hacc.out]
              simp
            case measure => simp only [intOf]; omega
          · obtain rfl : i = n0 := by omega
            have d1 : decide ((i0 : Int) + (i : Int) < (i0 : Int) + (i : Int)) = false := by simp
            go_wp2_with fail
            go_ret2
            exact ⟨rfl, rfl⟩
    · have e : readM d f a n = ([], 2) := by unfold readM; rw [ready_out ho hf, if_pos (by decide)]
      rw [e]
      have hin := in_any f
      rw [in_false hf] at hin
      have IN := hid hin
      clear h h0 e ho hin hf
      go_enter Try.func32, Try.ntmps32
      go_wp2_with (first | (go_at_call 48; refine (IN.out _).mono ?_; rintro e w1 ⟨rfl, rfl⟩) | go_in)
      go_ret2
      exact ⟨rfl, rfl⟩
end
end Go.Proofs.Ytifgnhbbcpmaiaa
