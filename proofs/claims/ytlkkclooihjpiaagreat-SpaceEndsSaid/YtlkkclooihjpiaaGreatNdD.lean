/- Pages of trees (node): Put of any node; what is left to be taken. -/
import Derived.Test.YtlkkclooihjpiaaGreatNdC
set_option linter.unusedVariables false
set_option linter.unusedSimpArgs false
namespace Go.Proofs.YtlkkclooihjpiaaGreat
open Go.RowKit Go.Maps
set_option maxRecDepth 20000
section
variable {w W W' : World} {n : Nd} {v : Value}
theorem NdIn.keep (h : NdIn W n v) (hb : Below W.heap.size W W') : NdIn W' n v := ⟨h.at'.keep hb, h.many, h.wf, h.data⟩
set_option maxHeartbeats 8000000 in
set_option maxRecDepth 20000 in
theorem nput_any (h : NdIn w n v) : Calls Tryz.prog 35 #[ndV n v] w fun e w' => e = .returned (.tuple #[.string (bs (nputM n).1), .int .i64 (nputM n).2]) ∧ Below w.heap.size w w' := by
 have hb0 := (Below.refl w.heap.size w).alloc (Nat.le_refl _) (.cells #[.int .u8 n.kind, .int .i64 n.first, v, .string (bs n.data)] 93)
 have hbox := heap_alloc_new w (.cells #[.int .u8 n.kind, .int .i64 n.first, v, .string (bs n.data)] 93)
 have NM := hid (fun W hb => nmay_any (w := W) (h.keep (W' := W) hb))
 have NB := hid (fun W hb ok => nbytes_any (w := W) (h.keep (W' := W) hb) ok)
 obtain ⟨ao, cap, rfl, -⟩ := h.at'
 obtain ⟨kind, F0, L, D⟩ := n
 dsimp only at hb0 hbox
 obtain ⟨z, hz⟩ : ∃ z, z = L.length := ⟨_, rfl⟩
 obtain ⟨R, hR⟩ : ∃ R, R = nputM ⟨kind, F0, L, D⟩ := ⟨_, rfl⟩
 rw [← hR]
 unfold nputM at hR
 obtain ⟨mb, hmb⟩ : ∃ mb, mb = nmayB ⟨kind, F0, L, D⟩ := ⟨_, rfl⟩
 have NM := NM.out
 have NB := NB.out
 rw [← hmb] at hR NM
 obtain ⟨t, ht⟩ : ∃ t, t = nbytesL ⟨kind, F0, L, D⟩ := ⟨_, rfl⟩
 rw [← ht] at hR NB
 unfold ndV at NM NB ⊢
 dsimp only at NM NB ⊢
 rw [← hz] at NM NB hb0 hbox ⊢
 replace NM := hid NM
 have HB0 := hid hb0
 have Hbox := hid hbox
 cases mb
 ·rw [if_pos rfl] at hR
  have HR := hid hR
  clear h hb0 hbox hR hmb ht hz NB
  go_enter Tryz.func35, Tryz.ntmps35
  go_wp2_with (first
   | (go_at_call 66; refine (NM.out _ HB0.out).mono ?_; rintro e w1 ⟨rfl, hb1⟩; have HB1 := hid (then_below HB0.out hb1); clear hb1)
   | go_in)
  go_ret2
  rw [HR.out]
  exact ⟨rfl, HB1.out⟩
 ·rw [if_neg (by simp)] at hR
  have NB := hid (fun W hb => NB W hb (ndok_of hmb.symm))
  have HR := hid hR
  by_cases hbig : 512 < t.length
  ·have b1 : decide ((512 : Int) < (t.length : Int)) = true := by simp; omega
   have b1' : (512 : Int) < (t.length : Int) := by omega
   have HBig := hid hbig
   clear h hb0 hbox hR hmb ht hz hbig
   go_enter Tryz.func35, Tryz.ntmps35
   go_wp2_with (first
    | (go_at_call 66; refine (NM.out _ HB0.out).mono ?_; rintro e w1 ⟨rfl, hb1⟩; have HB1 := hid (then_below HB0.out hb1); obtain ⟨c0, c1, c2, c3⟩ := cells4' ((hb1.block _ (lt_of_block Hbox.out)).trans Hbox.out); clear hb1)
    | (go_at_call 67; refine (NB.out _ HB1.out).mono ?_; rintro e w2 ⟨rfl, hb2⟩; have HB2 := hid (then_below HB1.out hb2); clear hb2)
    | go_in)
   go_ret2
   rw [HR.out, if_pos HBig.out]
   exact ⟨rfl, HB2.out⟩
  ·have b1 : decide ((512 : Int) < (t.length : Int)) = false := by simp; omega
   have b1' : ¬ (512 : Int) < (t.length : Int) := by omega
   obtain ⟨c, hc⟩ : ∃ c, c = 512 - t.length := ⟨_, rfl⟩
   have hw : IntKind.i64.wrap (512 - (t.length : Int)) = (c : Int) := by rw [IntWalk.i64_in _ (by omega)]; omega
   have RP := fun W => Tryz.strings_Repeat (bs [0]) c W (by omega) (by simp [bs_size]; omega)
   rw [show (bs [0]).data.toList = [0] from rfl, repeat_one] at RP
   have RP := hid RP
   have hcat : ¬ (9223372036854775807 < t.length + c) := by omega
   have lz : (List.replicate c (0 : UInt8)).length = c := by simp
   have hfin : R = (t ++ List.replicate c 0, 0) := by rw [hR, if_neg hbig, ← hc]; rfl
   have HFin := hid hfin
   clear h hb0 hbox hR hmb ht hz hbig hc hfin
   go_enter Tryz.func35, Tryz.ntmps35
   go_wp2_with (first
    | (go_at_call 66; refine (NM.out _ HB0.out).mono ?_; rintro e w1 ⟨rfl, hb1⟩; have HB1 := hid (then_below HB0.out hb1); obtain ⟨c0, c1, c2, c3⟩ := cells4' ((hb1.block _ (lt_of_block Hbox.out)).trans Hbox.out); clear hb1)
    | (go_at_call 67; refine (NB.out _ HB1.out).mono ?_; rintro e w2 ⟨rfl, hb2⟩; have HB2 := hid (then_below HB1.out hb2); clear hb2)
    | (go_at_call 63; refine (RP.out _).mono ?_; rintro e w3 ⟨rfl, hb3⟩; have HB3 := hid (then_below HB2.out hb3); clear hb3)
    | go_in)
   go_ret2
   rw [HFin.out]
   exact ⟨rfl, HB3.out⟩
end
section
variable {rb : Nat} {st : List UInt8 × Bool} {W : World}
theorem textR_len (n : Nat) (st : List UInt8 × Bool) : (textR n st).1.length ≤ n ∧ (textR n st).1.length ≤ st.1.length ∧ (textR n st).2.1.length ≤ st.1.length := by
 unfold textR
 by_cases h : st.1.length < n
 ·rw [if_pos h]; simp
 ·rw [if_neg h]; simp; omega
theorem tk_text0 (n : Nat) (nn : Int) (hn : nn = (n : Int)) (hb : W.heap[rb]? = some (.cells #[.string (bs st.1), .bool st.2] 131 (0, 0))) (hl : st.1.length ≤ 1000) :
  Calls Tryz.prog 65 #[.pointer (some ⟨rb, 0, none⟩), .int .i64 nn] W fun e w' => e = .returned (.string (bs (textR n st).1)) ∧ w'.heap[rb]? = some (.cells #[.string (bs (textR n st).2.1), .bool (textR n st).2.2] 131 (0, 0)) ∧ Frm (fun j => j = rb) W w' := by
 subst hn
 obtain ⟨l, ok⟩ := st
 dsimp only at hb hl ⊢
 have c0 : W.cell? ⟨rb, 0, none⟩ = some (.string (bs l)) := (cell_of_block hb 0).trans rfl
 have c1 : W.cell? ⟨rb, 1, none⟩ = some (.bool ok) := (cell_of_block hb 1).trans rfl
 have f0 := free_of_block hb 0
 have f1 := free_of_block hb 1
 have Hb := hid hb
 unfold textR
 dsimp only
 by_cases h : l.length < n
 ·have b1 : decide (l.length < n) = true := by simpa using h
  rw [if_pos h]
  clear hb
  go_enter Tryz.func65, Tryz.ntmps65
  go_wp2_with fail
  go_ret
  exact ⟨rfl, (heap_setCell_same Hb.out 1 _).trans rfl, Frm.setCell (S := fun j => j = rb) (Frm.refl _ _) (.inl rfl) _⟩
 ·have b1 : decide (l.length < n) = false := by simpa using h
  rw [if_neg h]
  have htk : List.take (l.length - n) (List.drop n l) = List.drop n l := List.take_of_length_le (by simp)
  have hn : n ≤ l.length := by omega
  clear hb h
  go_enter Tryz.func65, Tryz.ntmps65
  go_wp2_with fail
  go_ret
  refine ⟨by first | rfl | simp, ?_, Frm.setCell (S := fun j => j = rb) (Frm.refl _ _) (.inl rfl) _⟩
  exact (heap_setCell_same Hb.out 0 _).trans rfl
set_option maxHeartbeats 2000000 in
set_option maxRecDepth 20000 in
theorem tk_num0 (m : Nat) (hm : m ≤ 4) (hb : W.heap[rb]? = some (.cells #[.string (bs st.1), .bool st.2] 131 (0, 0))) (hl : st.1.length ≤ 1000) :
  Calls Tryz.prog 64 #[.pointer (some ⟨rb, 0, none⟩), .int .i64 (m : Int)] W fun e w' => e = .returned (.int .i64 (numR m st).1) ∧ w'.heap[rb]? = some (.cells #[.string (bs (numR m st).2.1), .bool (numR m st).2.2] 131 (0, 0)) ∧ Frm (fun j => j = rb) W w' := by
 have RT := hid (tk_text0 m _ rfl hb hl)
 have htl4 := (textR_len m st).1
 unfold numR
 dsimp only
 obtain ⟨t, ht⟩ : ∃ t, t = (textR m st).1 := ⟨_, rfl⟩
 obtain ⟨z, hz⟩ : ∃ z, z = t.length := ⟨_, rfl⟩
 have RT := RT.out
 rw [← ht] at RT htl4 ⊢
 replace RT := hid RT
 have HZ := hid hz
 have hz4 : z ≤ 4 := by omega
 clear hb ht htl4 hm hl
 go_enter Tryz.func64, Tryz.ntmps64
 go_wp2_with (first
  | (go_at_call 65; refine (RT.out).mono ?_; rintro e w1 ⟨rfl, hr, hf⟩; have Hr1 := hid hr; have Hf1 := hid hf; obtain ⟨cap, wa, hconv, hra, hbel⟩ := conv_bytes t w1; rw [← HZ.out] at hconv; have Hra := hid hra; have HB1 := hid hbel; clear hr hf RT hra hbel)
  | go_in)
 go_loopw [5, 13] (fun v5 v13 wr => ∃ i : Nat, i ≤ z ∧ v13 = .int .i64 (i : Int) ∧ v5 = .int .i64 (num (t.take i)) ∧ wr = wa) (fun _ v13 _ => z - (intOf v13).toNat)
 case atStart => exact ⟨0, by omega, rfl, by rw [List.take_zero, num_nil], rfl⟩
 case round =>
  obtain ⟨i, hi, rfl, rfl, rfl⟩ := hrel
  by_cases hlt : i < z
  ·have b1 : decide (i < z) = true := by simpa using hlt
   have hzl : i < t.length := by rw [← HZ.out]; exact hlt
   have c0 := Hra.out i (.int .u8 ((t[i]'hzl).toNat : Int)) (by simp [cellsOf, hzl])
   rw [Nat.zero_add] at c0
   have ns := num_step t i hzl (by omega)
   have hi9 : (i : Int) < 9223372036854775807 := by omega
   have hwj : IntKind.i64.wrap ((i : Int) + 1) = (i : Int) + 1 := IntWalk.i64_in _ (by omega)
   go_wp2_with fail
   refine ⟨⟨i + 1, by omega, by simp, rfl, trivial⟩, ?_⟩
   (simp [intOf]) <;> omega
  ·obtain rfl : i = z := by omega
   have tt : t.take i = t := List.take_of_length_le (by rw [HZ.out]; exact Nat.le_refl _)
   have b1 : decide (i < i) = false := by simp
   have hgo : ¬ i < i := Nat.lt_irrefl i
   go_wp2_with fail
   go_ret
   rw [tt]
   have hlt2 := lt_of_block Hr1.out
   exact ⟨rfl, (HB1.out.block _ hlt2).trans Hr1.out, ⟨HB1.out.os.trans Hf1.out.os, HB1.out.tape.trans Hf1.out.tape, HB1.out.output.trans Hf1.out.output, Nat.le_trans Hf1.out.size HB1.out.size, fun k hk hn => (HB1.out.block k (Nat.lt_of_lt_of_le hk Hf1.out.size)).trans (Hf1.out.block k hk hn)⟩⟩
end
end Go.Proofs.YtlkkclooihjpiaaGreat
