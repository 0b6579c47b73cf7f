import Derived.Test.YtcpejlmnplkbaaaGreatSpY
import Derived.Test.YtcpejlmnplkbaaaGreatUsC
import Derived.Test.YtcpejlmnplkbaaaGreatUnF
import Derived.Test.YtcpejlmnplkbaaaGreatDbB
import Derived.Test.YtcpejlmnplkbaaaGreatLast
import Derived.Deep.AppendLies
set_option linter.unusedVariables false
set_option linter.unusedSimpArgs false
namespace Go.Proofs.YtcpejlmnplkbaaaGreat
open Go.RowKit Go.Maps
set_option maxRecDepth 20000
theorem good_commits {L : List (List UInt8)} (h : Good L) : L = [] ∨ ∃ s M hd, L = s :: M ∧ takeH s = (hd, 0) ∧ commL L = hd.commits ∧ s.length = 512 ∧ hd.Wf := by
 rcases h with rfl | ⟨h, M, rfl, hh⟩
 ·exact .inl rfl
 ·refine .inr ⟨hdrPg h, M, h, rfl, takeH_put hh.may hh.wf, ?_, hdrPg_length _ hh.wf.len, hh.wf⟩
  show (takeH (hdrPg h)).1.commits = _
  rw [takeH_put hh.may hh.wf]
section
variable {w W W' : World}
set_option maxHeartbeats 2000000 in
theorem rcommits_cons {base : Nat} {v : Value} {s : List UInt8} {M : List (List UInt8)} (h : StrRow W base v (s :: M)) (hs : s.length ≤ 9223372036854775807) (hl : M.length ≤ 1000) :
  Calls Tryz.prog 46 #[v] W fun e w' => e = .returned (.tuple #[.int .u64 (takeH s).1.commits, .bool ((takeH s).2 == 0)]) ∧ Below W.heap.size W w' := by
 obtain ⟨ao, cap, rfl, hc⟩ := h.shape
 obtain ⟨q, rfl, c0⟩ := hc 0 (by simp)
 simp only [List.getElem_cons_zero] at c0
 have TK := rtake_any s hs W
 have hwf2 := (takeH_wf s).len
 obtain ⟨Q2, hQ2⟩ : ∃ Q2, Q2 = takeH s := ⟨_, rfl⟩
 rw [← hQ2] at TK hwf2 ⊢
 obtain ⟨H2, E2⟩ := Q2
 obtain ⟨f, c, kk, r0, r1, r2, r3, r4, r5, r6, r7, rfl⟩ := hdr_form hwf2
 unfold hdrV hdrCells at TK
 simp only [List.map_cons, List.map_nil] at TK
 have TK := hid TK
 obtain ⟨n, hn⟩ : ∃ n, n = (s :: M).length := ⟨_, rfl⟩
 have hn1 : 0 < n := by rw [hn]; simp
 have hn2 : n ≤ 1001 := by rw [hn]; simpa using hl
 have bn : ((n : Int) == 0) = false := by simp; omega
 rw [← hn]
 clear h hc hwf2 hQ2 hn
 go_enter Tryz.func46, Tryz.ntmps46
 go_wp2_with (first
  | (go_at_call 73; refine (TK.out).mono ?_; rintro e w1 ⟨rfl, hb1⟩; have HB1 := hid hb1; clear hb1)
  | go_in)
 go_ret2
 exact ⟨rfl, HB1.out.alloc HB1.out.size _⟩
theorem rcommits_nil {base : Nat} {v : Value} (h : StrRow W base v []) : Calls Tryz.prog 46 #[v] W fun e w' => e = .returned (.tuple #[.int .u64 0, .bool true]) ∧ Below W.heap.size W w' := by
 obtain ⟨ao, cap, rfl, -⟩ := h.shape
 clear h
 go_enter Tryz.func46, Tryz.ntmps46
 go_wp2_with fail
 go_ret2
 exact ⟨rfl, Below.refl _ _⟩
theorem rcommits_any {base : Nat} {v : Value} {L : List (List UInt8)} (h : StrRow W base v L) (hg : Good L) (hl : L.length ≤ 1000) : Calls Tryz.prog 46 #[v] W fun e w' => e = .returned (.tuple #[.int .u64 (commL L), .bool true]) ∧ Below W.heap.size W w' := by
 rcases good_commits hg with rfl | ⟨s, M, hd, rfl, h1, h2, h3, -⟩
 ·exact rcommits_nil h
 ·have := rcommits_cons h (by omega) (by simp at hl; omega)
  rw [h1] at this
  rw [h2]
  exact this
end
theorem imgAt_snoc (l : List Img) (x : Img) (n : Int) (s : List UInt8) : imgAt (l ++ [x]) n s = if x.page = n then x.data else imgAt l n s := by
 unfold imgAt
 rw [List.foldl_append]
 rfl
theorem behindL_length (L : List (List UInt8)) (m : Sh) : (behindL L m).length = m.pages.toNat := by simp [behindL]
theorem behind_take (L : List (List UInt8)) (m : Sh) (i : Nat) (h : i < m.pages.toNat) : (behindL L m).take (i + 1) = (behindL L m).take i ++ [imgAt m.imgs ((i : Int) + 1) (if i < L.length then L.getD i [] else zeros 512)] := by
 rw [List.take_succ_eq_append_getElem (by rw [behindL_length]; exact h)]
 congr 1
 simp [behindL]
theorem make_zeros (k : Nat) (hk : k ≤ 1000) : ∃ C : Array Value, (∀ W : World, (Instr.makeSlice 117 (.int .i64 (k : Int)) (.int .i64 (k : Int))).run Tryz.prog W = .ok (.slice (some ⟨W.heap.size, 0, none⟩) k k) (W.alloc (.cells C 5))) ∧
  ∀ W : World, (convert 117 9 (.slice (some ⟨W.heap.size, 0, none⟩) k k)).run Tryz.prog (W.alloc (.cells C 5)) = .ok (.string (bs (zeros k))) (W.alloc (.cells C 5)) := by
 obtain ⟨iu, hiu, hu0, hu1, hu2⟩ := info_parts (P := Tryz.prog) (e := 5) (z := .int .u8 0) (size := 1) (bytes := 1) (by kernel_rfl)
 obtain ⟨C, hC⟩ : ∃ C, C = madeCells #[Value.int .u8 0] k := ⟨_, rfl⟩
 refine ⟨C, fun W => ?_, fun W => ?_⟩
 ·have h := run_make (P := Tryz.prog) (w := W) 117 5 iu (.int .u8 0) Tryz.underlying117 hiu hu0 .i64 .i64 k k (by omega) (by omega) (by rw [hu2]; omega) (by omega)
  rw [hu1] at h
  simp only [Int.toNat_natCast, Nat.mul_one] at h
  rw [hC]
  exact h
 ·have kc := run_convert_cells (P := Tryz.prog) (W.alloc (.cells C 5)) 117 9 5 Tryz.underlying117 Tryz.underlying5 Tryz.underlying9 W.heap.size 0 k k (List.replicate k 0) (by simp)
   (by
    intro i hi
    rw [cell_of_block (heap_alloc_new W _), hC]
    have hl : (madeCells #[Value.int .u8 0] k).toList[i]? = some (.int .u8 0) := by
     rw [toList_madeCells_one]
     simp [hi]
    simp only [Array.getElem?_toList] at hl
    rw [Nat.zero_add, hl]
    simp [List.getD, hi])
  have e1 : ((List.replicate k (0 : Int)).map fun n => UInt8.ofNat n.toNat) = zeros k := by simp [zeros]
  rw [e1] at kc
  exact kc
def RFollowGave (W : World) (base : Nat) (vs : Value) (R : List (List UInt8) × Int) (e : Ending) (w' : World) : Prop :=
 ∃ v', e = .returned (.tuple #[v', .int .i64 R.2]) ∧ StrRow w' base v' R.1 ∧ (v' = vs ∨ ∀ x, v'.ownBlock = some x → W.heap.size ≤ x) ∧ Below W.heap.size W w'
section
variable {w W W' : World} {m : Sh} {v vs : Value} {L : List (List UInt8)} {base : Nat}
theorem rfollow_same {R : List (List UInt8) × Int} {e : Int} {w5 : World} (h : StrRow W base vs L) (hR : R = (L, e)) (hb : Below W.heap.size W w5) : RFollowGave W base vs R (.returned (.tuple #[vs, .int .i64 e])) w5 := by
 rw [hR]
 exact ⟨vs, rfl, row_keep h (fun x hx => hb.block x (row_base h hx).2), .inl rfl, hb⟩
theorem rfollow_done {R : List (List UInt8) × Int} {L2 : List (List UInt8)} {v' : Value} {w5 : World} {b2 : Nat} (h : StrRow w5 b2 v' L2) (hR : R = (L2, 0)) (hb2 : W.heap.size ≤ b2) (hbW : base ≤ W.heap.size) (hb : Below W.heap.size W w5) : RFollowGave W base vs R (.returned (.tuple #[v', .int .i64 0])) w5 := by
 rw [hR]
 exact ⟨v', rfl, row_lower h (by omega), .inr (fun x hx => by have := (row_base h hx).1; omega), hb⟩
set_option maxHeartbeats 8000000 in
theorem rfollow_any (h : StrRow W base vs L) (hg : Good L) (hl : L.length ≤ 256) (hl5 : ∀ s ∈ L, s.length = 512) (hbW : base ≤ W.heap.size) (hm : ShIn W m v) (hk0 : 0 ≤ m.k) :
  Calls Tryz.prog 45 #[vs, shipV m v] W (RFollowGave W base vs (followL L m)) := by
 obtain ⟨ao, cap, rfl⟩ := imgs_shape hm.at'
 obtain ⟨aos, caps, hvs, hcs⟩ := h.shape
 have HSAME := hid (fun (R : List (List UInt8) × Int) (e : Int) (w5 : World) (hR : R = (L, e)) (hb : Below W.heap.size W w5) => rfollow_same h hR hb)
 have Hcs := hid (fun (W2 : World) (hb2 : Below W.heap.size W W2) (i : Nat) (hi : i < L.length) => (show ∃ q, aos = some ⟨q, 0, none⟩ ∧ W2.cell? ⟨q, i, none⟩ = some (.string (bs L[i])) from by
  obtain ⟨q, e, c⟩ := hcs i hi
  exact ⟨q, e, (hb2.cell (p := ⟨q, i, none⟩) (World.block_lt_of_cell? W ⟨q, i, none⟩ c)).trans c⟩))
 have hz3 := heap_alloc_new W (.cells (shCells m (.slice ao m.imgs.length cap)) 52)
 have hb1 := (Below.refl W.heap.size W).alloc (Nat.le_refl _) (.cells (shCells m (.slice ao m.imgs.length cap)) 52)
 obtain ⟨b3, hb3⟩ : ∃ b3, b3 = W.heap.size := ⟨_, rfl⟩
 obtain ⟨W2, hW2⟩ : ∃ W2, W2 = W.alloc (.cells (shCells m (.slice ao m.imgs.length cap)) 52) := ⟨_, rfl⟩
 rw [← hW2] at hz3 hb1
 rw [← hb3] at hz3
 have h2 : StrRow W2 base vs L := row_keep h (fun x hx => hb1.block x (row_base h hx).2)
 have CM := rcommits_any h2 hg (by omega)
 have hin2 := hm.kept hb1
 have MY := fun (W3 : World) (hb : Below W2.heap.size W2 W3) => refMay_any m (.slice ao m.imgs.length cap) W3 (hin2.kept hb).at' hm.n hm.big hk0
 obtain ⟨R, hR⟩ : ∃ R, R = followL L m := ⟨_, rfl⟩
 rw [← hR]
 unfold followL at hR
 obtain ⟨k, hk⟩ : ∃ k, k = commL L := ⟨_, rfl⟩
 rw [← hk] at hR CM
 obtain ⟨n, hn⟩ : ∃ n, n = m.imgs.length := ⟨_, rfl⟩
 have hn0 := hm.n
 obtain ⟨P, hP⟩ : ∃ P, P = L.length := ⟨_, rfl⟩
 unfold shipV at MY ⊢
 unfold shCells at hz3 hW2
 rw [← hn] at hn0 hz3 hW2 MY ⊢
 rw [← hP] at hvs hl
 have MY := hid MY
 have CM := hid CM
 have HIN := hid hin2
 have HZ3 := hid hz3
 have HB1 := hid hb1
 have Hb3 := hid hb3
 have HW2 := hid hW2
 have HR := hid hR
 have Hn := hid hn
 have HP := hid hP
 have HL5 := hid hl5
 have Hm := hid hm
 have hl3 := lt_of_block hz3
 subst hvs
 clear h h2 hcs hz3 hb1 hb3 hW2 hin2 hR hk hn hP hl5 hm hg
 go_enter Tryz.func45, Tryz.ntmps45
 go_upto_region 1 with fail
 rw [← HW2.out, ← Hb3.out]
 go_upto_region 2 with (first
  | (go_at_call 46; refine (CM.out).mono ?_; rintro e w3 ⟨rfl, hb⟩; have HB3 := hid hb; clear hb)
  | go_in)
 obtain ⟨a0, a1, a2, a3, a4, a5, af⟩ := cells6 ((HB3.out.block b3 hl3).trans HZ3.out)
 have HBW3 := hid (HB1.out.trans (HB3.out.mono HB1.out.size))
 clear CM
 have hR := HR.out
 by_cases hkind : m.kind = 1
 rotate_left
 ·have b1 : (m.kind != 1) = true := by simp [hkind]
  rw [if_pos (.inr hkind)] at hR
  replace HR := hid hR
  clear hR hkind
  go_wp2_with fail
  go_ret2
  exact HSAME.out _ _ _ HR.out HBW3.out
 have b1 : (m.kind != 1) = false := by simp [hkind]
 have MY3 := MY.out w3 HB3.out
 cases hmay : mayB m with
 | false =>
  rw [if_pos (.inl hmay)] at hR
  rw [hmay] at MY3
  replace HR := hid hR
  have MY3 := hid MY3
  clear hR hkind hmay
  go_wp2_with (first
   | (go_at_call 39; refine (MY3.out).mono ?_; rintro e w4 ⟨rfl, hb⟩; have HB4 := hid hb; clear hb)
   | go_in)
  go_ret2
  exact HSAME.out _ _ _ HR.out (HBW3.out.trans (HB4.out.mono HBW3.out.size))
 | true =>
  rw [if_neg (by rw [hmay, hkind]; decide)] at hR
  rw [hmay] at MY3
  replace HR := hid hR
  have MY3 := hid MY3
  have Hmay := hid hmay
  have Hkind := hid hkind
  clear hR hkind hmay
  go_upto_region 6 with (first
   | (go_at_call 39; refine (MY3.out).mono ?_; rintro e w4 ⟨rfl, hb⟩; have HB4 := hid hb; clear hb)
   | go_in)
  clear a0 a1 a2 a3 a4 a5 af MY MY3 b1
  have hb24 : Below W2.heap.size W2 w4 := HB3.out.trans (HB4.out.mono HB3.out.size)
  have hbW4 : Below W.heap.size W w4 := HB1.out.trans (hb24.mono HB1.out.size)
  have hz4 := (hb24.block b3 hl3).trans HZ3.out
  have HZ4 := hid hz4
  have HB24 := hid hb24
  have HBW4 := hid hbW4
  have HIN4 := hid (HIN.out.kept hb24)
  obtain ⟨a0, a1, a2, a3, a4, a5, af⟩ := cells6 hz4
  have hl4 := lt_of_block hz4
  clear hb24 hbW4 hz4
  have hR := HR.out
  by_cases hle : m.k ≤ k
  ·have bk : decide (m.k ≤ k) = true := by simpa using hle
   rw [if_pos hle] at hR
   replace HR := hid hR
   clear hR hle
   go_wp2_with fail
   go_ret2
   exact HSAME.out _ _ _ HR.out HBW4.out
  have bk : decide (m.k ≤ k) = false := by simpa using hle
  rw [if_neg hle] at hR
  clear hle
  by_cases hrg : m.full = false ∧ m.k ≠ IntKind.u64.wrap (k + 1)
  ·rw [if_pos hrg] at hR
   replace HR := hid hR
   obtain ⟨f1, f2⟩ := hrg
   rw [f1] at a3
   have bq : (m.k != IntKind.u64.wrap (k + 1)) = true := by simpa using f2
   clear hR f1 f2
   go_wp2_with fail
   go_ret2
   exact HSAME.out _ _ _ HR.out HBW4.out
  rw [if_neg hrg] at hR
  replace HR := hid hR
  clear hR
  have hor : m.full = true ∨ (m.full = false ∧ (m.k != IntKind.u64.wrap (k + 1)) = false) := by
   cases hf : m.full with
   | true => exact .inl rfl
   | false => exact .inr ⟨rfl, by simpa [hf] using hrg⟩
  clear hrg
  rcases hor with f1 | ⟨f1, f2⟩
  all_goals
   rw [f1] at a3
   go_upto_region 10 with fail
   clear f1
   try clear f2
   have hR := HR.out
   cases himg : m.imgs with
   | nil =>
    rw [himg] at hR
    replace HR := hid hR
    have bn : ((n : Int) == 0) = true := by rw [Hn.out, himg]; rfl
    clear hR himg
    go_wp2_with fail
    go_ret2
    exact HSAME.out _ _ _ HR.out HBW4.out
   | cons x r =>
    rw [himg] at hR
    dsimp only at hR
    have hn1 : 0 < n := by rw [Hn.out, himg]; simp
    have bn : ((n : Int) == 0) = false := by simp; omega
    have hn1i : (0 : Int) < (n : Int) := by omega
    obtain ⟨q, off, hao, ci, cs⟩ := imgs_cell (w := w4) (wr := w4) HIN4.out.at' (Below.refl _ _) 0 (by rw [← Hn.out]; exact hn1)
    have hbigx := HIN4.out.big x (by rw [himg]; exact List.mem_cons_self)
    subst hao
    simp only [himg, List.getElem_cons_zero, Nat.zero_mul, Nat.add_zero] at ci cs
    have Himg := hid himg
    obtain ⟨pg, dat⟩ := x
    dsimp only at ci cs hR hbigx
    clear himg
    by_cases hp1 : pg = 1
    rotate_left
    ·have bp : (pg != 1) = true := by simp [hp1]
     rw [if_pos hp1] at hR
     replace HR := hid hR
     clear hR hp1
     go_wp2_with fail
     go_ret2
     exact HSAME.out _ _ _ HR.out HBW4.out
    have bp : (pg != 1) = false := by simp [hp1]
    rw [if_neg (by simpa using hp1)] at hR
    clear hp1
    have hrow1 : StrRow (w4.alloc (.cells #[.string (bs dat)] 9)) w4.heap.size (.slice (some ⟨w4.heap.size, 0, none⟩) 1 1) [dat] := ownsRow_full (Nat.le_refl _) (heap_alloc_new w4 _) rfl (by unfold maxLen; omega)
    have CM2 := rcommits_cons hrow1 hbigx (by simp)
    obtain ⟨T, hT⟩ : ∃ T, T = takeH dat := ⟨_, rfl⟩
    rw [← hT] at CM2 hR
    obtain ⟨TH, TE⟩ := T
    obtain ⟨tk, htk⟩ : ∃ tk, tk = TH.commits := ⟨_, rfl⟩
    dsimp only at CM2 hR
    rw [← htk] at CM2 hR
    obtain ⟨okb, hokb⟩ : ∃ okb, okb = (TE == 0) := ⟨_, rfl⟩
    rw [← hokb] at CM2
    have CM2 := hid CM2
    replace HR := hid hR
    have Hokb := hid hokb
    clear hR hrow1 hbigx hT htk hokb
    go_upto_region 13 with (first
     | (go_at_call 46; refine (CM2.out).mono ?_; rintro e w5 ⟨rfl, hb⟩; have HB5 := hid (((Below.refl w4.heap.size w4).alloc (Nat.le_refl _) (.cells #[.string (bs dat)] 9)).trans (hb.mono (by simp))); clear hb)
     | go_in)
    clear ci cs a0 a1 a2 a3 a4 a5 af CM2
    have HBW5 := hid (HBW4.out.trans (HB5.out.mono HBW4.out.size))
    have HZ5 := hid ((HB5.out.block b3 hl4).trans HZ4.out)
    have HIN5 := hid (HIN4.out.kept HB5.out)
    obtain ⟨a0, a1, a2, a3, a4, a5, af⟩ := cells6 HZ5.out
    have hR := HR.out
    by_cases hc5 : TE ≠ 0 ∨ tk ≠ m.k
    ·rw [if_pos hc5] at hR
     replace HR := hid hR
     clear hR
     by_cases e2 : TE = 0
     ·have bo : okb = true := by rw [Hokb.out]; simp [e2]
      subst bo
      have bk2 : (tk != m.k) = true := by
       have := hc5.resolve_left (fun h => h e2)
       simpa using this
      clear hc5 e2
      go_wp2_with fail
      go_ret2
      exact HSAME.out _ _ _ HR.out HBW5.out
     ·have bo : okb = false := by rw [Hokb.out]; simp [e2]
      subst bo
      clear hc5 e2
      go_wp2_with fail
      go_ret2
      exact HSAME.out _ _ _ HR.out HBW5.out
    rw [if_neg hc5] at hR
    replace HR := hid hR
    have e2 : TE = 0 := Decidable.not_not.1 (fun h => hc5 (.inl h))
    have bo : okb = true := by rw [Hokb.out]; simp [e2]
    have bk2 : (tk != m.k) = false := by simp; exact Decidable.not_not.1 (fun h => hc5 (.inr h))
    subst bo
    clear hR hc5 e2
    obtain ⟨hP1, hI⟩ := may_unit Hmay.out Hkind.out
    have hall := (mayImgs_len m.imgs m.pages 0 hI).2
    obtain ⟨Pm, hPm⟩ : ∃ Pm : Nat, m.pages = (Pm : Int) := ⟨m.pages.toNat, by omega⟩
    have hPm2 : Pm ≤ 256 := by omega
    have HPm := hid hPm
    obtain ⟨i0, hi, hz0, hz1, hz2⟩ := info_parts (P := Tryz.prog) (e := 9) (z := .string ⟨#[]⟩) (size := 1) (bytes := 16) (by kernel_rfl)
    obtain ⟨C, hmk0, kc0⟩ := make_zeros 512 (by omega)
    have hmk : ∀ W : World, (Instr.makeSlice 117 (.int .i64 512) (.int .i64 512)).run Tryz.prog W = .ok (.slice (some ⟨W.heap.size, 0, none⟩) 512 512) (W.alloc (.cells C 5)) := hmk0
    have kc : ∀ W : World, (convert 117 9 (.slice (some ⟨W.heap.size, 0, none⟩) 512 512)).run Tryz.prog (W.alloc (.cells C 5)) = .ok (.string (bs (zeros 512))) (W.alloc (.cells C 5)) := kc0
    clear hmk0 kc0
    obtain ⟨Z5, hZ5⟩ : ∃ Z5, Z5 = zeros 512 := ⟨_, rfl⟩
    rw [← hZ5] at kc
    have HZ5' := hid hZ5
    have HALL := hid hall
    have Hhi := hid hi
    clear hP1 hI hall hPm hZ5
    go_upto_region 16 with fail
    clear a0 a1 a2 a3 a4 a5 af bk2 bp bn
    go_wp2_with fail
    go_loopw [9, 10] (fun v9 v10 wr => ∃ i : Nat, i ≤ Pm ∧ v10 = .int .i64 (i : Int) ∧ StrRow wr w5.heap.size v9 ((behindL L m).take i) ∧ Below w5.heap.size w5 wr) (fun _ v10 _ => Pm - (intOf v10).toNat)
    case atStart => exact ⟨0, Nat.zero_le _, rfl, by rw [List.take_zero]; exact World.ownsRow_nil _ _ _ _, Below.refl _ _⟩
    case round =>
     obtain ⟨i, hi1, rfl, hrow, hbw⟩ := hrel
     obtain ⟨wo, hwo⟩ : ∃ wo, wo = wr := ⟨_, rfl⟩
     subst hwo
     have HBw := hid hbw
     have Hrow := hid hrow
     have hzo := (hbw.block b3 (lt_of_block HZ5.out)).trans HZ5.out
     rw [HPm.out] at hzo
     obtain ⟨a0, a1, a2, a3, a4, a5, af⟩ := cells6 hzo
     have HZo := hid hzo
     clear hbw hrow hzo a0 a1 a2 a3 a5 af
     by_cases hlt : i < Pm
     ·have hlti : (i : Int) < (Pm : Int) := by omega
      have hwi : IntKind.i64.wrap ((i : Int) + 1) = (i : Int) + 1 := IntWalk.i64_in _ (by omega)
      have hb6 : Below wo.heap.size wo (wo.alloc (.cells C 5)) := (Below.refl _ _).alloc (Nat.le_refl _) _
      have hPP : i < P ∨ ¬ i < P := Decidable.em _
      rcases hPP with hiP | hiP
      case' inl =>
       have hiL : i < L.length := by have := HP.out; omega
       obtain ⟨qs, hqs, cqs⟩ := Hcs.out wo (HBW5.out.trans (HBw.out.mono HBW5.out.size)) i hiL
       subst hqs
       have hqsl := World.block_lt_of_cell? wo ⟨qs, i, none⟩ cqs
       have bP : decide ((i : Int) < (P : Int)) = true := by simp; omega
       have hiPi : (i : Int) < (P : Int) := by omega
       obtain ⟨t0, ht0⟩ : ∃ t0, t0 = L[i] := ⟨_, rfl⟩
       rw [← ht0] at cqs
       have HT0 := hid (show t0 = (if i < L.length then L.getD i [] else zeros 512) by
        rw [if_pos hiL, List.getD_eq_getElem?_getD, List.getElem?_eq_getElem hiL, ht0]; rfl)
       clear ht0
       go_upto_region 22 with fail
       clear cqs bP hiPi hiP a4
      case' inr =>
       have bP : decide ((i : Int) < (P : Int)) = false := by simp; omega
       have hiPi : ¬ (i : Int) < (P : Int) := by omega
       go_upto_region 22 with fail
       obtain ⟨t0, ht0⟩ : ∃ t0, t0 = Z5 := ⟨_, rfl⟩
       rw [← ht0]
       have HT0 := hid (show t0 = (if i < L.length then L.getD i [] else zeros 512) by
        rw [if_neg (by have := HP.out; omega), ht0, HZ5'.out])
       clear ht0 bP hiPi hiP a4
      all_goals
       obtain ⟨w6, hw6⟩ : ∃ w6, w6 = wo.alloc (.cells C 5) := ⟨_, rfl⟩
       rw [← hw6] at hb6 ⊢
       have HB6 := hid hb6
       have HZ6 := hid ((hb6.block b3 (lt_of_block HZo.out)).trans HZo.out)
       clear hb6 hw6
       go_wp2_with fail
       go_loopw [11, 12] (fun v11 v12 wr => ∃ j : Nat, j ≤ n ∧ v12 = .int .i64 (j : Int) ∧ v11 = .string (bs (imgAt (m.imgs.take j) ((i : Int) + 1) t0)) ∧ Below w6.heap.size w6 wr) (fun _ v12 _ => n - (intOf v12).toNat)
       case atStart => exact ⟨0, Nat.zero_le _, rfl, rfl, Below.refl _ _⟩
       case round =>
        obtain ⟨j, hj1, rfl, rfl, hbw⟩ := hrel
        have HBr := hid hbw
        have hb5r : Below w5.heap.size w5 wr := HBw.out.trans ((HB6.out.trans (hbw.mono HB6.out.size)).mono HBw.out.size)
        have hin := HIN5.out.kept hb5r
        have hzr := (hbw.block b3 (lt_of_block HZ6.out)).trans HZ6.out
        obtain ⟨_, _, _, _, _, a5, _⟩ := cells6 hzr
        obtain ⟨t, ht⟩ : ∃ t, t = imgAt (m.imgs.take j) ((i : Int) + 1) t0 := ⟨_, rfl⟩
        rw [← ht]
        have Ht := hid ht
        clear hbw hb5r hzr ht
        by_cases hjn : j < n
        ·have hjl : j < m.imgs.length := by have := Hn.out; omega
         obtain ⟨q', off', hao, ci, cs⟩ := imgs_cell (w := wr) (wr := wr) hin.at' (Below.refl _ _) j hjl
         injection hao with hao
         injection hao with e1 e2
         subst e1
         subst e2
         have hstep : imgAt (m.imgs.take (j + 1)) ((i : Int) + 1) t0 = if m.imgs[j].page = (i : Int) + 1 then m.imgs[j].data else t := by
          rw [List.take_succ_eq_append_getElem hjl, imgAt_snoc, Ht.out]
         have hxb := (HALL.out m.imgs[j] (List.getElem_mem hjl))
         obtain ⟨x, hx⟩ : ∃ x, x = m.imgs[j] := ⟨_, rfl⟩
         rw [← hx] at ci cs hstep hxb
         obtain ⟨pg2, dat2⟩ := x
         dsimp only at ci cs hstep hxb
         have hjni : (j : Int) < (n : Int) := by omega
         have hj9 : (j : Int) < 9223372036854775807 := by omega
         have hwj : IntKind.i64.wrap ((j : Int) + 1) = (j : Int) + 1 := IntWalk.i64_in _ (by omega)
         clear hx hin hxb
         by_cases hpe : pg2 = (i : Int) + 1
         ·have bpe : (pg2 == (i : Int) + 1) = true := by simp [hpe]
          rw [if_pos hpe] at hstep
          have HST := hid hstep
          clear hpe hstep
          go_wp2_with fail
          go_roundw
          case rel => exact ⟨j + 1, hjn, by simp, by rw [HST.out], HBr.out⟩
          case measure => (simp [intOf]) <;> omega
         ·have bpe : (pg2 == (i : Int) + 1) = false := by simp [hpe]
          rw [if_neg hpe] at hstep
          have HST := hid hstep
          clear hpe hstep
          go_wp2_with fail
          go_roundw
          case rel => exact ⟨j + 1, hjn, by simp, by rw [HST.out], HBr.out⟩
          case measure => (simp [intOf]) <;> omega
        ·obtain rfl : n = j := by omega
         have hgo : ¬ ((n : Int) < (n : Int)) := by omega
         have hfull : t = imgAt m.imgs ((i : Int) + 1) t0 := by
          rw [Ht.out, Hn.out, List.take_length]
         have hbo : Below wo.heap.size wo wr := HB6.out.trans (HBr.out.mono HB6.out.size)
         have hrowr := row_keep (w' := wr.alloc (.cells #[.string (bs t)] 9)) Hrow.out (fun x hx => (Below.heap_alloc wr _ x (Nat.lt_of_lt_of_le (row_base Hrow.out hx).2 hbo.size)).trans (hbo.block x (row_base Hrow.out hx).2))
         have HROWR := hid hrowr
         have HFULL := hid hfull
         have HBO := hid hbo
         have HTK := hid (show ((behindL L m).take i).length = i by rw [List.length_take, behindL_length, HPm.out]; omega)
         clear hfull hbo hrowr hin hgo
         have hgo : ¬ n < n := Nat.lt_irrefl n
         go_wp2_with (first
          | (at_builtin; refine wpList_append_own_at _ rfl _ _ 59 rfl w5.heap.size 9 i0 _ 1 16 Tryz.underlying59 Hhi.out hz0 hz1 hz2 rfl (by omega) _ ((behindL L m).take i).length (strV ((behindL L m).take i)) rfl HROWR.out ⟨wr.heap.size, 0, none⟩ 1 1 [.string (bs t)] rfl (by simp) (World.news_of_block (cs := #[.string (bs t)]) (t := 9) (fr := (0, 0)) (heap_alloc_new wr _)) (by intro u hu; rw [List.mem_singleton.1 hu]; rfl) (by unfold maxLen; rw [HTK.out]; omega) (by rw [HTK.out]; omega) (by have h1 := HBw.out.size; have h2 := HBO.out.size; simp; omega) ?_; intro v' w7 hown7 hgrow7 _ hat7; have Hown7 := hid hown7; have Hgrow7 := hid hgrow7; clear hown7 hgrow7 hat7)
          | go_in)
         go_roundw
         case rel =>
          refine ⟨i + 1, hlt, by simp, ?_, ((HBw.out.trans (HBO.out.mono HBw.out.size)).alloc (by have h1 := HBw.out.size; have h2 := HBO.out.size; omega) _).grown Hgrow7.out (by have h1 := HBw.out.size; have h2 := HBO.out.size; simp; omega) (fun j hj => (row_base Hrow.out hj).1)⟩
          unfold StrRow
          rw [behind_take L m i (by rw [HPm.out]; omega), strV_append, List.length_append, ← HT0.out, ← HFULL.out]
          exact Hown7.out
         case measure => (simp [intOf]) <;> omega
     ·obtain rfl : Pm = i := by omega
      have hgo : ¬ Pm < Pm := Nat.lt_irrefl Pm
      have hlist : (behindL L m).take Pm = behindL L m := List.take_of_length_le (by rw [behindL_length, HPm.out]; omega)
      have hrow := Hrow.out
      rw [hlist] at hrow
      have HROWE := hid hrow
      clear hlist hrow
      go_wp2_with fail
      go_ret2
      exact rfollow_done HROWE.out HR.out HBW5.out.size hbW (HBW5.out.trans (HBw.out.mono HBW5.out.size))
end
end Go.Proofs.YtcpejlmnplkbaaaGreat
