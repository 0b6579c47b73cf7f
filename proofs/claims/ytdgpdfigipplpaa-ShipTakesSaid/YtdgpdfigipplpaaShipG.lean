/- The law's own helpers: page, two, works, great. -/
import Derived.Test.YtdgpdfigipplpaaShipD
import Derived.Test.YtdgpdfigipplpaaShipE
import Derived.Test.YtdgpdfigipplpaaShipF
namespace Go.Proofs.Ytdgpdfigipplpaa
open Go.RowKit
set_option linter.unusedVariables false
set_option linter.unusedSimpArgs false

theorem repeat_one (c : UInt8) : ∀ n, Lib.repeatL [c] n = List.replicate n c
  | 0 => rfl
  | n + 1 => by simp [Lib.repeatL, repeat_one c n, List.replicate_succ]

set_option maxHeartbeats 400000 in
theorem page_any (c : UInt8) (w : World) :
    Calls Try.prog 13 #[.int .u8 (c.toNat : Int)] w fun e w' => e = .returned (.string (bs (List.replicate 512 c))) ∧ Below w.heap.size w w' := by
  have kc := fun (W : World) (T : TypeId) => run_convert_cells (P := Try.prog) (W.alloc (.cells #[.int .u8 (c.toNat : Int)] T)) 38 9 5 Try.underlying38 Try.underlying5 Try.underlying9 W.heap.size 0 1 1 [(c.toNat : Int)] rfl
    (by intro i hi; match i, hi with | 0, _ => simp)
  have e1 : ([(c.toNat : Int)].map fun n => UInt8.ofNat n.toNat) = [c] := by simp
  simp only [e1] at kc
  go_enter Try.func13, Try.ntmps13
  go_wp2_with fail
  refine (Try.strings_Repeat (bs [c]) 512 _ (by omega) (by rw [bs_size]; simp)).mono ?_
  rintro e w1 ⟨rfl, hb1⟩
  go_wp2_with fail
  go_ret
  refine ⟨?_, ((Below.refl _ _).alloc (Nat.le_refl _) _).trans (hb1.mono (by simp))⟩
  refine ret_str ?_
  exact repeat_one c 512

def bigA : List UInt8 := List.replicate 512 97
def bigB : List UInt8 := List.replicate 512 98
theorem bigA_len : bigA.length = 512 := List.length_replicate ..
theorem bigB_len : bigB.length = 512 := List.length_replicate ..
attribute [irreducible] bigA bigB
def twoSh : Sh := ⟨1, 1, 5, false, 3, [(1, bigA), (3, bigB)]⟩
theorem two_may : mayB twoSh = true := by
  have h : mayImgs 3 0 [(1, bigA), (3, bigB)] = true := by
    rw [mayImgs_cons, if_neg (by simp [bigA_len]), mayImgs_cons, if_neg (by simp [bigB_len]), mayImgs_nil]
  unfold mayB twoSh
  simp [h]
theorem two_wf : Wf twoSh := by unfold Wf twoSh; simp
theorem bigA_eq : bigA = List.replicate 512 97 := by unfold bigA; rfl
theorem bigB_eq : bigB = List.replicate 512 98 := by unfold bigB; rfl
theorem page_a (w : World) : Calls Try.prog 13 #[.int .u8 97] w fun e w' => e = .returned (.string (bs (List.replicate 512 97))) ∧ Below w.heap.size w w' := page_any 97 w
theorem page_b (w : World) : Calls Try.prog 13 #[.int .u8 98] w fun e w' => e = .returned (.string (bs (List.replicate 512 98))) ∧ Below w.heap.size w w' := page_any 98 w

theorem twoSh_eq : twoSh = ⟨1, 1, 5, false, 3, [(1, bigA), (3, bigB)]⟩ := rfl
set_option maxHeartbeats 400000 in
theorem two_any (w : World) :
    Calls Try.prog 25 #[] w fun e w' => ∃ v, e = .returned (shipV twoSh v) ∧ ImgsAt w' v twoSh.imgs ∧ Below w.heap.size w w' := by
  have pa : ∀ w, Calls Try.prog 13 #[.int .u8 97] w fun e w' => e = .returned (.string (bs bigA)) ∧ Below w.heap.size w w' := by rw [bigA_eq]; exact page_a
  have pb : ∀ w, Calls Try.prog 13 #[.int .u8 98] w fun e w' => e = .returned (.string (bs bigB)) ∧ Below w.heap.size w w' := by rw [bigB_eq]; exact page_b
  have Pa := hid pa
  have Pb := hid pb
  rw [twoSh_eq]
  clear pa pb
  go_enter Try.func25, Try.ntmps25
  go_wp2_with fail
  refine (Pa.out _).mono ?_
  rintro e w1 ⟨rfl, hb1⟩
  go_wp2_with fail
  refine (Pb.out _).mono ?_
  rintro e w2 ⟨rfl, hb2⟩
  have hR := (hb2.block w.heap.size (by have := hb1.size; simp at this; omega)).trans ((hb1.block w.heap.size (by simp)).trans (heap_alloc_new _ _))
  have hbw : Below w.heap.size w w2 := (((Below.refl _ _).alloc (Nat.le_refl _) _).trans (hb1.mono (by simp))).trans (hb2.mono (by have := hb1.size; simp at this; omega))
  have hsz : w.heap.size < w2.heap.size := by have := hb1.size; have := hb2.size; simp at *; omega
  obtain ⟨r0, r1, r2, r3, r4, r5, rf⟩ := cells6 hR
  clear hb1 hb2
  go_wp2_with fail
  refine bodyPost_ret (v := shipV ⟨1, 1, 5, false, 3, [(1, bigA), (3, bigB)]⟩ (.slice (some ⟨w2.heap.size, 0, none⟩) 2 2)) (by simp [results, Try.results25, go_sem, shipV, r0, r1, r2, r3, r4, r5, rf, hsz]) rfl ⟨_, rfl, ?_, ?_⟩
  · refine .inr ⟨w2.heap.size, 0, 2, rfl, fun j hj => ?_⟩
    simp only [List.length_cons, List.length_nil] at hj
    have hn := heap_alloc_new ((((((w2.setCell ⟨w.heap.size, 0, none⟩ (.int .u8 1)).setCell ⟨w.heap.size, 1, none⟩ (.int .u64 1)).setCell ⟨w.heap.size, 2, none⟩ (.int .u64 5)).setCell ⟨w.heap.size, 3, none⟩ (.bool false)).setCell ⟨w.heap.size, 4, none⟩ (.int .i64 3)).setCell ⟨w.heap.size, 5, none⟩ (.slice (some ⟨w2.heap.size, 0, none⟩) 2 2)) (.cells #[.int .i64 1, .string (bs bigA), .int .i64 3, .string (bs bigB)] 51)
    simp only [World.size_setCell] at hn
    match j, hj with
    | 0, _ => exact ⟨by rw [cell_of_block hn]; rfl, by rw [cell_of_block hn]; rfl⟩
    | 1, _ => exact ⟨by rw [cell_of_block hn]; rfl, by rw [cell_of_block hn]; rfl⟩
  · refine Below.alloc ?_ (by simp; omega) _
    iterate 6 refine Below.setCell ?_ (by simp) _
    exact hbw

def greatB (m : Sh) : Bool := m.imgs.any (fun x => decide (2048 < x.2.length)) || decide (40 < m.imgs.length)
def GreatRel (l : List Img) (w0 w : World) (v8 : Value) (wr : World) : Prop :=
  ∃ k : Nat, k ≤ l.length ∧ v8 = .int .i64 k ∧ (l.take k).any (fun x => decide (2048 < x.2.length)) = false ∧ Below (w0.heap.size + 1) w wr

set_option maxHeartbeats 1000000 in
theorem great_any (m : Sh) (v : Value) (w : World) (hv : ImgsAt w v m.imgs) (hn : m.imgs.length ≤ 9223372036854775807) (hbig : ∀ x ∈ m.imgs, x.2.length ≤ 9223372036854775807) :
    Calls Try.prog 14 #[shipV m v] w fun e w' => e = .returned (.bool (greatB m)) ∧ Below w.heap.size w w' := by
  obtain ⟨ao, cap, rfl⟩ := imgs_shape hv
  have Hv := hid hv
  have Hbig := hid hbig
  clear hv hbig
  unfold shipV
  go_enter Try.func14, Try.ntmps14
  go_wp2_with fail
  go_loopw [8] (fun v8 wr => GreatRel m.imgs w (w.alloc (.cells #[.int .u8 m.kind, .int .u64 m.epoch, .int .u64 m.k, .bool m.full, .int .i64 m.pages, .slice ao m.imgs.length cap] 28)) v8 wr) (fun v8 _ => m.imgs.length - (intOf v8).toNat)
  case atStart => exact ⟨0, Nat.zero_le _, rfl, rfl, Below.refl _ _⟩
  case round =>
    obtain ⟨k, hk, rfl, hpre, hbr⟩ := hrel
    have hbw : Below w.heap.size w wr := ((Below.refl _ _).alloc (Nat.le_refl _) _).trans (hbr.mono (by omega))
    have hbox : wr.heap[w.heap.size]? = some (.cells #[.int .u8 m.kind, .int .u64 m.epoch, .int .u64 m.k, .bool m.full, .int .i64 m.pages, .slice ao m.imgs.length cap] 28 (0, 0)) := (hbr.block _ (by omega)).trans (heap_alloc_new _ _)
    have hsz : w.heap.size < wr.heap.size := by have := hbr.size; simp at this; omega
    have c5 := cell_of_block hbox 5
    simp at c5
    have Hpre := hid hpre
    clear hbox hpre
    by_cases hlt : k < m.imgs.length
    · obtain ⟨b, off, rfl, ci, cs⟩ := imgs_cell Hv.out hbw k hlt
      have hx := Hbig.out m.imgs[k] (List.getElem_mem hlt)
      have hstep : (m.imgs.take (k + 1)).any (fun x => decide (2048 < x.2.length)) = decide (2048 < m.imgs[k].2.length) := by
        rw [List.take_succ_eq_append_getElem hlt, List.any_append, Hpre.out]
        simp
      have hany : decide (2048 < m.imgs[k].2.length) = true → m.imgs.any (fun x => decide (2048 < x.2.length)) = true := fun h => List.any_eq_true.2 ⟨_, List.getElem_mem hlt, h⟩
      obtain ⟨x, hx1⟩ : ∃ x, x = m.imgs[k] := ⟨_, rfl⟩
      obtain ⟨pg, dat⟩ := x
      rw [← hx1] at ci cs hx hstep hany
      simp only at ci cs hx hstep hany
      have Hstep := hid hstep
      have Hany := hid hany
      clear hx1 hstep hany
      by_cases hg : 2048 < dat.length
      · have hg' : decide ((2048 : Int) < (dat.length : Int)) = true := by simp; omega
        have hfin : greatB m = true := by unfold greatB; rw [Hany.out (by simpa using hg)]; rfl
        have Hfin := hid hfin
        clear hfin hg
        go_wp2_with fail
        go_ret
        exact ⟨ret_bool (by rw [Hfin.out]), hbw.alloc hbw.size _⟩
      · have hg' : decide ((2048 : Int) < (dat.length : Int)) = false := by simp; omega
        have hno : decide (2048 < dat.length) = false := by simpa using hg
        have Hno := hid hno
        clear hg hno
        go_wp2_with fail
        go_roundw
        case rel => exact ⟨k + 1, by omega, by go_num, by rw [Hstep.out, Hno.out], hbr.alloc (by omega) _⟩
        case measure => simp [intOf]; omega
    · have hfin : greatB m = decide ((40 : Int) < (m.imgs.length : Int)) := by
        have := Hpre.out
        rw [List.take_of_length_le (by omega)] at this
        unfold greatB
        rw [this]
        simp
        omega
      have Hfin := hid hfin
      clear hfin
      go_wp2_with fail
      go_ret
      exact ⟨ret_bool (by rw [Hfin.out]), hbw⟩
end Go.Proofs.Ytdgpdfigipplpaa
