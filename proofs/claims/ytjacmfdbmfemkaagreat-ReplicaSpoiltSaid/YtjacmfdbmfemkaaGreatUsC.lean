import Derived.Test.YtjacmfdbmfemkaaGreatWaI
import Derived.Test.YtjacmfdbmfemkaaGreatBld
import Derived.BigGuardPart
import Derived.Deep.DeepCutAuto
set_option linter.unusedVariables false
set_option linter.unusedSimpArgs false
namespace Go.Proofs.YtjacmfdbmfemkaaGreat
open Go.RowKit
set_option maxRecDepth 20000
structure Sh where
 kind : Int
 epoch : Int
 k : Int
 full : Bool
 pages : Int
 imgs : List Img
def SImgsAt (w : World) (v : Value) (l : List Img) : Prop :=
 ((∃ ao cap, v = .slice ao 0 cap) ∧ l = []) ∨ ∃ b off cap, v = .slice (some ⟨b, off, none⟩) l.length cap ∧ ∀ j (h : j < l.length), w.cell? ⟨b, off + j * 2, none⟩ = some (.int .i64 l[j].1) ∧ w.cell? ⟨b, off + j * 2 + 1, none⟩ = some (.string (bs l[j].2))
def mayImgs (pages : Int) : Int → List Img → Bool
 | _, [] => true
 | last, x :: r => if x.1 ≤ last ∨ pages < x.1 ∨ x.2.length ≠ 512 then false else mayImgs pages x.1 r
def mayB (m : Sh) : Bool :=
 if m.kind = 2 then !m.full && decide (m.pages = 0) && decide (m.imgs.length = 0)
 else if m.kind = 1 then !(decide (m.pages < 1) || decide (256 < m.pages) || decide (m.k = 0) || (m.full && !decide ((m.imgs.length : Int) = m.pages))) && mayImgs m.pages 0 m.imgs
 else false
def shipV (m : Sh) (v : Value) : Value := .agg #[.int .u8 m.kind, .int .u64 m.epoch, .int .u64 m.k, .bool m.full, .int .i64 m.pages, v]
set_option maxHeartbeats 400000 in
theorem may_ack (epoch k pages : Int) (full : Bool) (imgs : List Img) (v : Value) (w : World) (hv : SImgsAt w v imgs) (hn : imgs.length ≤ 9223372036854775807) :
  Calls Tryz.prog 120 #[.agg #[.int .u8 2, .int .u64 epoch, .int .u64 k, .bool full, .int .i64 pages, v]] w fun e w' => e = .returned (.bool (!full && decide (pages = 0) && decide (imgs.length = 0))) ∧ Below w.heap.size w w' := by
 obtain ⟨ao, cap, rfl⟩ : ∃ ao cap, v = .slice ao imgs.length cap := by
  rcases hv with ⟨⟨ao, cap, rfl⟩, rfl⟩ | ⟨b, off, cap, rfl, _⟩
  ·exact ⟨ao, cap, rfl⟩
  ·exact ⟨_, _, rfl⟩
 clear hv
 cases full
 ·by_cases hp : pages = 0
  ·subst hp
   by_cases h0 : imgs.length = 0
   ·have h0' : ((imgs.length : Int) == 0) = true := by simp [h0]
    go_enter Tryz.func120, Tryz.ntmps120
    go_wp2
    go_ret
    exact ⟨ret_bool (by simp [h0]), (Below.refl _ _).alloc (Nat.le_refl _) _⟩
   ·have h0' : ((imgs.length : Int) == 0) = false := by rw [beq_eq_false_iff_ne]; omega
    go_enter Tryz.func120, Tryz.ntmps120
    go_wp2
    go_ret
    exact ⟨ret_bool (by simp [h0]), (Below.refl _ _).alloc (Nat.le_refl _) _⟩
  ·have hp' : (pages == 0) = false := by simpa using hp
   go_enter Tryz.func120, Tryz.ntmps120
   go_wp2
   go_ret
   exact ⟨ret_bool (by simp [hp]), (Below.refl _ _).alloc (Nat.le_refl _) _⟩
 ·go_enter Tryz.func120, Tryz.ntmps120
  go_wp2
  go_ret
  exact ⟨ret_bool (by simp), (Below.refl _ _).alloc (Nat.le_refl _) _⟩
set_option maxHeartbeats 400000 in
theorem may_other (kind epoch k pages : Int) (full : Bool) (v : Value) (w : World) (h2 : ¬ kind = 2) (h1 : ¬ kind = 1) :
  Calls Tryz.prog 120 #[.agg #[.int .u8 kind, .int .u64 epoch, .int .u64 k, .bool full, .int .i64 pages, v]] w fun e w' => e = .returned (.bool false) ∧ Below w.heap.size w w' := by
 have h2' : (kind == 2) = false := by simpa using h2
 have h1' : (kind == 1) = false := by simpa using h1
 go_enter Tryz.func120, Tryz.ntmps120
 go_wp2
 go_ret
 exact ⟨rfl, (Below.refl _ _).alloc (Nat.le_refl _) _⟩
theorem imgs_shape {w : World} {v : Value} {l : List Img} (h : SImgsAt w v l) : ∃ ao cap, v = .slice ao l.length cap := by
 rcases h with ⟨⟨ao, cap, rfl⟩, rfl⟩ | ⟨b, off, cap, rfl, _⟩
 ·exact ⟨ao, cap, rfl⟩
 ·exact ⟨_, _, rfl⟩
theorem imgs_cell {w wr : World} {l : List Img} {ao : Option Addr} {cap : Nat} (h : SImgsAt w (.slice ao l.length cap) l) (hb : Below w.heap.size w wr) (j : Nat) (hj : j < l.length) :
  ∃ b off, ao = some ⟨b, off, none⟩ ∧ wr.cell? ⟨b, off + j * 2, none⟩ = some (.int .i64 l[j].1) ∧ wr.cell? ⟨b, off + j * 2 + 1, none⟩ = some (.string (bs l[j].2)) := by
 rcases h with ⟨h1, rfl⟩ | ⟨b, off, cap', h1, h2⟩
 ·simp at hj
 ·simp at h1
  obtain ⟨c1, c2⟩ := h2 j hj
  have hlt : b < w.heap.size := World.block_lt_of_cell? w _ c1
  exact ⟨b, off, h1.1, by rw [hb.cell (p := ⟨b, _, none⟩) hlt]; exact c1, by rw [hb.cell (p := ⟨b, _, none⟩) hlt]; exact c2⟩
attribute [irreducible] mayImgs
theorem mayImgs_nil (p q : Int) : mayImgs p q [] = true := by unfold mayImgs; rfl
theorem mayImgs_cons (p q : Int) (x : Img) (r : List Img) : mayImgs p q (x :: r) = if x.1 ≤ q ∨ p < x.1 ∨ x.2.length ≠ 512 then false else mayImgs p x.1 r := by conv => lhs; unfold mayImgs
def MayRel (l : List Img) (pages : Int) (w0 w : World) (v3 v54 : Value) (wr : World) : Prop :=
 ∃ (k : Nat) (last : Int), k ≤ l.length ∧ v54 = .int .i64 k ∧ v3 = .int .i64 last ∧ mayImgs pages last (l.drop k) = mayImgs pages 0 l ∧ Below (w0.heap.size + 1) w wr
set_option maxHeartbeats 1000000 in
theorem may_loop (epoch k pages : Int) (full : Bool) (imgs : List Img) (v : Value) (w : World) (hv : SImgsAt w v imgs) (hn : imgs.length ≤ 9223372036854775807) (hbig : ∀ x ∈ imgs, x.2.length ≤ 9223372036854775807)
  (h1 : 1 ≤ pages) (h2 : pages ≤ 256) (hk : ¬ k = 0) (hf : full = true → (imgs.length : Int) = pages) :
  Calls Tryz.prog 120 #[.agg #[.int .u8 1, .int .u64 epoch, .int .u64 k, .bool full, .int .i64 pages, v]] w fun e w' => e = .returned (.bool (mayImgs pages 0 imgs)) ∧ Below w.heap.size w w' := by
 obtain ⟨ao, cap, rfl⟩ := imgs_shape hv
 have hk' : (k == 0) = false := by simpa using hk
 have hlp : (((imgs.length : Int)) != pages) = false ∨ full = false := by
  cases full
  ·exact .inr rfl
  ·exact .inl (by simpa using hf rfl)
 have hp1 : decide (pages < 1) = false := by simp; omega
 have hp2 : decide (256 < pages) = false := by simp; omega
 have Hv := hid hv
 clear hv hf
 have body : ∀ wr : World, True := fun _ => trivial
 cases full
 ·clear hlp
  go_enter Tryz.func120, Tryz.ntmps120
  go_wp2_with fail
  go_loopw [3, 54] (fun v3 v54 wr => MayRel imgs pages w (w.alloc (.cells #[.int .u8 1, .int .u64 epoch, .int .u64 k, .bool false, .int .i64 pages, .slice ao imgs.length cap] 25)) v3 v54 wr) (fun _ v54 _ => imgs.length - (intOf v54).toNat)
  case atStart => exact ⟨0, 0, Nat.zero_le _, rfl, rfl, rfl, Below.refl _ _⟩
  case round =>
   obtain ⟨j, last, hj, rfl, rfl, hrel, hbr⟩ := hrel
   have Hrel := hid hrel
   clear hrel
   have hbw : Below w.heap.size w wr := ((Below.refl _ _).alloc (Nat.le_refl _) _).trans (hbr.mono (by omega))
   have hbox : wr.heap[w.heap.size]? = some (.cells #[.int .u8 1, .int .u64 epoch, .int .u64 k, .bool false, .int .i64 pages, .slice ao imgs.length cap] 25 (0, 0)) := (hbr.block _ (by omega)).trans (heap_alloc_new _ _)
   have hsz : w.heap.size < wr.heap.size := by have := hbr.size; simp at this; omega
   have c4 := cell_of_block hbox 4
   simp at c4
   clear hbox
   by_cases hlt : j < imgs.length
   ·obtain ⟨b, off, rfl, ci, cs⟩ := imgs_cell Hv.out hbw j hlt
    have hx := hbig imgs[j] (List.getElem_mem hlt)
    have hstep : mayImgs pages last (imgs.drop j) = if imgs[j].1 ≤ last ∨ pages < imgs[j].1 ∨ imgs[j].2.length ≠ 512 then false else mayImgs pages imgs[j].1 (imgs.drop (j + 1)) := by
     rw [← mayImgs_cons]; congr 1; exact (List.drop_eq_getElem_cons hlt)
    have Hstep := hid (Hrel.out.symm.trans hstep)
    clear hstep
    obtain ⟨x, hx1⟩ : ∃ x, x = imgs[j] := ⟨_, rfl⟩
    obtain ⟨pg, dat⟩ := x
    rw [← hx1] at ci cs hx Hstep
    simp only at ci cs hx Hstep
    clear hx1
    by_cases a1 : pg ≤ last
    ·go_wp2_with fail
     go_ret
     exact ⟨ret_bool (by rw [Hstep.out]; simp [a1]), hbw.alloc hbw.size _⟩
    ·by_cases a2 : pages < pg
     ·go_wp2_with fail
      go_ret
      exact ⟨ret_bool (by rw [Hstep.out]; simp [a2]), hbw.alloc hbw.size _⟩
     ·by_cases a3 : dat.length = 512
      ·have a4 := a3
       have a3' : ((dat.length : Int) != 512) = false := by rw [a3]; rfl
       have a2' : decide (pages < pg) = false := by simpa using a2
       have a1' : decide (pg ≤ last) = false := by simpa using a1
       have A4 := hid a4
       clear a3 a4
       go_wp2_with fail
       go_roundw
       case rel => exact ⟨j + 1, pg, by omega, by go_num, rfl, by rw [Hstep.out, if_neg (by have := A4.out; simp; omega)], hbr.alloc (by omega) _⟩
       case measure => simp [intOf]; omega
      ·have a3' : ((dat.length : Int) != 512) = true := by simp; omega
       go_wp2_with fail
       go_ret
       exact ⟨ret_bool (by rw [Hstep.out]; simp [a3]), hbw.alloc hbw.size _⟩
   ·have hend : mayImgs pages 0 imgs = true := by rw [← Hrel.out, List.drop_eq_nil_of_le (by omega), mayImgs_nil]
    have Hend := hid hend
    clear hend
    go_wp2_with fail
    go_ret
    exact ⟨ret_bool (by rw [Hend.out]), hbw⟩
 ·have hlp' : (((imgs.length : Int)) != pages) = false := hlp.elim id (fun h => absurd h (by decide))
  clear hlp
  go_enter Tryz.func120, Tryz.ntmps120
  go_wp2_with fail
  go_loopw [3, 54] (fun v3 v54 wr => MayRel imgs pages w (w.alloc (.cells #[.int .u8 1, .int .u64 epoch, .int .u64 k, .bool true, .int .i64 pages, .slice ao imgs.length cap] 25)) v3 v54 wr) (fun _ v54 _ => imgs.length - (intOf v54).toNat)
  case atStart => exact ⟨0, 0, Nat.zero_le _, rfl, rfl, rfl, Below.refl _ _⟩
  case round =>
   obtain ⟨j, last, hj, rfl, rfl, hrel, hbr⟩ := hrel
   have Hrel := hid hrel
   clear hrel
   have hbw : Below w.heap.size w wr := ((Below.refl _ _).alloc (Nat.le_refl _) _).trans (hbr.mono (by omega))
   have hbox : wr.heap[w.heap.size]? = some (.cells #[.int .u8 1, .int .u64 epoch, .int .u64 k, .bool true, .int .i64 pages, .slice ao imgs.length cap] 25 (0, 0)) := (hbr.block _ (by omega)).trans (heap_alloc_new _ _)
   have hsz : w.heap.size < wr.heap.size := by have := hbr.size; simp at this; omega
   have c4 := cell_of_block hbox 4
   simp at c4
   clear hbox
   by_cases hlt : j < imgs.length
   ·obtain ⟨b, off, rfl, ci, cs⟩ := imgs_cell Hv.out hbw j hlt
    have hx := hbig imgs[j] (List.getElem_mem hlt)
    have hstep : mayImgs pages last (imgs.drop j) = if imgs[j].1 ≤ last ∨ pages < imgs[j].1 ∨ imgs[j].2.length ≠ 512 then false else mayImgs pages imgs[j].1 (imgs.drop (j + 1)) := by
     rw [← mayImgs_cons]; congr 1; exact (List.drop_eq_getElem_cons hlt)
    have Hstep := hid (Hrel.out.symm.trans hstep)
    clear hstep
    obtain ⟨x, hx1⟩ : ∃ x, x = imgs[j] := ⟨_, rfl⟩
    obtain ⟨pg, dat⟩ := x
    rw [← hx1] at ci cs hx Hstep
    simp only at ci cs hx Hstep
    clear hx1
    by_cases a1 : pg ≤ last
    ·go_wp2_with fail
     go_ret
     exact ⟨ret_bool (by rw [Hstep.out]; simp [a1]), hbw.alloc hbw.size _⟩
    ·by_cases a2 : pages < pg
     ·go_wp2_with fail
      go_ret
      exact ⟨ret_bool (by rw [Hstep.out]; simp [a2]), hbw.alloc hbw.size _⟩
     ·by_cases a3 : dat.length = 512
      ·have a4 := a3
       have a3' : ((dat.length : Int) != 512) = false := by rw [a3]; rfl
       have a2' : decide (pages < pg) = false := by simpa using a2
       have a1' : decide (pg ≤ last) = false := by simpa using a1
       have A4 := hid a4
       clear a3 a4
       go_wp2_with fail
       go_roundw
       case rel => exact ⟨j + 1, pg, by omega, by go_num, rfl, by rw [Hstep.out, if_neg (by have := A4.out; simp; omega)], hbr.alloc (by omega) _⟩
       case measure => simp [intOf]; omega
      ·have a3' : ((dat.length : Int) != 512) = true := by simp; omega
       go_wp2_with fail
       go_ret
       exact ⟨ret_bool (by rw [Hstep.out]; simp [a3]), hbw.alloc hbw.size _⟩
   ·have hend : mayImgs pages 0 imgs = true := by rw [← Hrel.out, List.drop_eq_nil_of_le (by omega), mayImgs_nil]
    have Hend := hid hend
    clear hend
    go_wp2_with fail
    go_ret
    exact ⟨ret_bool (by rw [Hend.out]), hbw⟩
theorem mayImgs_len : ∀ (l : List Img) (pages last : Int), mayImgs pages last l = true → (l.length : Int) ≤ max 0 (pages - last) ∧ (∀ x ∈ l, x.2.length = 512 ∧ last < x.1 ∧ x.1 ≤ pages)
 | [], pages, last, _ => ⟨by simp; omega, by simp⟩
 | x :: r, pages, last, h => by
  rw [mayImgs_cons] at h
  by_cases hc : x.1 ≤ last ∨ pages < x.1 ∨ x.2.length ≠ 512
  ·rw [if_pos hc] at h; cases h
  ·rw [if_neg hc] at h
   obtain ⟨h1, h2⟩ := mayImgs_len r pages x.1 h
   refine ⟨by simp only [List.length_cons]; omega, ?_⟩
   intro y hy
   rcases List.mem_cons.1 hy with rfl | hy
   ·omega
   ·have := h2 y hy; omega
set_option maxHeartbeats 400000 in
theorem may_no1 (epoch k pages : Int) (full : Bool) (v : Value) (w : World) (h : pages < 1) :
  Calls Tryz.prog 120 #[.agg #[.int .u8 1, .int .u64 epoch, .int .u64 k, .bool full, .int .i64 pages, v]] w fun e w' => e = .returned (.bool false) ∧ Below w.heap.size w w' := by
 have h' : decide (pages < 1) = true := by simpa using h
 go_enter Tryz.func120, Tryz.ntmps120
 go_wp2
 go_ret
 exact ⟨rfl, (Below.refl _ _).alloc (Nat.le_refl _) _⟩
set_option maxHeartbeats 400000 in
theorem may_no2 (epoch k pages : Int) (full : Bool) (v : Value) (w : World) (h : 256 < pages) :
  Calls Tryz.prog 120 #[.agg #[.int .u8 1, .int .u64 epoch, .int .u64 k, .bool full, .int .i64 pages, v]] w fun e w' => e = .returned (.bool false) ∧ Below w.heap.size w w' := by
 have h0 : decide (pages < 1) = false := by simp; omega
 have h' : decide (256 < pages) = true := by simpa using h
 go_enter Tryz.func120, Tryz.ntmps120
 go_wp2
 go_ret
 exact ⟨rfl, (Below.refl _ _).alloc (Nat.le_refl _) _⟩
set_option maxHeartbeats 400000 in
theorem may_no3 (epoch pages : Int) (full : Bool) (v : Value) (w : World) (h1 : 1 ≤ pages) (h2 : pages ≤ 256) :
  Calls Tryz.prog 120 #[.agg #[.int .u8 1, .int .u64 epoch, .int .u64 0, .bool full, .int .i64 pages, v]] w fun e w' => e = .returned (.bool false) ∧ Below w.heap.size w w' := by
 have g1 : decide (pages < 1) = false := by simp; omega
 have g2 : decide (256 < pages) = false := by simp; omega
 go_enter Tryz.func120, Tryz.ntmps120
 go_wp2
 go_ret
 exact ⟨rfl, (Below.refl _ _).alloc (Nat.le_refl _) _⟩
set_option maxHeartbeats 400000 in
theorem may_no4 (epoch k pages : Int) (n cap : Nat) (ao : Option Addr) (w : World) (hn : n ≤ 9223372036854775807) (h1 : 1 ≤ pages) (h2 : pages ≤ 256) (hk : ¬ k = 0) (hl : ¬ (n : Int) = pages) :
  Calls Tryz.prog 120 #[.agg #[.int .u8 1, .int .u64 epoch, .int .u64 k, .bool true, .int .i64 pages, .slice ao n cap]] w fun e w' => e = .returned (.bool false) ∧ Below w.heap.size w w' := by
 have g1 : decide (pages < 1) = false := by simp; omega
 have g2 : decide (256 < pages) = false := by simp; omega
 have g3 : (k == 0) = false := by simpa using hk
 have g4 : ((n : Int) != pages) = true := by simpa using hl
 go_enter Tryz.func120, Tryz.ntmps120
 go_wp2
 go_ret
 exact ⟨rfl, (Below.refl _ _).alloc (Nat.le_refl _) _⟩
theorem smayS_any (m : Sh) (v : Value) (w : World) (hv : SImgsAt w v m.imgs) (hn : m.imgs.length ≤ 9223372036854775807) (hbig : ∀ x ∈ m.imgs, x.2.length ≤ 9223372036854775807) :
  Calls Tryz.prog 120 #[shipV m v] w fun e w' => e = .returned (.bool (mayB m)) ∧ Below w.heap.size w w' := by
 obtain ⟨kind, epoch, k, full, pages, imgs⟩ := m
 simp only [shipV, mayB] at *
 by_cases h2 : kind = 2
 ·subst h2
  simp only [if_true]
  exact may_ack epoch k pages full imgs v w hv (by omega)
 ·by_cases h1 : kind = 1
  ·subst h1
   rw [if_neg (by decide), if_pos rfl]
   by_cases g1 : pages < 1
   ·rw [show (!(decide (pages < 1) || decide (256 < pages) || decide (k = 0) || (full && !decide ((imgs.length : Int) = pages))) && mayImgs pages 0 imgs) = false by simp [g1]]
    exact may_no1 epoch k pages full v w g1
   ·by_cases g2 : 256 < pages
    ·rw [show (!(decide (pages < 1) || decide (256 < pages) || decide (k = 0) || (full && !decide ((imgs.length : Int) = pages))) && mayImgs pages 0 imgs) = false by simp [g2]]
     exact may_no2 epoch k pages full v w g2
    ·by_cases g3 : k = 0
     ·rw [show (!(decide (pages < 1) || decide (256 < pages) || decide (k = 0) || (full && !decide ((imgs.length : Int) = pages))) && mayImgs pages 0 imgs) = false by simp [g3]]
      subst g3
      exact may_no3 epoch pages full v w (by omega) (by omega)
     ·by_cases g4 : full = true ∧ ¬ (imgs.length : Int) = pages
      ·rw [show (!(decide (pages < 1) || decide (256 < pages) || decide (k = 0) || (full && !decide ((imgs.length : Int) = pages))) && mayImgs pages 0 imgs) = false by simp [g4.1, g4.2]]
       obtain ⟨ao, cap, rfl⟩ := imgs_shape hv
       rw [g4.1]
       exact may_no4 epoch k pages imgs.length cap ao w hn (by omega) (by omega) g3 g4.2
      ·have e : (!(decide (pages < 1) || decide (256 < pages) || decide (k = 0) || (full && !decide ((imgs.length : Int) = pages))) && mayImgs pages 0 imgs) = mayImgs pages 0 imgs := by
        have : (full && !decide ((imgs.length : Int) = pages)) = false := by cases full <;> simp_all
        simp [g1, g2, g3, this]
       rw [e]
       exact may_loop epoch k pages full imgs v w hv hn hbig (by omega) (by omega) g3 (by intro hf; by_cases hh : (imgs.length : Int) = pages; exact hh; exact absurd ⟨hf, hh⟩ g4)
  ·rw [if_neg h2, if_neg h1]
   exact may_other kind epoch k pages full v w h2 h1
def wordsL (ns : List Int) : List UInt8 := (ns.map eight).flatten
theorem wordsL_snoc (ns : List Int) (n : Int) : wordsL (ns ++ [n]) = wordsL ns ++ eight n := by simp [wordsL]
theorem eight_lengthS (n : Int) : (eight n).length = 8 := rfl
theorem wordsL_length : ∀ ns : List Int, (wordsL ns).length = 8 * ns.length
 | [] => rfl
 | n :: ns => by
  have := wordsL_length ns
  simp only [wordsL, List.map_cons, List.flatten_cons, List.length_append, eight_lengthS, List.length_cons] at *
  omega
theorem bld_kept {B b : Nat} {l : List UInt8} {w w1 : World} (h : BldF B b l w) (hb : Below w.heap.size w w1) : BldF B b l w1 := by
 have hg : w.grownBy w1 none := ⟨hb.os, hb.tape, hb.output, hb.size, fun k hk _ => hb.block k hk⟩
 rcases h with ⟨hB, v, hbk, hown, hne⟩ | ⟨hB, v, hbk, hown, hne⟩
 ·exact .inl ⟨hB, v, (hb.block _ (lt_of_block hbk)).trans hbk, hown.kept hg (by cases v.ownBlock <;> simp), hne⟩
 ·exact .inr ⟨hB, v, (hb.block _ (lt_of_block hbk)).trans hbk, hown.kept hg (by cases v.ownBlock <;> simp), hne⟩
def WordsRel (ns : List Int) (w : World) (v8 : Value) (wr : World) : Prop :=
 ∃ k : Nat, k ≤ ns.length ∧ v8 = .int .i64 k ∧ BldF w.heap.size w.heap.size (wordsL (ns.take k)) wr ∧ Below w.heap.size w wr
set_option maxHeartbeats 1000000 in
theorem words_text (ns : List Int) (g cap : Nat) (w : World) (hn : ns.length ≤ 1000) (hc : ∀ j (h : j < ns.length), w.cell? ⟨g, j, none⟩ = some (.int .u64 ns[j])) (hlo : ∀ n ∈ ns, 0 ≤ n ∧ n < 18446744073709551616) :
  Calls Tryz.prog 121 #[.slice (some ⟨g, 0, none⟩) ns.length cap] w fun e w' => e = .returned (.string (bs (wordsL ns))) ∧ Below w.heap.size w w' := by
 have Hc := hid hc
 have Hlo := hid hlo
 clear hc hlo
 go_enter Tryz.func121, Tryz.ntmps121
 go_wp2_with fail
 go_loopw [8] (fun v8 wr => WordsRel ns w v8 wr) (fun v8 _ => ns.length - (intOf v8).toNat)
 case atStart => exact ⟨0, Nat.zero_le _, rfl, fresh_bld w, (Below.refl _ _).alloc (Nat.le_refl _) _⟩
 case round =>
  obtain ⟨k, hk, rfl, hbld, hb⟩ := hrel
  by_cases hlt : k < ns.length
  ·have c0 := Hc.out k hlt
   have hgl : g < w.heap.size := World.block_lt_of_cell? w _ c0
   rw [← hb.cell (p := ⟨g, k, none⟩) hgl] at c0
   obtain ⟨n0, n1⟩ := Hlo.out ns[k] (List.getElem_mem hlt)
   have hstep : wordsL (ns.take (k + 1)) = wordsL (ns.take k) ++ eight ns[k] := by rw [List.take_succ_eq_append_getElem hlt, wordsL_snoc]
   have Hstep := hid hstep
   obtain ⟨x, hx⟩ : ∃ x, x = ns[k] := ⟨_, rfl⟩
   rw [← hx] at c0 n0 n1 Hstep
   have hl8 := eight_lengthS x
   have hlk : (wordsL (ns.take k)).length ≤ 8000 := by rw [wordsL_length]; simp; omega
   have HH := hid hl8
   clear hstep hx hl8
   go_wp2_with fail
   refine (eight_any x _ n0 n1).mono ?_
   rintro e w1 ⟨rfl, hb1⟩
   have hbld1 := bld_kept hbld hb1
   have hb2 := hb.trans (hb1.mono hb.size)
   clear hbld hb1 hb c0
   go_wp2_with fail
   refine (writeString_any _ _ _ _ _ hbld1 (by rw [HH.out]; omega) hb2.size).mono ?_
   rintro e w2 ⟨rfl, hbld2, hf2⟩
   have hb3 := hb2.trans (ws_below hf2 hb2.size)
   clear hbld1 hb2 hf2
   rw [← Hstep.out] at hbld2
   go_wp2_with fail
   go_roundw
   case rel => exact ⟨k + 1, by omega, by go_num, hbld2, hb3⟩
   case measure => simp [intOf]; omega
  ·have hend : ns.take k = ns := List.take_of_length_le (by omega)
   rw [hend] at hbld
   go_wp2_with fail
   refine (string_any _ _ _ _ hbld hb.size).mono ?_
   rintro e w1 ⟨rfl, hb1⟩
   go_wp2_with fail
   go_ret
   exact ⟨rfl, hb.trans hb1⟩
end Go.Proofs.YtjacmfdbmfemkaaGreat
namespace Go.Proofs.YtjacmfdbmfemkaaGreat
open Go.RowKit
set_option maxRecDepth 20000
def imgsL (l : List Img) : List UInt8 := (l.map fun x => eight x.1 ++ x.2).flatten
theorem imgsL_snoc (l : List Img) (x : Img) : imgsL (l ++ [x]) = imgsL l ++ (eight x.1 ++ x.2) := by simp [imgsL]
theorem imgsL_length : ∀ l : List Img, (∀ x ∈ l, x.2.length = 512) → (imgsL l).length = 520 * l.length
 | [], _ => rfl
 | x :: l, h => by
  have := imgsL_length l (fun y hy => h y (by simp [hy]))
  have h2 := h x (by simp)
  simp only [imgsL, List.map_cons, List.flatten_cons, List.length_append, eight_lengthS, List.length_cons, h2] at *
  omega
def headL (m : Sh) : List UInt8 := wordsL [m.kind, m.epoch, m.k, if m.full then 1 else 0, m.pages, (m.imgs.length : Int)]
theorem headL_length (m : Sh) : (headL m).length = 48 := by unfold headL; rw [wordsL_length]; rfl
def bodyL (m : Sh) : List UInt8 := headL m ++ imgsL m.imgs
def putL (m : Sh) : List UInt8 := textOf (sumAdd (0, 0) (bodyL m)) ++ bodyL m
theorem stepSum_bdS (p : Int × Int) (x y : Int) : (0 ≤ (stepSum p x y).1 ∧ (stepSum p x y).1 < 4294967296) ∧ (0 ≤ (stepSum p x y).2 ∧ (stepSum p x y).2 < 4294967296) := by
 unfold stepSum; simp only; omega
theorem sumN_bdS : ∀ (n : Nat) (p : Int × Int) (l : List UInt8), (0 ≤ p.1 ∧ p.1 < 4294967296) → (0 ≤ p.2 ∧ p.2 < 4294967296) → (0 ≤ (sumN n p l).1 ∧ (sumN n p l).1 < 4294967296) ∧ (0 ≤ (sumN n p l).2 ∧ (sumN n p l).2 < 4294967296)
 | 0, p, l, h1, h2 => ⟨h1, h2⟩
 | n + 1, p, l, h1, h2 => by
  unfold sumN
  split
  ·exact ⟨h1, h2⟩
  ·exact sumN_bdS n _ _ (stepSum_bdS p _ _).1 (stepSum_bdS p _ _).2
theorem sumAdd_bdS (p : Int × Int) (l : List UInt8) (h1 : 0 ≤ p.1 ∧ p.1 < 4294967296) (h2 : 0 ≤ p.2 ∧ p.2 < 4294967296) : (0 ≤ (sumAdd p l).1 ∧ (sumAdd p l).1 < 4294967296) ∧ (0 ≤ (sumAdd p l).2 ∧ (sumAdd p l).2 < 4294967296) := by
 unfold sumAdd; exact sumN_bdS _ _ _ h1 h2
def ShWf (m : Sh) : Prop := (0 ≤ m.kind ∧ m.kind < 256) ∧ (0 ≤ m.epoch ∧ m.epoch < 18446744073709551616) ∧ (0 ≤ m.k ∧ m.k < 18446744073709551616)
theorem imgs_kept {w w1 : World} {v : Value} {l : List Img} (h : SImgsAt w v l) (hb : Below w.heap.size w w1) : SImgsAt w1 v l := by
 rcases h with h | ⟨b, off, cap, rfl, h⟩
 ·exact .inl h
 ·refine .inr ⟨b, off, cap, rfl, fun j hj => ?_⟩
  obtain ⟨c1, c2⟩ := h j hj
  have hlt : b < w.heap.size := World.block_lt_of_cell? w _ c1
  exact ⟨by rw [hb.cell (p := ⟨b, _, none⟩) hlt]; exact c1, by rw [hb.cell (p := ⟨b, _, none⟩) hlt]; exact c2⟩
theorem may_facts (m : Sh) (h : mayB m = true) : (0 ≤ m.pages ∧ m.pages ≤ 256) ∧ m.imgs.length ≤ 256 ∧ ∀ x ∈ m.imgs, x.2.length = 512 ∧ 0 < x.1 ∧ x.1 ≤ 256 := by
 unfold mayB at h
 by_cases h2 : m.kind = 2
 ·rw [if_pos h2] at h
  simp at h
  obtain ⟨⟨_, hp⟩, hi⟩ := h
  rw [hp, hi]
  simp
 ·rw [if_neg h2] at h
  by_cases h1 : m.kind = 1
  ·rw [if_pos h1] at h
   simp at h
   obtain ⟨⟨⟨⟨h3, h4⟩, _⟩, _⟩, h5⟩ := h
   obtain ⟨g1, g2⟩ := mayImgs_len m.imgs m.pages 0 h5
   refine ⟨⟨by omega, by omega⟩, by omega, fun x hx => ?_⟩
   have := g2 x hx
   exact ⟨this.1, by omega, by omega⟩
  ·rw [if_neg h1] at h
   cases h
theorem words_text' (ns : List Int) (n g cap : Nat) (w : World) (hl : ns.length = n) (hn : n ≤ 1000) (hc : ∀ j (h : j < ns.length), w.cell? ⟨g, j, none⟩ = some (.int .u64 ns[j])) (hlo : ∀ n ∈ ns, 0 ≤ n ∧ n < 18446744073709551616) :
  Calls Tryz.prog 121 #[.slice (some ⟨g, 0, none⟩) n cap] w fun e w' => e = .returned (.string (bs (wordsL ns))) ∧ Below w.heap.size w w' := by
 subst hl
 exact words_text ns g cap w hn hc hlo
set_option maxHeartbeats 400000 in
theorem sputS_no (m : Sh) (v : Value) (w : World) (hv : SImgsAt w v m.imgs) (hn : m.imgs.length ≤ 9223372036854775807) (hbig : ∀ x ∈ m.imgs, x.2.length ≤ 9223372036854775807) (hno : mayB m = false) :
  Calls Tryz.prog 78 #[shipV m v] w fun e w' => e = .returned (.tuple #[.string (bs []), .int .i64 2]) ∧ Below w.heap.size w w' := by
 obtain ⟨ao, cap, rfl⟩ := imgs_shape hv
 have hm := fun W hW => smayS_any m (.slice ao m.imgs.length cap) W hW hn hbig
 rw [hno] at hm
 have Hm := hid hm
 have Hv := hid hv
 clear hm hv hno
 unfold shipV at Hm ⊢
 go_enter Tryz.func78, Tryz.ntmps78
 go_wp2_with fail
 refine (Hm.out _ ?_).mono ?_
 ·exact imgs_kept Hv.out ((Below.refl _ _).alloc (Nat.le_refl _) _)
 rintro e w1 ⟨rfl, hb1⟩
 go_wp2_with fail
 go_ret2
 exact ⟨rfl, ((Below.refl _ _).alloc (Nat.le_refl _) _).trans (hb1.mono (by simp))⟩
theorem Lib.BuilderAtF.alloc' {B b : Nat} {l : List UInt8} {w : World} (h : BldF B b l w) (o : Obj) : BldF B b l (w.alloc o) :=
 bld_kept h ((Below.refl _ _).alloc (Nat.le_refl _) _)
theorem bld_lt {B b : Nat} {l : List UInt8} {w : World} (h : BldF B b l w) : b < w.heap.size := by
 rcases h with ⟨_, v, hb, _⟩ | ⟨_, v, hb, _⟩ <;> exact lt_of_block hb
def PutRel (m : Sh) (b : Nat) (w1 : World) (v35 : Value) (wr : World) : Prop :=
 ∃ j : Nat, j ≤ m.imgs.length ∧ v35 = .int .i64 j ∧ BldF b b (headL m ++ imgsL (m.imgs.take j)) wr ∧ Below b w1 wr
set_option maxHeartbeats 2000000 in
theorem sputS_yes (m : Sh) (v : Value) (w : World) (hv : SImgsAt w v m.imgs) (hyes : mayB m = true) (hwf : ShWf m) :
  Calls Tryz.prog 78 #[shipV m v] w fun e w' => e = .returned (.tuple #[.string (bs (putL m)), .int .i64 0]) ∧ Below w.heap.size w w' := by
 obtain ⟨⟨p0, p1⟩, hn, himg⟩ := may_facts m hyes
 obtain ⟨⟨k0, k1⟩, ⟨e0, e1⟩, ⟨kk0, kk1⟩⟩ := hwf
 obtain ⟨ao, cap, rfl⟩ := imgs_shape hv
 have hm := fun W hW => smayS_any m (.slice ao m.imgs.length cap) W hW (by omega) (fun x hx => by have := (himg x hx).1; omega)
 rw [hyes] at hm
 have Hm := hid hm
 have Hv := hid hv
 have Himg := hid himg
 clear hm hv hyes himg
 have Hhead : Hid (headL m = wordsL [m.kind, m.epoch, m.k, if m.full then 1 else 0, m.pages, (m.imgs.length : Int)]) := rfl
 unfold shipV at Hm ⊢
 go_enter Tryz.func78, Tryz.ntmps78
 go_wp2_with fail
 refine (Hm.out _ ?_).mono ?_
 ·exact imgs_kept Hv.out ((Below.refl _ _).alloc (Nat.le_refl _) _)
 rintro e w1 ⟨rfl, hb1⟩
 have hbw : Below w.heap.size w w1 := ((Below.refl _ _).alloc (Nat.le_refl _) _).trans (hb1.mono (by simp))
 have hbox := (hb1.block w.heap.size (by simp)).trans (heap_alloc_new _ _)
 have hsz : w.heap.size < w1.heap.size := by have := hb1.size; simp at this; omega
 have c0 := cell_of_block hbox 0
 have c1 := cell_of_block hbox 1
 have c2 := cell_of_block hbox 2
 have c3 := cell_of_block hbox 3
 have c4 := cell_of_block hbox 4
 have c5 := cell_of_block hbox 5
 simp at c0 c1 c2 c3 c4 c5
 clear hb1 Hm hbox
 by_cases hfull : m.full = true
 ·rw [hfull] at c3 Hhead
  rw [if_pos rfl] at Hhead
  clear hfull
  go_wp2_with fail
  refine (words_text' [m.kind, m.epoch, m.k, 1, m.pages, (m.imgs.length : Int)] 6 _ 6 _ rfl (by omega) ?_ ?_).mono ?_
  ·intro j hj
   simp only [List.length_cons, List.length_nil] at hj
   match j, hj with
   | 0, _ => simp
   | 1, _ => simp
   | 2, _ => simp
   | 3, _ => simp
   | 4, _ => simp
   | 5, _ => simp
  ·intro n hn'
   simp only [List.mem_cons, List.not_mem_nil, or_false] at hn'
   rcases hn' with rfl | rfl | rfl | rfl | rfl | rfl <;> omega
  rintro e w2 ⟨rfl, hb2⟩
  have hbld2 : BldF w1.heap.size w1.heap.size [] w2 := bld_kept (Lib.BuilderAtF.alloc' (fresh_bld w1) _) hb2
  have hB2 : Below w1.heap.size w1 w2 := (((Below.refl _ _).alloc (Nat.le_refl _) _).alloc (by simp) _).trans (hb2.mono (by simp; omega))
  have hl := wordsL_length [m.kind, m.epoch, m.k, 1, m.pages, (m.imgs.length : Int)]
  have Hl := hid hl
  clear hl hb2 c0 c1 c2 c3 c4
  go_wp2_with fail
  refine (writeString_any _ _ _ _ _ hbld2 (by rw [Hl.out]; simp) hB2.size).mono ?_
  rintro e w3 ⟨rfl, hbld3, hf3⟩
  have hB3 := hB2.trans (ws_below hf3 hB2.size)
  have d5 : w3.cell? ⟨w.heap.size, 5, none⟩ = some (.slice ao m.imgs.length cap) := by rw [hB3.cell (p := ⟨w.heap.size, 5, none⟩) hsz]; exact c5
  clear hbld2 hB2 hf3 c5 Hl
  rw [List.nil_append, ← Hhead.out] at hbld3
  go_wp2_with fail
  clear d5
  go_loopw [35] (fun v35 wr => PutRel m w1.heap.size w1 v35 wr) (fun v35 _ => m.imgs.length - (intOf v35).toNat)
  case atStart => exact ⟨0, Nat.zero_le _, rfl, by simpa [imgsL] using hbld3, hB3⟩
  case round =>
   obtain ⟨j, hj, rfl, hbld, hB⟩ := hrel
   clear hbld3 hB3
   by_cases hlt : j < m.imgs.length
   ·obtain ⟨b, off, rfl, ci, cs⟩ := imgs_cell Hv.out (hbw.trans (hB.mono (by omega))) j hlt
    have hx := Himg.out m.imgs[j] (List.getElem_mem hlt)
    have hstep : imgsL (m.imgs.take (j + 1)) = imgsL (m.imgs.take j) ++ (eight m.imgs[j].1 ++ m.imgs[j].2) := by rw [List.take_succ_eq_append_getElem hlt, imgsL_snoc]
    have hlen : (headL m ++ imgsL (m.imgs.take j)).length ≤ 48 + 520 * 256 := by
     rw [List.length_append, headL_length, imgsL_length _ (fun x hx => (Himg.out x (List.mem_of_mem_take hx)).1)]
     simp; omega
    have Hstep := hid hstep
    have Hlen := hid hlen
    clear hstep hlen
    obtain ⟨x, hx1⟩ : ∃ x, x = m.imgs[j] := ⟨_, rfl⟩
    obtain ⟨pg, dat⟩ := x
    rw [← hx1] at ci cs hx Hstep
    simp only at ci cs hx Hstep
    clear hx1
    obtain ⟨hd, hpg0, hpg1⟩ := hx
    have Hd := hid hd
    clear hd
    go_wp2_with fail
    refine (words_text' [pg] 1 _ 1 _ rfl (by omega) ?_ ?_).mono ?_
    ·intro i hi
     simp only [List.length_cons, List.length_nil] at hi
     match i, hi with
     | 0, _ => simp
    ·intro n hn'
     simp only [List.mem_cons, List.not_mem_nil, or_false] at hn'
     subst hn'
     omega
    rintro e w4 ⟨rfl, hb4⟩
    have hbld4 := bld_kept (Lib.BuilderAtF.alloc' (Lib.BuilderAtF.alloc' hbld _) _) hb4
    have hB4 : Below w1.heap.size w1 w4 := ((hB.alloc hB.size _).alloc (by simp; have := hB.size; omega) _).trans (hb4.mono (by simp; have := hB.size; omega))
    have hx4 := (hb4.block wr.heap.size (by simp only [World.size_alloc]; omega)).trans (heap_alloc_old (heap_alloc_new _ _))
    have hne : wr.heap.size ≠ w1.heap.size := by have := bld_lt hbld; omega
    clear hb4 hbld hB ci cs
    have hw8 := wordsL_length [pg]
    have Hw8 := hid hw8
    clear hw8
    go_wp2_with fail
    refine (writeString_any _ _ _ _ _ hbld4 (by rw [Hw8.out]; have := Hlen.out; simp only [List.length_cons, List.length_nil]; omega) hB4.size).mono ?_
    rintro e w5 ⟨rfl, hbld5, hf5⟩
    have hB5 := hB4.trans (ws_below hf5 hB4.size)
    have hx5 := ws_keeps hf5 hx4 (by decide) hne
    have e1 := cell_of_block hx5 1
    simp at e1
    clear hbld4 hB4 hf5 hx5 hx4 hne
    go_wp2_with fail
    refine (writeString_any _ _ _ _ _ hbld5 (by rw [List.length_append, Hw8.out, Hd.out]; have := Hlen.out; simp only [List.length_cons, List.length_nil]; omega) hB5.size).mono ?_
    rintro e w6 ⟨rfl, hbld6, hf6⟩
    have hB6 := hB5.trans (ws_below hf6 hB5.size)
    clear hbld5 hB5 hf6 e1
    have hbld7 : BldF w1.heap.size w1.heap.size (headL m ++ imgsL (m.imgs.take (j + 1))) w6 := by
     rw [Hstep.out, ← List.append_assoc, ← List.append_assoc]
     have : wordsL [pg] = eight pg := by simp [wordsL]
     rw [this] at hbld6
     exact hbld6
    clear hbld6
    go_wp2_with fail
    go_roundw
    case rel => exact ⟨j + 1, by omega, by go_num, hbld7, hB6⟩
    case measure => simp [intOf]; omega
   ·have hend : m.imgs.take j = m.imgs := List.take_of_length_le (by omega)
    rw [hend] at hbld
    have hbody : headL m ++ imgsL m.imgs = bodyL m := rfl
    rw [hbody] at hbld
    have hblen : (bodyL m).length ≤ 9223372036854775807 - 8 := by
     unfold bodyL
     rw [List.length_append, headL_length, imgsL_length _ (fun x hx => (Himg.out x hx).1)]
     omega
    have hbd := sumAdd_bdS (0, 0) (bodyL m) (by decide) (by decide)
    have hput : putL m = textOf (sumAdd (0, 0) (bodyL m)) ++ bodyL m := rfl
    have Hput := hid hput
    have htl : (textOf (sumAdd (0, 0) (bodyL m))).length = 8 := rfl
    have Htl := hid htl
    obtain ⟨q, hq⟩ : ∃ q, q = sumAdd (0, 0) (bodyL m) := ⟨_, rfl⟩
    have hof := of_any (bodyL m)
    rw [← hq] at hbd Hput Htl hof
    have Hof := hid hof
    obtain ⟨B, hBd⟩ : ∃ B, B = bodyL m := ⟨_, rfl⟩
    rw [← hBd] at hbld hblen Hput Hof
    obtain ⟨⟨q0, q1⟩, q2, q3⟩ := hbd
    clear hq hBd hput htl hof hend hbody
    go_wp2_with fail
    refine (string_any _ _ _ _ hbld hB.size).mono ?_
    rintro e w4 ⟨rfl, hb4⟩
    have hB4 := hB.trans hb4
    clear hb4 hbld hB
    go_wp2_with fail
    refine (Hof.out _ (by omega)).mono ?_
    rintro e w5 ⟨rfl, hb5⟩
    have hB5 := hB4.trans (hb5.mono hB4.size)
    clear hb5 hB4
    go_wp2_with fail
    refine (text_any q _ q0 q1 q2 q3).mono ?_
    rintro e w6 ⟨rfl, hb6⟩
    have hB6 := hB5.trans (hb6.mono hB5.size)
    clear hb6 hB5
    have htl2 := Htl.out
    have hsum : (textOf q).length + B.length ≤ 9223372036854775807 := by omega
    clear htl2
    go_wp2_with fail
    go_ret2
    exact ⟨by rw [Hput.out]; rfl, hbw.trans (hB6.mono (by omega))⟩
 ·have hfull' : m.full = false := by simpa using hfull
  rw [hfull'] at c3 Hhead
  rw [if_neg (by decide)] at Hhead
  clear hfull hfull'
  go_wp2_with fail
  refine (words_text' [m.kind, m.epoch, m.k, 0, m.pages, (m.imgs.length : Int)] 6 _ 6 _ rfl (by omega) ?_ ?_).mono ?_
  ·intro j hj
   simp only [List.length_cons, List.length_nil] at hj
   match j, hj with
   | 0, _ => simp
   | 1, _ => simp
   | 2, _ => simp
   | 3, _ => simp
   | 4, _ => simp
   | 5, _ => simp
  ·intro n hn'
   simp only [List.mem_cons, List.not_mem_nil, or_false] at hn'
   rcases hn' with rfl | rfl | rfl | rfl | rfl | rfl <;> omega
  rintro e w2 ⟨rfl, hb2⟩
  have hbld2 : BldF w1.heap.size w1.heap.size [] w2 := bld_kept (Lib.BuilderAtF.alloc' (fresh_bld w1) _) hb2
  have hB2 : Below w1.heap.size w1 w2 := (((Below.refl _ _).alloc (Nat.le_refl _) _).alloc (by simp) _).trans (hb2.mono (by simp; omega))
  have hl := wordsL_length [m.kind, m.epoch, m.k, 0, m.pages, (m.imgs.length : Int)]
  have Hl := hid hl
  clear hl hb2 c0 c1 c2 c3 c4
  go_wp2_with fail
  refine (writeString_any _ _ _ _ _ hbld2 (by rw [Hl.out]; simp) hB2.size).mono ?_
  rintro e w3 ⟨rfl, hbld3, hf3⟩
  have hB3 := hB2.trans (ws_below hf3 hB2.size)
  have d5 : w3.cell? ⟨w.heap.size, 5, none⟩ = some (.slice ao m.imgs.length cap) := by rw [hB3.cell (p := ⟨w.heap.size, 5, none⟩) hsz]; exact c5
  clear hbld2 hB2 hf3 c5 Hl
  rw [List.nil_append, ← Hhead.out] at hbld3
  go_wp2_with fail
  clear d5
  go_loopw [35] (fun v35 wr => PutRel m w1.heap.size w1 v35 wr) (fun v35 _ => m.imgs.length - (intOf v35).toNat)
  case atStart => exact ⟨0, Nat.zero_le _, rfl, by simpa [imgsL] using hbld3, hB3⟩
  case round =>
   obtain ⟨j, hj, rfl, hbld, hB⟩ := hrel
   clear hbld3 hB3
   by_cases hlt : j < m.imgs.length
   ·obtain ⟨b, off, rfl, ci, cs⟩ := imgs_cell Hv.out (hbw.trans (hB.mono (by omega))) j hlt
    have hx := Himg.out m.imgs[j] (List.getElem_mem hlt)
    have hstep : imgsL (m.imgs.take (j + 1)) = imgsL (m.imgs.take j) ++ (eight m.imgs[j].1 ++ m.imgs[j].2) := by rw [List.take_succ_eq_append_getElem hlt, imgsL_snoc]
    have hlen : (headL m ++ imgsL (m.imgs.take j)).length ≤ 48 + 520 * 256 := by
     rw [List.length_append, headL_length, imgsL_length _ (fun x hx => (Himg.out x (List.mem_of_mem_take hx)).1)]
     simp; omega
    have Hstep := hid hstep
    have Hlen := hid hlen
    clear hstep hlen
    obtain ⟨x, hx1⟩ : ∃ x, x = m.imgs[j] := ⟨_, rfl⟩
    obtain ⟨pg, dat⟩ := x
    rw [← hx1] at ci cs hx Hstep
    simp only at ci cs hx Hstep
    clear hx1
    obtain ⟨hd, hpg0, hpg1⟩ := hx
    have Hd := hid hd
    clear hd
    go_wp2_with fail
    refine (words_text' [pg] 1 _ 1 _ rfl (by omega) ?_ ?_).mono ?_
    ·intro i hi
     simp only [List.length_cons, List.length_nil] at hi
     match i, hi with
     | 0, _ => simp
    ·intro n hn'
     simp only [List.mem_cons, List.not_mem_nil, or_false] at hn'
     subst hn'
     omega
    rintro e w4 ⟨rfl, hb4⟩
    have hbld4 := bld_kept (Lib.BuilderAtF.alloc' (Lib.BuilderAtF.alloc' hbld _) _) hb4
    have hB4 : Below w1.heap.size w1 w4 := ((hB.alloc hB.size _).alloc (by simp; have := hB.size; omega) _).trans (hb4.mono (by simp; have := hB.size; omega))
    have hx4 := (hb4.block wr.heap.size (by simp only [World.size_alloc]; omega)).trans (heap_alloc_old (heap_alloc_new _ _))
    have hne : wr.heap.size ≠ w1.heap.size := by have := bld_lt hbld; omega
    clear hb4 hbld hB ci cs
    have hw8 := wordsL_length [pg]
    have Hw8 := hid hw8
    clear hw8
    go_wp2_with fail
    refine (writeString_any _ _ _ _ _ hbld4 (by rw [Hw8.out]; have := Hlen.out; simp only [List.length_cons, List.length_nil]; omega) hB4.size).mono ?_
    rintro e w5 ⟨rfl, hbld5, hf5⟩
    have hB5 := hB4.trans (ws_below hf5 hB4.size)
    have hx5 := ws_keeps hf5 hx4 (by decide) hne
    have e1 := cell_of_block hx5 1
    simp at e1
    clear hbld4 hB4 hf5 hx5 hx4 hne
    go_wp2_with fail
    refine (writeString_any _ _ _ _ _ hbld5 (by rw [List.length_append, Hw8.out, Hd.out]; have := Hlen.out; simp only [List.length_cons, List.length_nil]; omega) hB5.size).mono ?_
    rintro e w6 ⟨rfl, hbld6, hf6⟩
    have hB6 := hB5.trans (ws_below hf6 hB5.size)
    clear hbld5 hB5 hf6 e1
    have hbld7 : BldF w1.heap.size w1.heap.size (headL m ++ imgsL (m.imgs.take (j + 1))) w6 := by
     rw [Hstep.out, ← List.append_assoc, ← List.append_assoc]
     have : wordsL [pg] = eight pg := by simp [wordsL]
     rw [this] at hbld6
     exact hbld6
    clear hbld6
    go_wp2_with fail
    go_roundw
    case rel => exact ⟨j + 1, by omega, by go_num, hbld7, hB6⟩
    case measure => simp [intOf]; omega
   ·have hend : m.imgs.take j = m.imgs := List.take_of_length_le (by omega)
    rw [hend] at hbld
    have hbody : headL m ++ imgsL m.imgs = bodyL m := rfl
    rw [hbody] at hbld
    have hblen : (bodyL m).length ≤ 9223372036854775807 - 8 := by
     unfold bodyL
     rw [List.length_append, headL_length, imgsL_length _ (fun x hx => (Himg.out x hx).1)]
     omega
    have hbd := sumAdd_bdS (0, 0) (bodyL m) (by decide) (by decide)
    have hput : putL m = textOf (sumAdd (0, 0) (bodyL m)) ++ bodyL m := rfl
    have Hput := hid hput
    have htl : (textOf (sumAdd (0, 0) (bodyL m))).length = 8 := rfl
    have Htl := hid htl
    obtain ⟨q, hq⟩ : ∃ q, q = sumAdd (0, 0) (bodyL m) := ⟨_, rfl⟩
    have hof := of_any (bodyL m)
    rw [← hq] at hbd Hput Htl hof
    have Hof := hid hof
    obtain ⟨B, hBd⟩ : ∃ B, B = bodyL m := ⟨_, rfl⟩
    rw [← hBd] at hbld hblen Hput Hof
    obtain ⟨⟨q0, q1⟩, q2, q3⟩ := hbd
    clear hq hBd hput htl hof hend hbody
    go_wp2_with fail
    refine (string_any _ _ _ _ hbld hB.size).mono ?_
    rintro e w4 ⟨rfl, hb4⟩
    have hB4 := hB.trans hb4
    clear hb4 hbld hB
    go_wp2_with fail
    refine (Hof.out _ (by omega)).mono ?_
    rintro e w5 ⟨rfl, hb5⟩
    have hB5 := hB4.trans (hb5.mono hB4.size)
    clear hb5 hB4
    go_wp2_with fail
    refine (text_any q _ q0 q1 q2 q3).mono ?_
    rintro e w6 ⟨rfl, hb6⟩
    have hB6 := hB5.trans (hb6.mono hB5.size)
    clear hb6 hB5
    have htl2 := Htl.out
    have hsum : (textOf q).length + B.length ≤ 9223372036854775807 := by omega
    clear htl2
    go_wp2_with fail
    go_ret2
    exact ⟨by rw [Hput.out]; rfl, hbw.trans (hB6.mono (by omega))⟩
structure ShIn (w : World) (m : Sh) (v : Value) : Prop where
 at' : SImgsAt w v m.imgs
 n : m.imgs.length ≤ 9223372036854775807
 big : ∀ x ∈ m.imgs, x.2.length ≤ 9223372036854775807
 wf : ShWf m
theorem ShIn.kept {w w1 : World} {m : Sh} {v : Value} (h : ShIn w m v) (hb : Below w.heap.size w w1) : ShIn w1 m v := ⟨imgs_kept h.at' hb, h.n, h.big, h.wf⟩
theorem sputS_any (m : Sh) (v : Value) (w : World) (h : ShIn w m v) :
  Calls Tryz.prog 78 #[shipV m v] w fun e w' => (∃ s, e = .returned (.tuple #[.string s, .int .i64 (if mayB m then 0 else 2)])) ∧ Below w.heap.size w w' := by
 cases hm : mayB m
 ·refine (sputS_no m v w h.at' h.n h.big hm).mono fun e w' hh => ?_
  obtain ⟨rfl, hb⟩ := hh
  exact ⟨⟨_, rfl⟩, hb⟩
 ·refine (sputS_yes m v w h.at' hm h.wf).mono fun e w' hh => ?_
  obtain ⟨rfl, hb⟩ := hh
  exact ⟨⟨_, rfl⟩, hb⟩
end Go.Proofs.YtjacmfdbmfemkaaGreat
namespace Go.Proofs.YtjacmfdbmfemkaaGreat
open Go.RowKit
set_option maxRecDepth 20000
instance : DecidableEq Img := fun a b => decidable_of_iff (a.page = b.page ∧ a.data = b.data) (by cases a; cases b; simp)
end Go.Proofs.YtjacmfdbmfemkaaGreat
namespace Go.Proofs.YtjacmfdbmfemkaaGreat
open Go.RowKit
set_option maxRecDepth 20000
theorem mayImgs_room (p : Int) : ∀ (l : List Img) (q : Int), q ≤ p → mayImgs p q l = true → (l.length : Int) ≤ p - q
 | [], q, hq, _ => by simp; omega
 | x :: r, q, hq, h => by
  rw [mayImgs_cons] at h
  split at h
  ·cases h
  ·rename_i hn
   have := mayImgs_room p r x.1 (by omega) h
   simp only [List.length_cons]
   omega
theorem mayImgs_full (p : Int) : ∀ (l : List Img) (q : Int), q ≤ p → mayImgs p q l = true → (l.length : Int) = p - q → ∀ (j : Nat) (hj : j < l.length), l[j].1 = q + j + 1
 | [], q, hq, _, _, j, hj => by simp at hj
 | x :: r, q, hq, h, hl, j, hj => by
  rw [mayImgs_cons] at h
  split at h
  ·cases h
  ·rename_i hn
   have h1 := mayImgs_room p r x.1 (by omega) h
   simp only [List.length_cons] at hl
   have hx : x.1 = q + 1 := by omega
   match j, hj with
   | 0, _ => simpa using hx
   | j + 1, hj =>
    have h2 := mayImgs_full p r x.1 (by omega) h (by omega) j (by simpa using hj)
    simp only [List.getElem_cons_succ]
    rw [h2, hx]
    omega
def prevAt (q : Int) (l : List Img) : Nat → Int
 | 0 => q
 | j + 1 => (l.getD j ⟨0, []⟩).1
theorem prevAt_cons (q : Int) (x : Img) (r : List Img) : ∀ j, prevAt q (x :: r) (j + 1) = prevAt x.1 r j
 | 0 => rfl
 | _ + 1 => rfl
theorem mayImgs_iff (p : Int) : ∀ (l : List Img) (q : Int), mayImgs p q l = true ↔ ∀ (j : Nat) (h : j < l.length), prevAt q l j < l[j].1 ∧ l[j].1 ≤ p ∧ l[j].2.length = 512
 | [], q => by rw [mayImgs_nil]; simp
 | x :: r, q => by
  rw [mayImgs_cons]
  constructor
  ·intro h j hj
   split at h
   ·cases h
   ·rename_i hn
    have ih := (mayImgs_iff p r x.1).1 h
    match j, hj with
    | 0, _ => exact ⟨by show q < x.1; omega, by show x.1 ≤ p; omega, by show x.2.length = 512; omega⟩
    | j + 1, hj =>
     have h1 := ih j (by simpa using hj)
     rw [prevAt_cons]
     simpa using h1
  ·intro h
   have h0 : q < x.1 ∧ x.1 ≤ p ∧ x.2.length = 512 := h 0 (by simp)
   rw [if_neg (by omega)]
   exact (mayImgs_iff p r x.1).2 fun j hj => by
    have h1 := h (j + 1) (by simpa using hj)
    rw [prevAt_cons] at h1
    simpa using h1
def startB (m : Sh) : Bool := decide (m.kind = 1) && decide (1 ≤ m.pages) && decide (m.pages ≤ 256) && decide (0 < m.k)
def stepB (m : Sh) (j : Nat) : Bool :=
 decide (1 ≤ (m.imgs.getD j ⟨0, []⟩).1) && decide ((m.imgs.getD j ⟨0, []⟩).1 ≤ m.pages) && decide ((m.imgs.getD j ⟨0, []⟩).2.length = 512) &&
  (decide (j = 0) || decide ((m.imgs.getD (j - 1) ⟨0, []⟩).1 < (m.imgs.getD j ⟨0, []⟩).1)) && (!m.full || decide ((m.imgs.getD j ⟨0, []⟩).1 = (j : Int) + 1))
def okB (m : Sh) : Nat → Bool
 | 0 => startB m
 | k + 1 => okB m k && stepB m k
theorem okB_zero (m : Sh) : okB m 0 = startB m := rfl
theorem okB_succ (m : Sh) (k : Nat) : okB m (k + 1) = (okB m k && stepB m k) := rfl
theorem okB_iff (m : Sh) : ∀ k, okB m k = true ↔ startB m = true ∧ ∀ j, j < k → stepB m j = true
 | 0 => by rw [okB_zero]; simp
 | k + 1 => by
  rw [okB_succ, Bool.and_eq_true, okB_iff m k]
  constructor
  ·rintro ⟨⟨h1, h2⟩, h3⟩
   refine ⟨h1, fun j hj => ?_⟩
   by_cases e : j = k
   ·subst e; exact h3
   ·exact h2 j (by omega)
  ·rintro ⟨h1, h2⟩
   exact ⟨⟨h1, fun j hj => h2 j (by omega)⟩, h2 k (by omega)⟩
theorem stepB_iff (m : Sh) (j : Nat) (hj : j < m.imgs.length) : stepB m j = true ↔ 1 ≤ m.imgs[j].1 ∧ m.imgs[j].1 ≤ m.pages ∧ m.imgs[j].2.length = 512 ∧ (j = 0 ∨ (m.imgs.getD (j - 1) ⟨0, []⟩).1 < m.imgs[j].1) ∧ (m.full = true → m.imgs[j].1 = (j : Int) + 1) := by
 have e : m.imgs.getD j ⟨0, []⟩ = m.imgs[j] := by simp [List.getD, hj]
 unfold stepB
 rw [e]
 cases m.full <;> simp [and_assoc]
theorem prev_first (m : Sh) : prevAt 0 m.imgs 0 = 0 := rfl
theorem prev_next (m : Sh) (j : Nat) : prevAt 0 m.imgs (j + 1) = (m.imgs.getD j ⟨0, []⟩).1 := rfl
theorem may_full_law (m : Sh) (h2 : ¬ m.kind = 2) (hk : 0 ≤ m.k) : (okB m m.imgs.length && (!m.full || decide ((m.imgs.length : Int) = m.pages))) = mayB m := by
 rw [Bool.eq_iff_iff, Bool.and_eq_true, okB_iff]
 unfold mayB
 rw [if_neg h2]
 by_cases h1 : m.kind = 1
 ·rw [if_pos h1, Bool.and_eq_true, mayImgs_iff]
  have hs : startB m = true ↔ 1 ≤ m.pages ∧ m.pages ≤ 256 ∧ 0 < m.k := by unfold startB; simp [h1, and_assoc]
  have ht : (!(decide (m.pages < 1) || decide (256 < m.pages) || decide (m.k = 0) || (m.full && !decide ((m.imgs.length : Int) = m.pages)))) = true ↔ (1 ≤ m.pages ∧ m.pages ≤ 256 ∧ 0 < m.k) ∧ (!m.full || decide ((m.imgs.length : Int) = m.pages)) = true := by
   cases m.full
   ·simp; omega
   ·simp; omega
  rw [hs, ht]
  constructor
  ·rintro ⟨⟨h3, h4⟩, h5⟩
   refine ⟨⟨h3, h5⟩, fun j hj => ?_⟩
   obtain ⟨g1, g2, g3, g4, g5⟩ := (stepB_iff m j hj).1 (h4 j hj)
   refine ⟨?_, g2, g3⟩
   cases j with
   | zero => rw [prev_first]; omega
   | succ j => rw [prev_next]; rcases g4 with g4 | g4; · omega
               exact g4
  ·rintro ⟨⟨h3, h5⟩, h4⟩
   refine ⟨⟨h3, fun j hj => ?_⟩, h5⟩
   have hfull : m.full = true → ∀ (j : Nat) (hj : j < m.imgs.length), m.imgs[j].1 = 0 + j + 1 := by
    intro hf
    rw [hf] at h5
    have h5' : (m.imgs.length : Int) = m.pages := by simpa using h5
    exact mayImgs_full m.pages m.imgs 0 (by omega) ((mayImgs_iff _ _ _).2 h4) (by omega)
   have hpos : ∀ (j : Nat), j < m.imgs.length → 0 ≤ prevAt 0 m.imgs j := by
    intro j
    induction j with
    | zero => intro _; rw [prev_first]; omega
    | succ j ih =>
     intro hj
     have a := ih (by omega)
     have b := (h4 j (by omega)).1
     rw [prev_next]
     have e : m.imgs.getD j ⟨0, []⟩ = m.imgs[j] := by simp [List.getD, show j < m.imgs.length by omega]
     rw [e]; omega
   obtain ⟨g1, g2, g3⟩ := h4 j hj
   have g0 := hpos j hj
   refine (stepB_iff m j hj).2 ⟨by omega, g2, g3, ?_, fun hf => by have := hfull hf j hj; omega⟩
   cases j with
   | zero => exact .inl rfl
   | succ j => rw [prev_next] at g1; exact .inr g1
 ·rw [if_neg h1]
  have hs : startB m = false := by unfold startB; simp [h1]
  rw [hs]
  simp
def MayRel2 (m : Sh) (W : World) (v3 v4 : Value) (wr : World) : Prop :=
 ∃ k : Nat, k ≤ m.imgs.length ∧ v4 = .int .i64 k ∧ v3 = .bool (okB m k) ∧ Below W.heap.size W wr
theorem imgs_cell_prev {w wr : World} {l : List Img} {ao : Option Addr} {cap : Nat} (h : SImgsAt w (.slice ao l.length cap) l) (hb : Below w.heap.size w wr) (j : Nat) (hj : j < l.length) :
  ∃ b off, ao = some ⟨b, off, none⟩ ∧ wr.cell? ⟨b, off + j * 2, none⟩ = some (.int .i64 l[j].1) ∧ wr.cell? ⟨b, off + j * 2 + 1, none⟩ = some (.string (bs l[j].2)) ∧ wr.cell? ⟨b, off + (j - 1) * 2, none⟩ = some (.int .i64 (l.getD (j - 1) ⟨0, []⟩).1) := by
 obtain ⟨b, off, rfl, h1, h2⟩ := imgs_cell h hb j hj
 obtain ⟨b', off', e, h3, _⟩ := imgs_cell h hb (j - 1) (by omega)
 simp only [Option.some.injEq, Addr.mk.injEq, and_true] at e
 obtain ⟨rfl, rfl⟩ := e
 exact ⟨b, off, rfl, h1, h2, by rw [h3]; simp [List.getD, show j - 1 < l.length by omega]⟩
set_option maxHeartbeats 4000000 in
set_option maxRecDepth 100000 in
theorem refMay_unit (kind epoch k pages : Int) (full : Bool) (imgs : List Img) (v : Value) (w : World) (hv : SImgsAt w v imgs) (hn : imgs.length ≤ 9223372036854775807) (hbig : ∀ x ∈ imgs, x.2.length ≤ 9223372036854775807) (h2 : ¬ kind = 2) (hk0 : 0 ≤ k) :
  Calls Tryz.prog 59 #[.agg #[.int .u8 kind, .int .u64 epoch, .int .u64 k, .bool full, .int .i64 pages, v]] w fun e w' => e = .returned (.bool (mayB ⟨kind, epoch, k, full, pages, imgs⟩)) ∧ Below w.heap.size w w' := by
 have hlaw := may_full_law ⟨kind, epoch, k, full, pages, imgs⟩ h2 hk0
 have Hlaw := hid hlaw
 clear hlaw
 obtain ⟨ao, cap, rfl⟩ := imgs_shape hv
 have Hv := hid hv
 clear hv
 have h2' : (kind == 2) = false := by simpa using h2
 clear h2
 go_enter Tryz.func59, Tryz.ntmps59
 go_upto_region 3 with fail
 go_cut [3] (fun s3 wx => s3 = .bool (startB ⟨kind, epoch, k, full, pages, imgs⟩) ∧ wx = w.alloc (.cells #[.int .u8 kind, .int .u64 epoch, .int .u64 k, .bool full, .int .i64 pages, .slice ao imgs.length cap] 25))
 case first =>
  by_cases a1 : kind = 1
  ·have b1 : (kind == 1) = true := by simpa using a1
   by_cases a2 : 1 ≤ pages
   ·have b2 : decide (1 ≤ pages) = true := by simpa using a2
    by_cases a3 : pages ≤ 256
    ·have b3 : decide (pages ≤ 256) = true := by simpa using a3
     by_cases a4 : 0 < k
     ·have b4 : decide (0 < k) = true := by simpa using a4
      have e : startB ⟨kind, epoch, k, full, pages, imgs⟩ = true := by simp [startB, a1, a2, a3, a4]
      have E := hid e
      clear e a1
      go_wp2_with fail
      go_meet
      exact ⟨by rw [E.out], rfl⟩
     ·have b4 : decide (0 < k) = false := by simpa using a4
      have e : startB ⟨kind, epoch, k, full, pages, imgs⟩ = false := by simp [startB, a1, a2, a3, a4]
      have E := hid e
      clear e a1
      go_wp2_with fail
      go_meet
      exact ⟨by rw [E.out], rfl⟩
    ·have b3 : decide (pages ≤ 256) = false := by simpa using a3
     have e : startB ⟨kind, epoch, k, full, pages, imgs⟩ = false := by simp [startB, a1, a2, a3]
     have E := hid e
     clear e a1
     go_wp2_with fail
     go_meet
     exact ⟨by rw [E.out], rfl⟩
   ·have b2 : decide (1 ≤ pages) = false := by simpa using a2
    have e : startB ⟨kind, epoch, k, full, pages, imgs⟩ = false := by simp [startB, a1, a2]
    have E := hid e
    clear e a1
    go_wp2_with fail
    go_meet
    exact ⟨by rw [E.out], rfl⟩
  ·have b1 : (kind == 1) = false := by simpa using a1
   have e : startB ⟨kind, epoch, k, full, pages, imgs⟩ = false := by simp [startB, a1]
   have E := hid e
   clear e a1
   go_wp2_with fail
   go_meet
   exact ⟨by rw [E.out], rfl⟩
 case rest =>
  obtain ⟨rfl, rfl⟩ := hcut
  go_wp2_with fail
  go_loopw [3, 4] (fun v3 v4 wr => MayRel2 ⟨kind, epoch, k, full, pages, imgs⟩ (w.alloc (.cells #[.int .u8 kind, .int .u64 epoch, .int .u64 k, .bool full, .int .i64 pages, .slice ao imgs.length cap] 25)) v3 v4 wr) (fun _ v4 _ => imgs.length - (intOf v4).toNat)
  case atStart => exact ⟨0, Nat.zero_le _, rfl, rfl, Below.refl _ _⟩
  case round =>
   obtain ⟨j, hj, rfl, rfl, hbr⟩ := hrel
   have hbw : Below w.heap.size w wr := ((Below.refl _ _).alloc (Nat.le_refl _) _).trans (hbr.mono (by simp))
   have hbox : wr.heap[w.heap.size]? = some (.cells #[.int .u8 kind, .int .u64 epoch, .int .u64 k, .bool full, .int .i64 pages, .slice ao imgs.length cap] 25 (0, 0)) := (hbr.block _ (by simp)).trans (heap_alloc_new _ _)
   have hsz : w.heap.size < wr.heap.size := by have := hbr.size; simp at this; omega
   obtain ⟨c0, c1, c2, c3, c4, c5, cf⟩ := cells6 hbox
   clear hbox
   simp only at hj
   by_cases hlt : j < imgs.length
   ·obtain ⟨b, off, rfl, ci, cs, cp⟩ := imgs_cell_prev Hv.out hbw j hlt
    have hx := hbig imgs[j] (List.getElem_mem hlt)
    have hs : okB ⟨kind, epoch, k, full, pages, imgs⟩ (j + 1) = (okB ⟨kind, epoch, k, full, pages, imgs⟩ j && (decide (1 ≤ imgs[j].1) && decide (imgs[j].1 ≤ pages) && decide (imgs[j].2.length = 512) && (decide (j = 0) || decide ((imgs.getD (j - 1) ⟨0, []⟩).1 < imgs[j].1)) && (!full || decide (imgs[j].1 = (j : Int) + 1)))) := by
     have e : imgs.getD j ⟨0, []⟩ = imgs[j] := by simp [List.getD, hlt]
     rw [okB_succ]; unfold stepB; simp only [e]
    obtain ⟨⟨pg, dat⟩, hx1⟩ : ∃ x, x = imgs[j] := ⟨_, rfl⟩
    obtain ⟨⟨pp, pd⟩, hx2⟩ : ∃ x, x = imgs.getD (j - 1) ⟨0, []⟩ := ⟨_, rfl⟩
    obtain ⟨ok, hx3⟩ : ∃ x, x = okB ⟨kind, epoch, k, full, pages, imgs⟩ j := ⟨_, rfl⟩
    rw [← hx1] at ci cs hx hs
    rw [← hx2] at cp hs
    rw [← hx3] at hs ⊢
    simp only at ci cs hx hs cp
    have Hs := hid hs
    clear hx1 hx2 hx3 hs
    have i1 : (j : Int) < (imgs.length : Int) := by omega
    have i2 : (0 : Int) ≤ (j : Int) := by omega
    have fin : ∀ (x : Bool) (W : World), x = okB ⟨kind, epoch, k, full, pages, imgs⟩ (j + 1) → Below (w.heap.size + 1) (w.alloc (.cells #[.int .u8 kind, .int .u64 epoch, .int .u64 k, .bool full, .int .i64 pages, .slice (some ⟨b, off, none⟩) imgs.length cap] 25)) W → MayRel2 ⟨kind, epoch, k, full, pages, imgs⟩ (w.alloc (.cells #[.int .u8 kind, .int .u64 epoch, .int .u64 k, .bool full, .int .i64 pages, .slice (some ⟨b, off, none⟩) imgs.length cap] 25)) (.bool x) (.int .i64 ((j : Int) + 1)) W := fun x W hx hW => ⟨j + 1, by simp only; omega, by go_num, by rw [hx], by simpa using hW⟩
    have Fin := hid fin
    clear fin
    go_upto_region 8 with fail
    have hbr' : Below (w.heap.size + 1) (w.alloc (.cells #[.int .u8 kind, .int .u64 epoch, .int .u64 k, .bool full, .int .i64 pages, .slice (some ⟨b, off, none⟩) imgs.length cap] 25)) wr := by simpa using hbr
    have hbl : b < wr.heap.size := World.block_lt_of_cell? wr _ ci
    cases ok
    ·have hz := hid True.intro
     have e : false = _ := Eq.trans (by rfl) Hs.out.symm
     have E := hid e
     clear e Hs
     refine wp_region_quiet_lit (by kernel_rfl) (by kernel_rfl) ?_
     repeat (first | go_big_quiet_step (fail) | (refine wpQuiet_step (fun K hK => ?_); go_simp; refine hK _ ?_; clear hK K))
     refine wpQuiet_nil ?_
     intro _ hw'
     obtain ⟨nq, hw''⟩ := hw'
     subst hw''
     go_wp2_with fail
     exact ⟨Fin.out _ _ E.out (below_drewN (hbr'.alloc (by simpa using hbr.size) _) _), by simp [intOf]; omega⟩
    ·have hz := hid True.intro
     by_cases q1 : 1 ≤ pg
     ·have bq1 : (decide (1 ≤ pg)) = true := by first | simpa using q1 | (simp; omega)
      have Q1 := hid q1
      clear q1
      by_cases q2 : pg ≤ pages
      ·have bq2 : (decide (pg ≤ pages)) = true := by first | simpa using q2 | (simp; omega)
       have Q2 := hid q2
       clear q2
       by_cases q3 : dat.length = 512
       ·have bq3 : ((dat.length : Int) == 512) = true := by first | simpa using q3 | (simp; omega)
        have Q3 := hid q3
        clear q3
        by_cases q4 : j = 0
        ·have bq4 : ((j : Int) == 0) = true := by first | simpa using q4 | (simp; omega)
         have Q4 := hid q4
         clear q4
         cases full
         ·have hz2 := hid True.intro
          have e : true = _ := Eq.trans (by rw [decide_eq_true Q1.out, decide_eq_true Q2.out, decide_eq_true Q3.out, decide_eq_true Q4.out]; try rfl) Hs.out.symm
          have E := hid e
          clear e Hs
          refine wp_region_quiet_lit (by kernel_rfl) (by kernel_rfl) ?_
          repeat (first | go_big_quiet_step (fail) | (refine wpQuiet_step (fun K hK => ?_); go_simp; refine hK _ ?_; clear hK K))
          refine wpQuiet_nil ?_
          intro _ hw'
          obtain ⟨nq, hw''⟩ := hw'
          subst hw''
          go_wp2_with fail
          exact ⟨Fin.out _ _ E.out (below_drewN (hbr'.alloc (by simpa using hbr.size) _) _), by simp [intOf]; omega⟩
         ·have hz2 := hid True.intro
          by_cases q7 : pg = (j : Int) + 1
          ·have bq7 : (pg == (j : Int) + 1) = true := by first | simpa using q7 | (simp; omega)
           have Q7 := hid q7
           clear q7
           have e : true = _ := Eq.trans (by rw [decide_eq_true Q1.out, decide_eq_true Q2.out, decide_eq_true Q3.out, decide_eq_true Q4.out, decide_eq_true Q7.out]; try rfl) Hs.out.symm
           have E := hid e
           clear e Hs
           refine wp_region_quiet_lit (by kernel_rfl) (by kernel_rfl) ?_
           repeat (first | go_big_quiet_step (fail) | (refine wpQuiet_step (fun K hK => ?_); go_simp; refine hK _ ?_; clear hK K))
           refine wpQuiet_nil ?_
           intro _ hw'
           obtain ⟨nq, hw''⟩ := hw'
           subst hw''
           go_wp2_with fail
           exact ⟨Fin.out _ _ E.out (below_drewN (hbr'.alloc (by simpa using hbr.size) _) _), by simp [intOf]; omega⟩
          ·have bq7 : (pg == (j : Int) + 1) = false := by first | simpa using q7 | (simp; omega)
           have Q7 := hid q7
           clear q7
           have e : false = _ := Eq.trans (by rw [decide_eq_true Q1.out, decide_eq_true Q2.out, decide_eq_true Q3.out, decide_eq_true Q4.out, decide_eq_false Q7.out]; try rfl) Hs.out.symm
           have E := hid e
           clear e Hs
           refine wp_region_quiet_lit (by kernel_rfl) (by kernel_rfl) ?_
           repeat (first | go_big_quiet_step (fail) | (refine wpQuiet_step (fun K hK => ?_); go_simp; refine hK _ ?_; clear hK K))
           refine wpQuiet_nil ?_
           intro _ hw'
           obtain ⟨nq, hw''⟩ := hw'
           subst hw''
           go_wp2_with fail
           exact ⟨Fin.out _ _ E.out (below_drewN (hbr'.alloc (by simpa using hbr.size) _) _), by simp [intOf]; omega⟩
        ·have bq4 : ((j : Int) == 0) = false := by first | simpa using q4 | (simp; omega)
         have Q4 := hid q4
         clear q4
         have q4 := Q4.out
         have g1 : IntKind.i64.wrap ((j : Int) - 1) = (j : Int) - 1 := IntWalk.i64_in _ (by omega)
         have g2 : (0 : Int) ≤ (j : Int) - 1 := by omega
         have g5 : 1 ≤ j := by omega
         have g6 : (1 : Int) ≤ (j : Int) := by omega
         have g7 : (j : Int) < (imgs.length : Int) + 1 := by omega
         have g3 : (j : Int) - 1 < (imgs.length : Int) := by omega
         have g4 : ((j : Int) - 1).toNat = j - 1 := by omega
         clear q4
         by_cases q5 : pp < pg
         ·have bq5 : (decide (pp < pg)) = true := by first | simpa using q5 | (simp; omega)
          have Q5 := hid q5
          clear q5
          cases full
          ·have hz2 := hid True.intro
           have e : true = _ := Eq.trans (by rw [decide_eq_true Q1.out, decide_eq_true Q2.out, decide_eq_true Q3.out, decide_eq_false Q4.out, decide_eq_true Q5.out]; try rfl) Hs.out.symm
           have E := hid e
           clear e Hs
           refine wp_region_quiet_lit (by kernel_rfl) (by kernel_rfl) ?_
           repeat (first | go_big_quiet_step (fail) | (refine wpQuiet_step (fun K hK => ?_); go_simp; refine hK _ ?_; clear hK K))
           refine wpQuiet_nil ?_
           intro _ hw'
           obtain ⟨nq, hw''⟩ := hw'
           subst hw''
           go_wp2_with fail
           exact ⟨Fin.out _ _ E.out (below_drewN (hbr'.alloc (by simpa using hbr.size) _) _), by simp [intOf]; omega⟩
          ·have hz2 := hid True.intro
           by_cases q7 : pg = (j : Int) + 1
           ·have bq7 : (pg == (j : Int) + 1) = true := by first | simpa using q7 | (simp; omega)
            have Q7 := hid q7
            clear q7
            have e : true = _ := Eq.trans (by rw [decide_eq_true Q1.out, decide_eq_true Q2.out, decide_eq_true Q3.out, decide_eq_false Q4.out, decide_eq_true Q5.out, decide_eq_true Q7.out]; try rfl) Hs.out.symm
            have E := hid e
            clear e Hs
            refine wp_region_quiet_lit (by kernel_rfl) (by kernel_rfl) ?_
            repeat (first | go_big_quiet_step (fail) | (refine wpQuiet_step (fun K hK => ?_); go_simp; refine hK _ ?_; clear hK K))
            refine wpQuiet_nil ?_
            intro _ hw'
            obtain ⟨nq, hw''⟩ := hw'
            subst hw''
            go_wp2_with fail
            exact ⟨Fin.out _ _ E.out (below_drewN (hbr'.alloc (by simpa using hbr.size) _) _), by simp [intOf]; omega⟩
           ·have bq7 : (pg == (j : Int) + 1) = false := by first | simpa using q7 | (simp; omega)
            have Q7 := hid q7
            clear q7
            have e : false = _ := Eq.trans (by rw [decide_eq_true Q1.out, decide_eq_true Q2.out, decide_eq_true Q3.out, decide_eq_false Q4.out, decide_eq_true Q5.out, decide_eq_false Q7.out]; try rfl) Hs.out.symm
            have E := hid e
            clear e Hs
            refine wp_region_quiet_lit (by kernel_rfl) (by kernel_rfl) ?_
            repeat (first | go_big_quiet_step (fail) | (refine wpQuiet_step (fun K hK => ?_); go_simp; refine hK _ ?_; clear hK K))
            refine wpQuiet_nil ?_
            intro _ hw'
            obtain ⟨nq, hw''⟩ := hw'
            subst hw''
            go_wp2_with fail
            exact ⟨Fin.out _ _ E.out (below_drewN (hbr'.alloc (by simpa using hbr.size) _) _), by simp [intOf]; omega⟩
         ·have bq5 : (decide (pp < pg)) = false := by first | simpa using q5 | (simp; omega)
          have Q5 := hid q5
          clear q5
          have e : false = _ := Eq.trans (by rw [decide_eq_true Q1.out, decide_eq_true Q2.out, decide_eq_true Q3.out, decide_eq_false Q4.out, decide_eq_false Q5.out]; try rfl) Hs.out.symm
          have E := hid e
          clear e Hs
          refine wp_region_quiet_lit (by kernel_rfl) (by kernel_rfl) ?_
          repeat (first | go_big_quiet_step (fail) | (refine wpQuiet_step (fun K hK => ?_); go_simp; refine hK _ ?_; clear hK K))
          refine wpQuiet_nil ?_
          intro _ hw'
          obtain ⟨nq, hw''⟩ := hw'
          subst hw''
          go_wp2_with fail
          exact ⟨Fin.out _ _ E.out (below_drewN (hbr'.alloc (by simpa using hbr.size) _) _), by simp [intOf]; omega⟩
       ·have bq3 : ((dat.length : Int) == 512) = false := by first | simpa using q3 | (simp; omega)
        have Q3 := hid q3
        clear q3
        have e : false = _ := Eq.trans (by rw [decide_eq_true Q1.out, decide_eq_true Q2.out, decide_eq_false Q3.out]; try rfl) Hs.out.symm
        have E := hid e
        clear e Hs
        refine wp_region_quiet_lit (by kernel_rfl) (by kernel_rfl) ?_
        repeat (first | go_big_quiet_step (fail) | (refine wpQuiet_step (fun K hK => ?_); go_simp; refine hK _ ?_; clear hK K))
        refine wpQuiet_nil ?_
        intro _ hw'
        obtain ⟨nq, hw''⟩ := hw'
        subst hw''
        go_wp2_with fail
        exact ⟨Fin.out _ _ E.out (below_drewN (hbr'.alloc (by simpa using hbr.size) _) _), by simp [intOf]; omega⟩
      ·have bq2 : (decide (pg ≤ pages)) = false := by first | simpa using q2 | (simp; omega)
       have Q2 := hid q2
       clear q2
       have e : false = _ := Eq.trans (by rw [decide_eq_true Q1.out, decide_eq_false Q2.out]; try rfl) Hs.out.symm
       have E := hid e
       clear e Hs
       refine wp_region_quiet_lit (by kernel_rfl) (by kernel_rfl) ?_
       repeat (first | go_big_quiet_step (fail) | (refine wpQuiet_step (fun K hK => ?_); go_simp; refine hK _ ?_; clear hK K))
       refine wpQuiet_nil ?_
       intro _ hw'
       obtain ⟨nq, hw''⟩ := hw'
       subst hw''
       go_wp2_with fail
       exact ⟨Fin.out _ _ E.out (below_drewN (hbr'.alloc (by simpa using hbr.size) _) _), by simp [intOf]; omega⟩
     ·have bq1 : (decide (1 ≤ pg)) = false := by first | simpa using q1 | (simp; omega)
      have Q1 := hid q1
      clear q1
      have e : false = _ := Eq.trans (by rw [decide_eq_false Q1.out]; try rfl) Hs.out.symm
      have E := hid e
      clear e Hs
      refine wp_region_quiet_lit (by kernel_rfl) (by kernel_rfl) ?_
      repeat (first | go_big_quiet_step (fail) | (refine wpQuiet_step (fun K hK => ?_); go_simp; refine hK _ ?_; clear hK K))
      refine wpQuiet_nil ?_
      intro _ hw'
      obtain ⟨nq, hw''⟩ := hw'
      subst hw''
      go_wp2_with fail
      exact ⟨Fin.out _ _ E.out (below_drewN (hbr'.alloc (by simpa using hbr.size) _) _), by simp [intOf]; omega⟩
   ·have hend : j = imgs.length := by omega
    subst hend
    have Hl := hid Hlaw.out
    obtain ⟨ok, hx3⟩ : ∃ x, x = okB ⟨kind, epoch, k, full, pages, imgs⟩ imgs.length := ⟨_, rfl⟩
    simp only [← hx3] at Hl
    rw [← hx3]
    clear hx3 Hlaw
    cases ok
    ·have e := hid Hl.out.symm
     clear Hl
     simp only [Bool.false_and] at e
     go_wp2_with fail
     go_ret
     exact ⟨ret_bool e.out.symm, hbw⟩
    ·cases full
     ·have e := hid Hl.out.symm
      clear Hl
      go_wp2_with fail
      go_ret
      exact ⟨ret_bool e.out.symm, hbw⟩
     ·by_cases q8 : (imgs.length : Int) = pages
      ·have bq8 : ((imgs.length : Int) == pages) = true := by simpa using q8
       have e := hid Hl.out.symm
       have Q8 := hid q8
       clear Hl q8
       go_wp2_with fail
       go_ret
       exact ⟨ret_bool (by rw [e.out, decide_eq_true Q8.out]; rfl), hbw⟩
      ·have bq8 : ((imgs.length : Int) == pages) = false := by simpa using q8
       have e := hid Hl.out.symm
       have Q8 := hid q8
       clear Hl q8
       go_wp2_with fail
       go_ret
       exact ⟨ret_bool (by rw [e.out, decide_eq_false Q8.out]; rfl), hbw⟩
set_option maxHeartbeats 400000 in
theorem refMay_ack (epoch k pages : Int) (full : Bool) (imgs : List Img) (v : Value) (w : World) (hv : SImgsAt w v imgs) (hn : imgs.length ≤ 9223372036854775807) :
  Calls Tryz.prog 59 #[.agg #[.int .u8 2, .int .u64 epoch, .int .u64 k, .bool full, .int .i64 pages, v]] w fun e w' => e = .returned (.bool (!full && decide (pages = 0) && decide (imgs.length = 0))) ∧ Below w.heap.size w w' := by
 obtain ⟨ao, cap, rfl⟩ := imgs_shape hv
 clear hv
 cases full
 ·by_cases hp : pages = 0
  ·subst hp
   by_cases h0 : imgs.length = 0
   ·have h0' : ((imgs.length : Int) == 0) = true := by simp [h0]
    go_enter Tryz.func59, Tryz.ntmps59
    go_wp2
    go_ret
    exact ⟨ret_bool (by simp [h0]), (Below.refl _ _).alloc (Nat.le_refl _) _⟩
   ·have h0' : ((imgs.length : Int) == 0) = false := by rw [beq_eq_false_iff_ne]; omega
    go_enter Tryz.func59, Tryz.ntmps59
    go_wp2
    go_ret
    exact ⟨ret_bool (by simp [h0]), (Below.refl _ _).alloc (Nat.le_refl _) _⟩
  ·have hp' : (pages == 0) = false := by simpa using hp
   go_enter Tryz.func59, Tryz.ntmps59
   go_wp2
   go_ret
   exact ⟨ret_bool (by simp [hp]), (Below.refl _ _).alloc (Nat.le_refl _) _⟩
 ·go_enter Tryz.func59, Tryz.ntmps59
  go_wp2
  go_ret
  exact ⟨ret_bool (by simp), (Below.refl _ _).alloc (Nat.le_refl _) _⟩
theorem refMay_any (m : Sh) (v : Value) (w : World) (hv : SImgsAt w v m.imgs) (hn : m.imgs.length ≤ 9223372036854775807) (hbig : ∀ x ∈ m.imgs, x.2.length ≤ 9223372036854775807) (hk : 0 ≤ m.k) :
  Calls Tryz.prog 59 #[shipV m v] w fun e w' => e = .returned (.bool (mayB m)) ∧ Below w.heap.size w w' := by
 obtain ⟨kind, epoch, k, full, pages, imgs⟩ := m
 by_cases h2 : kind = 2
 ·subst h2
  have e : mayB ⟨2, epoch, k, full, pages, imgs⟩ = (!full && decide (pages = 0) && decide (imgs.length = 0)) := by simp [mayB]
  rw [e]
  exact refMay_ack epoch k pages full imgs v w hv hn
 ·exact refMay_unit kind epoch k pages full imgs v w hv hn hbig h2 hk
end Go.Proofs.YtjacmfdbmfemkaaGreat
