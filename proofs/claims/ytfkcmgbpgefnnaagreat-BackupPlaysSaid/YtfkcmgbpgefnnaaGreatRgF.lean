/- The reference's Sync and Read. -/
import Derived.Test.YtfkcmgbpgefnnaaGreatRgC
set_option linter.unusedVariables false
set_option linter.unusedSimpArgs false
namespace Go.Proofs.YtfkcmgbpgefnnaaGreat.Rf
open Go.RowKit Go.Maps
set_option maxRecDepth 20000
theorem rchgs_get : ∀ {l : List Chg} {i : Nat} {c : Chg}, l[i]? = some c → ∀ j, j < 4 → (rchgs l)[i * 4 + j]? = (rchgCells c)[j]?
 | [], i, c, h, _, _ => by simp at h
 | x :: r, 0, c, h, j, hj => by
  obtain rfl : x = c := by simpa using h
  rw [Nat.zero_mul, Nat.zero_add]
  show (rchgCells x ++ rchgs r)[j]? = _
  rw [List.getElem?_append_left (by simpa [rchgCells] using hj)]
 | x :: r, i + 1, c, h, j, hj => by
  have h1 := rchgs_get (l := r) (i := i) (c := c) (by simpa using h) j hj
  show (rchgCells x ++ rchgs r)[(i + 1) * 4 + j]? = _
  rw [List.getElem?_append_right (by simp [rchgCells]; omega)]
  have e : (i + 1) * 4 + j - (rchgCells x).length = i * 4 + j := by simp [rchgCells]; omega
  rw [e]
  exact h1
theorem rchg_range {w : World} {base g cap n : Nat} {l : List Chg} (h : w.ownsRow base 106 4 (.slice (some ⟨g, 0, none⟩) n cap) l.length (rchgs l)) (hn : n = l.length) {i : Nat} {c : Chg} (hi : l[i]? = some c) : w.rangeAt g (i * 4) (rchgCells c) := fun j v hv => by
 subst hn
 have hj : j < 4 := by
  have := (List.getElem?_eq_some_iff.1 hv).1
  simpa [rchgCells] using this
 have hil := (List.getElem?_eq_some_iff.1 hi).1
 rw [h.cellAt (i * 4 + j) (by omega), rchgs_get hi j hj]
 exact hv
theorem build_rchg (w : World) (c : Chg) : (Instr.buildSlice 59 1 #[(0, .agg (rchgCells c).toArray)]).run Tryz.prog w = .ok (.slice (some ⟨w.heap.size, 0, none⟩) 1 1) (w.alloc (.cells (rchgCells c).toArray 106)) :=
 run_buildSlice_one w 59 106 _ (.agg (rchgCells ⟨0, 0, false, []⟩).toArray) 4 Tryz.underlying59 (by kernel_rfl) rfl rfl (by omega) (by omega)
theorem keeps_bound (k : Nat) (l : List Chg) {i : Nat} (h : i ≤ 1099511627776) : (keepsOf k (l.take i)).length ≤ 1099511627776 := by
 have h1 : (keepsOf k (l.take i)).length ≤ (l.take i).length := List.length_filter_le _ _
 have h2 : (l.take i).length ≤ i := by simp; omega
 omega
section
variable {w : World} {b : Nat} {F : Foot} {d : Dsk}
set_option maxHeartbeats 2000000 in
set_option maxRecDepth 20000 in
theorem rsync_main (h : RefAt w b F d) (k : Nat) (hs : d.Small 1099511527776) (hk : k < 8) (ho : d.off = false) (hm : (meetsM d).1 = 0) :
  Calls Tryz.prog 52 #[.pointer (some ⟨b, 0, none⟩), .int .i64 (k : Int)] w fun e w' => e = .returned (.int .i64 0) ∧ RDid w b F (sureM (meetsM d).2 k) w' := by
 have M := rmeets_any h (hs.mono (by omega))
 rw [hm] at M
 obtain ⟨d1, hd1⟩ : ∃ d1, d1 = (meetsM d).2 := ⟨_, rfl⟩
 rw [← hd1] at M ⊢
 have e1 : d1.loose = d.loose := by rw [hd1]; rfl
 have HS := hid (show d1.loose.length ≤ 1099511627776 by rw [e1]; have := hs.loose; omega)
 have M := hid M
 obtain ⟨nv0, sv0, lv0, av0, h0⟩ := h
 have c20 := h0.five.2.2.2.2
 rw [ho] at c20
 have hk8 : (k : Int) < 8 := by omega
 have hin := in_any (k : Int)
 have hin2 : (decide (0 ≤ (k : Int)) && decide ((k : Int) < 8)) = true := by simp; omega
 rw [hin2] at hin
 have IN := hid hin
 obtain ⟨i0, hi, hz0, hz1, hz2⟩ := info_parts (P := Tryz.prog) (e := 106) (z := .agg (rchgCells ⟨0, 0, false, []⟩).toArray) (size := 4) (bytes := 40) (by kernel_rfl)
 clear hd1 hm e1 hs h0 hin hin2
 go_enter Tryz.func52, Tryz.ntmps52
 go_upto_region 8 with (first | (go_at_call 83; refine (IN.out _).mono ?_; rintro e w1 ⟨rfl, rfl⟩) | (go_at_call 84; refine (M.out).mono ?_; rintro e w2 ⟨rfl, hd2⟩) | go_in)
 obtain ⟨F2, ⟨nv, sv, lv, av, hmem⟩, hst⟩ := hd2
 have n0 : w2.cell? ⟨b, k, none⟩ = some (nv k) := (hmem.cell k).trans (rnow_cell d1 nv sv lv av hk)
 have s0 : w2.cell? ⟨b, 8 + k, none⟩ = some (sv k) := (hmem.cell (8 + k)).trans (rsure_cell d1 nv sv lv av hk)
 have f0 := hmem.free k
 have f8 := hmem.free (8 + k)
 obtain ⟨gk, nk, ck, hnk⟩ : ∃ g n c, nv k = .slice g n c := by
  rcases row_form (hmem.now k hk) with ⟨h1, _⟩ | ⟨g, cap, h1⟩
  ·exact ⟨_, _, _, h1⟩
  ·exact ⟨_, _, _, h1⟩
 have HM := hid hmem
 have HST := hid hst
 have Hnk := hid hnk
 rw [hnk] at n0
 clear hmem hst hnk
 refine region_tail 11 (fun W => W = w2.drew) (by kernel_rfl) (by kernel_rfl) rfl ?_
 rintro W rfl
 simp only [List.take_succ_cons, List.take_zero, List.drop_succ_cons, List.drop_zero]
 repeat still_step
 refine wpStill_nil ?_
 go_upto_region 9 with fail
 have hblk3 := zd HM.out.blk (8 + k) (.slice gk nk ck)
 rw [rset_sure d1 nv sv lv av hk] at hblk3
 obtain ⟨F3, hm3, hst3⟩ := HM.out.update (d' := { d1 with sure := put d1.sure k (d1.now k) }) (sv' := put sv k (.slice gk nk ck)) (Below.refl _ _) ((cell_frm (w := w2) (b := b) (o := 8 + k) (.slice gk nk ck)).drew) hblk3 (fun f hf => .inl ⟨rfl, rfl⟩)
  (fun f hf => by
   by_cases e : f = k
   ·subst e; exact .inr (.inl ⟨by rw [put_same, Hnk.out], put_same _ _ _⟩)
   ·exact .inl ⟨put_other _ _ e, put_other _ _ e⟩) (.inl ⟨rfl, rfl⟩) (.inl ⟨rfl, rfl, Nat.le_refl _⟩)
  ⟨HM.out.ok.nl, fun f hf => by
   by_cases e : f = k
   ·subst e; simp only [put_same]; exact HM.out.ok.nl _ hk
   ·simp only [put_other _ _ e]; exact HM.out.ok.sl f hf, HM.out.ok.ns, fun f hf => by
   by_cases e : f = k
   ·subst e; simp only [put_same]; exact HM.out.ok.ns _ hk
   ·simp only [put_other _ _ e]; exact HM.out.ok.ss f hf, HM.out.ok.lo, HM.out.ok.op0⟩
 obtain ⟨w3, hw3⟩ : ∃ w3, w3 = (w2.setCell ⟨b, 8 + k, none⟩ (.slice gk nk ck)).drew := ⟨_, rfl⟩
 rw [← hw3] at hm3 hst3 ⊢
 have HM3 := hid hm3
 have HST3 := hid hst3
 clear hm3 hst3 hblk3 hw3 n0 s0 f0 f8
 obtain ⟨n, hn⟩ : ∃ n, n = d1.loose.length := ⟨_, rfl⟩
 have Hn := hid hn
 have Hrow0 := hid (show w3.ownsRow 0 106 4 lv d1.loose.length (rchgs d1.loose) from HM3.out.row)
 have hn1 : n ≤ 1099511627776 := by have := HS.out; omega
 have hform := row_form Hrow0.out
 rw [← hn] at hform
 obtain ⟨ga, cap, rfl⟩ : ∃ ga cap, lv = .slice ga n cap := by
  rcases hform with ⟨h1, h2⟩ | ⟨g, cap, h1⟩
  ·exact ⟨none, 0, by rw [h1, h2]⟩
  ·exact ⟨_, cap, h1⟩
 have Hform := hid hform
 clear hform hn
 go_wp2_with fail
 go_loopw [7, 6] (fun v7 v6 wr => ∃ i : Nat, v7 = .int .i64 (i : Int) ∧ i ≤ n ∧ wr.ownsRow w3.heap.size 106 4 v6 (keepsOf k (d1.loose.take i)).length (rchgs (keepsOf k (d1.loose.take i))) ∧ Below w3.heap.size w3 wr) (fun v7 _ _ => n - (intOf v7).toNat)
 case atStart => exact ⟨0, rfl, Nat.zero_le _, World.ownsRow_nil _ _ _ _, Below.refl _ _⟩
 case round =>
  obtain ⟨i, rfl, hin, hrow, hbel⟩ := hrel
  have Hrow := hid hrow
  have Hbel := hid hbel
  have hblk := (hbel.block b (zc HM3.out.blk)).trans HM3.out.blk
  have Hblk := hid hblk
  have c16 : wr.cell? ⟨b, 16, none⟩ = some (.slice ga n cap) := (za hblk 16).trans rfl
  have f16 := zg hblk 16
  clear hrow hbel hblk
  by_cases hlt : i < n
  ·obtain ⟨g, cap', hgv⟩ := Hform.out.resolve_left (fun e => by omega)
   cases hgv
   have hil : i < d1.loose.length := by have := Hn.out; omega
   obtain ⟨c, hc⟩ : ∃ c, c = d1.loose[i] := ⟨_, rfl⟩
   have hget : d1.loose[i]? = some c := by rw [List.getElem?_eq_getElem hil, hc]
   have hrng := rchg_range (row_keep Hrow0.out (w' := wr) (fun x hx => Hbel.out.block x (row_base Hrow0.out hx).2)) Hn.out hget
   have p0 : wr.cell? ⟨g, i * 4, none⟩ = some (.int .i64 (c.file : Int)) := hrng 0 _ rfl
   have p1 : wr.cell? ⟨g, i * 4 + 1, none⟩ = some (.int .i64 (c.at_ : Int)) := hrng 1 _ rfl
   have p2 : wr.cell? ⟨g, i * 4 + 2, none⟩ = some (.bool c.cut) := hrng 2 _ rfl
   have p3 : wr.cell? ⟨g, i * 4 + 3, none⟩ = some (.string (bs (if c.cut then [] else c.bytes))) := hrng 3 _ rfl
   have d1' : decide ((i : Int) < (n : Int)) = true := by simp; omega
   have hin2 : (i : Int) < (n : Int) := by omega
   have htake : d1.loose.take (i + 1) = d1.loose.take i ++ [c] := by rw [List.take_succ_eq_append_getElem hil, ← hc]
   have Htake := hid htake
   have Hkl := hid (keeps_bound k d1.loose (i := i) (by omega) : (keepsOf k (d1.loose.take i)).length ≤ 1099511627776)
   have hbs := build_rchg wr c
   unfold rchgCells at hbs
   obtain ⟨bts, hbts⟩ : ∃ bts, bts = (if c.cut then [] else c.bytes) := ⟨_, rfl⟩
   have hcells : rchgCells c = [.int .i64 c.file, .int .i64 c.at_, .bool c.cut, .string (bs bts)] := by unfold rchgCells; rw [← hbts]
   have Hcells := hid hcells
   rw [← hbts] at p3 hbs
   clear hc hget hrng htake hbts hcells
   by_cases he : c.file = k
   ·have he' : ((c.file : Int) != (k : Int)) = false := by simp; omega
    have He := hid he
    clear he hbs
    go_wp2_with fail
    go_roundw
    case rel =>
     refine ⟨i + 1, by simp, by omega, ?_, Hbel.out⟩
     rw [Htake.out, keepsOf_snoc, if_pos He.out]
     exact Hrow.out
    case measure => simp [intOf]; omega
   ·have he' : ((c.file : Int) != (k : Int)) = true := by simp; omega
    have He := hid he
    clear he
    go_wp2_with (first
     | (at_builtin; refine wpList_append_own_at _ rfl _ _ 59 rfl w3.heap.size 106 i0 _ 4 40 Tryz.underlying59 hi hz0 hz1 hz2 rfl (by omega) _ (keepsOf k (d1.loose.take i)).length (rchgs (keepsOf k (d1.loose.take i))) rfl (row_keep Hrow.out (fun x hx => Below.heap_alloc wr _ x (row_base Hrow.out hx).2)) ⟨wr.heap.size, 0, none⟩ 1 1 (rchgCells c) rfl (by simp [rchgCells]) (by rw [Hcells.out]; exact World.news_of_block (cs := #[.int .i64 (c.file : Int), .int .i64 (c.at_ : Int), .bool c.cut, .string (bs bts)]) (t := 106) (fr := (0, 0)) (ze wr _)) (rchg_one c) (by have := Hkl.out; unfold maxLen; omega) (by have := Hkl.out; omega) (by simp; have := Hbel.out.size; omega) ?_; intro v' w7 hown7 hgrow7 _ _; have Hown7 := hid hown7; have Hbel7 := hid ((Hbel.out.alloc Hbel.out.size (.cells #[.int .i64 (c.file : Int), .int .i64 (c.at_ : Int), .bool c.cut, .string (bs bts)] 106)).grown hgrow7 (by simp; have := Hbel.out.size; omega) (fun j hj => (row_base Hrow.out hj).1)); clear hown7 hgrow7)
     | go_in)
    go_roundw
    case rel =>
     refine ⟨i + 1, by simp, by omega, ?_, Hbel7.out⟩
     rw [Htake.out, keepsOf_snoc, if_neg He.out, rchgs_snoc, List.length_append]
     exact Hown7.out
    case measure => simp [intOf]; omega
  ·obtain rfl : i = n := by omega
   have d1' : decide ((i : Int) < (i : Int)) = false := by simp
   have hall : d1.loose.take i = d1.loose := List.take_of_length_le (by have := Hn.out; omega)
   rw [hall] at Hrow
   obtain ⟨m, hm⟩ : ∃ m, m = (keepsOf k d1.loose).length := ⟨_, rfl⟩
   have hf6 := row_form Hrow.out
   rw [← hm] at hf6
   obtain ⟨ga6, cap6, h6⟩ : ∃ ga cap, u6 = .slice ga m cap := by
    rcases hf6 with ⟨h1, h2⟩ | ⟨g, cap, h1⟩
    ·exact ⟨none, 0, by rw [h1, h2]⟩
    ·exact ⟨_, cap, h1⟩
   subst h6
   clear hm hf6 hall
   go_wp2_with fail
   go_ret
   obtain ⟨F', hm9, hst9⟩ := HM3.out.update (d' := sureM d1 k) (nv' := nv) (sv' := put sv k (.slice gk nk ck)) (lv' := .slice ga6 m cap6) (av' := av) Hbel.out (cell_frm (w := wr) (b := b) (o := 16) _) (zd Hblk.out 16 _) (fun f hf => .inl ⟨rfl, rfl⟩) (fun f hf => .inl ⟨rfl, rfl⟩) (.inr Hrow.out) (.inl ⟨rfl, rfl, Nat.le_refl _⟩)
    ⟨HM3.out.ok.nl, HM3.out.ok.sl, HM3.out.ok.ns, HM3.out.ok.ss, fun c hc => HM3.out.ok.lo c (List.mem_filter.1 hc).1, HM3.out.ok.op0⟩
   exact ⟨rfl, F', ⟨_, _, _, _, hm9⟩, HST.out.trans (HST3.out.trans hst9)⟩
end
end Go.Proofs.YtfkcmgbpgefnnaaGreat.Rf
/- The reference's Sync whole, and Read. -/
namespace Go.Proofs.YtfkcmgbpgefnnaaGreat.Rf
open Go.RowKit Go.Maps
set_option maxRecDepth 20000
theorem in_false {f : Int} (h : ¬ (0 ≤ f ∧ f < 8)) : (decide (0 ≤ f) && decide (f < 8)) = false := by simp; omega
theorem in_true {f : Int} (h : 0 ≤ f ∧ f < 8) : (decide (0 ≤ f) && decide (f < 8)) = true := by simp; omega
theorem ready_off {d : Dsk} {f : Int} (h : d.off = true) : readyM d f = 32 := by unfold readyM; rw [h]; rfl
theorem ready_out {d : Dsk} {f : Int} (h : d.off = false) (hf : ¬ (0 ≤ f ∧ f < 8)) : readyM d f = 2 := by unfold readyM; rw [h, if_neg (by simp), if_neg hf]
section
variable {w : World} {b : Nat} {F : Foot} {d : Dsk}
set_option maxRecDepth 20000 in
theorem rsync_any (h : RefAt w b F d) (f : Int) (hs : d.Small 1099511527776) :
  Calls Tryz.prog 52 #[.pointer (some ⟨b, 0, none⟩), .int .i64 f] w fun e w' => e = .returned (.int .i64 (syncM d f).1) ∧ RDid w b F (syncM d f).2 w' := by
 obtain ⟨nv, sv, lv, av, h0⟩ := id h
 have c20 := h0.five.2.2.2.2
 clear h0
 cases ho : d.off with
 | true =>
  rw [ho] at c20
  have e : syncM d f = (32, d) := by unfold syncM; rw [ready_off ho, if_pos (by decide)]
  rw [e]
  have H := hid h
  clear h hs e ho
  go_enter Tryz.func52, Tryz.ntmps52
  go_wp2_with fail
  go_ret
  exact ⟨rfl, RDid.same H.out⟩
 | false =>
  rw [ho] at c20
  by_cases hf : 0 ≤ f ∧ f < 8
  ·obtain ⟨k, rfl⟩ : ∃ k : Nat, f = k := ⟨f.toNat, by omega⟩
   have hk : k < 8 := by omega
   by_cases hm : (meetsM d).1 = 0
   ·have e : syncM d k = (0, sureM (meetsM d).2 k) := by unfold syncM; rw [if_neg (by simpa using ready_on hk ho), if_neg (by simpa using hm), Int.toNat_natCast]
    rw [e]
    exact rsync_main h k hs hk ho hm
   ·have e : syncM d k = meetsM d := by unfold syncM; rw [if_neg (by simpa using ready_on hk ho), if_pos hm]
    rw [e]
    have M := rmeets_any h (hs.mono (by omega))
    have hin := in_any (k : Int)
    rw [in_true hf] at hin
    have IN := hid hin
    obtain ⟨r, hr2⟩ : ∃ r, r = (meetsM d).1 := ⟨_, rfl⟩
    obtain ⟨d1, hd1⟩ : ∃ d1, d1 = (meetsM d).2 := ⟨_, rfl⟩
    rw [← hr2, ← hd1] at M ⊢
    rw [← hr2] at hm
    have hrne : (r != 0) = true := by simpa using hm
    have M := hid M
    clear e h hs hr2 hd1 hm hin ho
    go_enter Tryz.func52, Tryz.ntmps52
    go_wp2_with (first | (go_at_call 83; refine (IN.out _).mono ?_; rintro e w1 ⟨rfl, rfl⟩) | (go_at_call 84; refine (M.out).mono ?_; rintro e w2 ⟨rfl, hd2⟩) | go_in)
    go_ret
    exact ⟨rfl, hd2⟩
  ·have e : syncM d f = (2, d) := by unfold syncM; rw [ready_out ho hf, if_pos (by decide)]
   rw [e]
   have hin := in_any f
   rw [in_false hf] at hin
   have IN := hid hin
   have H := hid h
   clear h hs e ho hin hf
   go_enter Tryz.func52, Tryz.ntmps52
   go_wp2_with (first | (go_at_call 83; refine (IN.out _).mono ?_; rintro e w1 ⟨rfl, rfl⟩) | go_in)
   go_ret
   exact ⟨rfl, RDid.same H.out⟩
theorem RefMem.file {nv sv : Nat → Value} {lv av : Value} (h : RefMem w b F d nv sv lv av) {k : Nat} (hk : k < 8) : ∃ ga cap, nv k = .slice ga (d.now k).length cap ∧ w.cell? ⟨b, k, none⟩ = some (.slice ga (d.now k).length cap) ∧ ((d.now k).length = 0 ∨ ∃ g, ga = some ⟨g, 0, none⟩ ∧ ∀ i (hi : i < (d.now k).length), w.cell? ⟨g, i, none⟩ = some (.string (bs (d.now k)[i]))) := by
 have c := (h.cell k).trans (rnow_cell d nv sv lv av hk)
 have hr := h.now k hk
 rcases row_form hr with ⟨h1, h2⟩ | ⟨g, cap, h1⟩
 ·exact ⟨none, 0, by rw [h1, h2], by rw [c, h1, h2], .inl h2⟩
 ·rw [h1] at hr
  exact ⟨_, cap, h1, by rw [c, h1], .inr ⟨g, rfl, fun i hi => FileR.get hr hi⟩⟩
end
end Go.Proofs.YtfkcmgbpgefnnaaGreat.Rf
