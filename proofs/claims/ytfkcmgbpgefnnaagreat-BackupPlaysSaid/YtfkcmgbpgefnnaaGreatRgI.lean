/- The reference's Crash. -/
import Derived.Test.YtfkcmgbpgefnnaaGreatRgG
set_option linter.unusedVariables false
set_option linter.unusedSimpArgs false
namespace Go.Proofs.YtfkcmgbpgefnnaaGreat.Rf
open Go.RowKit Go.Maps
set_option maxRecDepth 20000
def svS (S : Nat → Option Addr × Nat × Nat) : Nat → Value := fun f => .slice (S f).1 (S f).2.1 (S f).2.2
section
variable {w : World} {b : Nat} {F : Foot} {d : Dsk} {nv sv sv' : Nat → Value} {lv av : Value}
theorem RefMem.congr (h : RefMem w b F d nv sv lv av) (e : ∀ f, f < 8 → sv f = sv' f) : RefMem w b F d nv sv' lv av := by
 have e2 : rfcells sv = rfcells sv' := by
  unfold rfcells
  rw [e 0 (by omega), e 1 (by omega), e 2 (by omega), e 3 (by omega), e 4 (by omega), e 5 (by omega), e 6 (by omega), e 7 (by omega)]
 have e3 : refCells d nv sv lv av = refCells d nv sv' lv av := by unfold refCells; rw [e2]
 exact ⟨e3 ▸ h.blk, h.now, fun f hf => e f hf ▸ h.sure f hf, h.nsh, fun f hf => e f hf ▸ h.ssh f hf, h.row, h.rown, h.arm, h.aown, h.bown, h.apart, h.olt, h.slt, h.ok⟩
theorem RefMem.slices (h : RefMem w b F d nv sv lv av) : ∃ S, RefMem w b F d nv (svS S) lv av := by
 have h1 : ∀ f, ∃ S : Option Addr × Nat × Nat, f < 8 → sv f = .slice S.1 S.2.1 S.2.2 := fun f => by
  by_cases hf : f < 8
  ·obtain ⟨g, n, c, e⟩ := h.form_sure hf
   exact ⟨(g, n, c), fun _ => e⟩
  ·exact ⟨(none, 0, 0), fun h => absurd h hf⟩
 exact ⟨fun f => (h1 f).choose, h.congr (fun f hf => (h1 f).choose_spec hf)⟩
def rfreshSets (S : Nat → Option Addr × Nat × Nat) : List (Nat × Value) := [(0, svS S 0), (1, svS S 1), (2, svS S 2), (3, svS S 3), (4, svS S 4), (5, svS S 5), (6, svS S 6), (7, svS S 7), (16, .slice none 0 0), (17, .slice none 0 0), (20, .bool false), (19, .int .i64 (-1))]
theorem rfresh_cells (S : Nat → Option Addr × Nat × Nat) : (rfreshSets S).foldl (fun cs x => cs.setIfInBounds x.1 x.2) (refCells d nv (svS S) lv av).toArray = (refCells { d with now := d.sure, loose := [], off := false, goes := -1, armed := fun _ => 0, narm := 0 } (svS S) (svS S) (.slice none 0 0) (.slice none 0 0)).toArray := by
 simp only [rfreshSets, refCells, rfcells, List.foldl_cons, List.foldl_nil, List.setIfInBounds_toArray, List.cons_append, List.nil_append, List.set_cons_succ, List.set_cons_zero]
end
section
variable {w : World} {b : Nat} {F : Foot} {d : Dsk}
set_option maxHeartbeats 2000000 in
set_option maxRecDepth 100000 in
theorem rcrash_any (h : RefAt w b F d) (kv : Value) (keep : List Bool) (hk : KeepAt w kv keep) (hown : ∀ g, keepBlk kv keep = some g → ¬ F.own g ∧ g < w.heap.size) (hs : d.Small 1099511627776) (hkl : keep.length ≤ 1099511627776) :
  Calls Tryz.prog 20 #[.pointer (some ⟨b, 0, none⟩), kv] w fun e w' => e = .returned (.tuple #[]) ∧ RDid w b F (crashM d keep) w' := by
 obtain ⟨nv, sv0, lv, av, h0⟩ := h
 obtain ⟨ao, kcap, rfl, hkc⟩ := id hk
 obtain ⟨n, hn⟩ : ∃ n, n = d.loose.length := ⟨_, rfl⟩
 have Hn := hid hn
 have hform := row_form h0.row
 rw [← hn] at hform
 obtain ⟨ga, cap, rfl⟩ : ∃ ga cap, lv = .slice ga n cap := by
  rcases hform with ⟨h1, h2⟩ | ⟨g, cap, h1⟩
  ·exact ⟨none, 0, by rw [h1, h2]⟩
  ·exact ⟨_, cap, h1⟩
 have Hform := hid hform
 have hn1 : n ≤ 1099511627776 := by have := hs.loose; omega
 have H0 := hid h0
 have Hkeep := hid hk
 have Hkown := hid hown
 clear hn hs h0 hk hown hkc hform
 go_enter Tryz.func20, Tryz.ntmps20
 go_wp2_with fail
 go_loopw [4] (fun v4 wr => ∃ (i : Nat) (F2 : Foot) (sv : Nat → Value), v4 = .int .i64 (i : Int) ∧ i ≤ n ∧ RefMem wr b F2 { d with sure := crN d keep i } nv sv (.slice ga n cap) av ∧ FootStep F F2 w wr) (fun v4 _ => n - (intOf v4).toNat)
 case atStart => exact ⟨0, F, sv0, rfl, Nat.zero_le _, H0.out, FootStep.refl _ _⟩
 case round =>
  obtain ⟨i, F2, sv, rfl, hin, hmem, hst⟩ := hrel
  by_cases hlt : i < n
  ·obtain ⟨g, cap', hgv⟩ := Hform.out.resolve_left (fun e => by omega)
   cases hgv
   have hil : i < d.loose.length := by have := Hn.out; omega
   obtain ⟨c, hc⟩ : ∃ c, c = d.loose[i] := ⟨_, rfl⟩
   have hget : d.loose[i]? = some c := by rw [List.getElem?_eq_getElem hil, hc]
   have Hget := hid hget
   have Hcl := hid (H0.out.ok.lo c (List.mem_of_getElem? hget))
   have hrng := rchg_range (n := n) hmem.row Hn.out hget
   have p0 : wr.cell? ⟨g, i * 4, none⟩ = some (.int .i64 (c.file : Int)) := hrng 0 _ rfl
   have p1 : wr.cell? ⟨g, i * 4 + 1, none⟩ = some (.int .i64 (c.at_ : Int)) := hrng 1 _ rfl
   have p2 : wr.cell? ⟨g, i * 4 + 2, none⟩ = some (.bool c.cut) := hrng 2 _ rfl
   have p3 : wr.cell? ⟨g, i * 4 + 3, none⟩ = some (.string (bs (if c.cut then [] else c.bytes))) := hrng 3 _ rfl
   obtain ⟨bts, hbts⟩ : ∃ bts, bts = (if c.cut then [] else c.bytes) := ⟨_, rfl⟩
   have hcells : rchgCells c = [.int .i64 c.file, .int .i64 c.at_, .bool c.cut, .string (bs bts)] := by unfold rchgCells; rw [← hbts]
   have Hcells := hid hcells
   rw [← hbts] at p3
   have c16 : wr.cell? ⟨b, 16, none⟩ = some (.slice (some ⟨g, 0, none⟩) n cap) := hmem.five.1
   have hil2 : (i : Int) < (n : Int) := by omega
   have u5 : decide ((i : Int) < (n : Int)) = true := decide_eq_true (Int.ofNat_lt.2 hlt)
   have HM0 := hid hmem
   have HST0 := hid hst
   clear hc hget hrng hbts hcells hmem hst
   go_upto_region 4 with fail
   obtain ⟨w2, hw2⟩ : ∃ w2, w2 = wr.alloc (.cells (rchgCells c).toArray 106) := ⟨_, rfl⟩
   have hw2' : w2 = wr.alloc (.cells #[.int .i64 (c.file : Int), .int .i64 (c.at_ : Int), .bool c.cut, .string (bs bts)] 106) := by rw [hw2, Hcells.out]
   obtain ⟨B, hB⟩ : ∃ B, B = wr.heap.size := ⟨_, rfl⟩
   rw [← hw2', ← hB]
   have hb2 : Below wr.heap.size wr w2 := by rw [hw2]; exact (Below.refl _ _).alloc (Nat.le_refl _) _
   obtain ⟨d2, hd2⟩ : ∃ d2 : Dsk, d2 = { d with sure := crN d keep i } := ⟨_, rfl⟩
   rw [← hd2] at HM0
   have Hd2 := hid hd2
   have HM := hid (HM0.out.keep (w' := w2) (fun x hx => hb2.block x (hx.elim (HM0.out.olt x) (HM0.out.slt x))) hb2.size)
   have HST := hid (HST0.out.trans (footstep_below (F := F2) hb2))
   have HB := hid (show w2.heap[B]? = some (.cells (rchgCells c).toArray 106 (0, 0)) by rw [hw2, hB]; exact ze _ _)
   have HBb := hid (show B ≠ b by have := zc HM0.out.blk; omega)
   have HK := hid (show KeepAt w2 (.slice ao keep.length kcap) keep from Hkeep.out.keep (fun x hx => HST.out.frm.block x (Hkown.out x hx).2 (Hkown.out x hx).1))
   clear hw2 hw2' hB hb2 hd2 p0 p1 p2 p3 c16 u5
   by_cases hki2 : i < keep.length
   ·obtain ⟨kb, hkb⟩ : ∃ kb, kb = keep[i] := ⟨_, rfl⟩
    have hkget : keep[i]? = some kb := by rw [List.getElem?_eq_getElem hki2, hkb]
    obtain ⟨ao', kcap', e, hcell⟩ := HK.out
    cases e
    rcases hcell with hnil | ⟨gk, ok, rfl, hcell⟩
    ·rw [hnil] at hki2; simp at hki2
    ·have k0 := hcell i kb hkget
     have Hkget := hid hkget
     have hki3 : (i : Int) < (keep.length : Int) := by omega
     clear hcell hkb hkget
     cases kb with
     | true =>
      go_upto_region 5 with fail
      have n0 := HM.out.file_sure Hcl.out.1
      obtain ⟨gk2, nk, ck, hnk⟩ := HM.out.form_sure Hcl.out.1
      have hdoes := rdoes_any (sv c.file) (d2.sure c.file) c w2.drew (HM.out.sure c.file Hcl.out.1) (HM.out.ok.sl c.file Hcl.out.1) Hcl.out.2.1 Hcl.out.2.2.2
      rw [hnk] at n0 hdoes
      have Hdoes := hid hdoes
      have hk8 : (c.file : Int) < 8 := by have := Hcl.out.1; omega
      clear hnk hdoes
      refine wp_region_held_drew (S := fun W => W.heap[B]? = some (.cells (rchgCells c).toArray 106 (0, 0))) (by kernel_rfl) (show w2.drew.heap[B]? = _ from HB.out) (fun hHeld => ?_)
      refine ht 0 hHeld ?_
      refine ht 1 hHeld ?_
      refine held_take (v := .int .i64 (c.file : Int)) 2 rfl (by kernel_rfl) (by kernel_rfl) (by kernel_rfl) (fun _ _ _ h => h) (by rfl) hHeld ?cy2 ?cr2
      case cy2 => (intro W hSw; have yy : W.cell? ⟨B, 0, none⟩ = some (.int .i64 (c.file : Int)) := (za hSw 0).trans rfl; go_simp)
      simp only [Act.put, zl0, zl1, zl2]
      refine ht 3 hHeld ?_
      refine ht 4 hHeld ?_
      refine held_take (v := .int .i64 (c.file : Int)) 5 rfl (by kernel_rfl) (by kernel_rfl) (by kernel_rfl) (fun _ _ _ h => h) (by rfl) hHeld ?cy5 ?cr5
      case cy5 => (intro W hSw; have yy : W.cell? ⟨B, 0, none⟩ = some (.int .i64 (c.file : Int)) := (za hSw 0).trans rfl; go_simp)
      simp only [Act.put, zl0, zl1, zl2]
      refine ht 6 hHeld ?_
      refine ht 7 hHeld ?_
      refine ht 8 hHeld ?_
      refine held_take (v := .agg (rchgCells c).toArray) 10 rfl (by kernel_rfl) (by kernel_rfl) (by kernel_rfl) (fun _ _ _ h => h) (by rfl) hHeld (fun W hSw => exec_load rfl rfl (run_loadAt_mid W _ _ _ _ _ (range_whole hSw) Tryz.underlying106 rfl (by kernel_rfl))) ?_
      simp only [Act.put, zl0, zl1, zl2]
      refine ht 12 hHeld ?_
      refine ht 13 hHeld ?_
      refine held_one 9 (by kernel_rfl) rfl (fun K hK => ?_)
      go_simp
      refine hK.out _ _ (show w2.drew.heap[B]? = _ from HB.out) (fun hHeld => ?_)
      clear hK K
      try simp only [Act.put, zl0, zl1, zl2]
      clear n0
      refine held_one 11 (by kernel_rfl) rfl (fun K hK => ?_)
      go_simp
      refine (Hdoes.out).mono ?_
      rintro e w4 ⟨v4, rfl, hf4, hb4⟩
      have Hb4 := hid (below_undrew hb4)
      have Hf4 := hid (show FileR w4 w2.heap.size v4 (doesM (d2.sure c.file) c) from hf4)
      have HB4 := hid ((Hb4.out.block B (zc HB.out)).trans HB.out)
      obtain ⟨g4, n4, c4, rfl⟩ : ∃ g n cc, v4 = .slice g n cc := (by rcases row_form hf4 with ⟨h1, _⟩ | ⟨g, cap, h1⟩ <;> exact ⟨_, _, _, h1⟩)
      clear hf4 hb4 Hdoes
      try dsimp only
      refine hK.out _ _ (HB4.out) (fun hHeld => ?_)
      clear hK K
      try simp only [Act.put, zl0, zl1, zl2]
      refine ht 14 hHeld ?_
      have hm4 := HM.out.keep (w' := w4) (fun x hx => Hb4.out.block x (hx.elim (HM.out.olt x) (HM.out.slt x))) Hb4.out.size
      have a0 := hm4.file_sure Hcl.out.1
      have af0 := hm4.free (8 + c.file)
      obtain ⟨ga0, na0, ca0, hna0⟩ := hm4.form_sure Hcl.out.1
      rw [hna0] at a0
      clear hm4 hna0
      obtain ⟨F5, hm5, hst5⟩ := HM.out.write_sure Hcl.out.1 Hb4.out Hf4.out (does_len (HM.out.ok.sl c.file Hcl.out.1) Hcl.out.2.2.2) (does_sec (HM.out.ok.ss c.file Hcl.out.1) Hcl.out.2.2.1)
      have hB5 := one_other (w := w4) HB4.out (b := b) HBb.out (8 + c.file) (.slice g4 n4 c4)
      have HM5 := hid hm5
      have HST5 := hid hst5
      have HB5 := hid hB5
      clear hm5 hst5 hB5
      refine held_one 15 (by kernel_rfl) rfl (fun K hK => ?_)
      go_simp
      refine hK.out _ _ (HB5.out) (fun hHeld => ?_)
      clear hK K
      try simp only [Act.put, zl0, zl1, zl2]
      refine wpAnyH_done (by kernel_rfl) ?_ _
      clear a0 af0 hHeld
      go_wp2_with fail
      go_roundw
      case rel =>
       have hm5 := HM5.out
       have hst5 := HST5.out
       rw [Hd2.out] at hm5
       refine ⟨i + 1, F5, put sv c.file (.slice g4 n4 c4), by simp, by omega, ?_, HST.out.trans hst5⟩
       rw [crN_true Hget.out Hkget.out]
       exact hm5
      case measure => simp [intOf]; omega
     | false =>
      go_wp2_with fail
      go_roundw
      case rel =>
       have hm5 := HM.out
       rw [Hd2.out] at hm5
       refine ⟨i + 1, F2, sv, by simp, by omega, ?_, HST.out⟩
       rw [crN_same Hget.out (by simp [List.getD, Hkget.out])]
       exact hm5
      case measure => simp [intOf]; omega
   ·have hki3 : (keep.length : Int) ≤ (i : Int) := by omega
    go_wp2_with fail
    go_roundw
    case rel =>
     have hm5 := HM.out
     rw [Hd2.out] at hm5
     refine ⟨i + 1, F2, sv, by simp, by omega, ?_, HST.out⟩
     rw [crN_same Hget.out (by simp [List.getD, List.getElem?_eq_none (Nat.le_of_not_lt hki2)])]
     exact hm5
    case measure => simp [intOf]; omega
  ·obtain rfl : i = n := by omega
   have hlt' : decide ((i : Int) < (i : Int)) = false := by simp
   obtain ⟨S, hmS⟩ := hmem.slices
   have HM := hid hmS
   have HST := hid hst
   have sc := fun o => HM.out.cell o
   have fr := fun o => HM.out.free o
   have s0 := sc 0
   have s1 := sc 1
   have s2 := sc 2
   have s3 := sc 3
   have s4 := sc 4
   have s5 := sc 5
   have s6 := sc 6
   have s7 := sc 7
   have s8 := sc 8
   have s9 := sc 9
   have s10 := sc 10
   have s11 := sc 11
   have s12 := sc 12
   have s13 := sc 13
   have s14 := sc 14
   have s15 := sc 15
   have s16 := sc 16
   have s17 := sc 17
   have s18 := sc 18
   have s19 := sc 19
   have s20 := sc 20
   clear sc hlt hmem hst hmS
   simp only [refCells, rfcells, svS, List.cons_append, List.nil_append, List.getElem?_cons_succ, List.getElem?_cons_zero] at s0 s1 s2 s3 s4 s5 s6 s7 s8 s9 s10 s11 s12 s13 s14 s15 s16 s17 s18 s19 s20
   go_wp2_with fail
   have hb3 := heap_sets (b := b) (T := 62) (rfreshSets S) wr _ HM.out.blk
   rw [rfresh_cells] at hb3
   have hf3 := frm_sets (b := b) (S := fun k => k = b) rfl (rfreshSets S) wr wr (Frm.refl _ _)
   obtain ⟨w3, hw3⟩ : ∃ w3, w3 = sets wr b (rfreshSets S) := ⟨_, rfl⟩
   rw [← hw3] at hb3 hf3
   unfold sets rfreshSets svS at hw3
   simp only [List.foldl_cons, List.foldl_nil] at hw3
   rw [← hw3]
   obtain ⟨F', hm9, hst9⟩ := HM.out.update (d' := crashM d keep) (nv' := svS S) (sv' := svS S) (lv' := .slice none 0 0) (av' := .slice none 0 0) (Below.refl _ _) hf3 (by unfold crashM; rw [← Hn.out]; exact hb3) (fun f hf => .inr (.inl ⟨rfl, by unfold crashM; rw [← Hn.out]⟩)) (fun f hf => .inl ⟨rfl, by unfold crashM; rw [← Hn.out]⟩) (.inr (World.ownsRow_nil _ _ _ _)) (.inr ⟨[], World.ownsRow_nil _ _ _ _, fun k => rfl, Nat.zero_le _⟩)
    (by unfold crashM; rw [← Hn.out]; exact ⟨HM.out.ok.sl, HM.out.ok.sl, HM.out.ok.ss, HM.out.ok.ss, (fun c hc => by cases hc), HM.out.ok.op0⟩)
   have HM9 := hid hm9
   have HST9 := hid hst9
   clear hm9 hst9 hw3 hb3 hf3
   go_end0
   exact ⟨rfl, F', ⟨_, _, _, _, HM9.out⟩, HST.out.trans HST9.out⟩
end
end Go.Proofs.YtfkcmgbpgefnnaaGreat.Rf
