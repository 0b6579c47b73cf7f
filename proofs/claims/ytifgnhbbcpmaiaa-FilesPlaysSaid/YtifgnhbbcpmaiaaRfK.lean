/- Two disks side by side: the disk and the reference's. -/
import Derived.Test.YtifgnhbbcpmaiaaRfJ
import Derived.Test.YtifgnhbbcpmaiaaRfI
import Derived.Test.YtifgnhbbcpmaiaaRfD
import Derived.Test.YtifgnhbbcpmaiaaDkU
import Derived.Test.YtifgnhbbcpmaiaaDkV
namespace Go.Proofs.Ytifgnhbbcpmaiaa
open Go.RowKit Go.Maps
set_option linter.unusedVariables false
set_option linter.unusedSimpArgs false

structure Two (w0 w : World) (b : Nat) (F : Foot) (D : Dsk) (rb : Nat) (G : Foot) (E : Dsk) : Prop where
  m : Made w0 w b F D
  r : RefAt w rb G E
  rfresh : ∀ k, G.own k → w0.heap.size ≤ k
  fg : ∀ k, F.own k → ¬ G.own k ∧ ¬ G.sh k
  gf : ∀ k, G.own k → ¬ F.own k ∧ ¬ F.sh k
section
variable {w0 w w' : World} {b rb : Nat} {F F' G : Foot} {D D' E E' : Dsk}
theorem RefAt.olt (h : RefAt w b F D) : ∀ k, F.own k → k < w.heap.size := by obtain ⟨_, _, _, _, h⟩ := h; exact h.olt
theorem RefAt.slt (h : RefAt w b F D) : ∀ k, F.sh k → k < w.heap.size := by obtain ⟨_, _, _, _, h⟩ := h; exact h.slt
theorem Two.under (h : Two w0 w b F D rb G E) (hb : Below w.heap.size w w') : Two w0 w' b F D rb G E := ⟨h.m.under hb, h.r.below hb, h.rfresh, h.fg, h.gf⟩
theorem Two.did (h : Two w0 w b F D rb G E) (hd : Did w b F D' w') : ∃ F', Two w0 w' b F' D' rb G E ∧ ∀ k, k < w.heap.size → ¬ F.own k → w'.heap[k]? = w.heap[k]? ∧ ¬ F'.own k := by
  obtain ⟨F', h1, h2⟩ := hd
  refine ⟨F', ⟨⟨h1, below_step h.m.below h.m.fresh h2, fun k hk => (h2.own k hk).elim (h.m.fresh k) (fun h3 => Nat.le_trans h.m.below.size h3)⟩, h.r.other h2 h.fg, h.rfresh, fun k hk => ?_, fun k hk => ?_⟩, fun k hk ho => ⟨h2.frm.block k hk ho, fun h3 => (h2.own k h3).elim ho (fun h4 => by omega)⟩⟩
  · rcases h2.own k hk with h3 | h3
    · exact h.fg k h3
    · exact ⟨fun h4 => by have := h.r.olt k h4; omega, fun h4 => by have := h.r.slt k h4; omega⟩
  · have hlt := h.r.olt k hk
    exact ⟨fun h3 => (h2.own k h3).elim (h.gf k hk).1 (fun h4 => by omega), fun h3 => (h2.sh k h3).elim (h.gf k hk).2 (fun h4 => by omega)⟩
theorem Two.rdid (h : Two w0 w b F D rb G E) (hd : RDid w rb G E' w') : ∃ G', Two w0 w' b F D rb G' E' ∧ ∀ k, k < w.heap.size → ¬ G.own k → w'.heap[k]? = w.heap[k]? ∧ ¬ G'.own k := by
  obtain ⟨G', h1, h2⟩ := hd
  refine ⟨G', ⟨⟨h.m.disk.other (b2 := 0) h2 h.gf, below_step h.m.below h.rfresh h2, h.m.fresh⟩, h1, fun k hk => (h2.own k hk).elim (h.rfresh k) (fun h3 => Nat.le_trans h.m.below.size h3), fun k hk => ?_, fun k hk => ?_⟩, fun k hk ho => ⟨h2.frm.block k hk ho, fun h3 => (h2.own k h3).elim ho (fun h4 => by omega)⟩⟩
  · have hlt := h.m.disk.olt k hk
    exact ⟨fun h3 => (h2.own k h3).elim (h.fg k hk).1 (fun h4 => by omega), fun h3 => (h2.sh k h3).elim (h.fg k hk).2 (fun h4 => by omega)⟩
  · rcases h2.own k hk with h3 | h3
    · exact h.gf k h3
    · exact ⟨fun h4 => by have := h.m.disk.olt k h4; omega, fun h4 => by have := h.m.disk.slt k h4; omega⟩
theorem Two.copy {b2 : Nat} {F2 : Foot} (h : Two w0 w b F D rb G E) (hd : DiskAt w' b2 F2 D) (hb : Below w.heap.size w w') (ho : ∀ k, F2.own k → w.heap.size ≤ k) (hsh : ∀ k, F2.sh k → F.sh k) :
    Two w0 w' b2 F2 D rb G E ∧ Made w0 w' b F D ∧ ∀ k, F.own k → ¬ F2.own k ∧ ¬ F2.sh k ∧ ¬ G.own k ∧ ¬ G.sh k := by
  have h2 := h.m.under hb
  refine ⟨⟨⟨hd, h2.below, fun k hk => Nat.le_trans h.m.below.size (ho k hk)⟩, h.r.below hb, h.rfresh, fun k hk => ?_, fun k hk => ?_⟩, h2, fun k hk => ⟨fun h3 => ?_, fun h3 => h.m.disk.apart k hk (hsh k h3), h.fg k hk⟩⟩
  · have := ho k hk
    exact ⟨fun h3 => by have := h.r.olt k h3; omega, fun h3 => by have := h.r.slt k h3; omega⟩
  · have h4 := h.r.olt k hk
    exact ⟨fun h3 => by have := ho k h3; omega, fun h3 => (h.gf k hk).2 (hsh k h3)⟩
  · have h4 := h.m.disk.olt k hk
    have := ho k h3
    omega
theorem Two.aside {b2 : Nat} {F2 : Foot} {d d' : Dsk} (h : Two w0 w b2 F2 D rb G E) (hm : Made w0 w b F d) (hx : ∀ k, F.own k → ¬ F2.own k ∧ ¬ F2.sh k ∧ ¬ G.own k ∧ ¬ G.sh k) (hd : Did w b F d' w') :
    ∃ F', Two w0 w' b2 F2 D rb G E ∧ Made w0 w' b F' d' ∧ ∀ k, F'.own k → ¬ F2.own k ∧ ¬ F2.sh k ∧ ¬ G.own k ∧ ¬ G.sh k := by
  obtain ⟨F', h1, hs⟩ := hd
  refine ⟨F', ⟨⟨h.m.disk.other (b2 := 0) hs (fun k hk => ⟨(hx k hk).1, (hx k hk).2.1⟩), below_step h.m.below hm.fresh hs, h.m.fresh⟩, h.r.other hs (fun k hk => (hx k hk).2.2), h.rfresh, h.fg, h.gf⟩, ⟨h1, below_step hm.below hm.fresh hs, fun k hk => (hs.own k hk).elim (hm.fresh k) (fun h3 => Nat.le_trans hm.below.size h3)⟩, fun k hk => ?_⟩
  rcases hs.own k hk with h3 | h3
  · exact hx k h3
  · exact ⟨fun h4 => by have := h.m.disk.olt k h4; omega, fun h4 => by have := h.m.disk.slt k h4; omega, fun h4 => by have := h.r.olt k h4; omega, fun h4 => by have := h.r.slt k h4; omega⟩
theorem keep_arm0 (D : Dsk) : armM D 0 32 = (2, D) := by unfold armM; rw [if_neg (by omega)]
theorem arm_none (h : DiskAt w b F D) (hs : D.Small 1099511627776) : Calls Try.prog 25 #[.pointer (some ⟨b, 0, none⟩), .int .i64 0, .int .i64 32] w fun r w' => r = .returned (.int .i64 2) ∧ Did w b F D w' := by
  have h1 := arm_any h 0 32 hs
  rw [keep_arm0] at h1
  exact h1
theorem zed (h : 0 ≤ D.ops) : (writeM (calm D) 0 0 (sectorM 122)).1 = 0 := by
  unfold writeM
  rw [if_neg (by simpa using ready_on (d := calm D) (k := 0) (by omega) calm_off), if_neg (by simp [sectorM]), if_neg (by simp [sectorM]), if_neg (by simpa using (calm_meets h).1)]
end

section
variable {v : Value} {l : List OpM}
set_option maxHeartbeats 16000000 in
set_option maxRecDepth 20000 in
theorem plays_any (w : World) (h : OpsAt (alive w) w v l) :
    Calls Try.prog 7 #[v] w fun e w' => e = .returned (.bool true) ∧ Below w.heap.size w w' := by
  have H := hid h
  clear h
  go_enter Try.func7, Try.ntmps7
  go_upto_region 6 with (first
    | (go_at_call 9; refine (works_any w).mono ?_; rintro e w1 ⟨rfl, hb⟩; have B1 := hid hb; clear hb)
    | (go_at_call 10; refine (heavy_any (H.out.move (all_lt (fun k hk => hk) B1.out)) (fun k hk => Nat.lt_of_lt_of_le hk B1.out.size)).mono ?_; rintro e w2 ⟨he, hb⟩; have B2 := hid (then_below B1.out hb); rcases bool_said he with rfl | ⟨rfl, hl⟩ <;> clear hb he B1)
    | (go_at_call 11; refine (far_any (H.out.move (all_lt (fun k hk => hk) B2.out)) (fun k hk => Nat.lt_of_lt_of_le hk B2.out.size) hl.len).mono ?_; rintro e w3 ⟨he, hb⟩; have B3 := hid (then_below B2.out hb); rcases bool_said he with rfl | ⟨rfl, -⟩ <;> clear hb he B2)
    | (go_at_call 12; refine (new_any w3).mono ?_; rintro e w4 ⟨b, F, rfl, hd, hb, ho, hsh⟩; have M4 := hid (Made.new B3.out hd hb ho); clear hd hb ho hsh)
    | (go_at_call 29; refine (rnew_any w4).mono ?_; rintro e w5 ⟨rb, G, rfl, hr, hb, ho, hsh⟩; have T5 := hid (show Two w w5 b F newM rb G newM from ⟨M4.out.under hb, hr, fun k hk => Nat.le_trans M4.out.below.size (ho k hk), fun k hk => ⟨fun h => absurd (M4.out.disk.olt k hk) (Nat.not_lt.2 (ho k h)), fun h => absurd (M4.out.disk.olt k hk) (Nat.not_lt.2 (hsh k h))⟩, fun k hk => ⟨fun h => absurd (M4.out.disk.olt k h) (Nat.not_lt.2 (ho k hk)), fun h => absurd (M4.out.disk.slt k h) (Nat.not_lt.2 (ho k hk))⟩⟩); clear hr hb ho hsh M4)
    | go_in)
  all_goals first | (go_ret; first | exact ⟨rfl, B2.out⟩ | exact ⟨rfl, B3.out⟩) | skip
  obtain ⟨ao, cap, rfl, hval⟩ := H.out.val
  obtain ⟨n, hnl⟩ : ∃ n, n = l.length := ⟨_, rfl⟩
  have Hn := hid hnl
  have Hval := hid hval
  have Hl := hid hl
  have hn200 : n ≤ 200 := by have := hl.len; omega
  rw [← hnl]
  clear hval hnl hl
  go_wp2_with fail
  go_loopw [31, 3] (fun v31 v3 wr => ∃ (i b : Nat) (F G : Foot), v31 = .int .i64 (i : Int) ∧ v3 = .pointer (some ⟨b, 0, none⟩) ∧ i ≤ n ∧ Two w wr b F (runM newM (l.take i)) rb G (runM newM (l.take i))) (fun v31 _ _ => n - (intOf v31).toNat)
  case atStart => exact ⟨0, b, F, G, rfl, rfl, Nat.zero_le _, T5.out⟩
  case round =>
    obtain ⟨i, b, F, G, rfl, rfl, hin, htwo⟩ := hrel
    by_cases hlt : i < n
    · have Htwo := hid htwo
      clear htwo
      have hil : i < l.length := by have := Hn.out; omega
      obtain ⟨x, hx⟩ : ∃ x, x = l[i] := ⟨_, rfl⟩
      have hget : l[i]? = some x := by rw [List.getElem?_eq_getElem hil, hx]
      have Hx := hid hx
      have Hok := hid (H.out.ok x (List.mem_of_getElem? hget))
      have Hlx := hid (Hl.out.ok x (List.mem_of_getElem? hget))
      have HSd := hid ((run_small (l.take i) newM newM_small (fun y hy => Hl.out.ok y (List.mem_of_mem_take hy))).mono (M := 102400) (by simp; omega))
      obtain ⟨g, o, rfl, hSg, hrng⟩ := Hval.out.resolve_left (fun e => by rw [e] at hil; simp at hil)
      have Hrange := hid (rangeAt_move (hrng i x hget) (Htwo.out.m.below.block g hSg))
      have hlt2 : decide ((i : Int) < (n : Int)) = true := decide_eq_true (Int.ofNat_lt.2 hlt)
      have hin2 : (i : Int) < (n : Int) := Int.ofNat_lt.2 hlt
      clear hx hget
      go_upto_region 8 with fail
      refine wp_region_lit ?_
      refine wpList_value (w' := wr) rfl (.pointer (some ⟨g, o + i * 7, none⟩)) (by go_simp) ?_
      simp only [Act.put, List.setIfInBounds_toArray, List.set_cons_zero, List.set_cons_succ]
      refine wpList_value rfl (opV x) (exec_load rfl (by rfl) (run_loadAt_mid wr _ _ _ _ _ Hrange.out Try.underlying34 rfl (by kernel_rfl))) ?_
      simp only [Act.put, List.setIfInBounds_toArray, List.set_cons_zero, List.set_cons_succ]
      refine wpList_value rfl (.pointer (some ⟨wr.heap.size, 0, none⟩)) (w' := wr.alloc (.cells (opCells ⟨0, 0, 0, 0, 0, [], none, 0, []⟩).toArray 34)) (by kernel_rfl) ?_
      simp only [Act.put, List.setIfInBounds_toArray, List.set_cons_zero, List.set_cons_succ]
      refine wpList_skip rfl (exec_store rfl rfl rfl (run_storeAt_new wr 34 _ _ (by kernel_rfl) (by rfl) (all_oneCell_toArray (opCells_one x)))) ?_
      refine wpList_nil ?_
      simp only [Act.put, List.setIfInBounds_toArray, List.set_cons_zero, List.set_cons_succ]
      obtain ⟨B, hB⟩ : ∃ B, B = wr.heap.size := ⟨_, rfl⟩
      rw [← hB]
      have hBn := heap_alloc_new wr (.cells (opCells x).toArray 34)
      rw [← hB] at hBn
      have hbelA := (Below.refl wr.heap.size wr).alloc (Nat.le_refl _) (.cells (opCells x).toArray 34)
      obtain ⟨wa, hwa⟩ : ∃ wa, wa = wr.alloc (.cells (opCells x).toArray 34) := ⟨_, rfl⟩
      rw [← hwa] at hBn hbelA ⊢
      have HBa := hid hBn
      have HNB := hid (show ¬ F.own B ∧ ¬ G.own B from ⟨fun hk => by have := Htwo.out.m.disk.olt B hk; omega, fun hk => by have := Htwo.out.r.olt B hk; omega⟩)
      have Ta := hid (Htwo.out.under hbelA)
      obtain ⟨D, hD⟩ : ∃ D, D = runM newM (l.take i) := ⟨_, rfl⟩
      have hstep : runM newM (l.take (i + 1)) = stepM D x := by rw [List.take_succ_eq_append_getElem hil, ← Hx.out, runM_snoc, ← hD]
      have Hstep := hid hstep
      rw [← hD] at Ta HSd
      clear hBn hbelA hwa hB Htwo hD hstep
      go_step
      go_step
      go_step
      go_cut [3] (fun v3 wx => ∃ (b2 : Nat) (F2 G2 : Foot), v3 = .pointer (some ⟨b2, 0, none⟩) ∧ Two w wx b2 F2 (stepM D x) rb G2 (stepM D x))
      case first =>
        have q0 : wa.cell? ⟨B, 0, none⟩ = some (.int .i64 x.kind) := (cell_of_block HBa.out 0).trans rfl
        by_cases k1 : x.kind = 1
        · rw [k1] at q0
          as_aux_lemma =>
            have Hes := hid (show stepM D x = (cutM D x.file x.n).2 by unfold stepM; simp [k1])
            clear k1
            go_upto_region 13 with fail
            have T0 := hid (Ta.out.under ((Below.refl wa.heap.size wa).drew))
            have HB0 := hid (show wa.drew.heap[B]? = some (.cells (opCells x).toArray 34 (0, 0)) from HBa.out)
            have HN0 := HNB
            refine wp_region_held_drew (S := fun W => W.heap[B]? = some (.cells (opCells x).toArray 34 (0, 0))) (by kernel_rfl) HB0.out (fun hHeld => ?_)
            refine held_take (v := ?av0) 0 rfl (by kernel_rfl) (by kernel_rfl) (by kernel_rfl) (fun _ _ _ h => h) (by rfl) hHeld ?ay0 ?ar0
            case ay0 => (intro W hSw; go_simp; with_reducible rfl)
            simp only [Act.put, List.setIfInBounds_toArray, List.set_cons_zero, List.set_cons_succ]
            refine held_take (v := ?av1) 1 rfl (by kernel_rfl) (by kernel_rfl) (by kernel_rfl) (fun _ _ _ h => h) (by rfl) hHeld ?ay1 ?ar1
            case ay1 => (intro W hSw; go_simp; with_reducible rfl)
            simp only [Act.put, List.setIfInBounds_toArray, List.set_cons_zero, List.set_cons_succ]
            refine held_take (v := .int .i64 x.file) 2 rfl (by kernel_rfl) (by kernel_rfl) (by kernel_rfl) (fun _ _ _ h => h) (by rfl) hHeld ?ay2 ?ar2
            case ay2 => (intro W hSw; have yy : W.cell? ⟨B, 1, none⟩ = some (.int .i64 x.file) := (cell_of_block hSw 1).trans rfl; go_simp)
            simp only [Act.put, List.setIfInBounds_toArray, List.set_cons_zero, List.set_cons_succ]
            refine held_take (v := ?av3) 3 rfl (by kernel_rfl) (by kernel_rfl) (by kernel_rfl) (fun _ _ _ h => h) (by rfl) hHeld ?ay3 ?ar3
            case ay3 => (intro W hSw; go_simp; with_reducible rfl)
            simp only [Act.put, List.setIfInBounds_toArray, List.set_cons_zero, List.set_cons_succ]
            refine held_take (v := .int .i64 x.n) 4 rfl (by kernel_rfl) (by kernel_rfl) (by kernel_rfl) (fun _ _ _ h => h) (by rfl) hHeld ?ay4 ?ar4
            case ay4 => (intro W hSw; have yy : W.cell? ⟨B, 3, none⟩ = some (.int .i64 x.n) := (cell_of_block hSw 3).trans rfl; go_simp)
            simp only [Act.put, List.setIfInBounds_toArray, List.set_cons_zero, List.set_cons_succ]
            refine held_take (v := ?av6) 6 rfl (by kernel_rfl) (by kernel_rfl) (by kernel_rfl) (fun _ _ _ h => h) (by rfl) hHeld ?ay6 ?ar6
            case ay6 => (intro W hSw; go_simp; with_reducible rfl)
            simp only [Act.put, List.setIfInBounds_toArray, List.set_cons_zero, List.set_cons_succ]
            refine held_take (v := ?av7) 7 rfl (by kernel_rfl) (by kernel_rfl) (by kernel_rfl) (fun _ _ _ h => h) (by rfl) hHeld ?ay7 ?ar7
            case ay7 => (intro W hSw; go_simp; with_reducible rfl)
            simp only [Act.put, List.setIfInBounds_toArray, List.set_cons_zero, List.set_cons_succ]
            refine held_take (v := .int .i64 x.file) 8 rfl (by kernel_rfl) (by kernel_rfl) (by kernel_rfl) (fun _ _ _ h => h) (by rfl) hHeld ?ay8 ?ar8
            case ay8 => (intro W hSw; have yy : W.cell? ⟨B, 1, none⟩ = some (.int .i64 x.file) := (cell_of_block hSw 1).trans rfl; go_simp)
            simp only [Act.put, List.setIfInBounds_toArray, List.set_cons_zero, List.set_cons_succ]
            refine held_take (v := ?av9) 9 rfl (by kernel_rfl) (by kernel_rfl) (by kernel_rfl) (fun _ _ _ h => h) (by rfl) hHeld ?ay9 ?ar9
            case ay9 => (intro W hSw; go_simp; with_reducible rfl)
            simp only [Act.put, List.setIfInBounds_toArray, List.set_cons_zero, List.set_cons_succ]
            refine held_take (v := .int .i64 x.n) 10 rfl (by kernel_rfl) (by kernel_rfl) (by kernel_rfl) (fun _ _ _ h => h) (by rfl) hHeld ?ay10 ?ar10
            case ay10 => (intro W hSw; have yy : W.cell? ⟨B, 3, none⟩ = some (.int .i64 x.n) := (cell_of_block hSw 3).trans rfl; go_simp)
            simp only [Act.put, List.setIfInBounds_toArray, List.set_cons_zero, List.set_cons_succ]
            refine held_one 5 (by kernel_rfl) rfl (fun K hK => ?_)
            go_simp
            refine (cut_any T0.out.m.disk x.file x.n (HSd.out.mono (by omega))).mono ?_
            rintro e w1' ⟨rfl, hd⟩
            try dsimp only
            obtain ⟨F1', htw, hkp⟩ := T0.out.did hd
            have T1 := hid htw
            have HB1 := hid ((hkp B (lt_of_block HB0.out) HN0.out.1).1.trans HB0.out)
            have HN1 := hid (And.intro (hkp B (lt_of_block HB0.out) HN0.out.1).2 HN0.out.2)
            clear htw hkp hd
            refine hK.out _ _ HB1.out (fun hHeld => ?_)
            clear hK K
            try simp only [Act.put, List.setIfInBounds_toArray, List.set_cons_zero, List.set_cons_succ]
            refine held_one 11 (by kernel_rfl) rfl (fun K hK => ?_)
            go_simp
            refine (rcut_any T1.out.r x.file x.n (HSd.out.mono (by omega))).mono ?_
            rintro e w2' ⟨rfl, hd⟩
            try dsimp only
            obtain ⟨G2', htw, hkp⟩ := T1.out.rdid hd
            have T2 := hid htw
            have HB2 := hid ((hkp B (lt_of_block HB1.out) HN1.out.2).1.trans HB1.out)
            have HN2 := hid (And.intro HN1.out.1 (hkp B (lt_of_block HB1.out) HN1.out.2).2)
            clear htw hkp hd
            refine hK.out _ _ HB2.out (fun hHeld => ?_)
            clear hK K
            try simp only [Act.put, List.setIfInBounds_toArray, List.set_cons_zero, List.set_cons_succ]
            refine held_take (v := ?av12) 12 rfl (by kernel_rfl) (by kernel_rfl) (by kernel_rfl) (fun _ _ _ h => h) (by rfl) hHeld ?ay12 ?ar12
            case ay12 => (intro W hSw; go_simp; with_reducible rfl)
            simp only [Act.put, List.setIfInBounds_toArray, List.set_cons_zero, List.set_cons_succ]
            refine wpAnyH_done (by kernel_rfl) ?_ _
            clear hHeld
            go_wp2_with fail
            go_meet
            case rel => exact ⟨b, _, _, rfl, by rw [Hes.out]; exact T2.out⟩
        · skip
          by_cases k2 : x.kind = 2
          · rw [k2] at q0
            as_aux_lemma =>
              have Hes := hid (show stepM D x = (syncM D x.file).2 by unfold stepM; simp [k2])
              clear k1 k2
              go_upto_region 16 with fail
              have T0 := hid (Ta.out.under ((Below.refl wa.heap.size wa).drew))
              have HB0 := hid (show wa.drew.heap[B]? = some (.cells (opCells x).toArray 34 (0, 0)) from HBa.out)
              have HN0 := HNB
              refine wp_region_held_drew (S := fun W => W.heap[B]? = some (.cells (opCells x).toArray 34 (0, 0))) (by kernel_rfl) HB0.out (fun hHeld => ?_)
              refine held_take (v := ?bv0) 0 rfl (by kernel_rfl) (by kernel_rfl) (by kernel_rfl) (fun _ _ _ h => h) (by rfl) hHeld ?by0 ?br0
              case by0 => (intro W hSw; go_simp; with_reducible rfl)
              simp only [Act.put, List.setIfInBounds_toArray, List.set_cons_zero, List.set_cons_succ]
              refine held_take (v := ?bv1) 1 rfl (by kernel_rfl) (by kernel_rfl) (by kernel_rfl) (fun _ _ _ h => h) (by rfl) hHeld ?by1 ?br1
              case by1 => (intro W hSw; go_simp; with_reducible rfl)
              simp only [Act.put, List.setIfInBounds_toArray, List.set_cons_zero, List.set_cons_succ]
              refine held_take (v := .int .i64 x.file) 2 rfl (by kernel_rfl) (by kernel_rfl) (by kernel_rfl) (fun _ _ _ h => h) (by rfl) hHeld ?by2 ?br2
              case by2 => (intro W hSw; have yy : W.cell? ⟨B, 1, none⟩ = some (.int .i64 x.file) := (cell_of_block hSw 1).trans rfl; go_simp)
              simp only [Act.put, List.setIfInBounds_toArray, List.set_cons_zero, List.set_cons_succ]
              refine held_take (v := ?bv4) 4 rfl (by kernel_rfl) (by kernel_rfl) (by kernel_rfl) (fun _ _ _ h => h) (by rfl) hHeld ?by4 ?br4
              case by4 => (intro W hSw; go_simp; with_reducible rfl)
              simp only [Act.put, List.setIfInBounds_toArray, List.set_cons_zero, List.set_cons_succ]
              refine held_take (v := ?bv5) 5 rfl (by kernel_rfl) (by kernel_rfl) (by kernel_rfl) (fun _ _ _ h => h) (by rfl) hHeld ?by5 ?br5
              case by5 => (intro W hSw; go_simp; with_reducible rfl)
              simp only [Act.put, List.setIfInBounds_toArray, List.set_cons_zero, List.set_cons_succ]
              refine held_take (v := .int .i64 x.file) 6 rfl (by kernel_rfl) (by kernel_rfl) (by kernel_rfl) (fun _ _ _ h => h) (by rfl) hHeld ?by6 ?br6
              case by6 => (intro W hSw; have yy : W.cell? ⟨B, 1, none⟩ = some (.int .i64 x.file) := (cell_of_block hSw 1).trans rfl; go_simp)
              simp only [Act.put, List.setIfInBounds_toArray, List.set_cons_zero, List.set_cons_succ]
              refine held_one 3 (by kernel_rfl) rfl (fun K hK => ?_)
              go_simp
              refine (sync_any T0.out.m.disk x.file (HSd.out.mono (by omega))).mono ?_
              rintro e w1' ⟨rfl, hd⟩
              try dsimp only
              obtain ⟨F1', htw, hkp⟩ := T0.out.did hd
              have T1 := hid htw
              have HB1 := hid ((hkp B (lt_of_block HB0.out) HN0.out.1).1.trans HB0.out)
              have HN1 := hid (And.intro (hkp B (lt_of_block HB0.out) HN0.out.1).2 HN0.out.2)
              clear htw hkp hd
              refine hK.out _ _ HB1.out (fun hHeld => ?_)
              clear hK K
              try simp only [Act.put, List.setIfInBounds_toArray, List.set_cons_zero, List.set_cons_succ]
              refine held_one 7 (by kernel_rfl) rfl (fun K hK => ?_)
              go_simp
              refine (rsync_any T1.out.r x.file (HSd.out.mono (by omega))).mono ?_
              rintro e w2' ⟨rfl, hd⟩
              try dsimp only
              obtain ⟨G2', htw, hkp⟩ := T1.out.rdid hd
              have T2 := hid htw
              have HB2 := hid ((hkp B (lt_of_block HB1.out) HN1.out.2).1.trans HB1.out)
              have HN2 := hid (And.intro HN1.out.1 (hkp B (lt_of_block HB1.out) HN1.out.2).2)
              clear htw hkp hd
              refine hK.out _ _ HB2.out (fun hHeld => ?_)
              clear hK K
              try simp only [Act.put, List.setIfInBounds_toArray, List.set_cons_zero, List.set_cons_succ]
              refine held_take (v := ?bv8) 8 rfl (by kernel_rfl) (by kernel_rfl) (by kernel_rfl) (fun _ _ _ h => h) (by rfl) hHeld ?by8 ?br8
              case by8 => (intro W hSw; go_simp; with_reducible rfl)
              simp only [Act.put, List.setIfInBounds_toArray, List.set_cons_zero, List.set_cons_succ]
              refine wpAnyH_done (by kernel_rfl) ?_ _
              clear hHeld
              go_wp2_with fail
              go_meet
              case rel => exact ⟨b, _, _, rfl, by rw [Hes.out]; exact T2.out⟩
          · skip
            by_cases k3 : x.kind = 3
            · rw [k3] at q0
              as_aux_lemma =>
                have Hes := hid (show stepM D x = D by unfold stepM; simp [k3])
                have q1 : wa.cell? ⟨B, 1, none⟩ = some (.int .i64 x.file) := (cell_of_block HBa.out 1).trans rfl
                have q2 : wa.cell? ⟨B, 2, none⟩ = some (.int .i64 x.at_) := (cell_of_block HBa.out 2).trans rfl
                have q3 : wa.cell? ⟨B, 3, none⟩ = some (.int .i64 x.n) := (cell_of_block HBa.out 3).trans rfl
                have RD := hid (read_any Ta.out.m.disk x.file x.at_ x.n Hok.out.at_)
                have RR := hid (fun (W : World) (hr : RefAt W rb G D) => rread_any hr x.file x.at_ x.n Hok.out.at_)
                obtain ⟨z1, hz1⟩ : ∃ z, (readM D x.file x.at_ x.n).1 = z := ⟨_, rfl⟩
                obtain ⟨z2, hz2⟩ : ∃ z, (readM D x.file x.at_ x.n).2 = z := ⟨_, rfl⟩
                rw [hz1, hz2] at RD RR
                clear k1 k2 k3 hz1 hz2
                go_wp2_with (first
                  | (go_at_call 22; refine (RD.out).mono ?_; rintro e w1' ⟨rfl, hb⟩; have T1 := hid (Ta.out.under hb); have HB1 := hid ((hb.block B (lt_of_block HBa.out)).trans HBa.out); have z1' : w1'.cell? ⟨B, 1, none⟩ = some (.int .i64 x.file) := (cell_of_block HB1.out 1).trans rfl; have z2' : w1'.cell? ⟨B, 2, none⟩ = some (.int .i64 x.at_) := (cell_of_block HB1.out 2).trans rfl; have z3' : w1'.cell? ⟨B, 3, none⟩ = some (.int .i64 x.n) := (cell_of_block HB1.out 3).trans rfl; clear hb RD q0 q1 q2 q3)
                  | (go_at_call 32; refine (RR.out w1' T1.out.r).mono ?_; rintro e w2' ⟨rfl, rfl⟩; clear RR)
                  | go_in)
                go_meet
                case rel => exact ⟨b, _, _, rfl, by rw [Hes.out]; exact T1.out⟩
            · skip
              by_cases k4 : x.kind = 4
              · rw [k4] at q0
                as_aux_lemma =>
                  have Hes := hid (show stepM D x = (armM D x.n (errM x)).2 by unfold stepM; simp [k4])
                  clear k1 k2 k3 k4
                  go_upto_region 24 with fail
                  have T0 := hid (Ta.out.under ((Below.refl wa.heap.size wa).drew))
                  have HB0 := hid (show wa.drew.heap[B]? = some (.cells (opCells x).toArray 34 (0, 0)) from HBa.out)
                  have HN0 := HNB
                  refine wp_region_held_drew (S := fun W => W.heap[B]? = some (.cells (opCells x).toArray 34 (0, 0))) (by kernel_rfl) HB0.out (fun hHeld => ?_)
                  refine held_take (v := ?dv0) 0 rfl (by kernel_rfl) (by kernel_rfl) (by kernel_rfl) (fun _ _ _ h => h) (by rfl) hHeld ?dy0 ?dr0
                  case dy0 => (intro W hSw; go_simp; with_reducible rfl)
                  simp only [Act.put, List.setIfInBounds_toArray, List.set_cons_zero, List.set_cons_succ]
                  refine held_take (v := ?dv1) 1 rfl (by kernel_rfl) (by kernel_rfl) (by kernel_rfl) (fun _ _ _ h => h) (by rfl) hHeld ?dy1 ?dr1
                  case dy1 => (intro W hSw; go_simp; with_reducible rfl)
                  simp only [Act.put, List.setIfInBounds_toArray, List.set_cons_zero, List.set_cons_succ]
                  refine held_take (v := .int .i64 x.n) 2 rfl (by kernel_rfl) (by kernel_rfl) (by kernel_rfl) (fun _ _ _ h => h) (by rfl) hHeld ?dy2 ?dr2
                  case dy2 => (intro W hSw; have yy : W.cell? ⟨B, 3, none⟩ = some (.int .i64 x.n) := (cell_of_block hSw 3).trans rfl; go_simp)
                  simp only [Act.put, List.setIfInBounds_toArray, List.set_cons_zero, List.set_cons_succ]
                  refine held_take (v := opV x) 3 rfl (by kernel_rfl) (by kernel_rfl) (by kernel_rfl) (fun _ _ _ h => h) (by rfl) hHeld (fun W hSw => exec_load rfl rfl (run_loadAt_mid W _ _ _ _ _ (range_whole hSw) Try.underlying34 rfl (by kernel_rfl))) ?_
                  simp only [Act.put, List.setIfInBounds_toArray, List.set_cons_zero, List.set_cons_succ]
                  refine held_take (v := ?dv6) 6 rfl (by kernel_rfl) (by kernel_rfl) (by kernel_rfl) (fun _ _ _ h => h) (by rfl) hHeld ?dy6 ?dr6
                  case dy6 => (intro W hSw; go_simp; with_reducible rfl)
                  simp only [Act.put, List.setIfInBounds_toArray, List.set_cons_zero, List.set_cons_succ]
                  refine held_take (v := ?dv7) 7 rfl (by kernel_rfl) (by kernel_rfl) (by kernel_rfl) (fun _ _ _ h => h) (by rfl) hHeld ?dy7 ?dr7
                  case dy7 => (intro W hSw; go_simp; with_reducible rfl)
                  simp only [Act.put, List.setIfInBounds_toArray, List.set_cons_zero, List.set_cons_succ]
                  refine held_take (v := .int .i64 x.n) 8 rfl (by kernel_rfl) (by kernel_rfl) (by kernel_rfl) (fun _ _ _ h => h) (by rfl) hHeld ?dy8 ?dr8
                  case dy8 => (intro W hSw; have yy : W.cell? ⟨B, 3, none⟩ = some (.int .i64 x.n) := (cell_of_block hSw 3).trans rfl; go_simp)
                  simp only [Act.put, List.setIfInBounds_toArray, List.set_cons_zero, List.set_cons_succ]
                  refine held_take (v := opV x) 9 rfl (by kernel_rfl) (by kernel_rfl) (by kernel_rfl) (fun _ _ _ h => h) (by rfl) hHeld (fun W hSw => exec_load rfl rfl (run_loadAt_mid W _ _ _ _ _ (range_whole hSw) Try.underlying34 rfl (by kernel_rfl))) ?_
                  simp only [Act.put, List.setIfInBounds_toArray, List.set_cons_zero, List.set_cons_succ]
                  refine held_one 4 (by kernel_rfl) rfl (fun K hK => ?_)
                  go_simp
                  refine (error_any x wa.drew Hok.out.n).mono ?_
                  rintro e w1' ⟨rfl, hd⟩
                  try dsimp only
                  have T1 := hid (T0.out.under hd)
                  have HB1 := hid ((hd.block B (lt_of_block HB0.out)).trans HB0.out)
                  have HN1 := HN0
                  clear hd
                  refine hK.out _ _ HB1.out (fun hHeld => ?_)
                  clear hK K
                  try simp only [Act.put, List.setIfInBounds_toArray, List.set_cons_zero, List.set_cons_succ]
                  refine held_one 5 (by kernel_rfl) rfl (fun K hK => ?_)
                  go_simp
                  refine (arm_any T1.out.m.disk x.n (errM x) (HSd.out.mono (by omega))).mono ?_
                  rintro e w2' ⟨rfl, hd⟩
                  try dsimp only
                  obtain ⟨F2', htw, hkp⟩ := T1.out.did hd
                  have T2 := hid htw
                  have HB2 := hid ((hkp B (lt_of_block HB1.out) HN1.out.1).1.trans HB1.out)
                  have HN2 := hid (And.intro (hkp B (lt_of_block HB1.out) HN1.out.1).2 HN1.out.2)
                  clear htw hkp hd
                  refine hK.out _ _ HB2.out (fun hHeld => ?_)
                  clear hK K
                  try simp only [Act.put, List.setIfInBounds_toArray, List.set_cons_zero, List.set_cons_succ]
                  refine held_one 10 (by kernel_rfl) rfl (fun K hK => ?_)
                  go_simp
                  refine (error_any x w2' Hok.out.n).mono ?_
                  rintro e w3' ⟨rfl, hd⟩
                  try dsimp only
                  have T3 := hid (T2.out.under hd)
                  have HB3 := hid ((hd.block B (lt_of_block HB2.out)).trans HB2.out)
                  have HN3 := HN2
                  clear hd
                  refine hK.out _ _ HB3.out (fun hHeld => ?_)
                  clear hK K
                  try simp only [Act.put, List.setIfInBounds_toArray, List.set_cons_zero, List.set_cons_succ]
                  refine held_one 11 (by kernel_rfl) rfl (fun K hK => ?_)
                  go_simp
                  refine (rarms_any T3.out.r x.n (errM x) (HSd.out.mono (by omega))).mono ?_
                  rintro e w4' ⟨rfl, hd⟩
                  try dsimp only
                  obtain ⟨G4', htw, hkp⟩ := T3.out.rdid hd
                  have T4 := hid htw
                  have HB4 := hid ((hkp B (lt_of_block HB3.out) HN3.out.2).1.trans HB3.out)
                  have HN4 := hid (And.intro HN3.out.1 (hkp B (lt_of_block HB3.out) HN3.out.2).2)
                  clear htw hkp hd
                  refine hK.out _ _ HB4.out (fun hHeld => ?_)
                  clear hK K
                  try simp only [Act.put, List.setIfInBounds_toArray, List.set_cons_zero, List.set_cons_succ]
                  refine held_take (v := ?dv12) 12 rfl (by kernel_rfl) (by kernel_rfl) (by kernel_rfl) (fun _ _ _ h => h) (by rfl) hHeld ?dy12 ?dr12
                  case dy12 => (intro W hSw; go_simp; with_reducible rfl)
                  simp only [Act.put, List.setIfInBounds_toArray, List.set_cons_zero, List.set_cons_succ]
                  refine held_take (v := ?dv13) 13 rfl (by kernel_rfl) (by kernel_rfl) (by kernel_rfl) (fun _ _ _ h => h) (by rfl) hHeld ?dy13 ?dr13
                  case dy13 => (intro W hSw; go_simp; with_reducible rfl)
                  simp only [Act.put, List.setIfInBounds_toArray, List.set_cons_zero, List.set_cons_succ]
                  refine held_take (v := ?dv14) 14 rfl (by kernel_rfl) (by kernel_rfl) (by kernel_rfl) (fun _ _ _ h => h) (by rfl) hHeld ?dy14 ?dr14
                  case dy14 => (intro W hSw; go_simp; with_reducible rfl)
                  simp only [Act.put, List.setIfInBounds_toArray, List.set_cons_zero, List.set_cons_succ]
                  refine held_one 15 (by kernel_rfl) rfl (fun K hK => ?_)
                  go_simp
                  refine (arm_none T4.out.m.disk ((arm_small HSd.out).mono (by omega))).mono ?_
                  rintro e w5' ⟨rfl, hd⟩
                  try dsimp only
                  obtain ⟨F5', htw, hkp⟩ := T4.out.did hd
                  have T5 := hid htw
                  have HB5 := hid ((hkp B (lt_of_block HB4.out) HN4.out.1).1.trans HB4.out)
                  have HN5 := hid (And.intro (hkp B (lt_of_block HB4.out) HN4.out.1).2 HN4.out.2)
                  clear htw hkp hd
                  refine hK.out _ _ HB5.out (fun hHeld => ?_)
                  clear hK K
                  try simp only [Act.put, List.setIfInBounds_toArray, List.set_cons_zero, List.set_cons_succ]
                  refine held_take (v := ?dv16) 16 rfl (by kernel_rfl) (by kernel_rfl) (by kernel_rfl) (fun _ _ _ h => h) (by rfl) hHeld ?dy16 ?dr16
                  case dy16 => (intro W hSw; go_simp; with_reducible rfl)
                  simp only [Act.put, List.setIfInBounds_toArray, List.set_cons_zero, List.set_cons_succ]
                  refine held_take (v := ?dv17) 17 rfl (by kernel_rfl) (by kernel_rfl) (by kernel_rfl) (fun _ _ _ h => h) (by rfl) hHeld ?dy17 ?dr17
                  case dy17 => (intro W hSw; go_simp; with_reducible rfl)
                  simp only [Act.put, List.setIfInBounds_toArray, List.set_cons_zero, List.set_cons_succ]
                  refine wpAnyH_done (by kernel_rfl) ?_ _
                  clear hHeld
                  go_wp2_with fail
                  go_meet
                  case rel => exact ⟨b, _, _, rfl, by rw [Hes.out]; exact T5.out⟩
              · skip
                by_cases k5 : x.kind = 5
                · rw [k5] at q0
                  as_aux_lemma =>
                    have Hes := hid (show stepM D x = (powerM D x.n).2 by unfold stepM; simp [k5])
                    clear k1 k2 k3 k4 k5
                    go_upto_region 27 with fail
                    have T0 := hid (Ta.out.under ((Below.refl wa.heap.size wa).drew))
                    have HB0 := hid (show wa.drew.heap[B]? = some (.cells (opCells x).toArray 34 (0, 0)) from HBa.out)
                    have HN0 := HNB
                    refine wp_region_held_drew (S := fun W => W.heap[B]? = some (.cells (opCells x).toArray 34 (0, 0))) (by kernel_rfl) HB0.out (fun hHeld => ?_)
                    refine held_take (v := ?ev0) 0 rfl (by kernel_rfl) (by kernel_rfl) (by kernel_rfl) (fun _ _ _ h => h) (by rfl) hHeld ?ey0 ?er0
                    case ey0 => (intro W hSw; go_simp; with_reducible rfl)
                    simp only [Act.put, List.setIfInBounds_toArray, List.set_cons_zero, List.set_cons_succ]
                    refine held_take (v := ?ev1) 1 rfl (by kernel_rfl) (by kernel_rfl) (by kernel_rfl) (fun _ _ _ h => h) (by rfl) hHeld ?ey1 ?er1
                    case ey1 => (intro W hSw; go_simp; with_reducible rfl)
                    simp only [Act.put, List.setIfInBounds_toArray, List.set_cons_zero, List.set_cons_succ]
                    refine held_take (v := .int .i64 x.n) 2 rfl (by kernel_rfl) (by kernel_rfl) (by kernel_rfl) (fun _ _ _ h => h) (by rfl) hHeld ?ey2 ?er2
                    case ey2 => (intro W hSw; have yy : W.cell? ⟨B, 3, none⟩ = some (.int .i64 x.n) := (cell_of_block hSw 3).trans rfl; go_simp)
                    simp only [Act.put, List.setIfInBounds_toArray, List.set_cons_zero, List.set_cons_succ]
                    refine held_take (v := ?ev4) 4 rfl (by kernel_rfl) (by kernel_rfl) (by kernel_rfl) (fun _ _ _ h => h) (by rfl) hHeld ?ey4 ?er4
                    case ey4 => (intro W hSw; go_simp; with_reducible rfl)
                    simp only [Act.put, List.setIfInBounds_toArray, List.set_cons_zero, List.set_cons_succ]
                    refine held_take (v := ?ev5) 5 rfl (by kernel_rfl) (by kernel_rfl) (by kernel_rfl) (fun _ _ _ h => h) (by rfl) hHeld ?ey5 ?er5
                    case ey5 => (intro W hSw; go_simp; with_reducible rfl)
                    simp only [Act.put, List.setIfInBounds_toArray, List.set_cons_zero, List.set_cons_succ]
                    refine held_take (v := .int .i64 x.n) 6 rfl (by kernel_rfl) (by kernel_rfl) (by kernel_rfl) (fun _ _ _ h => h) (by rfl) hHeld ?ey6 ?er6
                    case ey6 => (intro W hSw; have yy : W.cell? ⟨B, 3, none⟩ = some (.int .i64 x.n) := (cell_of_block hSw 3).trans rfl; go_simp)
                    simp only [Act.put, List.setIfInBounds_toArray, List.set_cons_zero, List.set_cons_succ]
                    refine held_one 3 (by kernel_rfl) rfl (fun K hK => ?_)
                    go_simp
                    refine (power_any T0.out.m.disk x.n (HSd.out.mono (by omega))).mono ?_
                    rintro e w1' ⟨rfl, hd⟩
                    try dsimp only
                    obtain ⟨F1', htw, hkp⟩ := T0.out.did hd
                    have T1 := hid htw
                    have HB1 := hid ((hkp B (lt_of_block HB0.out) HN0.out.1).1.trans HB0.out)
                    have HN1 := hid (And.intro (hkp B (lt_of_block HB0.out) HN0.out.1).2 HN0.out.2)
                    clear htw hkp hd
                    refine hK.out _ _ HB1.out (fun hHeld => ?_)
                    clear hK K
                    try simp only [Act.put, List.setIfInBounds_toArray, List.set_cons_zero, List.set_cons_succ]
                    refine held_one 7 (by kernel_rfl) rfl (fun K hK => ?_)
                    go_simp
                    refine (rpower_any T1.out.r x.n (HSd.out.mono (by omega))).mono ?_
                    rintro e w2' ⟨rfl, hd⟩
                    try dsimp only
                    obtain ⟨G2', htw, hkp⟩ := T1.out.rdid hd
                    have T2 := hid htw
                    have HB2 := hid ((hkp B (lt_of_block HB1.out) HN1.out.2).1.trans HB1.out)
                    have HN2 := hid (And.intro HN1.out.1 (hkp B (lt_of_block HB1.out) HN1.out.2).2)
                    clear htw hkp hd
                    refine hK.out _ _ HB2.out (fun hHeld => ?_)
                    clear hK K
                    try simp only [Act.put, List.setIfInBounds_toArray, List.set_cons_zero, List.set_cons_succ]
                    refine held_take (v := ?ev8) 8 rfl (by kernel_rfl) (by kernel_rfl) (by kernel_rfl) (fun _ _ _ h => h) (by rfl) hHeld ?ey8 ?er8
                    case ey8 => (intro W hSw; go_simp; with_reducible rfl)
                    simp only [Act.put, List.setIfInBounds_toArray, List.set_cons_zero, List.set_cons_succ]
                    refine wpAnyH_done (by kernel_rfl) ?_ _
                    clear hHeld
                    go_wp2_with fail
                    go_meet
                    case rel => exact ⟨b, _, _, rfl, by rw [Hes.out]; exact T2.out⟩
                · skip
                  by_cases k6 : x.kind = 6
                  · rw [k6] at q0
                    as_aux_lemma =>
                      have Hes := hid (show stepM D x = crashM D x.keep by unfold stepM; simp [k6])
                      have q6 : wa.cell? ⟨B, 6, none⟩ = some (.slice x.ka x.keep.length x.kcap) := (cell_of_block HBa.out 6).trans rfl
                      clear k1 k2 k3 k4 k5 k6
                      have RC := hid (rcrash_any Ta.out.r x.kv x.keep (Hok.out.keep.keep (fun g hg => Ta.out.m.below.block g (Hok.out.ks g hg))) (fun g hg => ⟨fun ho => absurd (Ta.out.rfresh g ho) (Nat.not_le.2 (Hok.out.ks g hg)), Nat.lt_of_lt_of_le (Hok.out.ks g hg) Ta.out.m.below.size⟩) (HSd.out.mono (by omega)) (by have := Hlx.out.keep; omega))
                      go_wp2_with (first
                        | (go_at_call 36; refine (RC.out).mono ?_; rintro e w1' ⟨rfl, hd⟩; obtain ⟨G1', htw, hkp⟩ := Ta.out.rdid hd; have T1 := hid htw; have HB1 := hid ((hkp B (lt_of_block HBa.out) HNB.out.2).1.trans HBa.out); have z6 : w1'.cell? ⟨B, 6, none⟩ = some (.slice x.ka x.keep.length x.kcap) := (cell_of_block HB1.out 6).trans rfl; clear hd htw hkp RC q0 q6)
                        | (go_at_call 17; refine (crash_any T1.out.m.disk x.kv x.keep (Hok.out.keep.keep (fun g hg => T1.out.m.below.block g (Hok.out.ks g hg))) (fun g hg => ⟨fun ho => absurd (T1.out.m.fresh g ho) (Nat.not_le.2 (Hok.out.ks g hg)), Nat.lt_of_lt_of_le (Hok.out.ks g hg) T1.out.m.below.size⟩) (HSd.out.mono (by omega)) (by have := Hlx.out.keep; omega)).mono ?_; rintro e w2' ⟨rfl, hd⟩; obtain ⟨F2', htw, hkp⟩ := T1.out.did hd; have T2 := hid htw; clear hd htw hkp T1)
                        | go_in)
                      go_meet
                      case rel => exact ⟨b, _, _, rfl, by rw [Hes.out]; exact T2.out⟩
                  · skip
                    by_cases k7 : x.kind = 7
                    · rw [k7] at q0
                      as_aux_lemma =>
                        have Hes := hid (show stepM D x = D by unfold stepM; simp [k7])
                        clear k1 k2 k3 k4 k5 k6 k7
                        have HZ := hid (zed Ta.out.m.disk.ok.op0)
                        have CP := hid (copy_any Ta.out.m.disk (HSd.out.mono (by omega)))
                        have HSc := hid (show (calm D).Small 102400 from crash_small HSd.out)
                        go_wp2_with (first
                          | (go_at_call 28; refine (CP.out).mono ?_; rintro e w1' ⟨b2, F2, rfl, hd, hb, ho, hsh⟩; obtain ⟨htw, hmd, hx⟩ := Ta.out.copy hd hb ho hsh; have T1 := hid htw; have O1 := hid hmd; have X1 := hid hx; clear hd hb ho hsh htw hmd hx CP)
                          | (go_at_call 17; refine (crash_nil O1.out.disk (HSd.out.mono (by omega))).mono ?_; rintro e w2' ⟨rfl, hd⟩; obtain ⟨F3, htw, hmd, hx⟩ := T1.out.aside (d' := calm D) O1.out X1.out hd; have T2 := hid htw; have O2 := hid hmd; have X2 := hid hx; clear hd htw hmd hx O1 T1 X1)
                          | (go_at_call 23; refine (sector_any 122 _).mono ?_; rintro e w3' ⟨rfl, hb⟩; have T3 := hid (T2.out.under hb); have O3 := hid (O2.out.under hb); clear hb T2 O2)
                          | (go_at_call 21; have WZ := write_any O3.out.disk 0 0 (sectorM 122) (HSc.out.mono (by omega)) (by simp [sectorM]); rw [HZ.out] at WZ; refine WZ.mono ?_; rintro e w4' ⟨rfl, hd⟩; obtain ⟨F4, htw, hmd, hx⟩ := T3.out.aside O3.out X2.out hd; have T4 := hid htw; clear hd htw hmd hx O3 T3 WZ)
                          | go_in)
                        go_meet
                        case rel => exact ⟨b2, _, _, rfl, by rw [Hes.out]; exact T4.out⟩
                    · skip
                      as_aux_lemma =>
                        have Hes := hid (show stepM D x = (writeM D x.file (placeM x) (bytesM x)).2 by unfold stepM; simp [k1, k2, k3, k7, k4, k5, k6])
                        have t1 : (x.kind == 1) = false := by simpa using k1
                        have t2 : (x.kind == 2) = false := by simpa using k2
                        have t3 : (x.kind == 3) = false := by simpa using k3
                        have t7 : (x.kind == 7) = false := by simpa using k7
                        have t4 : (x.kind == 4) = false := by simpa using k4
                        have t5 : (x.kind == 5) = false := by simpa using k5
                        have t6 : (x.kind == 6) = false := by simpa using k6
                        clear k1 k2 k3 k7 k4 k5 k6
                        go_upto_region 10 with fail
                        have T0 := hid (Ta.out.under ((Below.refl wa.heap.size wa).drew))
                        have HB0 := hid (show wa.drew.heap[B]? = some (.cells (opCells x).toArray 34 (0, 0)) from HBa.out)
                        have HN0 := HNB
                        refine wp_region_held_drew (S := fun W => W.heap[B]? = some (.cells (opCells x).toArray 34 (0, 0))) (by kernel_rfl) HB0.out (fun hHeld => ?_)
                        refine held_take (v := ?wv0) 0 rfl (by kernel_rfl) (by kernel_rfl) (by kernel_rfl) (fun _ _ _ h => h) (by rfl) hHeld ?wy0 ?wr0
                        case wy0 => (intro W hSw; go_simp; with_reducible rfl)
                        simp only [Act.put, List.setIfInBounds_toArray, List.set_cons_zero, List.set_cons_succ]
                        refine held_take (v := ?wv1) 1 rfl (by kernel_rfl) (by kernel_rfl) (by kernel_rfl) (fun _ _ _ h => h) (by rfl) hHeld ?wy1 ?wr1
                        case wy1 => (intro W hSw; go_simp; with_reducible rfl)
                        simp only [Act.put, List.setIfInBounds_toArray, List.set_cons_zero, List.set_cons_succ]
                        refine held_take (v := .int .i64 x.file) 2 rfl (by kernel_rfl) (by kernel_rfl) (by kernel_rfl) (fun _ _ _ h => h) (by rfl) hHeld ?wy2 ?wr2
                        case wy2 => (intro W hSw; have yy : W.cell? ⟨B, 1, none⟩ = some (.int .i64 x.file) := (cell_of_block hSw 1).trans rfl; go_simp)
                        simp only [Act.put, List.setIfInBounds_toArray, List.set_cons_zero, List.set_cons_succ]
                        refine held_take (v := opV x) 3 rfl (by kernel_rfl) (by kernel_rfl) (by kernel_rfl) (fun _ _ _ h => h) (by rfl) hHeld (fun W hSw => exec_load rfl rfl (run_loadAt_mid W _ _ _ _ _ (range_whole hSw) Try.underlying34 rfl (by kernel_rfl))) ?_
                        simp only [Act.put, List.setIfInBounds_toArray, List.set_cons_zero, List.set_cons_succ]
                        refine held_take (v := opV x) 5 rfl (by kernel_rfl) (by kernel_rfl) (by kernel_rfl) (fun _ _ _ h => h) (by rfl) hHeld (fun W hSw => exec_load rfl rfl (run_loadAt_mid W _ _ _ _ _ (range_whole hSw) Try.underlying34 rfl (by kernel_rfl))) ?_
                        simp only [Act.put, List.setIfInBounds_toArray, List.set_cons_zero, List.set_cons_succ]
                        refine held_take (v := ?wv8) 8 rfl (by kernel_rfl) (by kernel_rfl) (by kernel_rfl) (fun _ _ _ h => h) (by rfl) hHeld ?wy8 ?wr8
                        case wy8 => (intro W hSw; go_simp; with_reducible rfl)
                        simp only [Act.put, List.setIfInBounds_toArray, List.set_cons_zero, List.set_cons_succ]
                        refine held_take (v := ?wv9) 9 rfl (by kernel_rfl) (by kernel_rfl) (by kernel_rfl) (fun _ _ _ h => h) (by rfl) hHeld ?wy9 ?wr9
                        case wy9 => (intro W hSw; go_simp; with_reducible rfl)
                        simp only [Act.put, List.setIfInBounds_toArray, List.set_cons_zero, List.set_cons_succ]
                        refine held_take (v := .int .i64 x.file) 10 rfl (by kernel_rfl) (by kernel_rfl) (by kernel_rfl) (fun _ _ _ h => h) (by rfl) hHeld ?wy10 ?wr10
                        case wy10 => (intro W hSw; have yy : W.cell? ⟨B, 1, none⟩ = some (.int .i64 x.file) := (cell_of_block hSw 1).trans rfl; go_simp)
                        simp only [Act.put, List.setIfInBounds_toArray, List.set_cons_zero, List.set_cons_succ]
                        refine held_take (v := opV x) 11 rfl (by kernel_rfl) (by kernel_rfl) (by kernel_rfl) (fun _ _ _ h => h) (by rfl) hHeld (fun W hSw => exec_load rfl rfl (run_loadAt_mid W _ _ _ _ _ (range_whole hSw) Try.underlying34 rfl (by kernel_rfl))) ?_
                        simp only [Act.put, List.setIfInBounds_toArray, List.set_cons_zero, List.set_cons_succ]
                        refine held_take (v := opV x) 13 rfl (by kernel_rfl) (by kernel_rfl) (by kernel_rfl) (fun _ _ _ h => h) (by rfl) hHeld (fun W hSw => exec_load rfl rfl (run_loadAt_mid W _ _ _ _ _ (range_whole hSw) Try.underlying34 rfl (by kernel_rfl))) ?_
                        simp only [Act.put, List.setIfInBounds_toArray, List.set_cons_zero, List.set_cons_succ]
                        refine held_one 4 (by kernel_rfl) rfl (fun K hK => ?_)
                        go_simp
                        refine (place_any x wa.drew).mono ?_
                        rintro e w1' ⟨rfl, hd⟩
                        try dsimp only
                        have T1 := hid (T0.out.under hd)
                        have HB1 := hid ((hd.block B (lt_of_block HB0.out)).trans HB0.out)
                        have HN1 := HN0
                        clear hd
                        refine hK.out _ _ HB1.out (fun hHeld => ?_)
                        clear hK K
                        try simp only [Act.put, List.setIfInBounds_toArray, List.set_cons_zero, List.set_cons_succ]
                        refine held_one 6 (by kernel_rfl) rfl (fun K hK => ?_)
                        go_simp
                        refine (bytes_any x w1').mono ?_
                        rintro e w2' ⟨rfl, hd⟩
                        try dsimp only
                        have T2 := hid (T1.out.under hd)
                        have HB2 := hid ((hd.block B (lt_of_block HB1.out)).trans HB1.out)
                        have HN2 := HN1
                        clear hd
                        refine hK.out _ _ HB2.out (fun hHeld => ?_)
                        clear hK K
                        try simp only [Act.put, List.setIfInBounds_toArray, List.set_cons_zero, List.set_cons_succ]
                        refine held_one 7 (by kernel_rfl) rfl (fun K hK => ?_)
                        go_simp
                        refine (write_any T2.out.m.disk x.file (placeM x) (bytesM x) (HSd.out.mono (by omega)) (by have := bytes_len Hlx.out; omega)).mono ?_
                        rintro e w3' ⟨rfl, hd⟩
                        try dsimp only
                        obtain ⟨F3', htw, hkp⟩ := T2.out.did hd
                        have T3 := hid htw
                        have HB3 := hid ((hkp B (lt_of_block HB2.out) HN2.out.1).1.trans HB2.out)
                        have HN3 := hid (And.intro (hkp B (lt_of_block HB2.out) HN2.out.1).2 HN2.out.2)
                        clear htw hkp hd
                        refine hK.out _ _ HB3.out (fun hHeld => ?_)
                        clear hK K
                        try simp only [Act.put, List.setIfInBounds_toArray, List.set_cons_zero, List.set_cons_succ]
                        refine held_one 12 (by kernel_rfl) rfl (fun K hK => ?_)
                        go_simp
                        refine (place_any x w3').mono ?_
                        rintro e w4' ⟨rfl, hd⟩
                        try dsimp only
                        have T4 := hid (T3.out.under hd)
                        have HB4 := hid ((hd.block B (lt_of_block HB3.out)).trans HB3.out)
                        have HN4 := HN3
                        clear hd
                        refine hK.out _ _ HB4.out (fun hHeld => ?_)
                        clear hK K
                        try simp only [Act.put, List.setIfInBounds_toArray, List.set_cons_zero, List.set_cons_succ]
                        refine held_one 14 (by kernel_rfl) rfl (fun K hK => ?_)
                        go_simp
                        refine (bytes_any x w4').mono ?_
                        rintro e w5' ⟨rfl, hd⟩
                        try dsimp only
                        have T5 := hid (T4.out.under hd)
                        have HB5 := hid ((hd.block B (lt_of_block HB4.out)).trans HB4.out)
                        have HN5 := HN4
                        clear hd
                        refine hK.out _ _ HB5.out (fun hHeld => ?_)
                        clear hK K
                        try simp only [Act.put, List.setIfInBounds_toArray, List.set_cons_zero, List.set_cons_succ]
                        refine held_one 15 (by kernel_rfl) rfl (fun K hK => ?_)
                        go_simp
                        refine (rwrite_any T5.out.r x.file (placeM x) (bytesM x) (HSd.out.mono (by omega)) (by have := bytes_len Hlx.out; omega)).mono ?_
                        rintro e w6' ⟨rfl, hd⟩
                        try dsimp only
                        obtain ⟨G6', htw, hkp⟩ := T5.out.rdid hd
                        have T6 := hid htw
                        have HB6 := hid ((hkp B (lt_of_block HB5.out) HN5.out.2).1.trans HB5.out)
                        have HN6 := hid (And.intro HN5.out.1 (hkp B (lt_of_block HB5.out) HN5.out.2).2)
                        clear htw hkp hd
                        refine hK.out _ _ HB6.out (fun hHeld => ?_)
                        clear hK K
                        try simp only [Act.put, List.setIfInBounds_toArray, List.set_cons_zero, List.set_cons_succ]
                        refine held_take (v := ?wv16) 16 rfl (by kernel_rfl) (by kernel_rfl) (by kernel_rfl) (fun _ _ _ h => h) (by rfl) hHeld ?wy16 ?wr16
                        case wy16 => (intro W hSw; go_simp; with_reducible rfl)
                        simp only [Act.put, List.setIfInBounds_toArray, List.set_cons_zero, List.set_cons_succ]
                        refine wpAnyH_done (by kernel_rfl) ?_ _
                        clear hHeld
                        go_wp2_with fail
                        go_meet
                        case rel => exact ⟨b, _, _, rfl, by rw [Hes.out]; exact T6.out⟩
      case rest =>
        obtain ⟨b2, F2, G2, rfl, htw⟩ := hcut
        have TC := hid htw
        obtain ⟨E, hE⟩ : ∃ E, E = stepM D x := ⟨_, rfl⟩
        rw [← hE] at TC
        have HE := hid hE
        clear htw hE
        as_aux_lemma =>
          obtain ⟨rnv, rsv, rlv, rav, hrm⟩ := TC.out.r
          have c18 := hrm.five.2.2.1
          have c20 := hrm.five.2.2.2.2
          have HRM := hid hrm
          obtain ⟨lg, ln, lc, hlv⟩ : ∃ g n c, rlv = .slice g n c := by
            rcases row_form hrm.row with ⟨h1, _⟩ | ⟨g, cap, h1⟩ <;> exact ⟨_, _, _, h1⟩
          have hll : ln = E.loose.length := by
            have h1 := ownsRow_len hrm.row
            rw [hlv] at h1
            exact h1
          have c16 := hrm.five.1
          rw [hlv, hll] at c16
          clear hrm hlv hll
          go_upto_region 38 with fail
          refine wp_region_held_drew (S := fun W => W = wc.drew) (by kernel_rfl) rfl (fun hHeld => ?_)
          refine held_take (v := ?gv0) 0 rfl (by kernel_rfl) (by kernel_rfl) (by kernel_rfl) (fun _ _ _ h => h) (by rfl) hHeld ?gy0 ?gr0
          case gy0 => (intro W hSw; subst hSw; go_simp; with_reducible rfl)
          simp only [Act.put, List.setIfInBounds_toArray, List.set_cons_zero, List.set_cons_succ]
          refine held_take (v := ?gv2) 2 rfl (by kernel_rfl) (by kernel_rfl) (by kernel_rfl) (fun _ _ _ h => h) (by rfl) hHeld ?gy2 ?gr2
          case gy2 => (intro W hSw; subst hSw; go_simp; with_reducible rfl)
          simp only [Act.put, List.setIfInBounds_toArray, List.set_cons_zero, List.set_cons_succ]
          refine held_take (v := ?gv3) 3 rfl (by kernel_rfl) (by kernel_rfl) (by kernel_rfl) (fun _ _ _ h => h) (by rfl) hHeld ?gy3 ?gr3
          case gy3 => (intro W hSw; subst hSw; go_simp; with_reducible rfl)
          simp only [Act.put, List.setIfInBounds_toArray, List.set_cons_zero, List.set_cons_succ]
          refine held_take (v := ?gv4) 4 rfl (by kernel_rfl) (by kernel_rfl) (by kernel_rfl) (fun _ _ _ h => h) (by rfl) hHeld ?gy4 ?gr4
          case gy4 => (intro W hSw; subst hSw; go_simp; with_reducible rfl)
          simp only [Act.put, List.setIfInBounds_toArray, List.set_cons_zero, List.set_cons_succ]
          refine held_take (v := ?gv5) 5 rfl (by kernel_rfl) (by kernel_rfl) (by kernel_rfl) (fun _ _ _ h => h) (by rfl) hHeld ?gy5 ?gr5
          case gy5 => (intro W hSw; subst hSw; go_simp; with_reducible rfl)
          simp only [Act.put, List.setIfInBounds_toArray, List.set_cons_zero, List.set_cons_succ]
          refine held_one 1 (by kernel_rfl) rfl (fun K hK => ?_)
          go_simp
          refine (on_any (show DiskAt wc.drew b2 F2 E from TC.out.m.disk.below ((Below.refl _ _).drew))).mono ?_
          rintro e W2 ⟨rfl, rfl⟩
          try dsimp only
          refine hK.out _ _ rfl (fun hHeld => ?_)
          clear hK K
          try simp only [Act.put, List.setIfInBounds_toArray, List.set_cons_zero, List.set_cons_succ]
          refine held_take (v := ?gv6) 6 rfl (by kernel_rfl) (by kernel_rfl) (by kernel_rfl) (fun _ _ _ h => h) (by rfl) hHeld ?gy6 ?gr6
          case gy6 => (intro W hSw; subst hSw; go_simp; with_reducible rfl)
          simp only [Act.put, List.setIfInBounds_toArray, List.set_cons_zero, List.set_cons_succ]
          refine held_take (v := ?gv7) 7 rfl (by kernel_rfl) (by kernel_rfl) (by kernel_rfl) (fun _ _ _ h => h) (by rfl) hHeld ?gy7 ?gr7
          case gy7 => (intro W hSw; subst hSw; go_simp; with_reducible rfl)
          simp only [Act.put, List.setIfInBounds_toArray, List.set_cons_zero, List.set_cons_succ]
          refine held_take (v := ?gv8) 8 rfl (by kernel_rfl) (by kernel_rfl) (by kernel_rfl) (fun _ _ _ h => h) (by rfl) hHeld ?gy8 ?gr8
          case gy8 => (intro W hSw; subst hSw; go_simp; with_reducible rfl)
          simp only [Act.put, List.setIfInBounds_toArray, List.set_cons_zero, List.set_cons_succ]
          refine held_take (v := ?gv10) 10 rfl (by kernel_rfl) (by kernel_rfl) (by kernel_rfl) (fun _ _ _ h => h) (by rfl) hHeld ?gy10 ?gr10
          case gy10 => (intro W hSw; subst hSw; go_simp; with_reducible rfl)
          simp only [Act.put, List.setIfInBounds_toArray, List.set_cons_zero, List.set_cons_succ]
          refine held_take (v := ?gv11) 11 rfl (by kernel_rfl) (by kernel_rfl) (by kernel_rfl) (fun _ _ _ h => h) (by rfl) hHeld ?gy11 ?gr11
          case gy11 => (intro W hSw; subst hSw; go_simp; with_reducible rfl)
          simp only [Act.put, List.setIfInBounds_toArray, List.set_cons_zero, List.set_cons_succ]
          refine held_take (v := ?gv12) 12 rfl (by kernel_rfl) (by kernel_rfl) (by kernel_rfl) (fun _ _ _ h => h) (by rfl) hHeld ?gy12 ?gr12
          case gy12 => (intro W hSw; subst hSw; go_simp; with_reducible rfl)
          simp only [Act.put, List.setIfInBounds_toArray, List.set_cons_zero, List.set_cons_succ]
          refine held_take (v := ?gv13) 13 rfl (by kernel_rfl) (by kernel_rfl) (by kernel_rfl) (fun _ _ _ h => h) (by rfl) hHeld ?gy13 ?gr13
          case gy13 => (intro W hSw; subst hSw; go_simp; with_reducible rfl)
          simp only [Act.put, List.setIfInBounds_toArray, List.set_cons_zero, List.set_cons_succ]
          refine held_one 9 (by kernel_rfl) rfl (fun K hK => ?_)
          go_simp
          refine (ops_any (show DiskAt wc.drew b2 F2 E from TC.out.m.disk.below ((Below.refl _ _).drew))).mono ?_
          rintro e W2 ⟨rfl, rfl⟩
          try dsimp only
          refine hK.out _ _ rfl (fun hHeld => ?_)
          clear hK K
          try simp only [Act.put, List.setIfInBounds_toArray, List.set_cons_zero, List.set_cons_succ]
          refine held_take (v := ?gv14) 14 rfl (by kernel_rfl) (by kernel_rfl) (by kernel_rfl) (fun _ _ _ h => h) (by rfl) hHeld ?gy14 ?gr14
          case gy14 => (intro W hSw; subst hSw; go_simp; with_reducible rfl)
          simp only [Act.put, List.setIfInBounds_toArray, List.set_cons_zero, List.set_cons_succ]
          refine held_take (v := ?gv15) 15 rfl (by kernel_rfl) (by kernel_rfl) (by kernel_rfl) (fun _ _ _ h => h) (by rfl) hHeld ?gy15 ?gr15
          case gy15 => (intro W hSw; subst hSw; go_simp; with_reducible rfl)
          simp only [Act.put, List.setIfInBounds_toArray, List.set_cons_zero, List.set_cons_succ]
          refine held_take (v := ?gv16) 16 rfl (by kernel_rfl) (by kernel_rfl) (by kernel_rfl) (fun _ _ _ h => h) (by rfl) hHeld ?gy16 ?gr16
          case gy16 => (intro W hSw; subst hSw; go_simp; with_reducible rfl)
          simp only [Act.put, List.setIfInBounds_toArray, List.set_cons_zero, List.set_cons_succ]
          refine held_take (v := ?gv17) 17 rfl (by kernel_rfl) (by kernel_rfl) (by kernel_rfl) (fun _ _ _ h => h) (by rfl) hHeld ?gy17 ?gr17
          case gy17 => (intro W hSw; subst hSw; go_simp; with_reducible rfl)
          simp only [Act.put, List.setIfInBounds_toArray, List.set_cons_zero, List.set_cons_succ]
          refine held_take (v := ?gv19) 19 rfl (by kernel_rfl) (by kernel_rfl) (by kernel_rfl) (fun _ _ _ h => h) (by rfl) hHeld ?gy19 ?gr19
          case gy19 => (intro W hSw; subst hSw; go_simp; with_reducible rfl)
          simp only [Act.put, List.setIfInBounds_toArray, List.set_cons_zero, List.set_cons_succ]
          refine held_take (v := ?gv20) 20 rfl (by kernel_rfl) (by kernel_rfl) (by kernel_rfl) (fun _ _ _ h => h) (by rfl) hHeld ?gy20 ?gr20
          case gy20 => (intro W hSw; subst hSw; go_simp; with_reducible rfl)
          simp only [Act.put, List.setIfInBounds_toArray, List.set_cons_zero, List.set_cons_succ]
          refine held_take (v := ?gv21) 21 rfl (by kernel_rfl) (by kernel_rfl) (by kernel_rfl) (fun _ _ _ h => h) (by rfl) hHeld ?gy21 ?gr21
          case gy21 => (intro W hSw; subst hSw; go_simp; with_reducible rfl)
          simp only [Act.put, List.setIfInBounds_toArray, List.set_cons_zero, List.set_cons_succ]
          refine held_take (v := ?gv22) 22 rfl (by kernel_rfl) (by kernel_rfl) (by kernel_rfl) (fun _ _ _ h => h) (by rfl) hHeld ?gy22 ?gr22
          case gy22 => (intro W hSw; subst hSw; go_simp; with_reducible rfl)
          simp only [Act.put, List.setIfInBounds_toArray, List.set_cons_zero, List.set_cons_succ]
          refine held_take (v := ?gv23) 23 rfl (by kernel_rfl) (by kernel_rfl) (by kernel_rfl) (fun _ _ _ h => h) (by rfl) hHeld ?gy23 ?gr23
          case gy23 => (intro W hSw; subst hSw; go_simp; with_reducible rfl)
          simp only [Act.put, List.setIfInBounds_toArray, List.set_cons_zero, List.set_cons_succ]
          refine held_one 18 (by kernel_rfl) rfl (fun K hK => ?_)
          go_simp
          refine (loose_any (show DiskAt wc.drew b2 F2 E from TC.out.m.disk.below ((Below.refl _ _).drew))).mono ?_
          rintro e W2 ⟨rfl, rfl⟩
          try dsimp only
          refine hK.out _ _ rfl (fun hHeld => ?_)
          clear hK K
          try simp only [Act.put, List.setIfInBounds_toArray, List.set_cons_zero, List.set_cons_succ]
          refine held_take (v := ?gv24) 24 rfl (by kernel_rfl) (by kernel_rfl) (by kernel_rfl) (fun _ _ _ h => h) (by rfl) hHeld ?gy24 ?gr24
          case gy24 => (intro W hSw; subst hSw; go_simp; with_reducible rfl)
          simp only [Act.put, List.setIfInBounds_toArray, List.set_cons_zero, List.set_cons_succ]
          refine held_take (v := ?gv25) 25 rfl (by kernel_rfl) (by kernel_rfl) (by kernel_rfl) (fun _ _ _ h => h) (by rfl) hHeld ?gy25 ?gr25
          case gy25 => (intro W hSw; subst hSw; go_simp; with_reducible rfl)
          simp only [Act.put, List.setIfInBounds_toArray, List.set_cons_zero, List.set_cons_succ]
          refine held_take (v := ?gv26) 26 rfl (by kernel_rfl) (by kernel_rfl) (by kernel_rfl) (fun _ _ _ h => h) (by rfl) hHeld ?gy26 ?gr26
          case gy26 => (intro W hSw; subst hSw; go_simp; with_reducible rfl)
          simp only [Act.put, List.setIfInBounds_toArray, List.set_cons_zero, List.set_cons_succ]
          refine held_take (v := ?gv27) 27 rfl (by kernel_rfl) (by kernel_rfl) (by kernel_rfl) (fun _ _ _ h => h) (by rfl) hHeld ?gy27 ?gr27
          case gy27 => (intro W hSw; subst hSw; go_simp; with_reducible rfl)
          simp only [Act.put, List.setIfInBounds_toArray, List.set_cons_zero, List.set_cons_succ]
          refine held_take (v := ?gv29) 29 rfl (by kernel_rfl) (by kernel_rfl) (by kernel_rfl) (fun _ _ _ h => h) (by rfl) hHeld ?gy29 ?gr29
          case gy29 => (intro W hSw; subst hSw; go_simp; with_reducible rfl)
          simp only [Act.put, List.setIfInBounds_toArray, List.set_cons_zero, List.set_cons_succ]
          refine held_one 28 (by kernel_rfl) rfl (fun K hK => ?_)
          go_simp
          refine (size_any (show DiskAt wc.drew b2 F2 E from TC.out.m.disk.below ((Below.refl _ _).drew)) (-1)).mono ?_
          rintro e W2 ⟨rfl, rfl⟩
          try dsimp only
          rw [if_neg (by omega)]
          refine hK.out _ _ rfl (fun hHeld => ?_)
          clear hK K
          try simp only [Act.put, List.setIfInBounds_toArray, List.set_cons_zero, List.set_cons_succ]
          refine held_one 30 (by kernel_rfl) rfl (fun K hK => ?_)
          go_simp
          refine (size_any (show DiskAt wc.drew b2 F2 E from TC.out.m.disk.below ((Below.refl _ _).drew)) 8).mono ?_
          rintro e W2 ⟨rfl, rfl⟩
          try dsimp only
          rw [if_neg (by omega)]
          refine hK.out _ _ rfl (fun hHeld => ?_)
          clear hK K
          try simp only [Act.put, List.setIfInBounds_toArray, List.set_cons_zero, List.set_cons_succ]
          refine held_take (v := ?gv31) 31 rfl (by kernel_rfl) (by kernel_rfl) (by kernel_rfl) (fun _ _ _ h => h) (by rfl) hHeld ?gy31 ?gr31
          case gy31 => (intro W hSw; subst hSw; go_simp; with_reducible rfl)
          simp only [Act.put, List.setIfInBounds_toArray, List.set_cons_zero, List.set_cons_succ]
          refine held_take (v := ?gv32) 32 rfl (by kernel_rfl) (by kernel_rfl) (by kernel_rfl) (fun _ _ _ h => h) (by rfl) hHeld ?gy32 ?gr32
          case gy32 => (intro W hSw; subst hSw; go_simp; with_reducible rfl)
          simp only [Act.put, List.setIfInBounds_toArray, List.set_cons_zero, List.set_cons_succ]
          refine held_take (v := ?gv33) 33 rfl (by kernel_rfl) (by kernel_rfl) (by kernel_rfl) (fun _ _ _ h => h) (by rfl) hHeld ?gy33 ?gr33
          case gy33 => (intro W hSw; subst hSw; go_simp; with_reducible rfl)
          simp only [Act.put, List.setIfInBounds_toArray, List.set_cons_zero, List.set_cons_succ]
          refine wpAnyH_done (by kernel_rfl) ?_ _
          clear hHeld
          go_wp2_with fail
          go_loopw [206] (fun v206 wr => ∃ q : Nat, v206 = .int .i64 (q : Int) ∧ q ≤ 8 ∧ Two w wr b2 F2 E rb G2 E) (fun v206 _ => 8 - (intOf v206).toNat)
          case atStart => exact ⟨0, rfl, by omega, TC.out.under ((Below.refl _ _).drew)⟩
          case round =>
            obtain ⟨q, rfl, hq8, htq⟩ := hrel
            have TQ := hid htq
            clear htq
            by_cases hq : q < 8
            · have hq1 : decide ((q : Int) < 8) = true := by simp; omega
              have hq2 : (q : Int) < 8 := by omega
              obtain ⟨rnv, rsv, rlv, rav, hrm⟩ := TQ.out.r
              obtain ⟨ga, gc, -, cq, -⟩ := hrm.file hq
              obtain ⟨lq, hlq⟩ : ∃ lq, lq = (E.now q).length := ⟨_, rfl⟩
              rw [← hlq] at cq
              have Hlq := hid hlq.symm
              clear hrm hlq
              go_upto_region 43 with fail
              refine wp_region_held_drew (S := fun W => W = wr.drew) (by kernel_rfl) rfl (fun hHeld => ?_)
              refine held_take (v := ?hv0) 0 rfl (by kernel_rfl) (by kernel_rfl) (by kernel_rfl) (fun _ _ _ h => h) (by rfl) hHeld ?hy0 ?hr0
              case hy0 => (intro W hSw; subst hSw; go_simp; with_reducible rfl)
              simp only [Act.put, List.setIfInBounds_toArray, List.set_cons_zero, List.set_cons_succ]
              refine held_take (v := ?hv1) 1 rfl (by kernel_rfl) (by kernel_rfl) (by kernel_rfl) (fun _ _ _ h => h) (by rfl) hHeld ?hy1 ?hr1
              case hy1 => (intro W hSw; subst hSw; go_simp; with_reducible rfl)
              simp only [Act.put, List.setIfInBounds_toArray, List.set_cons_zero, List.set_cons_succ]
              refine held_take (v := ?hv3) 3 rfl (by kernel_rfl) (by kernel_rfl) (by kernel_rfl) (fun _ _ _ h => h) (by rfl) hHeld ?hy3 ?hr3
              case hy3 => (intro W hSw; subst hSw; go_simp; with_reducible rfl)
              simp only [Act.put, List.setIfInBounds_toArray, List.set_cons_zero, List.set_cons_succ]
              refine held_take (v := ?hv4) 4 rfl (by kernel_rfl) (by kernel_rfl) (by kernel_rfl) (fun _ _ _ h => h) (by rfl) hHeld ?hy4 ?hr4
              case hy4 => (intro W hSw; subst hSw; go_simp; with_reducible rfl)
              simp only [Act.put, List.setIfInBounds_toArray, List.set_cons_zero, List.set_cons_succ]
              refine held_take (v := ?hv5) 5 rfl (by kernel_rfl) (by kernel_rfl) (by kernel_rfl) (fun _ _ _ h => h) (by rfl) hHeld ?hy5 ?hr5
              case hy5 => (intro W hSw; subst hSw; go_simp; with_reducible rfl)
              simp only [Act.put, List.setIfInBounds_toArray, List.set_cons_zero, List.set_cons_succ]
              refine held_take (v := ?hv6) 6 rfl (by kernel_rfl) (by kernel_rfl) (by kernel_rfl) (fun _ _ _ h => h) (by rfl) hHeld ?hy6 ?hr6
              case hy6 => (intro W hSw; subst hSw; go_simp; with_reducible rfl)
              simp only [Act.put, List.setIfInBounds_toArray, List.set_cons_zero, List.set_cons_succ]
              refine held_take (v := ?hv7) 7 rfl (by kernel_rfl) (by kernel_rfl) (by kernel_rfl) (fun _ _ _ h => h) (by rfl) hHeld ?hy7 ?hr7
              case hy7 => (intro W hSw; subst hSw; go_simp; with_reducible rfl)
              simp only [Act.put, List.setIfInBounds_toArray, List.set_cons_zero, List.set_cons_succ]
              refine held_take (v := ?hv8) 8 rfl (by kernel_rfl) (by kernel_rfl) (by kernel_rfl) (fun _ _ _ h => h) (by rfl) hHeld ?hy8 ?hr8
              case hy8 => (intro W hSw; subst hSw; go_simp; with_reducible rfl)
              simp only [Act.put, List.setIfInBounds_toArray, List.set_cons_zero, List.set_cons_succ]
              refine held_take (v := ?hv9) 9 rfl (by kernel_rfl) (by kernel_rfl) (by kernel_rfl) (fun _ _ _ h => h) (by rfl) hHeld ?hy9 ?hr9
              case hy9 => (intro W hSw; subst hSw; go_simp; with_reducible rfl)
              simp only [Act.put, List.setIfInBounds_toArray, List.set_cons_zero, List.set_cons_succ]
              refine held_one 2 (by kernel_rfl) rfl (fun K hK => ?_)
              go_simp
              refine (size_any (show DiskAt wr.drew b2 F2 E from TQ.out.m.disk.below ((Below.refl _ _).drew)) (q : Int)).mono ?_
              rintro e W2 ⟨rfl, rfl⟩
              try dsimp only
              rw [if_pos (by omega), Int.toNat_natCast, Hlq.out]
              refine hK.out _ _ rfl (fun hHeld => ?_)
              clear hK K
              try simp only [Act.put, List.setIfInBounds_toArray, List.set_cons_zero, List.set_cons_succ]
              refine held_take (v := ?hv10) 10 rfl (by kernel_rfl) (by kernel_rfl) (by kernel_rfl) (fun _ _ _ h => h) (by rfl) hHeld ?hy10 ?hr10
              case hy10 => (intro W hSw; subst hSw; go_simp; with_reducible rfl)
              simp only [Act.put, List.setIfInBounds_toArray, List.set_cons_zero, List.set_cons_succ]
              refine wpAnyH_done (by kernel_rfl) ?_ _
              clear hHeld
              go_wp2_with fail
              go_roundw
              case rel => exact ⟨q + 1, by simp, by omega, TQ.out.under ((Below.refl _ _).drew)⟩
              case measure => simp [intOf]; omega
            · obtain rfl : q = 8 := by omega
              go_wp2_with fail
              go_roundw
              case rel => exact ⟨i + 1, b2, F2, G2, by simp, rfl, by omega, by rw [Hstep.out, ← HE.out]; exact TQ.out⟩
              case measure => simp [intOf]; omega
    · obtain rfl : i = n := by omega
      have hlt' : decide ((i : Int) < (i : Int)) = false := by simp
      have Ti := hid htwo
      clear htwo
      obtain ⟨D, hD⟩ : ∃ D, D = runM newM (l.take i) := ⟨_, rfl⟩
      rw [← hD] at Ti
      clear hD
      as_aux_lemma =>
        go_wp2_with fail
        go_loopw [222] (fun v222 wr => ∃ q : Nat, v222 = .int .i64 (q : Int) ∧ q ≤ 8 ∧ Two w wr b F D rb G D) (fun v222 _ => 8 - (intOf v222).toNat)
        case atStart => exact ⟨0, rfl, by omega, Ti.out⟩
        case round =>
          obtain ⟨q, rfl, hq8, htq⟩ := hrel
          have TQ := hid htq
          clear htq Ti
          by_cases hq : q < 8
          · have hq1 : decide ((q : Int) < 8) = true := by simp; omega
            have hq2 : (q : Int) < 8 := by omega
            obtain ⟨rnv, rsv, rlv, rav, hrm⟩ := TQ.out.r
            obtain ⟨ga, gc, -, cq, -⟩ := hrm.file hq
            obtain ⟨lq, hlq⟩ : ∃ lq, lq = (D.now q).length := ⟨_, rfl⟩
            rw [← hlq] at cq
            clear hrm hlq
            obtain ⟨m, hm⟩ : ∃ m : Int, min (lq : Int) 300 = m := ⟨_, rfl⟩
            have RD := hid (read_any TQ.out.m.disk (q : Int) 0 m (by omega))
            have RR := hid (fun (W : World) (hr : RefAt W rb G D) => rread_any hr (q : Int) 0 m ⟨by omega, by omega⟩)
            obtain ⟨z1, hz1⟩ : ∃ z, (readM D (q : Int) 0 m).1 = z := ⟨_, rfl⟩
            obtain ⟨z2, hz2⟩ : ∃ z, (readM D (q : Int) 0 m).2 = z := ⟨_, rfl⟩
            rw [hz1, hz2] at RD RR
            clear hz1 hz2
            go_wp2_with (first
              | (go_at_call 22; refine (RD.out).mono ?_; rintro e w1' ⟨rfl, hb⟩; have T1 := hid (TQ.out.under hb); clear hb RD cq)
              | (go_at_call 32; refine (RR.out w1' T1.out.r).mono ?_; rintro e w2' ⟨rfl, rfl⟩; clear RR)
              | go_in)
            go_roundw
            case rel => exact ⟨q + 1, by simp, by omega, T1.out⟩
            case measure => simp [intOf]; omega
          · obtain rfl : q = 8 := by omega
            go_wp2_with fail
            go_ret
            exact ⟨rfl, TQ.out.m.below⟩
end
end Go.Proofs.Ytifgnhbbcpmaiaa
