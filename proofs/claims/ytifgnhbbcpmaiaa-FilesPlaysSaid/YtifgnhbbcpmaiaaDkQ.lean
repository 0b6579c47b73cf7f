/- The law's run and all: what calls come to. -/
import Derived.Test.YtifgnhbbcpmaiaaDkM
import Derived.Test.YtifgnhbbcpmaiaaDkP
namespace Go.Proofs.Ytifgnhbbcpmaiaa
open Go.RowKit Go.Maps
set_option linter.unusedVariables false
set_option linter.unusedSimpArgs false

/-- What a call of the law comes to. -/
def stepM (d : Dsk) (x : OpM) : Dsk :=
  if x.kind = 1 then (cutM d x.file x.n).2
  else if x.kind = 2 then (syncM d x.file).2
  else if x.kind = 3 ∨ x.kind = 7 then d
  else if x.kind = 4 then (armM d x.n (errM x)).2
  else if x.kind = 5 then (powerM d x.n).2
  else if x.kind = 6 then crashM d x.keep
  else (writeM d x.file (placeM x) (bytesM x)).2
def runM (d : Dsk) (l : List OpM) : Dsk := l.foldl stepM d
theorem runM_snoc (d : Dsk) (l : List OpM) (x : OpM) : runM d (l ++ [x]) = stepM (runM d l) x := by simp [runM]

/-! ### Not much more is done -/
theorem meets_small {d : Dsk} {N : Nat} (h : d.Small N) : (meetsM d).2.Small (N + 1) := by
  refine ⟨?_, ?_, ?_⟩
  · show d.ops + 1 ≤ _; have := h.ops; omega
  · show d.narm ≤ _; have := h.arm; omega
  · show d.loose.length ≤ _; have := h.loose; omega
theorem apply_small {d : Dsk} {c : Chg} {N : Nat} (h : d.Small N) : (applyM d c).Small (N + 1) := by
  refine ⟨?_, ?_, ?_⟩
  · show d.ops ≤ _; have := h.ops; omega
  · show d.narm ≤ _; have := h.arm; omega
  · show (d.loose ++ [c]).length ≤ _; have := h.loose; simp; omega
theorem wrN_small {d : Dsk} {k a : Nat} {s : List UInt8} {N : Nat} (h : d.Small N) : ∀ n, (wrN d k a s n).Small (N + n)
  | 0 => h
  | n + 1 => apply_small (wrN_small h n)
theorem cut_small {d : Dsk} {f n : Int} {N : Nat} (h : d.Small N) : (cutM d f n).2.Small (N + 2) := by
  unfold cutM
  split
  · exact h.mono (by omega)
  · split
    · exact h.mono (by omega)
    · split
      · exact (meets_small h).mono (by omega)
      · exact apply_small (meets_small h)
theorem sync_small {d : Dsk} {f : Int} {N : Nat} (h : d.Small N) : (syncM d f).2.Small (N + 1) := by
  unfold syncM
  split
  · exact h.mono (by omega)
  · split
    · exact meets_small h
    · have m := meets_small h
      exact ⟨m.ops, m.arm, Nat.le_trans (List.length_filter_le _ _) m.loose⟩
theorem arm_small {d : Dsk} {n e : Int} {N : Nat} (h : d.Small N) : (armM d n e).2.Small (N + 1) := by
  unfold armM
  split
  · exact ⟨by have := h.ops; show d.ops ≤ _; omega, by have := h.arm; show d.narm + 1 ≤ _; omega, by have := h.loose; show d.loose.length ≤ _; omega⟩
  · exact h.mono (by omega)
theorem power_small {d : Dsk} {n : Int} {N : Nat} (h : d.Small N) : (powerM d n).2.Small N := by
  unfold powerM
  split
  · exact ⟨h.ops, h.arm, h.loose⟩
  · exact h
theorem crash_small {d : Dsk} {ks : List Bool} {N : Nat} (h : d.Small N) : (crashM d ks).Small N := ⟨h.ops, Nat.zero_le _, Nat.zero_le _⟩
theorem write_small {d : Dsk} {f a : Int} {s : List UInt8} {N : Nat} (h : d.Small N) : (writeM d f a s).2.Small (N + 1 + s.length / 64) := by
  unfold writeM
  split
  · exact h.mono (by omega)
  · split
    · exact h.mono (by omega)
    · split
      · exact h.mono (by omega)
      · split
        · exact (meets_small h).mono (by omega)
        · exact wrN_small (meets_small h) _
theorem bytes_len {x : OpM} (h : LightOp x) : (bytesM x).length ≤ 16384 := by
  unfold bytesM
  split
  · exact h.s
  · rw [bytesN_length]; have := n_of x.n; omega
theorem step_small {d : Dsk} {x : OpM} {N : Nat} (h : d.Small N) (hx : LightOp x) : (stepM d x).Small (N + 512) := by
  have hb := bytes_len hx
  unfold stepM
  repeat' split
  · exact (cut_small h).mono (by omega)
  · exact (sync_small h).mono (by omega)
  · exact h.mono (by omega)
  · exact (arm_small h).mono (by omega)
  · exact (power_small h).mono (by omega)
  · exact (crash_small h).mono (by omega)
  · exact (write_small h).mono (by omega)
theorem run_small {N : Nat} : ∀ (l : List OpM) (d : Dsk), d.Small N → (∀ x ∈ l, LightOp x) → (runM d l).Small (N + 512 * l.length) := by
  intro l
  induction l generalizing N with
  | nil => intro d h _; exact h.mono (by omega)
  | cons x r ih =>
    intro d h hl
    have h1 := ih (N := N + 512) (stepM d x) (step_small h (hl x (by simp))) (fun y hy => hl y (by simp [hy]))
    exact h1.mono (by simp only [List.length_cons]; omega)

section
variable {w : World} {b : Nat} {F : Foot} {d : Dsk}
/-! ### all -/
def sizeM (d : Dsk) (f : Int) : Int := if 0 ≤ f ∧ f < 8 then ((d.now f.toNat).length : Int) else 0
def allM (d : Dsk) (f : Int) : List UInt8 := (readM d f 0 (min (sizeM d f) 300)).1
set_option maxRecDepth 20000 in
theorem all_any (h : DiskAt w b F d) (f : Int) : Calls Try.prog 15 #[.pointer (some ⟨b, 0, none⟩), .int .i64 f] w fun e w' => e = .returned (.string (bs (allM d f))) ∧ Below w.heap.size w w' := by
  have SZ := hid (size_any h f)
  unfold allM
  obtain ⟨z, hz⟩ : ∃ z, sizeM d f = z := ⟨_, rfl⟩
  unfold sizeM at hz
  rw [hz] at SZ
  obtain ⟨m, hm⟩ : ∃ m, min z 300 = m := ⟨_, rfl⟩
  have RD := hid (read_any h f 0 m (by omega))
  rw [show sizeM d f = z from hz, hm]
  clear h hz
  obtain ⟨r1, hr1⟩ : ∃ r, r = (readM d f 0 m).1 := ⟨_, rfl⟩
  obtain ⟨r2, hr2⟩ : ∃ r, r = (readM d f 0 m).2 := ⟨_, rfl⟩
  rw [← hr1, ← hr2] at RD
  rw [← hr1]
  clear hr1 hr2
  go_enter Try.func15, Try.ntmps15
  go_wp2_with (first | (go_at_call 16; refine (SZ.out).mono ?_; rintro e w1 ⟨rfl, rfl⟩) | (go_at_call 22; refine (RD.out).mono ?_; rintro e w2 ⟨rfl, hb2⟩) | go_in)
  go_ret
  exact ⟨rfl, hb2⟩

/-! ### run -/
theorem below_drew {w' : World} (h : DiskAt w b F d) (hb : Below w.drew.heap.size w.drew w') : DiskAt w' b F d := h.below (below_undrew hb)
theorem did_before {w' w'' : World} {d' : Dsk} (hb : Below w.drew.heap.size w.drew w') (h : Did w' b F d' w'') : Did w b F d' w'' := by
  obtain ⟨F', h1, h2⟩ := h
  exact ⟨F', h1, (footstep_below (F := F) (below_undrew hb)).trans h2⟩
set_option maxHeartbeats 2000000 in
set_option maxRecDepth 20000 in
theorem run_any {S : Nat → Prop} {v : Value} {l : List OpM} (h : DiskAt w b F d) (hops : OpsAt S w v l) (hS : ∀ k, S k → k < w.heap.size ∧ ¬ F.own k) (hl : ∀ x ∈ l, LightOp x) (hn : l.length ≤ 200) (hs : d.Small 1000000) :
    Calls Try.prog 13 #[.pointer (some ⟨b, 0, none⟩), v] w fun e w' => e = .returned (.tuple #[]) ∧ Did w b F (runM d l) w' := by
  obtain ⟨ao, cap, rfl, hval⟩ := hops.val
  have H0 := hid h
  have HO := hid hops
  have HS := hid hS
  have HL := hid hl
  have HSm := hid hs
  obtain ⟨n, hnl⟩ : ∃ n, n = l.length := ⟨_, rfl⟩
  rw [← hnl] at hn ⊢
  have Hn := hid hnl
  have Hval := hid hval
  clear h hops hS hl hs hnl hval
  go_enter Try.func13, Try.ntmps13
  go_wp2_with fail
  go_loopw [8] (fun v8 wr => ∃ (i : Nat), v8 = .int .i64 (i : Int) ∧ i ≤ n ∧ ∃ F2, DiskAt wr b F2 (runM d (l.take i)) ∧ FootStep F F2 w wr) (fun v8 _ => n - (intOf v8).toNat)
  case atStart => exact ⟨0, rfl, Nat.zero_le _, F, H0.out, FootStep.refl _ _⟩
  case round =>
    obtain ⟨i, rfl, hin, F2, hdisk, hst⟩ := hrel
    have Hdisk := hid hdisk
    have Hst := hid hst
    clear hdisk hst
    by_cases hlt : i < n
    · have hil : i < l.length := by have := Hn.out; omega
      obtain ⟨x, hx⟩ : ∃ x, x = l[i] := ⟨_, rfl⟩
      have hget : l[i]? = some x := by rw [List.getElem?_eq_getElem hil, hx]
      have Hx := hid hx
      have Hok := hid (HO.out.ok x (List.mem_of_getElem? hget))
      have Hlx := hid (HL.out x (List.mem_of_getElem? hget))
      have HSd := hid ((run_small (l.take i) d HSm.out (fun y hy => HL.out y (List.mem_of_mem_take hy))).mono (M := 1099511527776) (by simp; omega))
      obtain ⟨g, o, rfl, hSg, hrng⟩ := Hval.out.resolve_left (fun e => by rw [e] at hil; simp at hil)
      have Hrange := hid (rangeAt_move (hrng i x hget) (Hst.out.frm.block g (HS.out g hSg).1 (HS.out g hSg).2))
      have hlt2 : decide ((i : Int) < (n : Int)) = true := by simp; omega
      clear hx hget
      go_upto_region 2 with fail
      refine wp_region_lit ?_
      refine wpList_value (w' := wr) rfl (.pointer (some ⟨g, o + i * 7, none⟩)) (by go_simp) ?_
      simp only [Act.put, List.setIfInBounds_toArray, List.set_cons_zero, List.set_cons_succ]
      refine wpList_value rfl (opV x) (exec_load rfl (by rfl) (run_loadAt_mid wr _ _ _ _ _ Hrange.out Try.underlying34 rfl (by kernel_rfl))) ?_
      simp only [Act.put, List.setIfInBounds_toArray, List.set_cons_zero, List.set_cons_succ]
      refine wpList_value rfl (.pointer (some ⟨wr.heap.size, 0, none⟩)) (w' := wr.alloc (.cells (opCells ⟨0, 0, 0, 0, 0, [], none, 0, []⟩).toArray 34)) (by kernel_rfl) ?_
      simp only [Act.put, List.setIfInBounds_toArray, List.set_cons_zero, List.set_cons_succ]
      refine wpList_skip rfl (exec_store rfl rfl rfl (run_storeAt_new wr 34 _ _ (by kernel_rfl) (by rfl) (all_oneCell_toArray (opCells_one x)))) ?_
      refine wpList_nil ?_
      simp only [Act.put, List.setIfInBounds_toArray, List.set_cons_zero, List.set_cons_succ]
      obtain ⟨B, hB⟩ : ∃ B, B = wr.heap.size := ⟨_, rfl⟩
      rw [← hB]
      have hBn := heap_alloc_new wr (.cells (opCells x).toArray 34)
      rw [← hB] at hBn
      have hbelA := (Below.refl wr.heap.size wr).alloc (Nat.le_refl _) (.cells (opCells x).toArray 34)
      obtain ⟨wa, hwa⟩ : ∃ wa, wa = wr.alloc (.cells (opCells x).toArray 34) := ⟨_, rfl⟩
      rw [← hwa] at hBn hbelA ⊢
      have q := fun o => cell_of_block hBn o
      have q0 : wa.cell? ⟨B, 0, none⟩ = some (.int .i64 x.kind) := (q 0).trans rfl
      have q1 : wa.cell? ⟨B, 1, none⟩ = some (.int .i64 x.file) := (q 1).trans rfl
      have q3 : wa.cell? ⟨B, 3, none⟩ = some (.int .i64 x.n) := (q 3).trans rfl
      have q6 : wa.cell? ⟨B, 6, none⟩ = some (.slice x.ka x.keep.length x.kcap) := (q 6).trans rfl
      have HBn := hid hBn
      have HNB := hid (show ¬ F2.own B from fun hk => by have := Hdisk.out.olt B hk; omega)
      have HDa := hid (Hdisk.out.below hbelA)
      have HSTa := hid (Hst.out.trans (footstep_below (F := F2) hbelA))
      obtain ⟨D, hD⟩ : ∃ D, D = runM d (l.take i) := ⟨_, rfl⟩
      rw [← hD] at HDa HSd
      have HD := hid hD
      clear hBn hbelA hwa hB q Hdisk Hst hD
      have fin : ∀ (w3 : World), Did wa b F2 (stepM D x) w3 → ∃ F3, DiskAt w3 b F3 (runM d (l.take (i + 1))) ∧ FootStep F F3 w w3 := by
        intro w3 hw3
        obtain ⟨F3, h1, h2⟩ := hw3
        refine ⟨F3, ?_, HSTa.out.trans h2⟩
        rw [List.take_succ_eq_append_getElem (by have := Hn.out; omega), ← Hx.out, runM_snoc, ← HD.out]
        exact h1
      have Fin := hid fin
      clear fin
      have Hkeep := hid (show KeepAt wa x.kv x.keep from Hok.out.keep.keep (fun g hg => HSTa.out.frm.block g (HS.out g (Hok.out.ks g hg)).1 (HS.out g (Hok.out.ks g hg)).2))
      have Hkown := hid (show ∀ g, keepBlk x.kv x.keep = some g → ¬ F2.own g ∧ g < wa.heap.size from fun g hg => ⟨fun h2 => (HSTa.out.own g h2).elim (HS.out g (Hok.out.ks g hg)).2 (fun h3 => by have := (HS.out g (Hok.out.ks g hg)).1; omega), Nat.lt_of_lt_of_le (HS.out g (Hok.out.ks g hg)).1 HSTa.out.frm.size⟩)
      by_cases k1 : x.kind = 1
      · rw [k1] at q0
        have es : stepM D x = (cutM D x.file x.n).2 := by unfold stepM; simp [k1]
        rw [es] at Fin
        have C := hid (cut_any HDa.out x.file x.n (HSd.out.mono (by omega)))
        clear es k1
        go_wp2_with (first | (go_at_call 24; refine (C.out).mono ?_; rintro e w3 ⟨rfl, hd3⟩) | go_in)
        go_roundw
        case rel =>
          obtain ⟨F3, h1, h2⟩ := Fin.out _ hd3
          exact ⟨i + 1, by simp, by omega, F3, h1, h2⟩
        case measure => simp [intOf]; omega
      · skip
        by_cases k2 : x.kind = 2
        · rw [k2] at q0
          have es : stepM D x = (syncM D x.file).2 := by unfold stepM; simp [k2]
          rw [es] at Fin
          have C := hid (sync_any HDa.out x.file HSd.out)
          clear es k2
          go_wp2_with (first | (go_at_call 14; refine (C.out).mono ?_; rintro e w3 ⟨rfl, hd3⟩) | go_in)
          go_roundw
          case rel =>
            obtain ⟨F3, h1, h2⟩ := Fin.out _ hd3
            exact ⟨i + 1, by simp, by omega, F3, h1, h2⟩
          case measure => simp [intOf]; omega
        · skip
          by_cases k3 : x.kind = 3
          · rw [k3] at q0
            have es : stepM D x = D := by unfold stepM; simp [k3]
            rw [es] at Fin
            have hd3 := Did.same HDa.out
            have Hd3 := hid hd3
            clear es k3 hd3
            go_wp2_with fail
            have hd3 := Hd3.out
            go_roundw
            case rel =>
              obtain ⟨F3, h1, h2⟩ := Fin.out _ hd3
              exact ⟨i + 1, by simp, by omega, F3, h1, h2⟩
            case measure => simp [intOf]; omega
          · skip
            by_cases k7 : x.kind = 7
            · rw [k7] at q0
              have es : stepM D x = D := by unfold stepM; simp [k7]
              rw [es] at Fin
              have hd3 := Did.same HDa.out
              have Hd3 := hid hd3
              clear es k7 hd3
              go_wp2_with fail
              have hd3 := Hd3.out
              go_roundw
              case rel =>
                obtain ⟨F3, h1, h2⟩ := Fin.out _ hd3
                exact ⟨i + 1, by simp, by omega, F3, h1, h2⟩
              case measure => simp [intOf]; omega
            · skip
              by_cases k4 : x.kind = 4
              · rw [k4] at q0
                have es : stepM D x = (armM D x.n (errM x)).2 := by unfold stepM; simp [k4]
                rw [es] at Fin
                clear es k4
                go_upto_region 12 with fail
                refine wp_region_held_drew (S := fun W => W.heap[B]? = some (.cells (opCells x).toArray 34 (0, 0))) (by kernel_rfl) (show wa.drew.heap[B]? = _ from HBn.out) (fun hHeld => ?_)
                have HB0 := hid (show wa.drew.heap[B]? = some (.cells (opCells x).toArray 34 (0, 0)) from HBn.out)
                refine held_take (v := ?pva0) 0 rfl (by kernel_rfl) (by kernel_rfl) (by kernel_rfl) (fun _ _ _ h => h) (by rfl) hHeld ?pya0 ?pra0
                case pya0 => (intro W hSw; go_simp; with_reducible rfl)
                simp only [Act.put, List.setIfInBounds_toArray, List.set_cons_zero, List.set_cons_succ]
                refine held_take (v := ?pva1) 1 rfl (by kernel_rfl) (by kernel_rfl) (by kernel_rfl) (fun _ _ _ h => h) (by rfl) hHeld ?pya1 ?pra1
                case pya1 => (intro W hSw; go_simp; with_reducible rfl)
                simp only [Act.put, List.setIfInBounds_toArray, List.set_cons_zero, List.set_cons_succ]
                refine held_take (v := .int .i64 x.n) 2 rfl (by kernel_rfl) (by kernel_rfl) (by kernel_rfl) (fun _ _ _ h => h) (by rfl) hHeld ?pya2 ?pra2
                case pya2 => (intro W hSw; have yy : W.cell? ⟨B, 3, none⟩ = some (.int .i64 x.n) := (cell_of_block hSw 3).trans rfl; go_simp)
                simp only [Act.put, List.setIfInBounds_toArray, List.set_cons_zero, List.set_cons_succ]
                refine held_take (v := opV x) 3 rfl (by kernel_rfl) (by kernel_rfl) (by kernel_rfl) (fun _ _ _ h => h) (by rfl) hHeld (fun W hSw => exec_load rfl rfl (run_loadAt_mid W _ _ _ _ _ (range_whole hSw) Try.underlying34 rfl (by kernel_rfl))) ?_
                simp only [Act.put, List.setIfInBounds_toArray, List.set_cons_zero, List.set_cons_succ]
                refine held_one 4 (by kernel_rfl) rfl (fun K hK => ?_)
                go_simp
                refine (error_any x wa.drew Hok.out.n).mono ?_
                rintro e w1 ⟨rfl, hb1⟩
                try dsimp only
                have HB1 := hid ((hb1.block B (lt_of_block HB0.out)).trans HB0.out)
                have Hb1 := hid hb1
                clear hb1
                refine hK.out _ _ HB1.out (fun hHeld => ?_)
                clear hK K
                try simp only [Act.put, List.setIfInBounds_toArray, List.set_cons_zero, List.set_cons_succ]
                refine held_one 5 (by kernel_rfl) rfl (fun K hK => ?_)
                go_simp
                refine (arm_any (below_drew HDa.out Hb1.out) x.n (errM x) (HSd.out.mono (by omega))).mono ?_
                rintro e w3 ⟨rfl, hd3⟩
                try dsimp only
                have hBw3 := (hd3.choose_spec.2.frm.block B (lt_of_block HB1.out) (HNB.out)).trans HB1.out
                refine hK.out _ _ hBw3 (fun hHeld => ?_)
                clear hK K
                try simp only [Act.put, List.setIfInBounds_toArray, List.set_cons_zero, List.set_cons_succ]
                refine wpAnyH_done (by kernel_rfl) ?_ _
                have Hd3 := hid (did_before Hb1.out hd3)
                clear hd3 hBw3 hHeld
                go_wp2_with fail
                have hd3 := Hd3.out
                go_roundw
                case rel =>
                  obtain ⟨F3, h1, h2⟩ := Fin.out _ hd3
                  exact ⟨i + 1, by simp, by omega, F3, h1, h2⟩
                case measure => simp [intOf]; omega
              · skip
                by_cases k5 : x.kind = 5
                · rw [k5] at q0
                  have es : stepM D x = (powerM D x.n).2 := by unfold stepM; simp [k5]
                  rw [es] at Fin
                  have C := hid (power_any HDa.out x.n (HSd.out.mono (by omega)))
                  clear es k5
                  go_wp2_with (first | (go_at_call 27; refine (C.out).mono ?_; rintro e w3 ⟨rfl, hd3⟩) | go_in)
                  go_roundw
                  case rel =>
                    obtain ⟨F3, h1, h2⟩ := Fin.out _ hd3
                    exact ⟨i + 1, by simp, by omega, F3, h1, h2⟩
                  case measure => simp [intOf]; omega
                · skip
                  by_cases k6 : x.kind = 6
                  · rw [k6] at q0
                    have es : stepM D x = crashM D x.keep := by unfold stepM; simp [k6]
                    rw [es] at Fin
                    have C := hid (crash_any HDa.out x.kv x.keep Hkeep.out Hkown.out (HSd.out.mono (by omega)) (by have := Hlx.out.keep; omega))
                    clear es k6
                    go_wp2_with (first | (go_at_call 17; refine (C.out).mono ?_; rintro e w3 ⟨rfl, hd3⟩) | go_in)
                    go_roundw
                    case rel =>
                      obtain ⟨F3, h1, h2⟩ := Fin.out _ hd3
                      exact ⟨i + 1, by simp, by omega, F3, h1, h2⟩
                    case measure => simp [intOf]; omega
                  · skip
                    have es : stepM D x = (writeM D x.file (placeM x) (bytesM x)).2 := by unfold stepM; simp [k1, k2, k3, k7, k4, k5, k6]
                    rw [es] at Fin
                    have t1 : (x.kind == 1) = false := by simpa using k1
                    have t2 : (x.kind == 2) = false := by simpa using k2
                    have t3 : (x.kind == 3) = false := by simpa using k3
                    have t7 : (x.kind == 7) = false := by simpa using k7
                    have t4 : (x.kind == 4) = false := by simpa using k4
                    have t5 : (x.kind == 5) = false := by simpa using k5
                    have t6 : (x.kind == 6) = false := by simpa using k6
                    clear es k1 k2 k3 k7 k4 k5 k6
                    go_upto_region 4 with fail
                    refine wp_region_held_drew (S := fun W => W.heap[B]? = some (.cells (opCells x).toArray 34 (0, 0))) (by kernel_rfl) (show wa.drew.heap[B]? = _ from HBn.out) (fun hHeld => ?_)
                    have HB0 := hid (show wa.drew.heap[B]? = some (.cells (opCells x).toArray 34 (0, 0)) from HBn.out)
                    refine held_take (v := ?pvw0) 0 rfl (by kernel_rfl) (by kernel_rfl) (by kernel_rfl) (fun _ _ _ h => h) (by rfl) hHeld ?pyw0 ?prw0
                    case pyw0 => (intro W hSw; go_simp; with_reducible rfl)
                    simp only [Act.put, List.setIfInBounds_toArray, List.set_cons_zero, List.set_cons_succ]
                    refine held_take (v := ?pvw1) 1 rfl (by kernel_rfl) (by kernel_rfl) (by kernel_rfl) (fun _ _ _ h => h) (by rfl) hHeld ?pyw1 ?prw1
                    case pyw1 => (intro W hSw; go_simp; with_reducible rfl)
                    simp only [Act.put, List.setIfInBounds_toArray, List.set_cons_zero, List.set_cons_succ]
                    refine held_take (v := .int .i64 x.file) 2 rfl (by kernel_rfl) (by kernel_rfl) (by kernel_rfl) (fun _ _ _ h => h) (by rfl) hHeld ?pyw2 ?prw2
                    case pyw2 => (intro W hSw; have yy : W.cell? ⟨B, 1, none⟩ = some (.int .i64 x.file) := (cell_of_block hSw 1).trans rfl; go_simp)
                    simp only [Act.put, List.setIfInBounds_toArray, List.set_cons_zero, List.set_cons_succ]
                    refine held_take (v := opV x) 3 rfl (by kernel_rfl) (by kernel_rfl) (by kernel_rfl) (fun _ _ _ h => h) (by rfl) hHeld (fun W hSw => exec_load rfl rfl (run_loadAt_mid W _ _ _ _ _ (range_whole hSw) Try.underlying34 rfl (by kernel_rfl))) ?_
                    simp only [Act.put, List.setIfInBounds_toArray, List.set_cons_zero, List.set_cons_succ]
                    refine held_take (v := opV x) 5 rfl (by kernel_rfl) (by kernel_rfl) (by kernel_rfl) (fun _ _ _ h => h) (by rfl) hHeld (fun W hSw => exec_load rfl rfl (run_loadAt_mid W _ _ _ _ _ (range_whole hSw) Try.underlying34 rfl (by kernel_rfl))) ?_
                    simp only [Act.put, List.setIfInBounds_toArray, List.set_cons_zero, List.set_cons_succ]
                    refine held_one 4 (by kernel_rfl) rfl (fun K hK => ?_)
                    go_simp
                    refine (place_any x wa.drew).mono ?_
                    rintro e w1 ⟨rfl, hb1⟩
                    try dsimp only
                    have HB1 := hid ((hb1.block B (lt_of_block HB0.out)).trans HB0.out)
                    have Hb1 := hid hb1
                    clear hb1
                    refine hK.out _ _ HB1.out (fun hHeld => ?_)
                    clear hK K
                    try simp only [Act.put, List.setIfInBounds_toArray, List.set_cons_zero, List.set_cons_succ]
                    refine held_one 6 (by kernel_rfl) rfl (fun K hK => ?_)
                    go_simp
                    refine (bytes_any x w1).mono ?_
                    rintro e w2 ⟨rfl, hb2⟩
                    try dsimp only
                    have HB2 := hid ((hb2.block B (lt_of_block HB1.out)).trans HB1.out)
                    have Hb2 := hid hb2
                    clear hb2
                    refine hK.out _ _ HB2.out (fun hHeld => ?_)
                    clear hK K
                    try simp only [Act.put, List.setIfInBounds_toArray, List.set_cons_zero, List.set_cons_succ]
                    refine held_one 7 (by kernel_rfl) rfl (fun K hK => ?_)
                    go_simp
                    refine (write_any (below_drew HDa.out (then_below Hb1.out Hb2.out)) x.file (placeM x) (bytesM x) HSd.out (by have := bytes_len Hlx.out; omega)).mono ?_
                    rintro e w3 ⟨rfl, hd3⟩
                    try dsimp only
                    have hBw3 := (hd3.choose_spec.2.frm.block B (lt_of_block HB2.out) (HNB.out)).trans HB2.out
                    refine hK.out _ _ hBw3 (fun hHeld => ?_)
                    clear hK K
                    try simp only [Act.put, List.setIfInBounds_toArray, List.set_cons_zero, List.set_cons_succ]
                    refine wpAnyH_done (by kernel_rfl) ?_ _
                    have Hd3 := hid (did_before (then_below Hb1.out Hb2.out) hd3)
                    clear hd3 hBw3 hHeld
                    go_wp2_with fail
                    have hd3 := Hd3.out
                    go_roundw
                    case rel =>
                      obtain ⟨F3, h1, h2⟩ := Fin.out _ hd3
                      exact ⟨i + 1, by simp, by omega, F3, h1, h2⟩
                    case measure => simp [intOf]; omega
    · obtain rfl : i = n := by omega
      have hlt' : decide ((i : Int) < (i : Int)) = false := by simp
      go_wp2_with fail
      go_end0
      refine ⟨rfl, F2, ?_, Hst.out⟩
      have := Hdisk.out
      rw [List.take_of_length_le (by have := Hn.out; omega)] at this
      exact this
end
end Go.Proofs.Ytifgnhbbcpmaiaa
