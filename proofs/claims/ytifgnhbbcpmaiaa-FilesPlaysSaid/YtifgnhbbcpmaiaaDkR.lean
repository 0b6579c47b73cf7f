/- A disk that a law has made; works. -/
import Derived.Test.YtifgnhbbcpmaiaaDkQ
import Derived.Test.YtifgnhbbcpmaiaaDkN
namespace Go.Proofs.Ytifgnhbbcpmaiaa
open Go.RowKit Go.Maps
set_option linter.unusedVariables false
set_option linter.unusedSimpArgs false

/-- A disk that was made since w0; what was there then is as it was. -/
structure Made (w0 w : World) (b : Nat) (F : Foot) (d : Dsk) : Prop where
  disk : DiskAt w b F d
  below : Below w0.heap.size w0 w
  fresh : ∀ k, F.own k → w0.heap.size ≤ k
section
variable {w0 w w' : World} {b : Nat} {F F' : Foot} {d d' : Dsk}
theorem below_step (h : Below w0.heap.size w0 w) (hf : ∀ k, F.own k → w0.heap.size ≤ k) (hs : FootStep F F' w w') : Below w0.heap.size w0 w' :=
  ⟨hs.frm.os.trans h.os, hs.frm.tape.trans h.tape, hs.frm.output.trans h.output, Nat.le_trans h.size hs.frm.size, fun k hk => (hs.frm.block k (Nat.lt_of_lt_of_le hk h.size) (fun ho => by have := hf k ho; omega)).trans (h.block k hk)⟩
theorem Made.did (h : Made w0 w b F d) (hd : Did w b F d' w') : ∃ F', Made w0 w' b F' d' := by
  obtain ⟨F', h1, h2⟩ := hd
  exact ⟨F', h1, below_step h.below h.fresh h2, fun k hk => (h2.own k hk).elim (h.fresh k) (fun h3 => Nat.le_trans h.below.size h3)⟩
theorem Made.under (h : Made w0 w b F d) (hb : Below w.heap.size w w') : Made w0 w' b F d :=
  ⟨h.disk.below hb, h.below.trans (hb.mono h.below.size), h.fresh⟩
theorem Made.new {w1 : World} {b : Nat} {F : Foot} (hb : Below w0.heap.size w0 w1) (h : DiskAt w' b F newM) (hn : Below w1.heap.size w1 w') (ho : ∀ k, F.own k → w1.heap.size ≤ k) : Made w0 w' b F newM :=
  ⟨h, hb.trans (hn.mono hb.size), fun k hk => Nat.le_trans hb.size (ho k hk)⟩
theorem crash_nil (h : DiskAt w b F d) (hs : d.Small 1099511627776) : Calls Try.prog 17 #[.pointer (some ⟨b, 0, none⟩), .slice none 0 0] w fun e w' => e = .returned (.int .i64 0) ∧ Did w b F (crashM d []) w' :=
  crash_any h (.slice none 0 0) [] ⟨none, 0, rfl, .inl rfl⟩ (fun g hg => by cases hg) hs (by simp)
theorem newM_small : newM.Small 0 := ⟨by show (0 : Int) ≤ 0; omega, Nat.le_refl _, Nat.le_refl _⟩
end

def wk1 : Dsk := (writeM newM 0 1 (sectorM 97)).2
theorem wk1_small : wk1.Small 2 := (write_small newM_small).mono (by simp [sectorM])
set_option maxRecDepth 100000 in
theorem wk1_facts : (writeM newM 0 1 (sectorM 97)).1 = 0 ∧ (wk1.now 0).length = 2 ∧ wk1.loose.length = 1 ∧ (readM wk1 0 1 1).1 = sectorM 97 ∧ (readM wk1 0 1 1).2 = 0 ∧ ((crashM wk1 []).now 0).length = 0 ∧ (crashM wk1 []).ops = 1 ∧ (crashM wk1 []).off = false := by
  refine ⟨?_, ?_, ?_, ?_, ?_, ?_, ?_, ?_⟩ <;> decide +kernel
set_option maxHeartbeats 1000000 in
set_option maxRecDepth 20000 in
theorem works_any (w : World) : Calls Try.prog 9 #[] w fun e w' => e = .returned (.bool true) ∧ Below w.heap.size w w' := by
  obtain ⟨f1, f2, f3, f4, f5, f6, f7, f8⟩ := wk1_facts
  have g2 : ((wk1.now (Int.toNat 0)).length : Int) = 2 := by rw [show Int.toNat 0 = 0 from rfl, f2]; rfl
  have g6 : (((crashM wk1 []).now (Int.toNat 0)).length : Int) = 0 := by rw [show Int.toNat 0 = 0 from rfl, f6]; rfl
  have NW := hid (new_any w)
  have SC := hid (sector_any 97)
  have F1 := hid f1
  have F3 := hid f3
  have F4 := hid f4
  have F5 := hid f5
  have F7 := hid f7
  have F8 := hid f8
  have G2 := hid g2
  have G6 := hid g6
  clear f1 f2 f3 f4 f5 f6 f7 f8 g2 g6
  go_enter Try.func9, Try.ntmps9
  go_wp2_with (first
    | (go_at_call 12; refine (NW.out).mono ?_; rintro e w1 ⟨b, F, rfl, hd, hb, ho, -⟩; have M0 := hid (Made.new (Below.refl _ _) hd hb ho); clear hd hb ho)
    | (go_at_call 23; refine (SC.out w1).mono ?_; rintro e w2 ⟨rfl, hb2⟩; have M1 := hid (M0.out.under hb2); clear hb2)
    | (go_at_call 21; have WR := write_any M1.out.disk 0 1 (sectorM 97) (newM_small.mono (by omega)) (by simp [sectorM]); rw [F1.out] at WR; refine WR.mono ?_; rintro e w3 ⟨rfl, hd⟩; obtain ⟨F2, hm⟩ := M1.out.did (d' := wk1) hd; have M2 := hid hm; clear hd hm WR)
    | (go_at_call 16; have SZ := size_any M2.out.disk 0; rw [if_pos (by omega), G2.out] at SZ; refine SZ.mono ?_; clear SZ; rintro e w4 ⟨rfl, rfl⟩)
    | (go_at_call 18; have LS := loose_any M2.out.disk; rw [F3.out] at LS; refine LS.mono ?_; clear LS; rintro e w4 ⟨rfl, rfl⟩)
    | (go_at_call 22; have RD := read_any M2.out.disk 0 1 1 (by omega); rw [F4.out, F5.out] at RD; refine RD.mono ?_; clear RD; rintro e w4 ⟨rfl, hb4⟩; have M3 := hid (M2.out.under hb4); clear hb4)
    | (go_at_call 23; refine (SC.out _).mono ?_; rintro e w5 ⟨rfl, hb5⟩; have M4 := hid (M3.out.under hb5); clear hb5)
    | (go_at_call 17; refine (crash_nil M4.out.disk (wk1_small.mono (by omega))).mono ?_; rintro e w6 ⟨rfl, hd⟩; obtain ⟨F5, hm⟩ := M4.out.did hd; have M5 := hid hm; clear hd hm)
    | (go_at_call 16; have SZ := size_any M5.out.disk 0; rw [if_pos (by omega), G6.out] at SZ; refine SZ.mono ?_; clear SZ; rintro e w7 ⟨rfl, rfl⟩)
    | (go_at_call 26; have LS := ops_any M5.out.disk; rw [F7.out] at LS; refine LS.mono ?_; clear LS; rintro e w7 ⟨rfl, rfl⟩)
    | (go_at_call 19; have LS := on_any M5.out.disk; rw [F8.out] at LS; refine LS.mono ?_; clear LS; rintro e w7 ⟨rfl, rfl⟩)
    | go_in)
  go_ret
  exact ⟨rfl, M5.out.below⟩
end Go.Proofs.Ytifgnhbbcpmaiaa
