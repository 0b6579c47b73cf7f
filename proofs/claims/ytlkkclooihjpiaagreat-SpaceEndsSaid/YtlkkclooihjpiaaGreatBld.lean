/- strings.Builder: what WriteString comes to, and what it leaves alone. -/
import Derived.Test.YtlkkclooihjpiaaGreatBase
import Derived.Test.YtlkkclooihjpiaaGreatShelf
import Derived.Lib.FrozenHead
set_option linter.unusedVariables false
set_option linter.unusedSimpArgs false
namespace Go.Proofs.YtlkkclooihjpiaaGreat
open Go.RowKit
set_option maxRecDepth 20000
def WS (e : TypeId) (B b : Nat) (w : World) (k : Nat) : Prop := B ≤ k ∧ (k = b ∨ ∃ cs fr, w.heap[k]? = some (.cells cs e fr))
theorem ws_keeps {e T : TypeId} {B b k : Nat} {w w' : World} {cs : Array Value} {fr : Nat × Nat} (h : Frm (WS e B b w) w w') (hk : w.heap[k]? = some (.cells cs T fr)) (hT : T ≠ e) (hb : k ≠ b) : w'.heap[k]? = some (.cells cs T fr) := by
 rw [h.block k (lt_of_block hk) ?_, hk]
 rintro ⟨_, h1 | ⟨cs', fr', h2⟩⟩
 ·exact hb h1
 ·rw [hk] at h2
  simp at h2
  exact hT h2.2.1
theorem ws_below {e : TypeId} {B b : Nat} {w w' : World} (h : Frm (WS e B b w) w w') (hB : B ≤ w.heap.size) : Below B w w' :=
 ⟨h.os, h.tape, h.output, h.size, fun k hk => h.block k (by omega) (fun hs => by have := hs.1; omega)⟩
abbrev BldF (B b : Nat) (l : List UInt8) (w : World) : Prop := Lib.IsBuilderF 163 5 B b (Lib.byteCells l) w
theorem size_builder : (Tryz.prog.info? 163).map (·.size) = some 2 := by kernel_rfl
set_option maxHeartbeats 1000000 in
set_option maxRecDepth 100000 in
theorem copyCheck_fresh (b : Nat) (w : World) (h0 : w.cell? ⟨b, 0, none⟩ = some (.pointer none)) (hsh : w.shape? b = some (163, 2)) (hfz : w.frozen? ⟨b, 0, none⟩ = false) :
  Calls Tryz.prog 117 #[.pointer (some ⟨b, 0, none⟩)] w fun e w' => e = .returned (.tuple #[]) ∧ w' = w.setCell ⟨b, 0, none⟩ (.pointer (some ⟨b, 0, none⟩)) := by
 obtain ⟨j, hj, hjs⟩ := Option.map_eq_some_iff.1 size_builder
 go_enter Tryz.func117, Tryz.ntmps117
 go_wp2
 rw [Lib.run_to_unsafe w ⟨b, 0, none⟩ Tryz.underlying161 Tryz.underlying195 hj (by rw [hjs]; decide) hsh (Nat.zero_lt_succ 1)]
 simp only [Result.andThen]
 rw [Oper.upon_value]
 go_wp2
 rw [run_callFunc_extern Tryz.func127 (by kernel_rfl) (by kernel_rfl) (by kernel_rfl) (e := Extern.AbiNoEscape.same) (by kernel_rfl)]
 rw [Lib.run_noEscape]
 simp only [Result.andThen]
 rw [Oper.upon_value]
 go_wp2
 rw [Lib.run_from_unsafe w ⟨b, 0, none⟩ Tryz.underlying195 Tryz.underlying161 hj hsh (by kernel_rfl)]
 simp only [Result.andThen]
 rw [Oper.upon_value]
 go_wp2
 go_end0
 exact ⟨rfl, rfl⟩
set_option maxHeartbeats 1000000 in
set_option maxRecDepth 100000 in
theorem copyCheck_used (b : Nat) (w : World) (h0 : w.cell? ⟨b, 0, none⟩ = some (.pointer (some ⟨b, 0, none⟩))) :
  Calls Tryz.prog 117 #[.pointer (some ⟨b, 0, none⟩)] w fun e w' => e = .returned (.tuple #[]) ∧ w' = w := by
 obtain ⟨j, hj, _⟩ := Option.map_eq_some_iff.1 size_builder
 go_enter Tryz.func117, Tryz.ntmps117
 go_wp2
 rw [Lib.run_neq_ptr_same w _ Tryz.underlying161 hj]
 go_wp2
 go_end0
 exact ⟨rfl, rfl⟩
theorem copyCheck_any (B b : Nat) (bs : List Value) (w : World) (h : Lib.IsBuilderF 163 5 B b bs w) :
  Calls Tryz.prog 117 #[.pointer (some ⟨b, 0, none⟩)] w fun e w' => e = .returned (.tuple #[]) ∧ (Lib.BuilderAtF 163 5 B b (.pointer (some ⟨b, 0, none⟩)) bs w' ∧ Frm (· = b) w w') := by
 rcases h with h | h
 ·refine (copyCheck_fresh b w h.cell0 h.shape h.frozen0).mono ?_
  rintro e w' ⟨rfl, rfl⟩
  exact ⟨rfl, h.used _, (Frm.refl (fun x => x = b) w).setCell (p := ⟨b, 0, none⟩) (.inl rfl) _⟩
 ·refine (copyCheck_used b w h.cell0).mono ?_
  rintro e w' ⟨rfl, rfl⟩
  exact ⟨rfl, h, Frm.refl _ _⟩
set_option maxHeartbeats 2000000 in
set_option maxRecDepth 100000 in
theorem writeString_any (B b : Nat) (l m : List UInt8) (w : World) (h : BldF B b l w) (hlen : l.length + m.length ≤ 140737488355328) (hBw : B ≤ w.heap.size) :
  Calls Tryz.prog 88 #[.pointer (some ⟨b, 0, none⟩), .string (bs m)] w fun e w' => e = .returned (.tuple #[.int .i64 m.length, .nilIface]) ∧ (BldF B b (l ++ m) w' ∧ Frm (WS 5 B b w) w w') := by
 obtain ⟨i0, hi, hz0, hz1, hz2⟩ := info_parts (P := Tryz.prog) (e := 5) (z := .int .u8 0) (size := 1) (bytes := 1) (by kernel_rfl)
 go_enter Tryz.func88, Tryz.ntmps88
 go_wp2_with fail
 refine (copyCheck_any B b _ _ h).mono ?_
 rintro e w1 ⟨rfl, h1, hf1⟩
 obtain ⟨hB, v, hbk, hown, hne⟩ := h1
 rw [Lib.byteCells_length] at hown
 have c0 : w1.cell? ⟨b, 0, none⟩ = some (.pointer (some ⟨b, 0, none⟩)) := by rw [Lib.cell_of_heap hbk]; rfl
 have c1 : w1.cell? ⟨b, 1, none⟩ = some v := by rw [Lib.cell_of_heap hbk]; rfl
 go_wp2_with (at_builtin; refine Lib.wpList_append_own_stringF _ rfl _ _ 28 9 rfl B 5 i0 Tryz.underlying28 Tryz.underlying9 hi hz0 hz1 hz2 _ _ _ rfl hown (bs m) rfl ?c3 ?c4 ?c5 ?_)
 case c3 => simp only [bs_size]; unfold maxLen; omega
 case c4 => simp only [bs_size]; omega
 case c5 => have := hf1.size; omega
 intro v' w2 hown' hgrow _
 have hlt : b < w1.heap.size := lt_of_block hbk
 have hb2 : w2.heap[b]? = some (.cells #[.pointer (some ⟨b, 0, none⟩), v] 163 (0, 0)) := by
  rw [hgrow.block b hlt (fun e => hne e.symm)]
  exact hbk
 have d0 : w2.cell? ⟨b, 0, none⟩ = some (.pointer (some ⟨b, 0, none⟩)) := by rw [Lib.cell_of_heap hb2]; rfl
 have d1 : w2.cell? ⟨b, 1, none⟩ = some v := by rw [Lib.cell_of_heap hb2]; rfl
 have f1 : w2.frozen? ⟨b, 1, none⟩ = false := Lib.frozen_of_heap hb2 1
 have hfr : Frm (WS 5 B b w) w w2 := by
  refine ⟨hgrow.os.trans hf1.os, hgrow.tape.trans hf1.tape, hgrow.output.trans hf1.output, Nat.le_trans hf1.size hgrow.size, fun k hk hs => ?_⟩
  have hkb : k ≠ b := fun e => hs ⟨by omega, .inl e⟩
  have hkv : some k ≠ v.ownBlock := by
   intro e
   apply hs
   have hlt2 := hown.lt k e.symm
   refine ⟨hlt2.1, .inr ?_⟩
   rcases hown.2 with ⟨rfl, _⟩ | ⟨g, cap, cur, fz, rfl, _, hg, _⟩
   ·simp [Value.ownBlock] at e
   ·simp [Value.ownBlock] at e
    subst e
    exact ⟨cur, fz, by rw [← hf1.block k hk hkb]; exact hg⟩
  rw [hgrow.block k (Nat.lt_of_lt_of_le hk hf1.size) hkv, hf1.block k hk hkb]
 obtain ⟨ao, n', cap, rfl⟩ : ∃ ao n' cap, v' = .slice ao n' cap := by
  rcases hown'.2 with ⟨hv, _⟩ | ⟨g, cap, cur, fz, hv, _⟩
  ·exact ⟨_, _, _, hv⟩
  ·exact ⟨_, _, _, hv⟩
 go_wp2
 go_ret2
 refine ⟨rfl, .inr ?_, hfr.setCell (.inl ⟨hB, .inl rfl⟩) _⟩
 exact Lib.BuilderAtF.put (T := 163) (e := 5) hB hb2 (bs' := Lib.byteCells (l ++ m)) (by simpa [Lib.byteCells_append, Lib.byteCells_length, bs_size, Lib.strCells_eq, bs_data] using hown') (by decide)
theorem string_any (B b : Nat) (l : List UInt8) (w : World) (h : BldF B b l w) (hBw : B ≤ w.heap.size) :
  Calls Tryz.prog 90 #[.pointer (some ⟨b, 0, none⟩)] w fun e w' => e = .returned (.string (bs l)) ∧ Below B w w' :=
 (Tryz.Builder_String_any_f B b l w h hBw).mono fun _ _ ⟨he, _, hb⟩ => ⟨he, hb⟩
theorem fresh_bld (w : World) : BldF w.heap.size w.heap.size [] (w.alloc (.cells #[.pointer none, .slice none 0 0] 163)) :=
 Lib.IsBuilderF.of (Lib.fresh_isBuilder 163 5 w)
end Go.Proofs.YtlkkclooihjpiaaGreat
