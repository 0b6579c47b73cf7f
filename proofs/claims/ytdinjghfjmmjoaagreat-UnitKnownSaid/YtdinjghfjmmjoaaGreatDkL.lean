import Derived.Test.YtdinjghfjmmjoaaGreatDkK
namespace Go.Proofs.YtdinjghfjmmjoaaGreat
open Go.RowKit Go.Maps
set_option linter.unusedVariables false
set_option linter.unusedSimpArgs false
set_option maxRecDepth 20000

section
variable {w w' : World} {b : Nat} {F : Foot} {d d' : Dsk} {nm sm : Nat → Option Nat} {lv : Value} {am : Nat}
set_option maxRecDepth 20000 in
theorem sync_any (h : DiskAt w b F d) (f : Int) (hs : d.Small 1099511527776) :
    Calls Tryz.prog 67 #[.pointer (some ⟨b, 0, none⟩), .int .i64 f] w fun e w' => e = .returned (.int .i64 (syncM d f).1) ∧ Did w b F (syncM d f).2 w' := by
  have R := ready_any h f
  by_cases hr : readyM d f = 0
  · obtain ⟨ho, hf0, hf8⟩ := ready_zero hr
    obtain ⟨k, rfl⟩ : ∃ k : Nat, f = k := ⟨f.toNat, by omega⟩
    have hk : k < 8 := by omega
    by_cases hm : (meetsM d).1 = 0
    · have e : syncM d k = (0, sureM (meetsM d).2 k) := by unfold syncM; rw [if_neg (by simpa using hr), if_neg (by simpa using hm), Int.toNat_natCast]
      rw [e]
      exact sync_main h k hs hk ho hm
    · have e : syncM d k = meetsM d := by unfold syncM; rw [if_neg (by simpa using hr), if_pos hm]
      rw [e]
      rw [hr] at R
      have M := meets_any h (hs.mono (by omega))
      obtain ⟨r, hr2⟩ : ∃ r, r = (meetsM d).1 := ⟨_, rfl⟩
      obtain ⟨d1, hd1⟩ : ∃ d1, d1 = (meetsM d).2 := ⟨_, rfl⟩
      rw [← hr2, ← hd1] at M ⊢
      rw [← hr2] at hm
      have hrne : (r != 0) = true := by simpa using hm
      have R := hid R
      have M := hid M
      clear e hr h hs hr2 hd1 hm
      go_enter Tryz.func67, Tryz.ntmps67
      go_wp2_with (first | (go_at_call 98; refine (R.out).mono ?_; rintro e w1 ⟨rfl, rfl⟩) | (go_at_call 99; refine (M.out).mono ?_; rintro e w2 ⟨rfl, hd2⟩) | go_in)
      go_ret
      exact ⟨rfl, hd2⟩
  · have e : syncM d f = (readyM d f, d) := by unfold syncM; rw [if_pos hr]
    rw [e]
    obtain ⟨r, hr2⟩ : ∃ r, r = readyM d f := ⟨_, rfl⟩
    rw [← hr2] at R ⊢
    rw [← hr2] at hr
    have hrne : (r != 0) = true := by simpa using hr
    have R := hid R
    have H := hid h
    clear hr2 e hr h hs
    go_enter Tryz.func67, Tryz.ntmps67
    go_wp2_with (first | (go_at_call 98; refine (R.out).mono ?_; rintro e w1 ⟨rfl, rfl⟩) | go_in)
    go_ret
    exact ⟨rfl, Did.same H.out⟩

def KeepAt (w : World) (v : Value) (ks : List Bool) : Prop := ∃ ao cap, v = .slice ao ks.length cap ∧ (ks = [] ∨ ∃ g o, ao = some ⟨g, o, none⟩ ∧ ∀ i b, ks[i]? = some b → w.cell? ⟨g, o + i, none⟩ = some (.bool b))
def keepBlk (v : Value) (ks : List Bool) : Option Nat := if ks.isEmpty then none else v.ownBlock
theorem KeepAt.keep {w w' : World} {v : Value} {ks : List Bool} (h : KeepAt w v ks) (hk : ∀ g, keepBlk v ks = some g → w'.heap[g]? = w.heap[g]?) : KeepAt w' v ks := by
  obtain ⟨ao, cap, rfl, h⟩ := h
  refine ⟨ao, cap, rfl, ?_⟩
  by_cases h0 : ks = []
  · exact .inl h0
  refine .inr ?_
  obtain ⟨g, o, rfl, hc⟩ := h.resolve_left h0
  refine ⟨g, o, rfl, fun i b hi => ?_⟩
  have e := hk g (by simp [keepBlk, h0, Value.ownBlock])
  rw [← hc i b hi]
  unfold World.cell?
  simp only [e]
theorem run_clear {P : Program} (w : World) (t k e ty : TypeId) (m : Nat) (es : Array MapEntry) (clock : Nat) (ht : P.underlying t = some (.map k e)) (hm : w.heap[m]? = some (.map es clock)) :
    (Builtin.clear_ #[t] ty #[.map (some m)]).run P w = .ok (.tuple #[]) (ChangeMaps.setBlock w m (.map #[] clock)) := by
  simp [Builtin.clear_, run_underlying ht, MapKept.run_getObj_map hm, MapKept.run_setObj_map _ hm, Result.andThen, ChangeMaps.setBlock]
theorem exec_clear {P : Program} {o : Oper} {a : Act} {w w' : World} {t : TypeId} {x : Operand} {u : Value} (ho : o.op = .call { callee := .builtin .clear, args := #[x], argTypes := #[t] }) (hx : a.eval x = u)
    (h : (Builtin.clear_ #[t] o.type #[u]).run P w = .ok (.tuple #[]) w') : (execOp a.eval o).run P w = .ok (.value (.tuple #[])) w' := by
  simp [execOp, ho, resolve, invoke, builtin, hx, h, Result.andThen]
theorem DiskMem.fresh (h : DiskMem w b F d nm sm lv am) (hf : Frm (fun k => k = b ∨ k = am) w w')
    (hb : w'.heap[b]? = some (.cells (diskCells { d with now := d.sure, loose := [], off := false, goes := -1, armed := fun _ => 0, narm := 0 } sm sm (.slice none 0 0) am).toArray 118 (0, 0))) (ha : ArmAt w' am 0 (fun _ => 0)) :
    DiskMem w' b F { d with now := d.sure, loose := [], off := false, goes := -1, armed := fun _ => 0, narm := 0 } sm sm (.slice none 0 0) am ∧ FootStep F F w w' := by
  have osh : ∀ k, F.sh k → w'.heap[k]? = w.heap[k]? := fun k hk => hf.block k (h.slt k hk) (fun e => e.elim (fun e => h.apart k (e ▸ h.bown) hk) (fun e => h.apart k (e ▸ h.aown) hk))
  have hs : ∀ f, f < 8 → FileAt w' (sm f) (d.sure f) := fun f hf => (h.sure f hf).keep fun m hm => osh m (h.ssh f hf m hm)
  exact ⟨⟨hb, hs, hs, h.ssh, h.ssh, World.ownsRow_nil _ _ _ _, fun g hg => (by cases hg), ha, h.aown, h.bown, h.apart, fun k hk => Nat.lt_of_lt_of_le (h.olt k hk) hf.size, fun k hk => Nat.lt_of_lt_of_le (h.slt k hk) hf.size,
    ⟨h.ok.sl, h.ok.sl, h.ok.ss, h.ok.ss, fun c hc => (by cases hc), h.ok.op0⟩⟩, hf.mono (fun k hk => hk.elim (fun e => e ▸ h.bown) (fun e => e ▸ h.aown)), fun _ h => .inl h, fun _ h => .inl h⟩
end

section
variable {w : World} {b : Nat} {F : Foot} {d : Dsk}
end
end Go.Proofs.YtdinjghfjmmjoaaGreat
