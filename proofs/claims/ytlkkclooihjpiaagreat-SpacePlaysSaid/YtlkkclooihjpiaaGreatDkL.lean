/- A disk's Crash; Sync whole. -/
import Derived.Test.YtlkkclooihjpiaaGreatDkK
set_option linter.unusedVariables false
set_option linter.unusedSimpArgs false
namespace Go.Proofs.YtlkkclooihjpiaaGreat
open Go.RowKit Go.Maps
set_option maxRecDepth 20000
section
variable {w w' : World} {b : Nat} {F : Foot} {d d' : Dsk} {nm sm : Nat → Option Nat} {lv : Value} {am : Nat}
theorem DiskMem.write_sure (h : DiskMem w b F d nm sm lv am) {f m : Nat} (hf : f < 8) (hb : Below w.heap.size w w') (hm : w.heap.size ≤ m) {l : List Sec} (hl : FileAt w' (some m) l) (h1 : l.length ≤ 8192) (h2 : ∀ s ∈ l, s.length = 64) :
  DiskMem ((w'.setCell ⟨b, 16 + f * 2, none⟩ (.int .i64 l.length)).setCell ⟨b, 16 + f * 2 + 1, none⟩ (.map (some m))) b (F.more m) { d with sure := put d.sure f l } nm (put sm f (some m)) lv am ∧
   FootStep F (F.more m) w ((w'.setCell ⟨b, 16 + f * 2, none⟩ (.int .i64 l.length)).setCell ⟨b, 16 + f * 2 + 1, none⟩ (.map (some m))) := by
 have hk := h.keep (w' := w') (fun k hk => hb.block k (hk.elim (h.olt k) (h.slt k))) hb.size
 have hblt := lt_of_block h.blk
 have hne : m ≠ b := by omega
 have old : ∀ k, k ≠ b → ((w'.setCell ⟨b, 16 + f * 2, none⟩ (.int .i64 l.length)).setCell ⟨b, 16 + f * 2 + 1, none⟩ (.map (some m))).heap[k]? = w'.heap[k]? := fun k hk => by
  rw [Below.heap_setCell _ ⟨b, _, none⟩ _ k hk, Below.heap_setCell _ ⟨b, _, none⟩ _ k hk]
 have hz : ((w'.setCell ⟨b, 16 + f * 2, none⟩ (.int .i64 l.length)).setCell ⟨b, 16 + f * 2 + 1, none⟩ (.map (some m))).heap.size = w'.heap.size := by simp
 have nb : ∀ k, F.sh k → k ≠ b := fun k hs e => h.apart k (e ▸ h.bown) hs
 have hmlt := hl.lt
 refine ⟨⟨?_, fun i hi => (hk.now i hi).keep fun x hx => old x (nb x (h.nsh i hi x hx)), fun i hi => ?_, fun i hi x hx => .inl (h.nsh i hi x hx), fun i hi x hx => ?_, row_keep hk.row fun g hg => old g (h.ne_row hg).1, h.rown, hk.arm.keep (old am h.ne_arm), h.aown, h.bown, ?_, fun k hk2 => by rw [hz]; exact Nat.lt_of_lt_of_le (h.olt k hk2) hb.size, ?_, ?_⟩, ?_, fun k hk => .inl hk, ?_⟩
 ·rw [heap_setCell_same (heap_setCell_same hk.blk (16 + f * 2) _) (16 + f * 2 + 1) _, set_sure d nm sm lv am hf]
 ·by_cases e : i = f
  ·subst e
   simp only [put_same]
   exact hl.keep fun x hx => old x (by cases hx; exact hne)
  ·simp only [put_other _ _ e]
   exact (hk.sure i hi).keep fun x hx => old x (nb x (h.ssh i hi x hx))
 ·by_cases e : i = f
  ·subst e
   rw [put_same] at hx
   exact .inr (Option.some.inj hx).symm
  ·rw [put_other _ _ e] at hx
   exact .inl (h.ssh i hi x hx)
 ·rintro k h1 (h2 | rfl)
  ·exact h.apart k h1 h2
  ·have := h.olt k h1
   omega
 ·rintro k (h2 | rfl)
  ·rw [hz]; exact Nat.lt_of_lt_of_le (h.slt k h2) hb.size
  ·rw [hz]; exact hmlt
 ·refine ⟨h.ok.nl, fun i hi => ?_, h.ok.ns, fun i hi => ?_, h.ok.lo, h.ok.op0⟩
  ·by_cases e : i = f
   ·subst e; simp only [put_same]; exact h1
   ·simp only [put_other _ _ e]; exact h.ok.sl i hi
  ·by_cases e : i = f
   ·subst e; simp only [put_same]; exact h2
   ·simp only [put_other _ _ e]; exact h.ok.ss i hi
 ·exact (Frm.of_below hb).trans (((Frm.refl _ _).setCell (p := ⟨b, 16 + f * 2, none⟩) (.inl h.bown) _).setCell (p := ⟨b, 16 + f * 2 + 1, none⟩) (.inl h.bown) _)
 ·rintro k (h2 | rfl)
  ·exact .inl h2
  ·exact .inr hm
set_option maxRecDepth 20000 in
theorem sync_any (h : DiskAt w b F d) (f : Int) (hs : d.Small 1099511527776) :
  Calls Tryz.prog 105 #[.pointer (some ⟨b, 0, none⟩), .int .i64 f] w fun e w' => e = .returned (.int .i64 (syncM d f).1) ∧ Did w b F (syncM d f).2 w' := by
 have R := ready_any h f
 by_cases hr : readyM d f = 0
 ·obtain ⟨ho, hf0, hf8⟩ := ready_zero hr
  obtain ⟨k, rfl⟩ : ∃ k : Nat, f = k := ⟨f.toNat, by omega⟩
  have hk : k < 8 := by omega
  by_cases hm : (meetsM d).1 = 0
  ·have e : syncM d k = (0, sureM (meetsM d).2 k) := by unfold syncM; rw [if_neg (by simpa using hr), if_neg (by simpa using hm), Int.toNat_natCast]
   rw [e]
   exact sync_main h k hs hk ho hm
  ·have e : syncM d k = meetsM d := by unfold syncM; rw [if_neg (by simpa using hr), if_pos hm]
   rw [e]
   rw [hr] at R
   have M := meets_any h (hs.mono (by omega))
   obtain ⟨r, hr2⟩ : ∃ r, r = (meetsM d).1 := ⟨_, rfl⟩
   obtain ⟨d1, hd1⟩ : ∃ d1, d1 = (meetsM d).2 := ⟨_, rfl⟩
   rw [← hr2, ← hd1] at M ⊢
   rw [← hr2] at hm
   have hrne : (r != 0) = true := by simpa using hm
   have R := hid R
   have M := hid M
   clear e hr h hs hr2 hd1 hm
   go_enter Tryz.func105, Tryz.ntmps105
   go_wp2_with (first | (go_at_call 23; refine (R.out).mono ?_; rintro e w1 ⟨rfl, rfl⟩) | (go_at_call 24; refine (M.out).mono ?_; rintro e w2 ⟨rfl, hd2⟩) | go_in)
   go_ret
   exact ⟨rfl, hd2⟩
 ·have e : syncM d f = (readyM d f, d) := by unfold syncM; rw [if_pos hr]
  rw [e]
  obtain ⟨r, hr2⟩ : ∃ r, r = readyM d f := ⟨_, rfl⟩
  rw [← hr2] at R ⊢
  rw [← hr2] at hr
  have hrne : (r != 0) = true := by simpa using hr
  have R := hid R
  have H := hid h
  clear hr2 e hr h hs
  go_enter Tryz.func105, Tryz.ntmps105
  go_wp2_with (first | (go_at_call 23; refine (R.out).mono ?_; rintro e w1 ⟨rfl, rfl⟩) | go_in)
  go_ret
  exact ⟨rfl, Did.same H.out⟩
def KeepAt (w : World) (v : Value) (ks : List Bool) : Prop := ∃ ao cap, v = .slice ao ks.length cap ∧ (ks = [] ∨ ∃ g o, ao = some ⟨g, o, none⟩ ∧ ∀ i b, ks[i]? = some b → w.cell? ⟨g, o + i, none⟩ = some (.bool b))
def keepBlk (v : Value) (ks : List Bool) : Option Nat := if ks.isEmpty then none else v.ownBlock
theorem KeepAt.keep {w w' : World} {v : Value} {ks : List Bool} (h : KeepAt w v ks) (hk : ∀ g, keepBlk v ks = some g → w'.heap[g]? = w.heap[g]?) : KeepAt w' v ks := by
 obtain ⟨ao, cap, rfl, h⟩ := h
 refine ⟨ao, cap, rfl, ?_⟩
 by_cases h0 : ks = []
 ·exact .inl h0
 refine .inr ?_
 obtain ⟨g, o, rfl, hc⟩ := h.resolve_left h0
 refine ⟨g, o, rfl, fun i b hi => ?_⟩
 have e := hk g (by simp [keepBlk, h0, Value.ownBlock])
 rw [← hc i b hi]
 unfold World.cell?
 simp only [e]
def crN (d : Dsk) (keep : List Bool) : Nat → Nat → List Sec
 | 0 => d.sure
 | i + 1 => match d.loose[i]? with
  | some c => if keep.getD i false then put (crN d keep i) c.file (doesM (crN d keep i c.file) c) else crN d keep i
  | none => crN d keep i
def crashM (d : Dsk) (keep : List Bool) : Dsk :=
 { d with now := crN d keep d.loose.length, sure := crN d keep d.loose.length, loose := [], off := false, goes := -1, armed := fun _ => 0, narm := 0 }
theorem run_clear {P : Program} (w : World) (t k e ty : TypeId) (m : Nat) (es : Array MapEntry) (clock : Nat) (ht : P.underlying t = some (.map k e)) (hm : w.heap[m]? = some (.map es clock)) :
  (Builtin.clear_ #[t] ty #[.map (some m)]).run P w = .ok (.tuple #[]) (ChangeMaps.setBlock w m (.map #[] clock)) := by
 simp [Builtin.clear_, run_underlying ht, MapKept.run_getObj_map hm, MapKept.run_setObj_map _ hm, Result.andThen, ChangeMaps.setBlock]
theorem exec_clear {P : Program} {o : Oper} {a : Act} {w w' : World} {t : TypeId} {x : Operand} {u : Value} (ho : o.op = .call { callee := .builtin .clear, args := #[x], argTypes := #[t] }) (hx : a.eval x = u)
  (h : (Builtin.clear_ #[t] o.type #[u]).run P w = .ok (.tuple #[]) w') : (execOp a.eval o).run P w = .ok (.value (.tuple #[])) w' := by
 simp [execOp, ho, resolve, invoke, builtin, hx, h, Result.andThen]
theorem both_at {w : World} {B : Nat} {c : Chg} {T : TypeId} (h : w.heap[B]? = some (.cells (chgCells c).toArray T (0, 0))) : w.rangeAt B 0 (chgCells c) ∧ w.cell? ⟨B, 0, none⟩ = some (.int .i64 (c.file : Int)) :=
 ⟨range_whole h, (cell_of_block h 0).trans rfl⟩
def sets (w : World) (b : Nat) (l : List (Nat × Value)) : World := l.foldl (fun w x => w.setCell ⟨b, x.1, none⟩ x.2) w
theorem heap_sets {T : TypeId} : ∀ (l : List (Nat × Value)) (w : World) (cs : Array Value), w.heap[b]? = some (.cells cs T (0, 0)) → (sets w b l).heap[b]? = some (.cells (l.foldl (fun cs x => cs.setIfInBounds x.1 x.2) cs) T (0, 0))
 | [], _, _, h => h
 | x :: r, w, cs, h => heap_sets r _ _ (heap_setCell_same h x.1 x.2)
theorem frm_sets {S : Nat → Prop} (hb : S b) : ∀ (l : List (Nat × Value)) (w0 w : World), Frm S w0 w → Frm S w0 (sets w b l)
 | [], _, _, h => h
 | x :: r, w0, w, h => frm_sets hb r _ _ (h.setCell (p := ⟨b, x.1, none⟩) (.inl hb) _)
theorem other_sets {k : Nat} (hk : k ≠ b) : ∀ (l : List (Nat × Value)) (w : World), (sets w b l).heap[k]? = w.heap[k]?
 | [], _ => rfl
 | x :: r, w => (other_sets hk r _).trans (Below.heap_setCell w ⟨b, x.1, none⟩ _ k hk)
def freshSets (d : Dsk) (sm : Nat → Option Nat) : List (Nat × Value) :=
 [(0, .int .i64 (d.sure 0).length), (1, .map (sm 0)), (2, .int .i64 (d.sure 1).length), (3, .map (sm 1)), (4, .int .i64 (d.sure 2).length), (5, .map (sm 2)), (6, .int .i64 (d.sure 3).length), (7, .map (sm 3)), (8, .int .i64 (d.sure 4).length), (9, .map (sm 4)), (10, .int .i64 (d.sure 5).length), (11, .map (sm 5)), (12, .int .i64 (d.sure 6).length), (13, .map (sm 6)), (14, .int .i64 (d.sure 7).length), (15, .map (sm 7)), (32, .slice none 0 0), (36, .bool false), (35, .int .i64 (-1))]
theorem fresh_cells (d : Dsk) (nm sm : Nat → Option Nat) (lv : Value) (am : Nat) :
  (freshSets d sm).foldl (fun cs x => cs.setIfInBounds x.1 x.2) (diskCells d nm sm lv am).toArray = (diskCells { d with now := d.sure, loose := [], off := false, goes := -1, armed := fun _ => 0, narm := 0 } sm sm (.slice none 0 0) am).toArray := by
 simp only [freshSets, diskCells, fcells, List.foldl_cons, List.foldl_nil, List.setIfInBounds_toArray, List.cons_append, List.nil_append, List.set_cons_succ, List.set_cons_zero]
theorem fresh33 (d : Dsk) (sm : Nat → Option Nat) (am : Nat) : (diskCells d sm sm (.slice none 0 0) am).toArray[33]? = some (.map (some am)) := rfl
theorem DiskMem.fresh (h : DiskMem w b F d nm sm lv am) (hf : Frm (fun k => k = b ∨ k = am) w w')
  (hb : w'.heap[b]? = some (.cells (diskCells { d with now := d.sure, loose := [], off := false, goes := -1, armed := fun _ => 0, narm := 0 } sm sm (.slice none 0 0) am).toArray 70 (0, 0))) (ha : ArmAt w' am 0 (fun _ => 0)) :
  DiskMem w' b F { d with now := d.sure, loose := [], off := false, goes := -1, armed := fun _ => 0, narm := 0 } sm sm (.slice none 0 0) am ∧ FootStep F F w w' := by
 have osh : ∀ k, F.sh k → w'.heap[k]? = w.heap[k]? := fun k hk => hf.block k (h.slt k hk) (fun e => e.elim (fun e => h.apart k (e ▸ h.bown) hk) (fun e => h.apart k (e ▸ h.aown) hk))
 have hs : ∀ f, f < 8 → FileAt w' (sm f) (d.sure f) := fun f hf => (h.sure f hf).keep fun m hm => osh m (h.ssh f hf m hm)
 exact ⟨⟨hb, hs, hs, h.ssh, h.ssh, World.ownsRow_nil _ _ _ _, fun g hg => (by cases hg), ha, h.aown, h.bown, h.apart, fun k hk => Nat.lt_of_lt_of_le (h.olt k hk) hf.size, fun k hk => Nat.lt_of_lt_of_le (h.slt k hk) hf.size,
  ⟨h.ok.sl, h.ok.sl, h.ok.ss, h.ok.ss, fun c hc => (by cases hc), h.ok.op0⟩⟩, hf.mono (fun k hk => hk.elim (fun e => e ▸ h.bown) (fun e => e ▸ h.aown)), fun _ h => .inl h, fun _ h => .inl h⟩
end
theorem crN_true {d : Dsk} {keep : List Bool} {i : Nat} {c : Chg} (h1 : d.loose[i]? = some c) (h2 : keep[i]? = some true) : crN d keep (i + 1) = put (crN d keep i) c.file (doesM (crN d keep i c.file) c) := by
 have h3 : keep.getD i false = true := by simp [List.getD, h2]
 conv => lhs; unfold crN
 simp only [h1, h3, if_true]
theorem crN_same {d : Dsk} {keep : List Bool} {i : Nat} {c : Chg} (h1 : d.loose[i]? = some c) (h2 : keep.getD i false = false) : crN d keep (i + 1) = crN d keep i := by
 conv => lhs; unfold crN
 simp only [h1, h2, Bool.false_eq_true, if_false]
section
variable {w : World} {b : Nat} {F : Foot} {d : Dsk}
set_option maxHeartbeats 1000000 in
set_option maxRecDepth 100000 in
theorem crash_any (h : DiskAt w b F d) (kv : Value) (keep : List Bool) (hk : KeepAt w kv keep) (hown : ∀ g, keepBlk kv keep = some g → ¬ F.own g ∧ g < w.heap.size) (hs : d.Small 1099511627776) (hkl : keep.length ≤ 1099511627776) :
  Calls Tryz.prog 17 #[.pointer (some ⟨b, 0, none⟩), kv] w fun e w' => e = .returned (.int .i64 0) ∧ Did w b F (crashM d keep) w' := by
 obtain ⟨nm0, sm0, lv, am, h0⟩ := h
 obtain ⟨ao, kcap, rfl, hkc⟩ := id hk
 obtain ⟨a32, a33, -, -, -⟩ := h0.five
 obtain ⟨n, hn⟩ : ∃ n, n = d.loose.length := ⟨_, rfl⟩
 have Hn := hid hn
 have Hrow0 := hid (show w.ownsRow 0 75 67 lv n (chgsCells d.loose) by rw [hn]; exact h0.row)
 have hnb : (n : Int) ≤ 1099511627776 := by have := hs.loose; omega
 have hlv : (lv = .slice none 0 0 ∧ n = 0) ∨ ∃ g cap, lv = .slice (some ⟨g, 0, none⟩) n cap := row_form Hrow0.out
 have H0 := hid h0
 have Hkeep := hid hk
 have Hkown := hid hown
 clear hn hs h0 hk hown hkc
 -- the loop goes to its end
 go_enter Tryz.func17, Tryz.ntmps17
 have hcells : ∃ (n' : Nat) (g : Option Addr) (cap : Nat), lv = .slice g n' cap ∧ n' = n := by
  rcases hlv with ⟨rfl, h1⟩ | ⟨g, cap, rfl⟩
  ·exact ⟨0, none, 0, rfl, h1.symm⟩
  ·exact ⟨n, _, cap, rfl, rfl⟩
 obtain ⟨n', ga, cap, rfl, rfl⟩ := hcells
 go_wp2_with fail
 go_loopw [14] (fun v14 wr => ∃ i : Nat, v14 = .int .i64 (i : Int) ∧ i ≤ n' ∧ ∃ F2 sm, F2.own = F.own ∧ DiskMem wr b F2 { d with sure := crN d keep i } nm0 sm (.slice ga n' cap) am ∧ FootStep F F2 w wr) (fun v14 _ => n' - (intOf v14).toNat)
 case atStart => exact ⟨0, rfl, Nat.zero_le _, F, sm0, rfl, H0.out, FootStep.refl _ _⟩
 case round =>
  obtain ⟨i, rfl, hin, F2, sm, hown2, hmem, hst⟩ := hrel
  have HM2 := hid hmem
  have Hst := hid hst
  have Hown2 := hid hown2
  clear hmem hst hown2
  by_cases hlt : i < n'
  ·rcases hlv with ⟨-, h1⟩ | ⟨g, cap', hlv⟩
   ·omega
   ·cases hlv
    have hil : i < d.loose.length := by have := Hn.out; omega
    obtain ⟨c, hc⟩ : ∃ c, c = d.loose[i] := ⟨_, rfl⟩
    have hget : d.loose[i]? = some c := by rw [List.getElem?_eq_getElem hil, hc]
    have Hget := hid hget
    have Hcl := hid (H0.out.ok.lo c (List.mem_of_getElem? hget))
    have Hi74 := hid (show (Tryz.prog.info? 75).map (·.size) = some (chgCells c).length by rw [chgCells_length Hcl.out.2.2.1]; kernel_rfl)
    have Hrange := hid (show wr.rangeAt g (i * 67) (chgCells c) from row_range (base := 0) (n := n') (by have := HM2.out.row; rw [← Hn.out] at this; exact this) (fun c hc => (H0.out.ok.lo c hc).2.2.1) hget Hn.out.symm)
    have hil2 : (i : Int) < (n' : Int) := by omega
    have hk8 : (c.file : Int) < 8 := by have := Hcl.out.1; omega
    have hki : (keep.length : Int) ≤ 1099511627776 := by omega
    clear hc hget
    go_upto_region 5 with fail
    refine wp_region_lit ?_
    refine wpList_value (w' := wr) rfl (.int .i64 (i : Int)) rfl ?_
    simp only [Act.put, List.setIfInBounds_toArray, List.set_cons_zero, List.set_cons_succ]
    refine wpList_value (w' := wr) rfl (.pointer (some ⟨g, i * 67, none⟩)) (by go_simp) ?_
    simp only [Act.put, List.setIfInBounds_toArray, List.set_cons_zero, List.set_cons_succ]
    refine wpList_value rfl (.agg (chgCells c).toArray) (exec_load rfl (by rfl) (run_loadAt_mid wr _ _ _ _ _ Hrange.out Tryz.underlying75 rfl Hi74.out)) ?_
    simp only [Act.put, List.setIfInBounds_toArray, List.set_cons_zero, List.set_cons_succ]
    refine wpList_value rfl (.pointer (some ⟨wr.heap.size, 0, none⟩)) (w' := wr.alloc (.cells (chgCells ⟨0, 0, false, nought⟩).toArray 75)) (by kernel_rfl) ?_
    simp only [Act.put, List.setIfInBounds_toArray, List.set_cons_zero, List.set_cons_succ]
    refine wpList_value (w' := wr.alloc (.cells (chgCells ⟨0, 0, false, nought⟩).toArray 75)) rfl (.int .i64 (i : Int)) rfl ?_
    simp only [Act.put, List.setIfInBounds_toArray, List.set_cons_zero, List.set_cons_succ]
    refine wpList_skip rfl (exec_store rfl rfl rfl (run_storeAt_new wr 75 _ _ (by rw [List.size_toArray, chgCells_length Hcl.out.2.2.1]; kernel_rfl) (by rw [List.size_toArray, List.size_toArray, chgCells_length Hcl.out.2.2.1]; rfl) (all_oneCell_toArray (chgCells_one c)))) ?_
    refine wpList_nil ?_
    simp only [Act.put, List.setIfInBounds_toArray, List.set_cons_zero, List.set_cons_succ]
    obtain ⟨B, hB⟩ : ∃ B, B = wr.heap.size := ⟨_, rfl⟩
    rw [← hB]
    have hBn := heap_alloc_new wr (.cells (chgCells c).toArray 75)
    rw [← hB] at hBn
    have hbelA := (Below.refl wr.heap.size wr).alloc (Nat.le_refl _) (.cells (chgCells c).toArray 75)
    have HBb := hid (show B ≠ b by have := lt_of_block HM2.out.blk; omega)
    have hmA := HM2.out.keep (w' := wr.alloc (.cells (chgCells c).toArray 75)) (fun k hk => hbelA.block k (hk.elim (HM2.out.olt k) (HM2.out.slt k))) hbelA.size
    have HSTA := hid (Hst.out.trans (footstep_below (F := F2) hbelA))
    obtain ⟨wa, hwa⟩ : ∃ wa, wa = wr.alloc (.cells (chgCells c).toArray 75) := ⟨_, rfl⟩
    rw [← hwa] at hBn hmA HSTA ⊢
    have HBn := hid hBn
    have HM := hid hmA
    have HK := hid (show KeepAt wa (.slice ao keep.length kcap) keep from Hkeep.out.keep (fun x hx => HSTA.out.frm.block x (Hkown.out x hx).2 (Hkown.out x hx).1))
    clear hBn hbelA hmA hwa hB Hst HM2
    obtain ⟨d2, hd2⟩ : ∃ d2 : Dsk, d2 = { d with sure := crN d keep i } := ⟨_, rfl⟩
    have Hd2 := hid hd2
    rw [← hd2] at HM
    clear hd2
    by_cases hki2 : i < keep.length
    ·obtain ⟨kb, hkb⟩ : ∃ kb, kb = keep[i] := ⟨_, rfl⟩
     have hkget : keep[i]? = some kb := by rw [List.getElem?_eq_getElem hki2, hkb]
     obtain ⟨ao', kcap', e, hcell⟩ := HK.out
     cases e
     rcases hcell with hnil | ⟨gk, ok, rfl, hcell⟩
     ·rw [hnil] at hki2; simp at hki2
     ·have k0 := hcell i kb hkget
      have Hkget := hid hkget
      have hki3 : (i : Int) < (keep.length : Int) := by omega
      clear hcell hkb hkget
      cases kb with
      | true =>
       obtain ⟨a0, a1, af0, af1⟩ := sure_here HM.out Hcl.out.1
       go_upto_region 7 with fail
       refine wp_region_held_drew (S := fun W => W.rangeAt B 0 (chgCells c) ∧ W.cell? ⟨B, 0, none⟩ = some (.int .i64 (c.file : Int))) (by kernel_rfl) (both_at (w := wa.drew) HBn.out) (fun hHeld => ?_)
       refine held_take (v := ?pv0) 0 rfl (by kernel_rfl) (by kernel_rfl) (by kernel_rfl) (fun _ _ _ h => h) (by rfl) hHeld ?py0 ?pr0
       case py0 => (intro W hSw; obtain ⟨y1, y2⟩ := hSw; go_simp; with_reducible rfl)
       simp only [Act.put, List.setIfInBounds_toArray, List.set_cons_zero, List.set_cons_succ]
       refine held_take (v := ?pv1) 1 rfl (by kernel_rfl) (by kernel_rfl) (by kernel_rfl) (fun _ _ _ h => h) (by rfl) hHeld ?py1 ?pr1
       case py1 => (intro W hSw; obtain ⟨y1, y2⟩ := hSw; go_simp; with_reducible rfl)
       simp only [Act.put, List.setIfInBounds_toArray, List.set_cons_zero, List.set_cons_succ]
       refine held_take (v := ?pv2) 2 rfl (by kernel_rfl) (by kernel_rfl) (by kernel_rfl) (fun _ _ _ h => h) (by rfl) hHeld ?py2 ?pr2
       case py2 => (intro W hSw; obtain ⟨y1, y2⟩ := hSw; go_simp; with_reducible rfl)
       simp only [Act.put, List.setIfInBounds_toArray, List.set_cons_zero, List.set_cons_succ]
       refine held_take (v := ?pv3) 3 rfl (by kernel_rfl) (by kernel_rfl) (by kernel_rfl) (fun _ _ _ h => h) (by rfl) hHeld ?py3 ?pr3
       case py3 => (intro W hSw; obtain ⟨y1, y2⟩ := hSw; go_simp; with_reducible rfl)
       simp only [Act.put, List.setIfInBounds_toArray, List.set_cons_zero, List.set_cons_succ]
       refine held_take (v := ?pv4) 4 rfl (by kernel_rfl) (by kernel_rfl) (by kernel_rfl) (fun _ _ _ h => h) (by rfl) hHeld ?py4 ?pr4
       case py4 => (intro W hSw; obtain ⟨y1, y2⟩ := hSw; go_simp; with_reducible rfl)
       simp only [Act.put, List.setIfInBounds_toArray, List.set_cons_zero, List.set_cons_succ]
       refine held_take (v := ?pv5) 5 rfl (by kernel_rfl) (by kernel_rfl) (by kernel_rfl) (fun _ _ _ h => h) (by rfl) hHeld ?py5 ?pr5
       case py5 => (intro W hSw; obtain ⟨y1, y2⟩ := hSw; go_simp; with_reducible rfl)
       simp only [Act.put, List.setIfInBounds_toArray, List.set_cons_zero, List.set_cons_succ]
       refine held_take (v := ?pv6) 6 rfl (by kernel_rfl) (by kernel_rfl) (by kernel_rfl) (fun _ _ _ h => h) (by rfl) hHeld ?py6 ?pr6
       case py6 => (intro W hSw; obtain ⟨y1, y2⟩ := hSw; go_simp; with_reducible rfl)
       simp only [Act.put, List.setIfInBounds_toArray, List.set_cons_zero, List.set_cons_succ]
       refine held_take (v := ?pv7) 7 rfl (by kernel_rfl) (by kernel_rfl) (by kernel_rfl) (fun _ _ _ h => h) (by rfl) hHeld ?py7 ?pr7
       case py7 => (intro W hSw; obtain ⟨y1, y2⟩ := hSw; go_simp; with_reducible rfl)
       simp only [Act.put, List.setIfInBounds_toArray, List.set_cons_zero, List.set_cons_succ]
       refine held_take (v := ?pv8) 8 rfl (by kernel_rfl) (by kernel_rfl) (by kernel_rfl) (fun _ _ _ h => h) (by rfl) hHeld ?py8 ?pr8
       case py8 => (intro W hSw; obtain ⟨y1, y2⟩ := hSw; go_simp; with_reducible rfl)
       simp only [Act.put, List.setIfInBounds_toArray, List.set_cons_zero, List.set_cons_succ]
       refine held_take (v := .agg (chgCells c).toArray) 10 rfl (by kernel_rfl) (by kernel_rfl) (by kernel_rfl) (fun _ _ _ h => h) (by rfl) hHeld (fun W hSw => exec_load rfl rfl (run_loadAt_mid W _ _ _ _ _ hSw.1 Tryz.underlying75 rfl Hi74.out)) ?_
       simp only [Act.put, List.setIfInBounds_toArray, List.set_cons_zero, List.set_cons_succ]
       refine held_take (v := ?pv12) 12 rfl (by kernel_rfl) (by kernel_rfl) (by kernel_rfl) (fun _ _ _ h => h) (by rfl) hHeld ?py12 ?pr12
       case py12 => (intro W hSw; obtain ⟨y1, y2⟩ := hSw; go_simp; with_reducible rfl)
       simp only [Act.put, List.setIfInBounds_toArray, List.set_cons_zero, List.set_cons_succ]
       refine held_take (v := ?pv13) 13 rfl (by kernel_rfl) (by kernel_rfl) (by kernel_rfl) (fun _ _ _ h => h) (by rfl) hHeld ?py13 ?pr13
       case py13 => (intro W hSw; obtain ⟨y1, y2⟩ := hSw; go_simp; with_reducible rfl)
       simp only [Act.put, List.setIfInBounds_toArray, List.set_cons_zero, List.set_cons_succ]
       refine held_one 9 (by kernel_rfl) rfl (fun K hK => ?_)
       go_simp
       refine hK.out _ _ (both_at (w := wa.drew) HBn.out) (fun hHeld => ?_)
       clear hK K
       try simp only [Act.put, List.setIfInBounds_toArray, List.set_cons_zero, List.set_cons_succ]
       have hdoes := does_any (sm c.file) (d2.sure c.file) c wa.drew (HM.out.sure c.file Hcl.out.1) Hcl.out.2.2.1 (HM.out.ok.sl c.file Hcl.out.1) Hcl.out.2.1
       unfold chgV at hdoes
       have Hdoes := hid hdoes
       clear hdoes a0 a1 af0 af1
       refine held_one 11 (by kernel_rfl) rfl (fun K hK => ?_)
       go_simp
       refine (Hdoes.out).mono ?_
       rintro e w4 ⟨m4, rfl, hm4, hf4, hb4⟩
       have Hb4 := hid (below_undrew hb4)
       have Hm4 := hid (show wa.heap.size ≤ m4 from hm4)
       have Hf4 := hid hf4
       have HB4 := hid ((Hb4.out.block B (lt_of_block HBn.out)).trans HBn.out)
       clear hm4 hf4 hb4 Hdoes
       try dsimp only
       refine hK.out _ _ (both_at HB4.out) (fun hHeld => ?_)
       clear hK K
       try simp only [Act.put, List.setIfInBounds_toArray, List.set_cons_zero, List.set_cons_succ]
       refine held_take (v := ?pv14) 14 rfl (by kernel_rfl) (by kernel_rfl) (by kernel_rfl) (fun _ _ _ h => h) (by rfl) hHeld ?py14 ?pr14
       case py14 => (intro W hSw; obtain ⟨y1, y2⟩ := hSw; go_simp; with_reducible rfl)
       simp only [Act.put, List.setIfInBounds_toArray, List.set_cons_zero, List.set_cons_succ]
       obtain ⟨a0, a1, af0, af1⟩ := sure_here (HM.out.keep (w' := w4) (fun k hk => Hb4.out.block k (hk.elim (HM.out.olt k) (HM.out.slt k))) Hb4.out.size) Hcl.out.1
       obtain ⟨hm5, hst5⟩ := HM.out.write_sure Hcl.out.1 Hb4.out Hm4.out Hf4.out (does_len (HM.out.ok.sl c.file Hcl.out.1) Hcl.out.2.2.2) (does_sec (HM.out.ok.ss c.file Hcl.out.1) Hcl.out.2.2.1)
       have hB5 := two_other (w := w4) HB4.out (b := b) (16 + c.file * 2) (16 + c.file * 2 + 1) (.int .i64 (doesM (d2.sure c.file) c).length) (.map (some m4)) HBb.out
       have HM5 := hid hm5
       have HST5 := hid hst5
       have HB5 := hid hB5
       clear hm5 hst5 hB5
       obtain ⟨z5, hz5⟩ : ∃ z : Int, z = (doesM (d2.sure c.file) c).length := ⟨_, rfl⟩
       simp only [← hz5] at HM5 HST5 HB5 ⊢
       clear hz5
       refine held_one 15 (by kernel_rfl) rfl (fun K hK => ?_)
       go_simp
       refine hK.out _ _ (both_at HB5.out) (fun hHeld => ?_)
       clear hK K
       try simp only [Act.put, List.setIfInBounds_toArray, List.set_cons_zero, List.set_cons_succ]
       refine wpAnyH_done (by kernel_rfl) ?_ _
       clear a0 a1 af0 af1 hHeld
       go_wp2_with fail
       go_roundw
       case rel =>
        have hm5 := HM5.out
        have hst5 := HST5.out
        rw [Hd2.out] at hm5
        refine ⟨i + 1, by simp, by omega, F2.more m4, put sm c.file (some m4), Hown2.out, ?_, HSTA.out.trans hst5⟩
        rw [crN_true Hget.out Hkget.out]
        exact hm5
       case measure => simp [intOf]; omega
      | false =>
       go_wp2_with fail
       go_roundw
       case rel =>
        have hm5 := HM.out
        rw [Hd2.out] at hm5
        refine ⟨i + 1, by simp, by omega, F2, sm, Hown2.out, ?_, HSTA.out⟩
        rw [crN_same Hget.out (by simp [List.getD, Hkget.out])]
        exact hm5
       case measure => simp [intOf]; omega
    ·have hki3 : (keep.length : Int) ≤ (i : Int) := by omega
     go_wp2_with fail
     go_roundw
     case rel =>
      have hm5 := HM.out
      rw [Hd2.out] at hm5
      refine ⟨i + 1, by simp, by omega, F2, sm, Hown2.out, ?_, HSTA.out⟩
      rw [crN_same Hget.out (by simp [List.getD, List.getElem?_eq_none (Nat.le_of_not_lt hki2)])]
      exact hm5
     case measure => simp [intOf]; omega
  ·obtain rfl : i = n' := by omega
   have hlt' : decide ((i : Int) < (i : Int)) = false := by simp
   have sc := fun o => HM2.out.cell o
   have s0 := sc 0
   have s1 := sc 1
   have s2 := sc 2
   have s3 := sc 3
   have s4 := sc 4
   have s5 := sc 5
   have s6 := sc 6
   have s7 := sc 7
   have s8 := sc 8
   have s9 := sc 9
   have s10 := sc 10
   have s11 := sc 11
   have s12 := sc 12
   have s13 := sc 13
   have s14 := sc 14
   have s15 := sc 15
   have s16 := sc 16
   have s17 := sc 17
   have s18 := sc 18
   have s19 := sc 19
   have s20 := sc 20
   have s21 := sc 21
   have s22 := sc 22
   have s23 := sc 23
   have s24 := sc 24
   have s25 := sc 25
   have s26 := sc 26
   have s27 := sc 27
   have s28 := sc 28
   have s29 := sc 29
   have s30 := sc 30
   have s31 := sc 31
   have s32 := sc 32
   have s33 := sc 33
   have s35 := sc 35
   have s36 := sc 36
   clear sc hlv hlt
   simp only [diskCells, fcells, List.cons_append, List.nil_append, List.getElem?_cons_succ, List.getElem?_cons_zero] at s0 s1 s2 s3 s4 s5 s6 s7 s8 s9 s10 s11 s12 s13 s14 s15 s16 s17 s18 s19 s20 s21 s22 s23 s24 s25 s26 s27 s28 s29 s30 s31 s32 s33 s35 s36
   have fr := fun o => HM2.out.free o
   go_upto_region 10 with fail
   have hb3 := heap_sets (b := b) (T := 70) (freshSets { d with sure := crN d keep i } sm) wr _ HM2.out.blk
   rw [fresh_cells] at hb3
   have hf3 := frm_sets (b := b) (S := fun k => k = b ∨ k = am) (.inl rfl) (freshSets { d with sure := crN d keep i } sm) wr wr (Frm.refl _ _)
   have ho3 := other_sets (b := b) (k := am) HM2.out.ne_arm (freshSets { d with sure := crN d keep i } sm) wr
   obtain ⟨w3, hw3⟩ : ∃ w3, w3 = sets wr b (freshSets { d with sure := crN d keep i } sm) := ⟨_, rfl⟩
   rw [← hw3] at hb3 hf3 ho3
   unfold sets freshSets at hw3
   simp only [List.foldl_cons, List.foldl_nil] at hw3
   rw [← hw3]
   obtain ⟨DA, ⟨es, clock, hes, -⟩, -⟩ := HM2.out.arm
   have hes3 := ho3.trans hes
   have c33 : w3.cell? ⟨b, 33, none⟩ = some (.map (some am)) := (cell_of_block hb3 33).trans (fresh33 _ _ _)
   clear hw3 s0 s1 s2 s3 s4 s5 s6 s7 s8 s9 s10 s11 s12 s13 s14 s15 s16 s17 s18 s19 s20 s21 s22 s23 s24 s25 s26 s27 s28 s29 s30 s31 s32 s33 s35 s36
   refine wp_region_lit ?_
   refine wpList_value (w' := w3) rfl (.pointer (some ⟨b, 0, none⟩)) (by go_simp) ?_
   simp only [Act.put, List.setIfInBounds_toArray, List.set_cons_zero, List.set_cons_succ]
   refine wpList_value (w' := w3) rfl (.pointer (some ⟨b, 0, none⟩)) (by go_simp) ?_
   simp only [Act.put, List.setIfInBounds_toArray, List.set_cons_zero, List.set_cons_succ]
   refine wpList_value (w' := w3) rfl (.pointer (some ⟨b, 33, none⟩)) (by go_simp) ?_
   simp only [Act.put, List.setIfInBounds_toArray, List.set_cons_zero, List.set_cons_succ]
   refine wpList_value (w' := w3) rfl (.map (some am)) (by go_simp) ?_
   simp only [Act.put, List.setIfInBounds_toArray, List.set_cons_zero, List.set_cons_succ]
   refine wpList_value rfl (.tuple #[]) (exec_clear rfl (by rfl) (run_clear w3 63 3 29 _ am es clock Tryz.underlying63 hes3)) ?_
   refine wpList_nil ?_
   simp only [Act.put, List.setIfInBounds_toArray, List.set_cons_zero, List.set_cons_succ]
   have hb4 := (MapKept.heap_set (o' := .map #[] clock) hes3).2 b (fun e => HM2.out.ne_arm e.symm)
   have hf4 : Frm (fun k => k = b ∨ k = am) wr (ChangeMaps.setBlock w3 am (.map #[] clock)) := hf3.trans ⟨rfl, rfl, rfl, by simp [ChangeMaps.setBlock], fun k hk hne => (MapKept.heap_set (o' := .map #[] clock) hes3).2 k (fun e => hne (.inr e))⟩
   have ha4 : ArmAt (ChangeMaps.setBlock w3 am (.map #[] clock)) am 0 (fun _ => 0) := ⟨.map [], ⟨#[], clock, (MapKept.heap_set (o' := .map #[] clock) hes3).1, ⟨by simp, (MapKept.stamped_iff _ _).2 ⟨by simp, by simp, by simp⟩, by simp⟩, Nat.le_refl _, rfl⟩, fun k => rfl⟩
   obtain ⟨hm9, hst9⟩ := HM2.out.fresh hf4 (hb4.trans hb3) ha4
   have HM9 := hid hm9
   have HST9 := hid hst9
   clear hb4 hf4 ha4 hm9 hst9 hes3 hes c33 ho3 hf3 hb3
   go_wp2_with fail
   go_ret
   have e : crashM d keep = { now := crN d keep i, sure := crN d keep i, loose := [], armed := fun _ => 0, ops := d.ops, goes := -1, off := false, narm := 0 } := by
    unfold crashM
    rw [← Hn.out]
   rw [e]
   exact ⟨rfl, _, ⟨_, _, _, _, HM9.out⟩, Hst.out.trans HST9.out⟩
end
end Go.Proofs.YtlkkclooihjpiaaGreat
