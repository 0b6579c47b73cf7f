/- The law's calls (Op), in plain words and in memory; sector, place, error, bytes. -/
import Derived.Test.YtifgnhbbcpmaiaaDkL
import Derived.Test.YtifgnhbbcpmaiaaBld
namespace Go.Proofs.Ytifgnhbbcpmaiaa
open Go.RowKit Go.Maps
set_option linter.unusedVariables false
set_option linter.unusedSimpArgs false

structure OpM where
  kind : Int
  file : Int
  at_ : Int
  n : Int
  c : UInt8
  s : List UInt8
  ka : Option Addr
  kcap : Nat
  keep : List Bool
deriving Inhabited
def OpM.kv (x : OpM) : Value := .slice x.ka x.keep.length x.kcap
def opCells (x : OpM) : List Value := [.int .i64 x.kind, .int .i64 x.file, .int .i64 x.at_, .int .i64 x.n, .int .u8 (x.c.toNat : Int), .string (bs x.s), .slice x.ka x.keep.length x.kcap]
def opV (x : OpM) : Value := .agg (opCells x).toArray
theorem opCells_one (x : OpM) : ∀ u ∈ opCells x, u.oneCell' = true := by
  intro u hu
  simp only [opCells, List.mem_cons, List.not_mem_nil, or_false] at hu
  rcases hu with rfl | rfl | rfl | rfl | rfl | rfl | rfl <;> rfl
def in64 (n : Int) : Prop := -9223372036854775808 ≤ n ∧ n ≤ 9223372036854775807
/-- A call that came in. S: the blocks that hold what came in. -/
structure OpOk (S : Nat → Prop) (w : World) (x : OpM) : Prop where
  kind : in64 x.kind
  file : in64 x.file
  at_ : in64 x.at_
  n : in64 x.n
  s : x.s.length ≤ 9223372036854775807
  kl : x.keep.length ≤ 9223372036854775807
  keep : KeepAt w x.kv x.keep
  ks : ∀ g, keepBlk x.kv x.keep = some g → S g
theorem OpOk.move {S : Nat → Prop} {w w' : World} {x : OpM} (h : OpOk S w x) (hk : ∀ k, S k → w'.heap[k]? = w.heap[k]?) : OpOk S w' x :=
  ⟨h.kind, h.file, h.at_, h.n, h.s, h.kl, h.keep.keep fun g hg => hk g (h.ks g hg), h.ks⟩
theorem OpOk.mono {S T : Nat → Prop} {w : World} {x : OpM} (h : OpOk S w x) (hk : ∀ k, S k → T k) : OpOk T w x :=
  ⟨h.kind, h.file, h.at_, h.n, h.s, h.kl, h.keep, fun g hg => hk g (h.ks g hg)⟩
/-- A list of calls that came in. -/
structure OpsAt (S : Nat → Prop) (w : World) (v : Value) (l : List OpM) : Prop where
  val : ∃ ao cap, v = .slice ao l.length cap ∧ (l = [] ∨ ∃ g o, ao = some ⟨g, o, none⟩ ∧ S g ∧ ∀ i x, l[i]? = some x → w.rangeAt g (o + i * 7) (opCells x))
  ok : ∀ x ∈ l, OpOk S w x
  len : l.length ≤ 9223372036854775807
theorem rangeAt_move {w w' : World} {g o : Nat} {cs : List Value} (h : w.rangeAt g o cs) (hk : w'.heap[g]? = w.heap[g]?) : w'.rangeAt g o cs := fun j v hv => by
  have := h j v hv
  rw [← this]
  unfold World.cell?
  simp only [hk]
theorem OpsAt.move {S : Nat → Prop} {w w' : World} {v : Value} {l : List OpM} (h : OpsAt S w v l) (hk : ∀ k, S k → w'.heap[k]? = w.heap[k]?) : OpsAt S w' v l := by
  obtain ⟨⟨ao, cap, rfl, hv⟩, hok, hl⟩ := h
  refine ⟨⟨ao, cap, rfl, hv.imp id ?_⟩, fun x hx => (hok x hx).move hk, hl⟩
  rintro ⟨g, o, rfl, hs, hr⟩
  exact ⟨g, o, rfl, hs, fun i x hi => rangeAt_move (hr i x hi) (hk g hs)⟩
theorem OpsAt.mono {S T : Nat → Prop} {w : World} {v : Value} {l : List OpM} (h : OpsAt S w v l) (hk : ∀ k, S k → T k) : OpsAt T w v l := by
  obtain ⟨⟨ao, cap, rfl, hv⟩, hok, hl⟩ := h
  refine ⟨⟨ao, cap, rfl, hv.imp id ?_⟩, fun x hx => (hok x hx).mono hk, hl⟩
  rintro ⟨g, o, rfl, hs, hr⟩
  exact ⟨g, o, rfl, hk g hs, hr⟩

/-! ### sector -/
def sectorM (c : UInt8) : List UInt8 := List.replicate 64 c
set_option maxRecDepth 20000 in
theorem repeatL_one (c : UInt8) : Lib.repeatL [c] 64 = sectorM c := by
  show _ = List.replicate 64 c
  rfl
set_option maxRecDepth 20000 in
theorem sector_any (c : UInt8) (w : World) : Calls Try.prog 23 #[.int .u8 (c.toNat : Int)] w fun e w' => e = .returned (.string (bs (sectorM c))) ∧ Below w.heap.size w w' := by
  have R := fun w => Try.strings_Repeat (bs [c]) 64 w (by omega) (by simp [bs_size])
  rw [show (bs [c]).data.toList = [c] from rfl, repeatL_one] at R
  have R := hid R
  have hconv : (convert 78 9 (.slice (some ⟨w.heap.size, 0, none⟩) 1 1)).run Try.prog (w.alloc (.cells #[.int .u8 (c.toNat : Int)] 5)) = .ok (.string (bs [c])) (w.alloc (.cells #[.int .u8 (c.toNat : Int)] 5)) := by
    have h := run_convert_cells (P := Try.prog) (w.alloc (.cells #[.int .u8 (c.toNat : Int)] 5)) 78 9 5 Try.underlying78 Try.underlying5 Try.underlying9 w.heap.size 0 1 1 [(c.toNat : Int)] rfl (fun i hi => by
      obtain rfl : i = 0 := by omega
      exact (cell_of_block (heap_alloc_new w _) 0).trans rfl)
    simpa using h
  go_enter Try.func23, Try.ntmps23
  go_wp2_with (first | (go_at_call 45; refine (R.out _).mono ?_; rintro e w1 ⟨rfl, hb⟩) | go_in)
  go_ret
  exact ⟨rfl, then_below ((Below.refl _ _).alloc (Nat.le_refl _) _) hb⟩

/-! ### place, error -/
def placeM (x : OpM) : Int := if x.kind = 0 ∧ 100 < x.at_ ∧ x.at_ < 8126 then 100 else x.at_
theorem place_any (x : OpM) (w : World) : Calls Try.prog 37 #[opV x] w fun e w' => e = .returned (.int .i64 (placeM x)) ∧ Below w.heap.size w w' := by
  unfold opV opCells placeM
  by_cases h0 : x.kind = 0
  · by_cases h1 : 100 < x.at_
    · by_cases h2 : x.at_ < 8126
      · have h0' : (x.kind == 0) = true := by simpa using h0
        have h1' : decide (100 < x.at_) = true := by simpa using h1
        have h2' : decide (x.at_ < 8126) = true := by simpa using h2
        rw [if_pos ⟨h0, h1, h2⟩]
        go_enter Try.func37, Try.ntmps37
        go_wp2_with fail
        go_ret
        exact ⟨rfl, (Below.refl _ _).alloc (Nat.le_refl _) _⟩
      · have h0' : (x.kind == 0) = true := by simpa using h0
        have h1' : decide (100 < x.at_) = true := by simpa using h1
        have h2' : decide (x.at_ < 8126) = false := by simpa using h2
        rw [if_neg (fun h => h2 h.2.2)]
        go_enter Try.func37, Try.ntmps37
        go_wp2_with fail
        go_ret
        exact ⟨rfl, (Below.refl _ _).alloc (Nat.le_refl _) _⟩
    · have h0' : (x.kind == 0) = true := by simpa using h0
      have h1' : decide (100 < x.at_) = false := by simpa using h1
      rw [if_neg (fun h => h1 h.2.1)]
      go_enter Try.func37, Try.ntmps37
      go_wp2_with fail
      go_ret
      exact ⟨rfl, (Below.refl _ _).alloc (Nat.le_refl _) _⟩
  · have h0' : (x.kind == 0) = false := by simpa using h0
    rw [if_neg (fun h => h0 h.1)]
    go_enter Try.func37, Try.ntmps37
    go_wp2_with fail
    go_ret
    exact ⟨rfl, (Below.refl _ _).alloc (Nat.le_refl _) _⟩
def errM (x : OpM) : Int := if x.n.tmod 2 ≠ 0 then 30 else 31
theorem error_any (x : OpM) (w : World) (hn : in64 x.n) : Calls Try.prog 33 #[opV x] w fun e w' => e = .returned (.int .i64 (errM x)) ∧ Below w.heap.size w w' := by
  unfold opV opCells errM
  have hw : IntKind.i64.wrap (x.n.tmod 2) = x.n.tmod 2 := IntWalk.i64_in _ (by have h1 : (x.n.tmod 2).natAbs = x.n.natAbs % 2 := Int.natAbs_tmod _ _; omega)
  by_cases h0 : x.n.tmod 2 ≠ 0
  · have h0' : (x.n.tmod 2 != 0) = true := by simpa using h0
    rw [if_pos h0]
    go_enter Try.func33, Try.ntmps33
    go_wp2_with fail
    go_ret
    exact ⟨rfl, (Below.refl _ _).alloc (Nat.le_refl _) _⟩
  · have h0' : (x.n.tmod 2 != 0) = false := by simpa using h0
    rw [if_neg h0]
    go_enter Try.func33, Try.ntmps33
    go_wp2_with fail
    go_ret
    exact ⟨rfl, (Below.refl _ _).alloc (Nat.le_refl _) _⟩

/-! ### bytes -/
def bytesN (c : UInt8) : Nat → List UInt8
  | 0 => []
  | i + 1 => bytesN c i ++ sectorM (c + UInt8.ofNat i)
def nOf (n : Int) : Nat := (min (max n 0) 64).toNat
def bytesM (x : OpM) : List UInt8 := if x.kind ≠ 0 then x.s else bytesN x.c (nOf x.n)
theorem bytesN_length (c : UInt8) : ∀ n, (bytesN c n).length = 64 * n
  | 0 => rfl
  | n + 1 => by rw [bytesN, List.length_append, bytesN_length c n]; simp [sectorM]; omega
theorem bld_kept {B b : Nat} {l : List UInt8} {w w1 : World} (h : BldF B b l w) (hb : Below w.heap.size w w1) : BldF B b l w1 := by
  have hg : w.grownBy w1 none := ⟨hb.os, hb.tape, hb.output, hb.size, fun k hk _ => hb.block k hk⟩
  rcases h with ⟨hB, v, hbk, hown, hne⟩ | ⟨hB, v, hbk, hown, hne⟩
  · exact .inl ⟨hB, v, (hb.block _ (lt_of_block hbk)).trans hbk, hown.kept hg (by cases v.ownBlock <;> simp), hne⟩
  · exact .inr ⟨hB, v, (hb.block _ (lt_of_block hbk)).trans hbk, hown.kept hg (by cases v.ownBlock <;> simp), hne⟩
theorem n_of (n : Int) : ((nOf n : Nat) : Int) = min (max n 0) 64 := by unfold nOf; omega
set_option maxHeartbeats 1000000 in
set_option maxRecDepth 20000 in
theorem bytes_any (x : OpM) (w : World) : Calls Try.prog 20 #[opV x] w fun e w' => e = .returned (.string (bs (bytesM x))) ∧ Below w.heap.size w w' := by
  unfold opV opCells bytesM
  by_cases h0 : x.kind ≠ 0
  · have h0' : (x.kind != 0) = true := by simpa using h0
    rw [if_pos h0]
    go_enter Try.func20, Try.ntmps20
    go_wp2_with fail
    go_ret
    exact ⟨rfl, (Below.refl _ _).alloc (Nat.le_refl _) _⟩
  · have h0' : (x.kind != 0) = false := by simpa using h0
    rw [if_neg h0]
    obtain ⟨n, hn⟩ : ∃ n, n = nOf x.n := ⟨_, rfl⟩
    have hn2 := (n_of x.n).symm
    rw [← hn] at hn2 ⊢
    have hn64 : n ≤ 64 := by omega
    clear hn h0
    go_enter Try.func20, Try.ntmps20
    go_wp2_with fail
    have hb0 := fresh_bld (w.alloc (.cells (opCells x).toArray 34))
    have hz0 : (w.alloc (.cells (opCells x).toArray 34)).heap.size = w.heap.size + 1 := by simp
    have hB0 := (Below.refl w.heap.size w).alloc (Nat.le_refl _) (.cells (opCells x).toArray 34)
    have hx0 := heap_alloc_new w (.cells (opCells x).toArray 34)
    unfold opCells at hb0 hz0 hB0 hx0
    obtain ⟨w0, hw0⟩ : ∃ w0, w0 = w.alloc (.cells #[.int .i64 x.kind, .int .i64 x.file, .int .i64 x.at_, .int .i64 x.n, .int .u8 (x.c.toNat : Int), .string (bs x.s), .slice x.ka x.keep.length x.kcap] 34) := ⟨_, rfl⟩
    rw [← hw0] at hb0 hz0 hB0 hx0 ⊢
    rw [← hz0] at ⊢
    have HB0 := hid hB0
    have HX0 := hid hx0
    have Hz := hid hz0
    have Hw1 := hid hb0
    clear hb0 hB0 hx0 hw0 hz0
    go_loopw [14] (fun v14 wr => ∃ i : Nat, v14 = .int .i64 (i : Int) ∧ i ≤ n ∧ BldF w0.heap.size w0.heap.size (bytesN x.c i) wr ∧ Below w0.heap.size w0 wr) (fun v14 _ => n - (intOf v14).toNat)
    case atStart => exact ⟨0, rfl, Nat.zero_le _, Hw1.out, (Below.refl _ _).alloc (Nat.le_refl _) _⟩
    case round =>
      obtain ⟨i, rfl, hin, hbld, hbel⟩ := hrel
      have Hbld := hid hbld
      have Hbel := hid hbel
      have hc4 : wr.cell? ⟨w.heap.size, 4, none⟩ = some (.int .u8 (x.c.toNat : Int)) := (cell_of_block ((hbel.block _ (lt_of_block HX0.out)).trans HX0.out) 4).trans rfl
      clear hbld hbel
      by_cases hlt : i < n
      · have hlt' : decide ((i : Int) < (n : Int)) = true := by simp; omega
        have hu1 : IntKind.u8.wrap (i : Int) = (i : Int) := IntWalk.u8_in _ (by omega)
        have hu2 : ((x.c.toNat : Int) + (i : Int)) % 256 = ((x.c + UInt8.ofNat i).toNat : Int) := by rw [UInt8.toNat_add, UInt8.toNat_ofNat']; omega
        have S := hid (sector_any (x.c + UInt8.ofNat i))
        obtain ⟨cc, hcc⟩ : ∃ cc, cc = x.c + UInt8.ofNat i := ⟨_, rfl⟩
        rw [← hcc] at hu2 S
        have Hcc := hid hcc
        clear hcc
        go_wp2_with (first | (go_at_call 23; refine (S.out _).mono ?_; rintro e w1 ⟨rfl, hb1⟩; have hbld1 := bld_kept Hbld.out hb1; have Hb1 := hid hb1) | (go_at_call 43; refine (writeString_any _ _ _ _ _ hbld1 (by rw [bytesN_length]; simp [sectorM]; omega) (Nat.le_trans Hbel.out.size Hb1.out.size)).mono ?_; rintro e w2 ⟨rfl, hbld2, hf2⟩; have Hf2 := hid hf2; have Hbld2 := hid hbld2; clear hf2 hbld2 hbld1) | go_in)
        go_roundw
        case rel =>
          exact ⟨i + 1, by simp, by omega, by rw [bytesN, ← Hcc.out]; exact Hbld2.out, (Hbel.out.trans (Hb1.out.mono Hbel.out.size)).trans (ws_below Hf2.out (Nat.le_trans Hbel.out.size Hb1.out.size))⟩
        case measure => simp [intOf]; omega
      · obtain rfl : i = n := by omega
        have hlt' : decide ((i : Int) < (i : Int)) = false := by simp
        have T := hid (string_any _ _ _ _ Hbld.out Hbel.out.size)
        go_wp2_with (first | (go_at_call 44; refine (T.out).mono ?_; rintro e w1 ⟨rfl, hb1⟩) | go_in)
        go_ret
        exact ⟨rfl, HB0.out.trans (((Hbel.out).trans hb1).mono HB0.out.size)⟩
end Go.Proofs.Ytifgnhbbcpmaiaa
