/- Plain laws: an append and a checkpoint on a disk that may fail; what is found behind a crash. -/
import Derived.Test.YtlkkclooihjpiaaGreatSqB
import Derived.Test.YtlkkclooihjpiaaGreatNdF
import Derived.Test.YtlkkclooihjpiaaGreatPlain
import Derived.StillTailTactics
import Derived.Test.YtlkkclooihjpiaaGreatSpE
import Derived.Test.YtlkkclooihjpiaaGreatSpH
import Derived.ChangeKeysEq
set_option linter.unusedVariables false
set_option linter.unusedSimpArgs false
namespace Go.Proofs.YtlkkclooihjpiaaGreat
open Go.RowKit Go.Maps
set_option maxRecDepth 20000
section
variable {g g' : Lg} {d d' : Dsk} {c : Cand} {L L' M : List (List UInt8)} {S S' : List (List UInt8) → Prop} {k a n : Nat} {s : List UInt8}
theorem LgInv.frames (h : LgInv g d L (fun _ => False)) {m : Nat} (ha : 1 + 9 * g.list.length ≤ a) : LgInv g (wrN (meetsM d).2 1 a s m) L (fun _ => False) := by
 refine ⟨fun x hx hf => ?_, h.ok.write1 (.inl ha), h.st.write1, h.pair, fun s hs => ?_⟩
 ·rcases wrN_mem hx with hx | ⟨i, hi, rfl⟩
  ·exact h.cut1 x hx hf
  ·rfl
 ·rcases may_wr hs with hs | ⟨-, h1, h2, -⟩
  ·rcases h.head s ((alike_meets d).may hs) with e | ⟨t, c, e, h1, L', h2, h3⟩
   ·exact .inl e
   ·exact h3.elim
  ·omega
structure News (g : Lg) (L M : List (List UInt8)) (pages : Int) (x : List Img) : Prop where
 npg : pages = (M.length : Int)
 len : ∀ s ∈ M, s.length = 512
 page : ∀ n : Nat, 1 ≤ n → n ≤ M.length → match lastAt (frsOf pages x) n (frsOf pages x).length with
  | some s => s = M.getD (n - 1) []
  | none => (n : Int) ≤ g.head.pages ∧ M.getD (n - 1) [] = L.getD (n - 1) []
end
end Go.Proofs.YtlkkclooihjpiaaGreat
/- Plain laws: a checkpoint on a disk that may fail; what is opened behind a crash; what is read. -/
namespace Go.Proofs.YtlkkclooihjpiaaGreat
open Go.RowKit Go.Maps
set_option maxRecDepth 20000
section
variable {g g' : Lg} {d d' : Dsk} {c : Cand} {L L' M : List (List UInt8)} {S S' : List (List UInt8) → Prop} {k a n m : Nat} {s : List UInt8}
theorem pg_write (hm : 1 ≤ m) (hn : 1 ≤ n) (hs : s.length = 512) : pg ((wrN (meetsM d).2 0 (8 * (m - 1)) s 8).now 0) n = if n = m then s else pg (d.now 0) n := by
 unfold pg
 by_cases e : n = m
 ·subst e
  rw [if_pos rfl]
  refine Eq.trans (congrArg List.flatten (List.map_congr_left (g := secOf s) fun i hi => ?_)) ?_
  ·have hi8 := List.mem_range.1 hi
   rw [wr_getD, if_pos (by omega)]
   congr 1
   omega
  ·rw [flat_secs, List.take_of_length_le (by omega)]
 ·rw [if_neg e]
  refine congrArg List.flatten (List.map_congr_left fun i hi => ?_)
  have hi8 := List.mem_range.1 hi
  rw [wr_getD, if_neg (by omega)]
  rfl
theorem len_write : ((wrN (meetsM d).2 0 (8 * (m - 1)) s 8).now 0).length = max (d.now 0).length (8 * (m - 1) + 8) := by
 rw [wr_len, if_neg (by decide)]
 rfl
theorem MainOk.page (h : MainOk d n) (hm : 1 ≤ m) (hn : 1 ≤ n) (hne : n ≠ m) : MainOk (wrN (meetsM d).2 0 (8 * (m - 1)) s 8) n := by
 refine ⟨by rw [wrN_sure]; exact h.sure, ?_, fun x hx hf hc => ?_, fun j hj s' hs => ?_⟩
 ·rw [len_write]
  have := h.now
  omega
 ·rcases wrN_mem hx with hx | ⟨i, hi, rfl⟩
  ·exact h.cut x hx hf hc
  ·cases hc
 ·rw [wr_getD, if_neg (by omega)]
  rcases may_wr hs with hs | ⟨-, h1, h2, -⟩
  ·exact h.one j hj s' ((alike_meets d).may hs)
  ·omega
theorem CandOk.page (h : CandOk d c) (hb : c.has = true) (hm : 1 ≤ m) (hl : lastAt c.list m c.list.length ≠ none) : CandOk (wrN (meetsM d).2 0 (8 * (m - 1)) s 8) c := by
 have e1 : (wrN (meetsM d).2 0 (8 * (m - 1)) s 8).now 1 = d.now 1 := wrN_now _ s (by decide) _ 8
 refine ⟨h.may, h.wf, h.frames, h.ok, h.last, fun j hj s' hs => ?_, ?_, fun e => (by rw [hb] at e; cases e), fun n n1 n2 e => (h.main n n1 n2 e).page hm n1 (fun e2 => hl (by rw [← e2]; exact e))⟩
 ·rcases may_wr hs with hs | ⟨e, -⟩
  ·exact h.text j hj s' ((alike_meets d).may hs)
  ·cases e
 ·rw [wrN_sure, e1]
  exact h.len
theorem CandSt.page' (h : CandSt d c L) (hm : 1 ≤ m) (hs : s.length = 512) (hl : lastAt c.list m c.list.length ≠ none) : CandSt (wrN (meetsM d).2 0 (8 * (m - 1)) s 8) c L := by
 refine ⟨h.pages, fun n n1 n2 => ?_, h.len⟩
 rw [← h.page n n1 n2]
 have hpg : n ≠ m → pg ((wrN (meetsM d).2 0 (8 * (m - 1)) s 8).now 0) n = pg (d.now 0) n := fun hne => by
  rw [pg_write hm n1 hs, if_neg hne]
 obtain ⟨d2, hd2⟩ : ∃ d2, d2 = wrN (meetsM d).2 0 (8 * (m - 1)) s 8 := ⟨_, rfl⟩
 rw [← hd2] at hpg ⊢
 unfold cpage
 by_cases e : n = m
 ·obtain ⟨t, ht⟩ := Option.ne_none_iff_exists'.1 hl
  rw [e, ht]
  rfl
 ·rw [hpg e]
theorem LgInv.page (h : LgInv g d L (fun _ => False)) (hb : g.has = true) (hm : 1 ≤ m) (hs : s.length = 512) (hl : lastAt g.list m g.list.length ≠ none) : LgInv g (wrN (meetsM d).2 0 (8 * (m - 1)) s 8) L (fun _ => False) := by
 refine ⟨fun x hx hf => ?_, h.ok.page hb hm hl, h.st.page' hm hs hl, h.pair, fun s' hs' => ?_⟩
 ·rcases wrN_mem hx with hx | ⟨i, hi, rfl⟩
  ·exact h.cut1 x hx hf
  ·rfl
 ·rcases may_wr hs' with hs' | ⟨e, -⟩
  ·rcases h.head s' ((alike_meets d).may hs') with e | ⟨t, c, e, h1, L', h2, h3⟩
   ·exact .inl e
   ·exact h3.elim
  ·cases e
structure Wrote (g : Lg) (d : Dsk) (P : Nat) : Prop where
 page : ∀ n s, 1 ≤ n → n ≤ P → lastAt g.list (n : Int) g.list.length = some s → pg (d.now 0) n = s ∧ 8 * n ≤ (d.now 0).length
theorem Kin.off {g1 : Lg} (h : Kin g g1) (b : Bool) : Kin g { g1 with off := b } := ⟨h.head, h.has, h.list, h.pair⟩
end
end Go.Proofs.YtlkkclooihjpiaaGreat
/- Plain laws: what is opened behind a crash; what is read; what a commit comes to. -/
namespace Go.Proofs.YtlkkclooihjpiaaGreat
open Go.RowKit Go.Maps
set_option maxRecDepth 20000
section
variable {g g' : Lg} {d d' : Dsk} {c : Cand} {L L' M : List (List UInt8)} {S S' : List (List UInt8) → Prop} {k a n m : Nat} {s : List UInt8}
theorem LgInv.pages (h : LgInv g d L S) : g.head.pages = (L.length : Int) ∧ L.length ≤ 256 := by
 have h1 : g.head.pages = (L.length : Int) := h.st.pages
 have h2 : 0 ≤ g.head.pages ∧ g.head.pages ≤ 256 := (hdMay_bd h.ok.may).2
 exact ⟨h1, by omega⟩
end
end Go.Proofs.YtlkkclooihjpiaaGreat
/- Plain laws: on a calm disk no step of the log's fails, also behind a crash. -/
namespace Go.Proofs.YtlkkclooihjpiaaGreat
open Go.RowKit Go.Maps
set_option maxRecDepth 20000
section
variable {g : Lg} {d : Dsk} {n : Nat} {S : List (List UInt8) → Prop} {L M : List (List UInt8)}
end
end Go.Proofs.YtlkkclooihjpiaaGreat
/- Plain laws of space: the pages that are free, in a transaction, behind a commit and a crash. -/
namespace Go.Proofs.YtlkkclooihjpiaaGreat
open Go.RowKit Go.Maps
set_option maxRecDepth 20000
structure Sure (g : Lg) (d : Dsk) (L : List (List UInt8)) : Prop where
 inv : LgInv g d L (fun _ => False)
 calm : Calm d
 on : g.off = false
section
variable {g g' : Lg} {d d' : Dsk} {p : Pg} {t : Tr} {L M : List (List UInt8)} {h h' : Hdr} {F r : List Nat} {x n : Nat}
end
def Chain (M : List (List UInt8)) : List Nat → Prop
 | [] => True
 | x :: r => M.getD (x - 2) [] = freePg ((r.headD 0 : Nat) : Int) ∧ Chain M r
structure Spc (h : Hdr) (M : List (List UInt8)) (F : List Nat) : Prop where
 hd : HdOk h
 len : ∀ s ∈ M, s.length = 512
 few : M.length ≤ 255
 free : h.free = ((F.headD 0 : Nat) : Int)
 count : h.count = (F.length : Int)
 chain : Chain M F
 nodup : F.Nodup
 range : ∀ x ∈ F, 2 ≤ x ∧ x ≤ M.length + 1
section
variable {g g' : Lg} {d d' : Dsk} {p : Pg} {t : Tr} {L M : List (List UInt8)} {h h' : Hdr} {F r : List Nat} {x n : Nat}
end
end Go.Proofs.YtlkkclooihjpiaaGreat
namespace Go.Proofs.YtlkkclooihjpiaaGreat
open Go.RowKit
set_option maxRecDepth 20000
def fixedL (n : Int) : Nat → List UInt8
 | 0 => []
 | k + 1 => byt (n / 256 ^ k % 256) :: fixedL n k
attribute [irreducible] fixedL
def wordTo (l : List UInt8) (p k : Nat) : Int := num (((l.drop p).take k) ++ List.replicate (k - ((l.drop p).take k).length) 0)
attribute [irreducible] wordTo
end Go.Proofs.YtlkkclooihjpiaaGreat
namespace Go.Proofs.YtlkkclooihjpiaaGreat
open Go.RowKit Go.Maps
set_option maxRecDepth 20000
def rfour (n : Int) : List UInt8 := fixedL (IntKind.u64.wrap n) 4
attribute [irreducible] rfour
end Go.Proofs.YtlkkclooihjpiaaGreat
namespace Go.Proofs.YtlkkclooihjpiaaGreat
open Go.RowKit Go.Maps
set_option maxRecDepth 20000
structure RkSt (w W : World) (s : List UInt8) (i : Nat) : Prop where
 res : W.heap[w.heap.size]? = some (.cells #[.int .i64 0, .int .i64 0, .int .u64 0, .int .i64 0, .int .i64 0, .int .i64 0, .int .i64 0, .int .i64 0, .int .i64 0, .int .i64 0, .int .i64 0] 38 (0, 0))
 bel : Below w.heap.size w W
 row : W.heap[w.heap.size + 1]? = some (.cells (hdrCells ⟨at4 s 8, at4 s 12, num ((s.drop 16).take 8), rootsTo s i⟩).toArray 38 (0, 0))
end Go.Proofs.YtlkkclooihjpiaaGreat
namespace Go.Proofs.YtlkkclooihjpiaaGreat
open Go.RowKit Go.Maps
set_option maxRecDepth 20000
theorem info_int : (Tryz.prog.info? 3).isSome = true := by kernel_rfl
theorem arr_same (w : World) (a0 a1 a2 a3 a4 a5 a6 a7 : Int) : (Op.equalIn 9999 36 (.agg #[.int .i64 a0, .int .i64 a1, .int .i64 a2, .int .i64 a3, .int .i64 a4, .int .i64 a5, .int .i64 a6, .int .i64 a7]) (.agg #[.int .i64 a0, .int .i64 a1, .int .i64 a2, .int .i64 a3, .int .i64 a4, .int .i64 a5, .int .i64 a6, .int .i64 a7])).run Tryz.prog w = .ok true w := by
 obtain ⟨i, hi⟩ := Option.isSome_iff_exists.1 info_int
 rw [run_equalIn_array w 9998 (n := 8) _ _ Tryz.underlying36 hi]
 have hc : Tryz.prog.cellsOf 3 = 1 := by kernel_rfl
 have q0 : ∀ a, (Op.equalIn 9998 3 (.int .i64 a) (.int .i64 a)).run Tryz.prog w = .ok true w := fun a => by
  rw [run_equalIn_int w 9997 _ _ _ _ _ Tryz.underlying3]
  simp
 have p0 : (part 3 #[.int .i64 a0, .int .i64 a1, .int .i64 a2, .int .i64 a3, .int .i64 a4, .int .i64 a5, .int .i64 a6, .int .i64 a7] 0).run Tryz.prog w = .ok (.int .i64 a0) w := by kernel_rfl
 have p1 : (part 3 #[.int .i64 a0, .int .i64 a1, .int .i64 a2, .int .i64 a3, .int .i64 a4, .int .i64 a5, .int .i64 a6, .int .i64 a7] 1).run Tryz.prog w = .ok (.int .i64 a1) w := by kernel_rfl
 have p2 : (part 3 #[.int .i64 a0, .int .i64 a1, .int .i64 a2, .int .i64 a3, .int .i64 a4, .int .i64 a5, .int .i64 a6, .int .i64 a7] 2).run Tryz.prog w = .ok (.int .i64 a2) w := by kernel_rfl
 have p3 : (part 3 #[.int .i64 a0, .int .i64 a1, .int .i64 a2, .int .i64 a3, .int .i64 a4, .int .i64 a5, .int .i64 a6, .int .i64 a7] 3).run Tryz.prog w = .ok (.int .i64 a3) w := by kernel_rfl
 have p4 : (part 3 #[.int .i64 a0, .int .i64 a1, .int .i64 a2, .int .i64 a3, .int .i64 a4, .int .i64 a5, .int .i64 a6, .int .i64 a7] 4).run Tryz.prog w = .ok (.int .i64 a4) w := by kernel_rfl
 have p5 : (part 3 #[.int .i64 a0, .int .i64 a1, .int .i64 a2, .int .i64 a3, .int .i64 a4, .int .i64 a5, .int .i64 a6, .int .i64 a7] 5).run Tryz.prog w = .ok (.int .i64 a5) w := by kernel_rfl
 have p6 : (part 3 #[.int .i64 a0, .int .i64 a1, .int .i64 a2, .int .i64 a3, .int .i64 a4, .int .i64 a5, .int .i64 a6, .int .i64 a7] 6).run Tryz.prog w = .ok (.int .i64 a6) w := by kernel_rfl
 have p7 : (part 3 #[.int .i64 a0, .int .i64 a1, .int .i64 a2, .int .i64 a3, .int .i64 a4, .int .i64 a5, .int .i64 a6, .int .i64 a7] 7).run Tryz.prog w = .ok (.int .i64 a7) w := by kernel_rfl
 rw [hc, show List.range 8 = [0, 1, 2, 3, 4, 5, 6, 7] from rfl]
 simp only [Op.eqItems, Sem.run_bind, Nat.mul_one, p0, p1, p2, p3, p4, p5, p6, p7, q0, Result.andThen_ok, Bool.not_true, Bool.false_eq_true, if_false, Sem.run_pure]
end Go.Proofs.YtlkkclooihjpiaaGreat
namespace Go.Proofs.YtlkkclooihjpiaaGreat
open Go.RowKit Go.Maps
set_option maxRecDepth 20000
section
variable {w W W' : World} {pb l b : Nat} {p p' : Pg} {g g' : Lg} {d d' : Dsk} {X X' : Nat → Prop}
def sW1 : Pg := (spBeginM p0 exG0 newM).2
def sW2 : Pg := (alloc0M sW1 exG0 newM).2.2
def sW3 : Pg := (alloc0M sW2 exG0 newM).2.2
def sW4 : Pg := (freeM sW3 exG0 newM 2).2
def sWC : Int × Pg × Lg × Dsk := spCommitM sW4 exG0 newM
theorem sk_begin : (spBeginM p0 exG0 newM).1 = 0 := by decide +kernel
theorem sk_z1 : (readySM sW1 exG0 newM).1.free = 0 := by decide +kernel
theorem sk_a1 : (alloc0M sW1 exG0 newM).1 = 2 := by decide +kernel
theorem sk_e1 : (alloc0M sW1 exG0 newM).2.1 = 0 := by decide +kernel
theorem sk_z2 : (readySM sW2 exG0 newM).1.free = 0 := by decide +kernel
theorem sk_a2 : (alloc0M sW2 exG0 newM).1 = 3 := by decide +kernel
theorem sk_e2 : (alloc0M sW2 exG0 newM).2.1 = 0 := by decide +kernel
theorem sk_free : (freeM sW3 exG0 newM 2).1 = 0 := by decide +kernel
theorem sk_commit : sWC.1 = 0 := by decide +kernel
theorem sk_e : (readHM sWC.2.1 sWC.2.2.1 sWC.2.2.2).2 = 0 := by decide +kernel
theorem sk_f : (readHM sWC.2.1 sWC.2.2.1 sWC.2.2.2).1.free = 2 := by decide +kernel
theorem sk_c : (readHM sWC.2.1 sWC.2.2.1 sWC.2.2.2).1.count = 1 := by decide +kernel
theorem sk_k : (readHM sWC.2.1 sWC.2.2.1 sWC.2.2.2).1.commits = 1 := by decide +kernel
theorem sk_r : (readHM sWC.2.1 sWC.2.2.1 sWC.2.2.2).1.roots = [0, 0, 0, 0, 0, 0, 0, 0] := by decide +kernel
theorem sk_h : (readHM sWC.2.1 sWC.2.2.1 sWC.2.2.2).1 = ⟨2, 1, 1, [0, 0, 0, 0, 0, 0, 0, 0]⟩ := hdr_ext sk_f sk_c sk_k sk_r
attribute [local irreducible] sW1 sW2 sW3 sW4 sWC exG0
theorem sw_begin (h : PgX w W pb l b p0 exG0 newM X) : Calls Tryz.prog 11 #[.pointer (some ⟨pb, 0, none⟩)] W fun e w' => e = .returned (.int .i64 0) ∧ PgX w w' pb l b sW1 exG0 newM X := by
 have A := sbegin_any h
 rw [sk_begin] at A
 unfold sW1
 exact A.mono fun e w' hh => ⟨hh.1, hh.2.1⟩
theorem sw_alloc1 (h : PgX w W pb l b sW1 exG0 newM X) : Calls Tryz.prog 12 #[.pointer (some ⟨pb, 0, none⟩)] W fun e w' => e = .returned (.tuple #[.int .i64 2, .int .i64 0]) ∧ PgX w w' pb l b sW2 exG0 newM X := by
 have A := alloc0_any h sk_z1
 rw [sk_a1, sk_e1] at A
 unfold sW2
 exact A.mono fun e w' hh => ⟨hh.1, hh.2.1⟩
theorem sw_alloc2 (h : PgX w W pb l b sW2 exG0 newM X) : Calls Tryz.prog 12 #[.pointer (some ⟨pb, 0, none⟩)] W fun e w' => e = .returned (.tuple #[.int .i64 3, .int .i64 0]) ∧ PgX w w' pb l b sW3 exG0 newM X := by
 have A := alloc0_any h sk_z2
 rw [sk_a2, sk_e2] at A
 unfold sW3
 exact A.mono fun e w' hh => ⟨hh.1, hh.2.1⟩
theorem sw_free (h : PgX w W pb l b sW3 exG0 newM X) : Calls Tryz.prog 13 #[.pointer (some ⟨pb, 0, none⟩), .int .i64 2] W fun e w' => e = .returned (.int .i64 0) ∧ PgX w w' pb l b sW4 exG0 newM X := by
 have A := sfree_any h 2 (by unfold in64; decide)
 rw [sk_free] at A
 unfold sW4
 exact A.mono fun e w' hh => ⟨hh.1, hh.2.1⟩
theorem sw_commit (h : PgX w W pb l b sW4 exG0 newM X) : Calls Tryz.prog 22 #[.pointer (some ⟨pb, 0, none⟩)] W fun e w' => e = .returned (.int .i64 0) ∧ PgX w w' pb l b sWC.2.1 sWC.2.2.1 sWC.2.2.2 X := by
 have A := scommit_any h 100 new_small (by decide)
 have e := sk_commit
 unfold sWC at e ⊢
 rw [e] at A
 exact A.mono fun e w' hh => ⟨hh.1, hh.2.1⟩
theorem sw_read (h : PgX w W pb l b sWC.2.1 sWC.2.2.1 sWC.2.2.2 X) : Calls Tryz.prog 10 #[.pointer (some ⟨pb, 0, none⟩)] W fun e w' => e = .returned (.tuple #[hdrV ⟨2, 1, 1, [0, 0, 0, 0, 0, 0, 0, 0]⟩, .int .i64 0]) ∧ PgX w w' pb l b sWC.2.1 sWC.2.2.1 sWC.2.2.2 X := by
 have A := sread_any h
 rw [sk_h, sk_e] at A
 exact A.mono fun e w' hh => ⟨hh.1, h.below hh.2⟩
set_option maxHeartbeats 4000000 in
set_option maxRecDepth 20000 in
theorem sworks_any (w : World) : Calls Tryz.prog 5 #[] w fun e w' => e = .returned (.bool true) ∧ Below w.heap.size w w' := by
 have RD := fun (W1 : World) (pb l b : Nat) (X : Nat → Prop) (h : PgX w W1 pb l b sWC.2.1 sWC.2.2.1 sWC.2.2.2 X) => sw_read h
 unfold hdrV hdrCells at RD
 simp only [List.map_cons, List.map_nil] at RD
 replace RD := hid RD
 have as0 := fun (W1 : World) => arr_same W1 0 0 0 0 0 0 0 0
 go_enter Tryz.func5, Tryz.ntmps5
 go_upto_region 6 with (first
  | (go_at_call 6; refine (mk_new _).mono ?_; rintro e w1 ⟨b, rfl, hd1⟩; have Hd1 := hid hd1; clear hd1)
  | (go_at_call 8; refine (px_fresh Hd1.out).mono ?_; rintro e w2 ⟨pb, l, rfl, hm2⟩; have Hm2 := hid hm2; clear hm2 Hd1)
  | (go_at_call 11; refine (sw_begin Hm2.out).mono ?_; rintro e w3 ⟨rfl, hm3⟩; have Hm3 := hid hm3; clear hm3 Hm2)
  | (go_at_call 12; refine (sw_alloc1 Hm3.out).mono ?_; rintro e w4 ⟨rfl, hm4⟩; have Hm4 := hid hm4; clear hm4 Hm3)
  | (go_at_call 12; refine (sw_alloc2 Hm4.out).mono ?_; rintro e w5 ⟨rfl, hm5⟩; have Hm5 := hid hm5; clear hm5 Hm4)
  | go_in)
 go_wp2_with (first
  | (go_at_call 13; refine (sw_free Hm5.out).mono ?_; rintro e w6 ⟨rfl, hm6⟩; have Hm6 := hid hm6; clear hm6 Hm5)
  | (go_at_call 22; refine (sw_commit Hm6.out).mono ?_; rintro e w7 ⟨rfl, hm7⟩; have Hm7 := hid hm7; clear hm7 Hm6)
  | (go_at_call 10; refine (RD.out _ _ _ _ _ Hm7.out).mono ?_; rintro e w8 ⟨rfl, hm8⟩; have Hm8 := hid hm8; clear hm8 Hm7)
  | go_in)
 go_ret
 exact ⟨rfl, Hm8.out.bel.alloc Hm8.out.bel.size _⟩
end
end Go.Proofs.YtlkkclooihjpiaaGreat
