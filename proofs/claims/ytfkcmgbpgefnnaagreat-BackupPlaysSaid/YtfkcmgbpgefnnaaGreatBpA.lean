import Derived.Test.YtfkcmgbpgefnnaaGreatPcA
import Derived.Test.YtfkcmgbpgefnnaaGreatLift
import Derived.Test.YtfkcmgbpgefnnaaGreatBkQ
import Derived.Test.YtfkcmgbpgefnnaaGreatRgA
import Derived.Test.YtfkcmgbpgefnnaaGreatRgI
import Derived.Test.YtfkcmgbpgefnnaaGreatRgJ
set_option linter.unusedVariables false
set_option linter.unusedSimpArgs false
namespace Go.Proofs.YtfkcmgbpgefnnaaGreat
open Go.RowKit Go.Maps
set_option maxRecDepth 20000
structure AOp where
 kind : Int
 n : Int
 pages : Int
 x : UInt8
 keep : List Bool
 ka : Option Addr
 kcap : Nat
def aopCells (x : AOp) : List Value := [.int .i64 x.kind, .int .i64 x.n, .int .i64 x.pages, .int .u8 (x.x.toNat : Int), .slice x.ka x.keep.length x.kcap]
def ActsAt (w : World) (B : Nat) (v : Value) (l : List AOp) : Prop :=
 ∃ ao cap, v = .slice ao l.length cap ∧ ∀ k (hk : k < l.length), ∃ q o, ao = some ⟨q, o, none⟩ ∧ q < B ∧ q < w.heap.size ∧ ∀ j u, (aopCells l[k])[j]? = some u → w.cell? ⟨q, o + k * 5 + j, none⟩ = some u
theorem ActsAt.keep {w w' : World} {B : Nat} {v : Value} {l : List AOp} (h : ActsAt w B v l) (hb : Below B w w') : ActsAt w' B v l := by
 obtain ⟨ao, cap, rfl, hc⟩ := h
 refine ⟨ao, cap, rfl, fun k hk => ?_⟩
 obtain ⟨q, o, rfl, hq, hs, hcell⟩ := hc k hk
 exact ⟨q, o, rfl, hq, Nat.lt_of_lt_of_le hs hb.size, fun j u hj => (World.cell?_of_block (a := ⟨q, o + k * 5 + j, none⟩) (hb.block q hq)).trans (hcell j u hj)⟩
theorem tmod9 (n : Int) : -8 ≤ n.tmod 9 ∧ n.tmod 9 ≤ 8 := by
 rcases Int.le_total 0 n with h | h
 ·rw [Int.tmod_eq_emod_of_nonneg h]; omega
 ·have e : n = -(-n) := by omega
  rw [e, Int.neg_tmod, Int.tmod_eq_emod_of_nonneg (by omega)]; omega
theorem around_any (n : Int) (hn : in64 n) (w : World) : Calls Tryz.prog 13 #[.int .i64 n, .int .i64 9] w fun e w' => ∃ r : Nat, e = .returned (.int .i64 (r : Int)) ∧ r < 9 ∧ w' = w := by
 have h1 := tmod9 n
 obtain ⟨t, ht⟩ : ∃ t, t = n.tmod 9 := ⟨_, rfl⟩
 rw [← ht] at h1
 have ht' := ht.symm
 have hw1 : IntKind.i64.wrap t = t := IntWalk.i64_in _ (by omega)
 have hw2 : IntKind.i64.wrap (t + 9) = t + 9 := IntWalk.i64_in _ (by omega)
 have h2 : (t + 9).tmod 9 = (t + 9) % 9 := Int.tmod_eq_emod_of_nonneg (by omega)
 obtain ⟨r, hr⟩ : ∃ r : Nat, (t + 9) % 9 = (r : Int) := ⟨((t + 9) % 9).toNat, by omega⟩
 have hr9 : r < 9 := by omega
 rw [hr] at h2
 have hw3 : IntKind.i64.wrap (r : Int) = (r : Int) := IntWalk.i64_in _ (by omega)
 clear hr ht
 go_enter Tryz.func13, Tryz.ntmps13
 go_wp2_with fail
 go_ret
 exact ⟨r, rfl, hr9, rfl⟩
end Go.Proofs.YtfkcmgbpgefnnaaGreat
namespace Go.Proofs.YtfkcmgbpgefnnaaGreat
open Go.ChangeShapes Go.WideShapes Go.ChangeAt Go.RowKit Go.Deep
set_option maxRecDepth 20000
set_option maxRecDepth 20000
instance : Inhabited AOp := ⟨⟨0, 0, 0, 0, [], none, 0⟩⟩
def IntsAt (w : World) (B : Nat) (v : Value) (l : List Int) : Prop :=
 ∃ ao cap, v = .slice ao l.length cap ∧ ∀ k (hk : k < l.length), ∃ q o, ao = some ⟨q, o, none⟩ ∧ q < B ∧ q < w.heap.size ∧ w.cell? ⟨q, o + k, none⟩ = some (.int .i64 l[k])
structure IntsIn (w : World) (v : Value) (l : List Int) : Prop where
 at' : IntsAt w w.heap.size v l
 len : l.length ≤ 9223372036854775807
 wf : ∀ n ∈ l, in64 n
structure ActsIn (w : World) (v : Value) (l : List AOp) : Prop where
 at' : ActsAt w w.heap.size v l
 len : l.length ≤ 9223372036854775807
 n64 : ∀ x ∈ l, in64 x.n
 p64 : ∀ x ∈ l, in64 x.pages
theorem lt_of_cell {w : World} {a : Addr} {v : Value} (h : w.cell? a = some v) : a.block < w.heap.size := by
 rcases Nat.lt_or_ge a.block w.heap.size with h1 | h1
 ·exact h1
 ·unfold World.cell? at h
  rw [Array.getElem?_eq_none h1] at h
  simp at h
section
variable {H : Type} {enc : TypeId × Value → H} {w : World} {base : Nat} {sp : Nat → Bool} {held : Bool}
end
end Go.Proofs.YtfkcmgbpgefnnaaGreat
namespace Go.Proofs.YtfkcmgbpgefnnaaGreat
open Go.RowKit Go.Maps
set_option maxRecDepth 20000
section
variable {d d' : Dsk} {g : Lg} {ds : Dsk} {B : Bk} {p : Pg}
theorem spcommit_small {N : Nat} (hg : g.head.pages ≤ 256) (h : d.Small N) (p : Pg) : (spCommitM p g d).2.2.2.Small (N + 8519680) := by
 unfold spCommitM
 split
 ·exact h.mono (by omega)
 split
 ·exact h.mono (by omega)
 ·exact commit_small N hg h _
theorem turn_small {N : Nat} (hg : g.head.pages ≤ 256) (h : d.Small N) (p : Pg) (pages n : Int) (c : UInt8) : (turnM p g d pages n c).2.2.2.Small (N + 8519680) := by
 unfold turnM
 split
 ·exact h.mono (by omega)
 ·exact spcommit_small hg h _
end
theorem bseq_small2 : ∀ (ms : List (Dsk → Int × Dsk)) (d : Dsk) (N : Nat), (∀ m ∈ ms, ∀ d N, d.Small N → (m d).2.Small (N + 32768)) → d.Small N → (bseqM ms d).2.Small (N + 32768 * ms.length)
 | [], d, N, _, h => h.mono (by omega)
 | m :: r, d, N, hm, h => by
  have h1 := hm m (by simp) d N h
  show (if _ then _ else _ : Int × Dsk).2.Small _
  split
  ·exact h1.mono (by simp; omega)
  ·exact (bseq_small2 r _ _ (fun m hm1 => hm m (by simp [hm1])) h1).mono (by simp; omega)
theorem bstart_small {d ds : Dsk} {p : Pg} {g : Lg} {N : Nat} (h : d.Small N) : (bstartM p g ds d).2.2.Small (N + 131072) := by
 have hs : (bseqM bstepsM d).2.Small (N + 32768 * 4) := by
  refine bseq_small2 bstepsM d N ?_ h
  intro m hm d N hd
  unfold bstepsM at hm
  simp only [List.mem_cons, List.not_mem_nil, or_false] at hm
  rcases hm with rfl | rfl | rfl | rfl
  ·exact (write_small hd).mono (by omega)
  ·exact bcut_small hd
  ·exact (sync_small hd).mono (by omega)
  ·exact emptyLog_small hd
 unfold bstartM
 split
 ·exact h.mono (by omega)
 split
 ·exact h.mono (by omega)
 split
 ·exact h.mono (by omega)
 split
 ·exact h.mono (by omega)
 split
 ·exact hs.mono (by omega)
 ·exact hs.mono (by omega)
theorem st_db {g : Lg} {ds : Dsk} {L : List (List UInt8)} (hD : Db g ds L) : stOk p0 g ds ∧ stL p0 g ds = L := by
 have hP := db_pages (p := p0) hD rfl
 have hrd := read_db hD
 refine ⟨fun k hk => ?_, ?_⟩
 ·rw [hP] at hk
  have := hrd (k + 1) (by omega) (by omega)
  rw [show (((k + 1 : Nat) : Int)) = (k : Int) + 1 by omega] at this
  rw [this]
 ·unfold stL pgsR
  rw [hP, Int.toNat_natCast]
  apply List.ext_getElem
  ·simp
  ·intro i h1 h2
   have := hrd (i + 1) (by omega) (by omega)
   rw [show (((i + 1 : Nat) : Int)) = (i : Int) + 1 by omega] at this
   simp only [List.getElem_map, List.getElem_range]
   rw [this]
   simp only [Nat.add_sub_cancel]
   rw [List.getD_eq_getElem?_getD, List.getElem?_eq_getElem h2]
   rfl
structure BS (w W : World) (pb l b db bb x m : Nat) (g : Lg) (ds : Dsk) (h : Hdr) (M : List (List UInt8)) (B : Bk) (d : Dsk) : Prop where
 pd : PD w W ⟨pb, l, b, p0, g, ds⟩ db d (fun k => k = bb ∨ k = x)
 bk : W.heap[bb]? = some (bkObj pb db B)
 ge : w.heap.size ≤ bb
 src : Db g ds (hdrPg h :: M)
 hd : HdOk h
 com : 1 ≤ h.commits ∧ h.commits ≤ m + 1
 up : Bup h (hdrPg h :: M) B d
 rs : 0 ≤ B.restarts ∧ B.restarts ≤ m
 ss : ds.Small (100 + 8519680 * (m + 1))
 sd : d.Small (200000 + 16777216 * m)
section
variable {w W W' : World} {pb l b db bb x m : Nat} {g : Lg} {ds : Dsk} {h : Hdr} {M : List (List UInt8)} {B : Bk} {d : Dsk}
theorem first_turn {X : Nat → Prop} (hp : PgAtX w W ⟨pb, l, b, p0, exG0, newM⟩ X) : Calls Tryz.prog 7 #[.pointer (some ⟨pb, 0, none⟩), .int .i64 2, .int .i64 2, .int .u8 115] W fun e w' => e = .returned (.int .i64 0) ∧ ∃ g ds h M, PgAtX w w' ⟨pb, l, b, p0, g, ds⟩ X ∧ Db g ds (hdrPg h :: M) ∧ HdOk h ∧ h.commits = 1 ∧ ds.Small (100 + 8519680 * (0 + 1)) := by
 have hg : exG0.Ok := hp.oks.1
 obtain ⟨g', d', M', t1, t2, t3⟩ := turn_db db_new (.inl ⟨rfl, rfl⟩) hd0_ok hg (P := 2) (by omega) (by omega) 2 115
 have A := turn_any hp 2 2 115 (by unfold in64; decide) (by unfold in64; decide) 100 new_small (by decide)
 have hsm := turn_small (p := p0) hg.pages.2 new_small 2 2 115
 have t1' : turnM p0 exG0 newM 2 2 115 = (0, p0, g', d') := t1
 dsimp only at A
 rw [t1'] at A hsm
 exact A.mono fun e w' hh => ⟨hh.1, g', d', bumped hdr0, M', hh.2.1, t2, bumped_ok hd0_ok, by decide, Dsk.Small.mono hsm (by omega)⟩
end
end Go.Proofs.YtfkcmgbpgefnnaaGreat
/- BackupPlays: the reference's disk beside all else. -/
namespace Go.Proofs.YtfkcmgbpgefnnaaGreat
open Go.RowKit Go.Maps
set_option maxRecDepth 20000
structure RkX (w W : World) (rd : Nat) (d : Dsk) (X : Nat → Prop) : Prop where
 ex : ∃ G, Rf.RefAt W rd G d ∧ ∀ k, G.own k ∨ G.sh k → ¬ X k ∧ w.heap.size ≤ k
 bel : Below w.heap.size w W
 xlt : ∀ k, X k → k < W.heap.size
section
variable {w W W' : World} {rd : Nat} {d d' : Dsk} {X X' : Nat → Prop}
theorem RkX.did (h : RkX w W rd d X) : ∃ G, Rf.RefAt W rd G d ∧ (∀ k, G.own k ∨ G.sh k → ¬ X k ∧ w.heap.size ≤ k) ∧ ∀ w' d', Rf.RDid W rd G d' w' → RkX w w' rd d' X ∧ ∀ k, X k → w'.heap[k]? = W.heap[k]? := by
 obtain ⟨⟨G, hG, hGX⟩, hb, hx⟩ := h
 refine ⟨G, hG, hGX, fun w' d' hd => ?_⟩
 obtain ⟨G', hG', hst⟩ := hd
 have hsz := hst.frm.size
 have hW := hb.size
 have hkeep : ∀ k, X k → w'.heap[k]? = W.heap[k]? := fun k hk => hst.frm.block k (hx k hk) (fun e => (hGX k (.inl e)).1 hk)
 refine ⟨⟨⟨G', hG', fun k hk => ?_⟩, ⟨hst.frm.os.trans hb.os, hst.frm.tape.trans hb.tape, hst.frm.output.trans hb.output, Nat.le_trans hW hsz, fun k hk => ?_⟩, fun k hk => Nat.lt_of_lt_of_le (hx k hk) hsz⟩, hkeep⟩
 ·have h1 : (G.own k ∨ G.sh k) ∨ W.heap.size ≤ k := hk.elim (fun e => (hst.own k e).imp .inl id) (fun e => (hst.sh k e).imp .inr id)
  rcases h1 with e | e
  ·exact hGX k e
  ·exact ⟨fun e2 => by have := hx k e2; omega, by omega⟩
 ·exact (hst.frm.block k (by omega) (fun e => by have := (hGX k (.inl e)).2; omega)).trans (hb.block k hk)
theorem RkX.below (h : RkX w W rd d X) (hb : Below W.heap.size W W') : RkX w W' rd d X := by
 obtain ⟨⟨G, hG, hGX⟩, hb1, hx⟩ := h
 exact ⟨⟨G, hG.below hb, hGX⟩, hb1.trans (hb.mono hb1.size), fun k hk => Nat.lt_of_lt_of_le (hx k hk) hb.size⟩
theorem RkX.add (h : RkX w W rd d X) (hb : Below W.heap.size W W') (hx : ∀ k, X' k → X k ∨ W.heap.size ≤ k) (hlt : ∀ k, X' k → k < W'.heap.size) : RkX w W' rd d X' := by
 obtain ⟨⟨G, hG, hGX⟩, hb1, hx1⟩ := h
 obtain ⟨nv, sv, lv, av, hm⟩ := id hG
 refine ⟨⟨G, hG.below hb, fun k hk => ⟨fun e => ?_, (hGX k hk).2⟩⟩, hb1.trans (hb.mono hb1.size), hlt⟩
 have hl : k < W.heap.size := hk.elim (hm.olt k) (hm.slt k)
 rcases hx k e with e | e
 ·exact (hGX k hk).1 e
 ·omega
theorem RkX.to (h : RkX w W rd d X) (hx : ∀ k, X' k → X k) : RkX w W rd d X' := h.add (Below.refl _ _) (fun k hk => .inl (hx k hk)) (fun k hk => h.xlt k (hx k hk))
theorem RkX.law {Y : Nat → Prop} (h : RkX w W rd d X) (hf : Frm Y W W') (hY : ∀ k, Y k → X k ∧ w.heap.size ≤ k) : RkX w W' rd d X := by
 obtain ⟨⟨G, hG, hGX⟩, hb1, hx1⟩ := h
 refine ⟨⟨G, hG.keep (fun k hk => ?_) hf.size, hGX⟩, ⟨hf.os.trans hb1.os, hf.tape.trans hb1.tape, hf.output.trans hb1.output, Nat.le_trans hb1.size hf.size, fun k hk => ?_⟩, fun k hk => Nat.lt_of_lt_of_le (hx1 k hk) hf.size⟩
 ·obtain ⟨nv, sv, lv, av, hm⟩ := id hG
  exact hf.block k (hk.elim (hm.olt k) (hm.slt k)) (fun e => (hGX k hk).1 (hY k e).1)
 ·exact (hf.block k (Nat.lt_of_lt_of_le hk hb1.size) (fun e => by have := (hY k e).2; omega)).trans (hb1.block k hk)
theorem rx_write (h : RkX w W rd d X) (f a : Int) (s : List UInt8) (hs : d.Small 1099511527776) (hl : s.length ≤ 1099511627776) :
  Calls Tryz.prog 49 #[.pointer (some ⟨rd, 0, none⟩), .int .i64 f, .int .i64 a, .string (bs s)] W fun e w' => e = .returned (.int .i64 (writeM d f a s).1) ∧ RkX w w' rd (writeM d f a s).2 X ∧ ∀ k, X k → w'.heap[k]? = W.heap[k]? := by
 obtain ⟨G, hG, -, hgo⟩ := h.did
 exact (Rf.rwrite_any hG f a s hs hl).mono fun e w' hh => ⟨hh.1, hgo _ _ hh.2⟩
theorem rx_cut (h : RkX w W rd d X) (f n : Int) (hs : d.Small 1099511627776) : Calls Tryz.prog 53 #[.pointer (some ⟨rd, 0, none⟩), .int .i64 f, .int .i64 n] W fun e w' => e = .returned (.int .i64 (cutM d f n).1) ∧ RkX w w' rd (cutM d f n).2 X ∧ ∀ k, X k → w'.heap[k]? = W.heap[k]? := by
 obtain ⟨G, hG, -, hgo⟩ := h.did
 exact (Rf.rcut_any hG f n hs).mono fun e w' hh => ⟨hh.1, hgo _ _ hh.2⟩
theorem rx_sync (h : RkX w W rd d X) (f : Int) (hs : d.Small 1099511527776) : Calls Tryz.prog 52 #[.pointer (some ⟨rd, 0, none⟩), .int .i64 f] W fun e w' => e = .returned (.int .i64 (syncM d f).1) ∧ RkX w w' rd (syncM d f).2 X ∧ ∀ k, X k → w'.heap[k]? = W.heap[k]? := by
 obtain ⟨G, hG, -, hgo⟩ := h.did
 exact (Rf.rsync_any hG f hs).mono fun e w' hh => ⟨hh.1, hgo _ _ hh.2⟩
theorem rx_arms (h : RkX w W rd d X) (n e : Int) (hs : d.Small 1099511627776) : Calls Tryz.prog 17 #[.pointer (some ⟨rd, 0, none⟩), .int .i64 n, .int .i64 e] W fun r w' => r = .returned (.int .i64 (armM d n e).1) ∧ RkX w w' rd (armM d n e).2 X ∧ ∀ k, X k → w'.heap[k]? = W.heap[k]? := by
 obtain ⟨G, hG, -, hgo⟩ := h.did
 exact (Rf.rarms_any hG n e hs).mono fun e w' hh => ⟨hh.1, hgo _ _ hh.2⟩
theorem rx_power (h : RkX w W rd d X) (n : Int) (hs : d.Small 1099511627776) : Calls Tryz.prog 19 #[.pointer (some ⟨rd, 0, none⟩), .int .i64 n] W fun r w' => r = .returned (.int .i64 (powerM d n).1) ∧ RkX w w' rd (powerM d n).2 X ∧ ∀ k, X k → w'.heap[k]? = W.heap[k]? := by
 obtain ⟨G, hG, -, hgo⟩ := h.did
 exact (Rf.rpower_any hG n hs).mono fun e w' hh => ⟨hh.1, hgo _ _ hh.2⟩
theorem rx_crash (h : RkX w W rd d X) (kv : Value) (keep : List Bool) (hk : KeepAt W kv keep) (hkb : ∀ q, keepBlk kv keep = some q → q < w.heap.size) (hs : d.Small 1099511627776) (hkl : keep.length ≤ 1099511627776) :
  Calls Tryz.prog 20 #[.pointer (some ⟨rd, 0, none⟩), kv] W fun e w' => e = .returned (.tuple #[]) ∧ RkX w w' rd (crashM d keep) X ∧ ∀ k, X k → w'.heap[k]? = W.heap[k]? := by
 obtain ⟨G, hG, hGX, hgo⟩ := h.did
 exact (Rf.rcrash_any hG kv keep hk (fun q hq => ⟨fun e => by have := (hGX q (.inl e)).2; have := hkb q hq; omega, Nat.lt_of_lt_of_le (hkb q hq) h.bel.size⟩) hs hkl).mono fun e w' hh => ⟨hh.1, hgo _ _ hh.2⟩
theorem RkX.file (h : RkX w W rd d X) (k : Nat) (hk : k < 8) : ∃ ga cap, W.cell? ⟨rd, k, none⟩ = some (.slice ga (d.now k).length cap) := by
 obtain ⟨G, ⟨nv, sv, lv, av, hm⟩, -, -⟩ := h.did
 obtain ⟨ga, cap, -, e, -⟩ := hm.file hk
 exact ⟨ga, cap, e⟩
theorem RkX.five (h : RkX w W rd d X) : (∃ ga cap, W.cell? ⟨rd, 16, none⟩ = some (.slice ga d.loose.length cap)) ∧ W.cell? ⟨rd, 18, none⟩ = some (.int .i64 d.ops) ∧ W.cell? ⟨rd, 20, none⟩ = some (.bool d.off) := by
 obtain ⟨G, ⟨nv, sv, lv, av, hm⟩, -, -⟩ := h.did
 obtain ⟨e1, -, e2, -, e3⟩ := hm.five
 obtain ⟨ga, cap, rfl, -⟩ := row_slice hm.row
 exact ⟨⟨ga, cap, e1⟩, e2, e3⟩
end
end Go.Proofs.YtfkcmgbpgefnnaaGreat
