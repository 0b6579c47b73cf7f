import Derived.Test.YtenboibbbmeddaaGreatPcA
import Derived.Test.YtenboibbbmeddaaGreatBkL
import Derived.Test.YtenboibbbmeddaaGreatBkQ
set_option linter.unusedVariables false
set_option linter.unusedSimpArgs false
namespace Go.Proofs.YtenboibbbmeddaaGreat
open Go.RowKit Go.Maps
set_option maxRecDepth 20000
structure AOp where
 kind : Int
 n : Int
 pages : Int
 x : UInt8
 keep : List Bool
 ka : Option Addr
 kcap : Nat
def aopCells (x : AOp) : List Value := [.int .i64 x.kind, .int .i64 x.n, .int .i64 x.pages, .int .u8 (x.x.toNat : Int), .slice x.ka x.keep.length x.kcap]
def ActsAt (w : World) (B : Nat) (v : Value) (l : List AOp) : Prop :=
 ∃ ao cap, v = .slice ao l.length cap ∧ ∀ k (hk : k < l.length), ∃ q o, ao = some ⟨q, o, none⟩ ∧ q < B ∧ q < w.heap.size ∧ ∀ j u, (aopCells l[k])[j]? = some u → w.cell? ⟨q, o + k * 5 + j, none⟩ = some u
theorem ActsAt.keep {w w' : World} {B : Nat} {v : Value} {l : List AOp} (h : ActsAt w B v l) (hb : Below B w w') : ActsAt w' B v l := by
 obtain ⟨ao, cap, rfl, hc⟩ := h
 refine ⟨ao, cap, rfl, fun k hk => ?_⟩
 obtain ⟨q, o, rfl, hq, hs, hcell⟩ := hc k hk
 exact ⟨q, o, rfl, hq, Nat.lt_of_lt_of_le hs hb.size, fun j u hj => (World.cell?_of_block (a := ⟨q, o + k * 5 + j, none⟩) (hb.block q hq)).trans (hcell j u hj)⟩
def HeavyGave (w : World) (l : List AOp) (e : Ending) (w' : World) : Prop := ∃ r : Bool, e = .returned (.bool r) ∧ (r = false → l.length ≤ 100) ∧ Below w.heap.size w w'
set_option maxHeartbeats 2000000 in
set_option maxRecDepth 20000 in
theorem aheavy_any {B : Nat} (w : World) (v : Value) (l : List AOp) (h : ActsAt w B v l) (hl : l.length ≤ 9223372036854775807) : Calls Tryz.prog 19 #[v] w (HeavyGave w l) := by
 obtain ⟨ao, cap, rfl, hc⟩ := h
 obtain ⟨n, hn⟩ : ∃ n, n = l.length := ⟨_, rfl⟩
 rw [← hn]
 have HC := hid hc
 have Hn := hid hn
 have Hl := hid hl
 have HB := hid (Below.refl w.heap.size w)
 clear hc hn hl
 go_enter Tryz.func19, Tryz.ntmps19
 go_wp2_with fail
 go_loopw [7] (fun v7 wr => ∃ (i : Nat), i ≤ n ∧ v7 = .int .i64 (i : Int) ∧ Below w.heap.size w wr) (fun v7 _ => n - (intOf v7).toNat)
 case atStart => exact ⟨0, Nat.zero_le _, rfl, HB.out⟩
 case round =>
  obtain ⟨i, hi, rfl, hbw⟩ := hrel
  have HBw := hid hbw
  by_cases hlt : i < n
  ·have hil : i < l.length := by have := Hn.out; omega
   obtain ⟨q, o, rfl, -, hq, hcell⟩ := HC.out i hil
   obtain ⟨y, hy⟩ : ∃ y, y = l[i] := ⟨_, rfl⟩
   rw [← hy] at hcell
   have cc := fun j u hj => (hbw.cell (p := ⟨q, o + i * 5 + j, none⟩) hq).trans (hcell j u hj)
   have c0 := cc 0 _ rfl
   have c1 := cc 1 _ rfl
   have c2 := cc 2 _ rfl
   have c3 := cc 3 _ rfl
   have c4 := cc 4 _ rfl
   rw [Nat.add_zero] at c0
   have hi3 : (i : Int) < 9223372036854775807 := by have := Hl.out; omega
   have hw : IntKind.i64.wrap ((i : Int) + 1) = (i : Int) + 1 := IntWalk.i64_in _ (by omega)
   clear hy hcell cc hbw
   obtain ⟨kl, hkl⟩ : ∃ kl : Int, ((y.keep.length : Nat) : Int) = kl := ⟨_, rfl⟩
   by_cases t3 : 4096 < kl
   ·have b3 : decide (4096 < kl) = true := by simpa using t3
    clear t3
    go_wp2_with fail
    go_ret
    exact ⟨true, rfl, (fun e => by cases e), HBw.out.alloc HBw.out.size _⟩
   ·have b3 : decide (4096 < kl) = false := by simpa using t3
    clear t3
    go_wp2_with fail
    go_roundw
    case rel => exact ⟨i + 1, by omega, by simp, HBw.out.alloc HBw.out.size _⟩
    case measure => (simp [intOf]) <;> omega
  ·obtain rfl : n = i := by omega
   by_cases h1 : 100 < n
   ·have b1 : decide (100 < n) = true := by simpa using h1
    go_wp2_with fail
    go_ret
    exact ⟨_, rfl, (fun e => by simp at e; omega), HBw.out⟩
   ·have b1 : decide (100 < n) = false := by simpa using h1
    have Hb1 := hid h1
    go_wp2_with fail
    go_ret
    exact ⟨_, rfl, (fun _ => by have := Hn.out; have := Hb1.out; omega), HBw.out⟩
theorem tmod9 (n : Int) : -8 ≤ n.tmod 9 ∧ n.tmod 9 ≤ 8 := by
 rcases Int.le_total 0 n with h | h
 ·rw [Int.tmod_eq_emod_of_nonneg h]; omega
 ·have e : n = -(-n) := by omega
  rw [e, Int.neg_tmod, Int.tmod_eq_emod_of_nonneg (by omega)]; omega
theorem around_any (n : Int) (hn : in64 n) (w : World) : Calls Tryz.prog 20 #[.int .i64 n, .int .i64 9] w fun e w' => ∃ r : Nat, e = .returned (.int .i64 (r : Int)) ∧ r < 9 ∧ w' = w := by
 have h1 := tmod9 n
 obtain ⟨t, ht⟩ : ∃ t, t = n.tmod 9 := ⟨_, rfl⟩
 rw [← ht] at h1
 have ht' := ht.symm
 have hw1 : IntKind.i64.wrap t = t := IntWalk.i64_in _ (by omega)
 have hw2 : IntKind.i64.wrap (t + 9) = t + 9 := IntWalk.i64_in _ (by omega)
 have h2 : (t + 9).tmod 9 = (t + 9) % 9 := Int.tmod_eq_emod_of_nonneg (by omega)
 obtain ⟨r, hr⟩ : ∃ r : Nat, (t + 9) % 9 = (r : Int) := ⟨((t + 9) % 9).toNat, by omega⟩
 have hr9 : r < 9 := by omega
 rw [hr] at h2
 have hw3 : IntKind.i64.wrap (r : Int) = (r : Int) := IntWalk.i64_in _ (by omega)
 clear hr ht
 go_enter Tryz.func20, Tryz.ntmps20
 go_wp2_with fail
 go_ret
 exact ⟨r, rfl, hr9, rfl⟩
end Go.Proofs.YtenboibbbmeddaaGreat
namespace Go.Proofs.YtenboibbbmeddaaGreat
open Go.ChangeShapes Go.WideShapes Go.ChangeAt Go.RowKit Go.Deep
set_option maxRecDepth 20000
set_option maxRecDepth 20000
instance : Inhabited AOp := ⟨⟨0, 0, 0, 0, [], none, 0⟩⟩
def IntsAt (w : World) (B : Nat) (v : Value) (l : List Int) : Prop :=
 ∃ ao cap, v = .slice ao l.length cap ∧ ∀ k (hk : k < l.length), ∃ q o, ao = some ⟨q, o, none⟩ ∧ q < B ∧ q < w.heap.size ∧ w.cell? ⟨q, o + k, none⟩ = some (.int .i64 l[k])
structure IntsIn (w : World) (v : Value) (l : List Int) : Prop where
 at' : IntsAt w w.heap.size v l
 len : l.length ≤ 9223372036854775807
 wf : ∀ n ∈ l, in64 n
structure ActsIn (w : World) (v : Value) (l : List AOp) : Prop where
 at' : ActsAt w w.heap.size v l
 len : l.length ≤ 9223372036854775807
 n64 : ∀ x ∈ l, in64 x.n
 p64 : ∀ x ∈ l, in64 x.pages
theorem lt_of_cell {w : World} {a : Addr} {v : Value} (h : w.cell? a = some v) : a.block < w.heap.size := by
 rcases Nat.lt_or_ge a.block w.heap.size with h1 | h1
 ·exact h1
 ·unfold World.cell? at h
  rw [Array.getElem?_eq_none h1] at h
  simp at h
section
variable {H : Type} {enc : TypeId × Value → H} {w : World} {base : Nat} {sp : Nat → Bool} {held : Bool}
theorem open_keep_cell {fuel : Nat} {cs : List Value} {x : DataW H × List MemPlace} (h : DataW.trod enc Tryz.prog w base sp held fuel 47 cs = some x) :
  ∃ (ka : Option Addr) (kcap : Nat) (ks : List Bool), cs = [.slice ka ks.length kcap] := by
 rcases open_slice1 Tryz.underlying47 (by kernel_rfl) h with ⟨rfl, _⟩ | ⟨a, len, cap, m, n, V, D, Pl, rfl, _⟩
 ·exact ⟨none, 0, [], rfl⟩
 ·exact ⟨some a, cap, List.replicate len false, by simp⟩
theorem open_act_cells {fuel : Nat} {cs : List Value} {x : DataW H × List MemPlace} (h : DataW.trod enc Tryz.prog w base sp held fuel 49 cs = some x) :
  ∃ y : AOp, cs = aopCells y ∧ in64 y.n ∧ in64 y.pages := by
 obtain ⟨hl, n, hf⟩ := open_cells_struct Tryz.underlying49 (by kernel_rfl) (by kernel_rfl) h
 obtain ⟨a0, a1, a2, a3, a4, rfl⟩ : ∃ a0 a1 a2 a3 a4, cs = [a0, a1, a2, a3, a4] := by
  match cs, hl with
  | [a0, a1, a2, a3, a4], _ => exact ⟨a0, a1, a2, a3, a4, rfl⟩
 obtain ⟨y0, h0⟩ := hf 0 _ rfl
 obtain ⟨y1, h1⟩ := hf 1 _ rfl
 obtain ⟨y2, h2⟩ := hf 2 _ rfl
 obtain ⟨y3, h3⟩ := hf 3 _ rfl
 obtain ⟨y4, h4⟩ := hf 4 _ rfl
 obtain ⟨k0, e0, _, w0⟩ := DataW.trod_int Tryz.underlying3 h0
 obtain ⟨k1, e1, _, w1⟩ := DataW.trod_int Tryz.underlying3 h1
 obtain ⟨k2, e2, _, w2⟩ := DataW.trod_int Tryz.underlying3 h2
 obtain ⟨k3, e3, _, w3⟩ := DataW.trod_int Tryz.underlying5 h3
 obtain ⟨ka, kcap, ks, e4⟩ := open_keep_cell h4
 obtain ⟨c, rfl⟩ := u8_of w3
 simp at e0 e1 e2 e3 e4
 subst e0 e1 e2 e3 e4
 exact ⟨⟨k0, k1, k2, c, ks, ka, kcap⟩, rfl, i64_wf w1, i64_wf w2⟩
theorem open_acts_cell {fuel : Nat} {cs : List Value} {x : DataW H × List MemPlace} (h : DataW.trod enc Tryz.prog w base sp held fuel 44 cs = some x) :
  ∃ (v : Value) (l : List AOp), cs = [v] ∧ ActsIn w v l := by
 rcases open_slice Tryz.underlying44 h with ⟨rfl, _⟩ | ⟨a, len, cap, m, n, D, Pl, rfl, hb, hle, hcap, hm, _, hx⟩
 ·exact ⟨_, [], rfl, ⟨⟨none, 0, rfl, (fun k hk => by simp at hk)⟩, by simp, (fun x hx => by cases hx), (fun x hx => by cases hx)⟩⟩
 have hlm : len ≤ m := by rw [hm]; split <;> omega
 have hcells : Tryz.prog.cellsOf 49 = 5 := by kernel_rfl
 rw [hcells] at hx
 obtain ⟨V, hV⟩ := choose_lt (α := AOp) (p := fun i y => (in64 y.n ∧ in64 y.pages) ∧ ∀ j u, (aopCells y)[j]? = some u → w.cell? (a.add (i * 5 + j)) = some u) (n := len) (fun i hi => by
  obtain ⟨cs', h1, h2⟩ := hx i (by omega)
  obtain ⟨y, rfl, hy⟩ := open_act_cells h2
  refine ⟨y, hy, fun j u hj => ?_⟩
  obtain ⟨_, _, hc⟩ := World.cells?_some h1
  have hj7 : j < 5 := by
   have := (List.getElem?_eq_some_iff.1 hj).1
   simpa [aopCells] using this
  have c0 := hc j hj7
  rw [add_add] at c0
  rw [c0]
  simpa using hj)
 have hm' : maxLen = 9223372036854775807 := rfl
 have hlen : ((List.range len).map V).length = len := by simp
 have hall : ∀ y ∈ (List.range len).map V, in64 y.n ∧ in64 y.pages := fun y hy => by
  obtain ⟨i, hi, rfl⟩ := List.mem_map.1 hy
  exact (hV i (by simpa using hi)).1
 refine ⟨_, (List.range len).map V, rfl, ⟨⟨some a, cap, by rw [hlen], fun k hk => ?_⟩, by rw [hlen]; omega, fun y hy => (hall y hy).1, fun y hy => (hall y hy).2⟩⟩
 rw [hlen] at hk
 obtain ⟨b, off, spot⟩ := a
 have c0 := (hV 0 (by omega)).2 0 _ rfl
 have hspot : spot = none := by simpa [Addr.add] using World.cell?_spot c0
 subst hspot
 have hlt : b < w.heap.size := by simpa [Addr.add] using lt_of_cell c0
 refine ⟨b, off, rfl, hlt, hlt, fun j u hj => ?_⟩
 simp at hj
 have e := (hV k hk).2 j u hj
 simp only [Addr.add_lit] at e
 rw [← e]
 congr 2
 omega
theorem open_acts {b0 : Nat} {v : Value} (hval : Value.okWide Tryz.prog w .any b0 44 v) (h : ∃ d p, DataW.Trod enc Tryz.prog w base sp held 44 v d p) : ∃ (z : Value × List AOp), v = z.1 ∧ ActsIn w z.1 z.2 := by
 obtain ⟨d, p, fuel, hf⟩ := h
 obtain ⟨ao, n, cap, rfl⟩ := okWide_slice Tryz.underlying44 hval
 obtain ⟨v, l, e, hl⟩ := open_acts_cell hf
 simp [Value.cells] at e
 subst e
 exact ⟨(_, l), rfl, hl⟩
end
end Go.Proofs.YtenboibbbmeddaaGreat
namespace Go.Proofs.YtenboibbbmeddaaGreat
open Go.RowKit Go.Maps
set_option maxRecDepth 20000
section
variable {d d' : Dsk} {g : Lg} {ds : Dsk} {B : Bk} {p : Pg}
theorem spcommit_small {N : Nat} (hg : g.head.pages ≤ 256) (h : d.Small N) (p : Pg) : (spCommitM p g d).2.2.2.Small (N + 8519680) := by
 unfold spCommitM
 split
 ·exact h.mono (by omega)
 split
 ·exact h.mono (by omega)
 ·exact commit_small N hg h _
theorem turn_small {N : Nat} (hg : g.head.pages ≤ 256) (h : d.Small N) (p : Pg) (pages n : Int) (c : UInt8) : (turnM p g d pages n c).2.2.2.Small (N + 8519680) := by
 unfold turnM
 split
 ·exact h.mono (by omega)
 ·exact spcommit_small hg h _
end
theorem bseq_small2 : ∀ (ms : List (Dsk → Int × Dsk)) (d : Dsk) (N : Nat), (∀ m ∈ ms, ∀ d N, d.Small N → (m d).2.Small (N + 32768)) → d.Small N → (bseqM ms d).2.Small (N + 32768 * ms.length)
 | [], d, N, _, h => h.mono (by omega)
 | m :: r, d, N, hm, h => by
  have h1 := hm m (by simp) d N h
  show (if _ then _ else _ : Int × Dsk).2.Small _
  split
  ·exact h1.mono (by simp; omega)
  ·exact (bseq_small2 r _ _ (fun m hm1 => hm m (by simp [hm1])) h1).mono (by simp; omega)
theorem bstart_small {d ds : Dsk} {p : Pg} {g : Lg} {N : Nat} (h : d.Small N) : (bstartM p g ds d).2.2.Small (N + 131072) := by
 have hs : (bseqM bstepsM d).2.Small (N + 32768 * 4) := by
  refine bseq_small2 bstepsM d N ?_ h
  intro m hm d N hd
  unfold bstepsM at hm
  simp only [List.mem_cons, List.not_mem_nil, or_false] at hm
  rcases hm with rfl | rfl | rfl | rfl
  ·exact (write_small hd).mono (by omega)
  ·exact bcut_small hd
  ·exact (sync_small hd).mono (by omega)
  ·exact emptyLog_small hd
 unfold bstartM
 split
 ·exact h.mono (by omega)
 split
 ·exact h.mono (by omega)
 split
 ·exact h.mono (by omega)
 split
 ·exact h.mono (by omega)
 split
 ·exact hs.mono (by omega)
 ·exact hs.mono (by omega)
theorem st_db {g : Lg} {ds : Dsk} {L : List (List UInt8)} (hD : Db g ds L) : stOk p0 g ds ∧ stL p0 g ds = L := by
 have hP := db_pages (p := p0) hD rfl
 have hrd := read_db hD
 refine ⟨fun k hk => ?_, ?_⟩
 ·rw [hP] at hk
  have := hrd (k + 1) (by omega) (by omega)
  rw [show (((k + 1 : Nat) : Int)) = (k : Int) + 1 by omega] at this
  rw [this]
 ·unfold stL pgsR
  rw [hP, Int.toNat_natCast]
  apply List.ext_getElem
  ·simp
  ·intro i h1 h2
   have := hrd (i + 1) (by omega) (by omega)
   rw [show (((i + 1 : Nat) : Int)) = (i : Int) + 1 by omega] at this
   simp only [List.getElem_map, List.getElem_range]
   rw [this]
   simp only [Nat.add_sub_cancel]
   rw [List.getD_eq_getElem?_getD, List.getElem?_eq_getElem h2]
   rfl
structure BS (w W : World) (pb l b db bb x m : Nat) (g : Lg) (ds : Dsk) (h : Hdr) (M : List (List UInt8)) (B : Bk) (d : Dsk) : Prop where
 pd : PD w W ⟨pb, l, b, p0, g, ds⟩ db d (fun k => k = bb ∨ k = x)
 bk : W.heap[bb]? = some (bkObj pb db B)
 ge : w.heap.size ≤ bb
 src : Db g ds (hdrPg h :: M)
 hd : HdOk h
 com : 1 ≤ h.commits ∧ h.commits ≤ m + 1
 up : Bup h (hdrPg h :: M) B d
 rs : 0 ≤ B.restarts ∧ B.restarts ≤ m
 ss : ds.Small (100 + 8519680 * (m + 1))
 sd : d.Small (200000 + 16777216 * m)
section
variable {w W W' : World} {pb l b db bb x m : Nat} {g : Lg} {ds : Dsk} {h : Hdr} {M : List (List UInt8)} {B : Bk} {d : Dsk}
theorem first_turn {X : Nat → Prop} (hp : PgAtX w W ⟨pb, l, b, p0, exG0, newM⟩ X) : Calls Tryz.prog 11 #[.pointer (some ⟨pb, 0, none⟩), .int .i64 2, .int .i64 2, .int .u8 115] W fun e w' => e = .returned (.int .i64 0) ∧ ∃ g ds h M, PgAtX w w' ⟨pb, l, b, p0, g, ds⟩ X ∧ Db g ds (hdrPg h :: M) ∧ HdOk h ∧ h.commits = 1 ∧ ds.Small (100 + 8519680 * (0 + 1)) := by
 have hg : exG0.Ok := hp.oks.1
 obtain ⟨g', d', M', t1, t2, t3⟩ := turn_db db_new (.inl ⟨rfl, rfl⟩) hd0_ok hg (P := 2) (by omega) (by omega) 2 115
 have A := turn_any hp 2 2 115 (by unfold in64; decide) (by unfold in64; decide) 100 new_small (by decide)
 have hsm := turn_small (p := p0) hg.pages.2 new_small 2 2 115
 have t1' : turnM p0 exG0 newM 2 2 115 = (0, p0, g', d') := t1
 dsimp only at A
 rw [t1'] at A hsm
 exact A.mono fun e w' hh => ⟨hh.1, g', d', bumped hdr0, M', hh.2.1, t2, bumped_ok hd0_ok, by decide, Dsk.Small.mono hsm (by omega)⟩
end
end Go.Proofs.YtenboibbbmeddaaGreat
