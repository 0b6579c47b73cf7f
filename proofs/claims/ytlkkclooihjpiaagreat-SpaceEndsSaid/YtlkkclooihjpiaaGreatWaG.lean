/- The closures of Append and Checkpoint. -/
import Derived.Test.YtlkkclooihjpiaaGreatWaF
import Derived.Test.YtlkkclooihjpiaaGreatBld
import Derived.Lib.OthersKept
set_option linter.unusedVariables false
set_option linter.unusedSimpArgs false
namespace Go.Proofs.YtlkkclooihjpiaaGreat
open Go.RowKit Go.Maps
set_option maxRecDepth 20000
def lwriteM (s : List UInt8) : LgM := fun g d => ((writeM d 1 (1 + 9 * g.list.length) s).1, g, (writeM d 1 (1 + 9 * g.list.length) s).2)
def lpageM (n : Int) (s : List UInt8) : LgM := fun g d => ((writeM d 0 (8 * (n - 1)) s).1, g, (writeM d 0 (8 * (n - 1)) s).2)
def lcutM (n : Int) : LgM := fun g d => if 8 * n < ((d.now 0).length : Int) then ((cutM d 0 (8 * n)).1, g, (cutM d 0 (8 * n)).2) else (0, g, d)
def lsync0M : LgM := fun g d => ((syncM d 0).1, g, (syncM d 0).2)
theorem others_same {e bb : Nat} {w w' : World} (h : Lib.OthersKept e (some bb) w w') {k : Nat} {o : Obj} (hk : w.heap[k]? = some o) (hb : k ≠ bb) (ho : ∀ c fz, o ≠ .cells c e fz) : w'.heap[k]? = w.heap[k]? :=
 (h k o hk (fun h => hb (Option.some.inj h)) ho).trans hk.symm
theorem map_others {w w' : World} {bb m n : Nat} {D : DataW Unit} {t : TypeId} {R : Value → Option (DataW Unit × List MemPlace)} {c : Array Value} {T : TypeId} {fr : Nat × Nat} (h : Lib.OthersKept 5 (some bb) w w') (hbb : w.heap[bb]? = some (.cells c T fr)) (hm : w.ownsMap Tryz.prog t R m n D) : w'.heap[m]? = w.heap[m]? := by
 obtain ⟨es, clock, hb, r⟩ := hm
 refine others_same h hb (fun e => ?_) (fun c fz => by simp)
 rw [e, hbb] at hb
 cases hb
theorem file_others {w w' : World} {bb : Nat} {c : Array Value} {T : TypeId} {fr : Nat × Nat} {m : Option Nat} {l : List Sec} (h : Lib.OthersKept 5 (some bb) w w') (hbb : w.heap[bb]? = some (.cells c T fr)) (hm : FileAt w m l) : FileAt w' m l := by
 refine hm.keep fun b hb => ?_
 subst hb
 obtain ⟨D, h1, -⟩ := hm
 exact map_others h hbb h1
theorem row_others {w w' : World} {bb base size n : Nat} {e : TypeId} {v : Value} {xs : List Value} {c : Array Value} {T : TypeId} {fr : Nat × Nat} (h : Lib.OthersKept 5 (some bb) w w') (hbb : w.heap[bb]? = some (.cells c T fr)) (hT : T ≠ e) (hu : e ≠ 5) (hr : w.ownsRow base e size v n xs) : w'.ownsRow base e size v n xs := by
 refine row_keep hr fun g hg => ?_
 rcases hr.2 with ⟨rfl, _⟩ | ⟨g', cap, cur, rfl, _, hh, _⟩
 ·cases hg
 ·cases hg
  refine others_same h hh (fun e => ?_) (fun c fz e => ?_)
  ·have hh2 := hh
   rw [show g' = bb from e, hbb] at hh2
   injection hh2 with hh2
   injection hh2 with _ h2 _
   exact hT h2
  ·injection e with _ h2 _
   exact hu h2
theorem disk_others {w w' : World} {b bb : Nat} {F : Foot} {d : Dsk} {c : Array Value} {fr : Nat × Nat} (h : Lib.OthersKept 5 (some bb) w w') (hbb : w.heap[bb]? = some (.cells c 163 fr)) (hs : w.heap.size ≤ w'.heap.size) (hd : DiskAt w b F d) : DiskAt w' b F d := by
 obtain ⟨nm, sm, lv, am, hd⟩ := hd
 refine ⟨nm, sm, lv, am, ?_, fun f hf => file_others h hbb (hd.now f hf), fun f hf => file_others h hbb (hd.sure f hf), hd.nsh, hd.ssh, row_others h hbb (by decide) (by decide) hd.row, hd.rown, ?_, hd.aown, hd.bown, hd.apart, fun k hk => Nat.lt_of_lt_of_le (hd.olt k hk) hs, fun k hk => Nat.lt_of_lt_of_le (hd.slt k hk) hs, hd.ok⟩
 ·refine (others_same h hd.blk (fun e => ?_) (fun c fz e => ?_)).trans hd.blk
  ·have hb := hd.blk
   rw [e, hbb] at hb
   injection hb with hb
   injection hb with _ h2 _
   exact absurd h2 (by decide)
  ·injection e with _ h2 _
   exact absurd h2 (by decide)
 ·obtain ⟨D, hD, hg⟩ := hd.arm
  exact ⟨D, map_keep hD (map_others h hbb hD), hg⟩
theorem log_others {w w' : World} {l b bb : Nat} {F : Foot} {G : Nat → Prop} {g : Lg} {lv : Value} {c : Array Value} {fr : Nat × Nat} (h : Lib.OthersKept 5 (some bb) w w') (hbb : w.heap[bb]? = some (.cells c 163 fr)) (hs : w.heap.size ≤ w'.heap.size) (hd : LogMem w l b F G g lv) : LogMem w' l b F G g lv := by
 refine ⟨?_, row_others h hbb (by decide) (by decide) hd.row, hd.rown, hd.lown, hd.gout, fun k hk => Nat.lt_of_lt_of_le (hd.glt k hk) hs, hd.ok⟩
 refine (others_same h hd.blk (fun e => ?_) (fun c fz e => ?_)).trans hd.blk
 ·have hb := hd.blk
  rw [e, hbb] at hb
  injection hb with hb
  injection hb with _ h2 _
  exact absurd h2 (by decide)
 ·injection e with _ h2 _
  exact absurd h2 (by decide)
theorem bld_keep {B bb : Nat} {s : List UInt8} {w w' : World} (h : BldF B bb s w) (hk : ∀ k, B ≤ k → k < w.heap.size → w'.heap[k]? = w.heap[k]?) : BldF B bb s w' := by
 have one : ∀ p, Lib.BuilderAtF 163 5 B bb p (Lib.byteCells s) w → Lib.BuilderAtF 163 5 B bb p (Lib.byteCells s) w' := by
  rintro p ⟨hB, v, hb, hown, hne⟩
  refine ⟨hB, v, (hk bb hB (lt_of_block hb)).trans hb, ⟨hown.1, ?_⟩, hne⟩
  rcases hown.2 with h1 | ⟨g, cap, cur, fz, rfl, h1, h2, h3⟩
  ·exact .inl h1
  ·exact .inr ⟨g, cap, cur, fz, rfl, h1, (hk g h1 (lt_of_block h2)).trans h2, h3⟩
 exact h.imp (one _) (one _)
theorem bld_block {B bb : Nat} {s : List UInt8} {w : World} (h : BldF B bb s w) : ∃ c, w.heap[bb]? = some (.cells c 163 (0, 0)) := by
 rcases h with ⟨_, v, hb, _⟩ | ⟨_, v, hb, _⟩ <;> exact ⟨_, hb⟩
theorem string_k (B b : Nat) (s : List UInt8) (w : World) (h : BldF B b s w) (hBw : B ≤ w.heap.size) :
  Calls Tryz.prog 90 #[.pointer (some ⟨b, 0, none⟩)] w fun e w' => e = .returned (.string (bs s)) ∧ Below B w w' ∧ Lib.OthersKept 5 (some b) w w' :=
 (Tryz.Builder_String_any_k B b s w h hBw).mono fun _ _ ⟨he, _, hb, ho⟩ => ⟨he, hb, ho⟩
theorem box_read {W W2 : World} {p q l : Nat} {c : Array Value} {fr : Nat × Nat} (cp : W.heap[p]? = some (.cells #[.pointer (some ⟨l, 0, none⟩)] 77 (0, 0))) (hbb : W.heap[q]? = some (.cells c 163 fr)) (h2 : Lib.OthersKept 5 (some q) W.drew W2) :
  W2.heap[p]? = some (.cells #[.pointer (some ⟨l, 0, none⟩)] 77 (0, 0)) := by
 refine h2 p _ cp (fun e => ?_) (fun c fz e => ?_)
 ·rw [Option.some.inj e, hbb] at cp
  injection cp with cp
  injection cp with _ h2 _
  exact absurd h2 (by decide)
 ·injection e with _ h2 _
  exact absurd h2 (by decide)
section
variable {w w' : World} {l b : Nat} {F F' : Foot} {G : Nat → Prop} {g : Lg} {d d' : Dsk} {lv : Value}
def withBld (w : World) (G : Nat → Prop) (B bb : Nat) : Nat → Prop := fun k => G k ∨ (k < w.heap.size ∧ WS 5 B bb w k)
theorem did_read {W W2 : World} {F1 : Foot} {G1 : Nat → Prop} {B bb : Nat} (h : LgAt W l b F1 G1 g d) (hs : LgStep F F1 G G1 w W) (hbb : ∃ c fr, W.heap[bb]? = some (.cells c 163 fr)) (hb : Below B W W2) (ho : Lib.OthersKept 5 (some bb) W W2) :
  LgAt W2 l b F1 G1 g d ∧ LgStep F F1 (withBld w G B bb) G1 w W2 := by
 obtain ⟨c, fr, hbb⟩ := hbb
 obtain ⟨lv, h1⟩ := h.log
 refine ⟨⟨disk_others ho hbb hb.size h.disk, lv, log_others ho hbb hb.size h1⟩, ⟨hb.os.trans hs.frm.os, hb.tape.trans hs.frm.tape, hb.output.trans hs.frm.output, Nat.le_trans hs.frm.size hb.size, fun k hk hn => ?_⟩, hs.own, hs.sh, fun k hk => (hs.gr k hk).imp .inl id⟩
 have e1 := hs.frm.block k hk (fun e => hn (e.imp id .inl))
 rw [← e1]
 by_cases hkB : k < B
 ·exact hb.block k hkB
 ·have hnw : ¬ WS 5 B bb w k := fun e => hn (.inr (.inr ⟨hk, e⟩))
  obtain ⟨o, ho2⟩ : ∃ o, w.heap[k]? = some o := ⟨_, Array.getElem?_eq_getElem hk⟩
  refine others_same ho (e1.trans ho2) (fun e => hnw ⟨by omega, .inl e⟩) (fun c fz e => hnw ⟨by omega, .inr ⟨c, fz, ?_⟩⟩)
  rw [ho2, e]
set_option maxHeartbeats 1000000 in
set_option maxRecDepth 20000 in
theorem lappend1_any {W : World} {F1 : Foot} {G1 : Nat → Prop} (h : LgAt W l b F1 G1 g d) (hst : LgStep F F1 G G1 w W) (hs : d.Small 1099511527776) (p B q : Nat) (s : List UInt8) (hsl : s.length ≤ 1099511627776)
  (cp : W.heap[p]? = some (.cells #[.pointer (some ⟨l, 0, none⟩)] 77 (0, 0))) (hpo : ¬ F1.own p) (hB : BldF B q s W) (hBw : B ≤ W.heap.size) :
  Calls Tryz.prog 110 #[.pointer (some ⟨p, 0, none⟩), .pointer (some ⟨q, 0, none⟩)] W fun e w' => e = .returned (.int .i64 (lwriteM s g d).1) ∧ LgDid w l b F (withBld w G B q) (lwriteM s g d).2.1 (lwriteM s g d).2.2 w' := by
 obtain ⟨c, hbb⟩ := bld_block hB
 have S := string_k B q s W.drew (bld_keep hB fun _ _ _ => rfl) hBw
 obtain ⟨lv, hl⟩ := h.log
 have hm := hl.ok.many
 obtain ⟨ao, cap, rfl, -⟩ := hl.slice
 have c0 := hl.cell 0
 have c5 := hl.cell 5
 simp only [logCells, List.getElem?_cons_succ, List.getElem?_cons_zero] at c0 c5
 obtain ⟨z, hz⟩ : ∃ z, z = g.list.length := ⟨_, rfl⟩
 have WR : ∀ W2, Below B W.drew W2 → Lib.OthersKept 5 (some q) W.drew W2 → Calls Tryz.prog 7 #[.pointer (some ⟨b, 0, none⟩), .int .i64 1, .int .i64 (1 + 9 * (z : Int)), .string (bs s)] W2 fun e w' => e = .returned (.int .i64 (writeM d 1 (1 + 9 * g.list.length) s).1) ∧ LgDid w l b F (withBld w G B q) g (writeM d 1 (1 + 9 * g.list.length) s).2 w' ∧ w'.cell? ⟨p, 0, none⟩ = some (.pointer (some ⟨l, 0, none⟩)) ∧ w'.cell? ⟨l, 0, none⟩ = some (.pointer (some ⟨b, 0, none⟩)) ∧ w'.cell? ⟨l, 5, none⟩ = some (.slice ao z cap) := fun W2 h1 h2 => by
  obtain ⟨h3, h4⟩ := did_read (W2 := W2) (B := B) h hst ⟨c, _, hbb⟩ ⟨h1.os, h1.tape, h1.output, h1.size, h1.block⟩ h2
  have h5 := log_others (w := W.drew) (w' := W2) h2 hbb h1.size (hl.keep (fun _ _ => rfl) (Nat.le_refl _) (fun _ _ => ⟨id, id⟩))
  rw [hz]
  refine (write_any h3.disk 1 (1 + 9 * g.list.length) s hs hsl).mono ?_
  rintro e w3 ⟨rfl, hd3⟩
  refine ⟨rfl, did_then h4 (h3.did hd3), ?_⟩
  obtain ⟨F3, -, s3⟩ := hd3
  have h6 := h5.disk s3
  refine ⟨?_, h6.cell 0, h6.cell 5⟩
  have c2 := box_read cp hbb h2
  rw [cell_of_block ((s3.frm.block p (lt_of_block c2) hpo).trans c2)]
  rfl
 have HS := fun W2 (h1 : Below B W.drew W2) (h2 : Lib.OthersKept 5 (some q) W.drew W2) => (show W2.cell? ⟨p, 0, none⟩ = some (.pointer (some ⟨l, 0, none⟩)) ∧ W2.cell? ⟨l, 0, none⟩ = some (.pointer (some ⟨b, 0, none⟩)) ∧ W2.cell? ⟨l, 5, none⟩ = some (.slice ao g.list.length cap) by
  obtain ⟨h3, h4⟩ := did_read (W2 := W2) (B := B) h hst ⟨c, _, hbb⟩ ⟨h1.os, h1.tape, h1.output, h1.size, h1.block⟩ h2
  have h5 := log_others (w := W.drew) (w' := W2) h2 hbb h1.size (hl.keep (fun _ _ => rfl) (Nat.le_refl _) (fun _ _ => ⟨id, id⟩))
  refine ⟨?_, h5.cell 0, h5.cell 5⟩
  rw [cell_of_block (box_read cp hbb h2)]
  rfl)
 have p0 := cell_of_block cp 0
 simp only [List.getElem?_toArray, List.getElem?_cons_zero] at p0
 unfold lwriteM
 rw [← hz] at c5 hm
 simp only [← hz] at HS
 obtain ⟨x, hx⟩ : ∃ x, x = writeM d 1 (1 + 9 * g.list.length) s := ⟨_, rfl⟩
 rw [← hx] at WR ⊢
 obtain ⟨e, d1⟩ := x
 simp only at WR ⊢
 have WR := hid WR
 have HS := hid HS
 have S := hid S
 have h7 : IntKind.i64.wrap (9 * (z : Int)) = 9 * (z : Int) := IntWalk.i64_in _ (by omega)
 have h8 : IntKind.i64.wrap (1 + 9 * (z : Int)) = 1 + 9 * (z : Int) := IntWalk.i64_in _ (by omega)
 clear hx hz hm hl h hst hs hsl cp hB hBw hbb
 go_enter Tryz.func110, Tryz.ntmps110
 go_upto_region 1 with fail
 refine wp_region_held_drew (S := fun W => W.cell? ⟨p, 0, none⟩ = some (.pointer (some ⟨l, 0, none⟩)) ∧ W.cell? ⟨l, 0, none⟩ = some (.pointer (some ⟨b, 0, none⟩)) ∧ W.cell? ⟨l, 5, none⟩ = some (.slice ao z cap)) (by kernel_rfl) ⟨p0, c0, c5⟩ (fun hHeld => ?_)
 clear c0 c5 p0
 refine held_take (v := ?pv0) 0 rfl (by kernel_rfl) (by kernel_rfl) (by kernel_rfl) (fun _ _ _ h => h) (by rfl) hHeld ?py0 ?pr0
 case py0 => (intro W hSw; obtain ⟨y0, y1, y2⟩ := hSw; go_simp; with_reducible rfl)
 simp only [Act.put, List.setIfInBounds_toArray, List.set_cons_zero, List.set_cons_succ]
 refine held_take (v := ?pv1) 1 rfl (by kernel_rfl) (by kernel_rfl) (by kernel_rfl) (fun _ _ _ h => h) (by rfl) hHeld ?py1 ?pr1
 case py1 => (intro W hSw; obtain ⟨y0, y1, y2⟩ := hSw; go_simp; with_reducible rfl)
 simp only [Act.put, List.setIfInBounds_toArray, List.set_cons_zero, List.set_cons_succ]
 refine held_take (v := ?pv2) 2 rfl (by kernel_rfl) (by kernel_rfl) (by kernel_rfl) (fun _ _ _ h => h) (by rfl) hHeld ?py2 ?pr2
 case py2 => (intro W hSw; obtain ⟨y0, y1, y2⟩ := hSw; go_simp; with_reducible rfl)
 simp only [Act.put, List.setIfInBounds_toArray, List.set_cons_zero, List.set_cons_succ]
 refine held_take (v := ?pv3) 3 rfl (by kernel_rfl) (by kernel_rfl) (by kernel_rfl) (fun _ _ _ h => h) (by rfl) hHeld ?py3 ?pr3
 case py3 => (intro W hSw; obtain ⟨y0, y1, y2⟩ := hSw; go_simp; with_reducible rfl)
 simp only [Act.put, List.setIfInBounds_toArray, List.set_cons_zero, List.set_cons_succ]
 refine held_take (v := ?pv4) 4 rfl (by kernel_rfl) (by kernel_rfl) (by kernel_rfl) (fun _ _ _ h => h) (by rfl) hHeld ?py4 ?pr4
 case py4 => (intro W hSw; obtain ⟨y0, y1, y2⟩ := hSw; go_simp; with_reducible rfl)
 simp only [Act.put, List.setIfInBounds_toArray, List.set_cons_zero, List.set_cons_succ]
 refine held_take (v := ?pv5) 5 rfl (by kernel_rfl) (by kernel_rfl) (by kernel_rfl) (fun _ _ _ h => h) (by rfl) hHeld ?py5 ?pr5
 case py5 => (intro W hSw; obtain ⟨y0, y1, y2⟩ := hSw; go_simp; with_reducible rfl)
 simp only [Act.put, List.setIfInBounds_toArray, List.set_cons_zero, List.set_cons_succ]
 refine held_take (v := ?pv6) 6 rfl (by kernel_rfl) (by kernel_rfl) (by kernel_rfl) (fun _ _ _ h => h) (by rfl) hHeld ?py6 ?pr6
 case py6 => (intro W hSw; obtain ⟨y0, y1, y2⟩ := hSw; go_simp; with_reducible rfl)
 simp only [Act.put, List.setIfInBounds_toArray, List.set_cons_zero, List.set_cons_succ]
 refine held_take (v := ?pv7) 7 rfl (by kernel_rfl) (by kernel_rfl) (by kernel_rfl) (fun _ _ _ h => h) (by rfl) hHeld ?py7 ?pr7
 case py7 => (intro W hSw; obtain ⟨y0, y1, y2⟩ := hSw; go_simp; with_reducible rfl)
 simp only [Act.put, List.setIfInBounds_toArray, List.set_cons_zero, List.set_cons_succ]
 refine held_take (v := ?pv8) 8 rfl (by kernel_rfl) (by kernel_rfl) (by kernel_rfl) (fun _ _ _ h => h) (by rfl) hHeld ?py8 ?pr8
 case py8 => (intro W hSw; obtain ⟨y0, y1, y2⟩ := hSw; go_simp; with_reducible rfl)
 simp only [Act.put, List.setIfInBounds_toArray, List.set_cons_zero, List.set_cons_succ]
 refine held_take (v := ?pv9) 9 rfl (by kernel_rfl) (by kernel_rfl) (by kernel_rfl) (fun _ _ _ h => h) (by rfl) hHeld ?py9 ?pr9
 case py9 => (intro W hSw; obtain ⟨y0, y1, y2⟩ := hSw; go_simp; with_reducible rfl)
 simp only [Act.put, List.setIfInBounds_toArray, List.set_cons_zero, List.set_cons_succ]
 refine held_take (v := ?pv10) 10 rfl (by kernel_rfl) (by kernel_rfl) (by kernel_rfl) (fun _ _ _ h => h) (by rfl) hHeld ?py10 ?pr10
 case py10 => (intro W hSw; obtain ⟨y0, y1, y2⟩ := hSw; go_simp; with_reducible rfl)
 simp only [Act.put, List.setIfInBounds_toArray, List.set_cons_zero, List.set_cons_succ]
 refine held_one 11 (by kernel_rfl) rfl (fun K hK => ?_)
 go_simp
 refine (S.out).mono ?_
 rintro e1 w1 ⟨rfl, hb1, ho1⟩
 try dsimp only
 refine hK.out _ _ (HS.out w1 hb1 ho1) (fun hHeld => ?_)
 clear hK K
 try simp only [Act.put, List.setIfInBounds_toArray, List.set_cons_zero, List.set_cons_succ]
 refine held_one 12 (by kernel_rfl) rfl (fun K hK => ?_)
 go_simp
 refine (WR.out w1 hb1 ho1).mono ?_
 rintro e1 w2 ⟨rfl, hd2, c1, c2, c3⟩
 clear hb1 ho1 WR HS S
 have D := hid hd2
 clear hd2
 try dsimp only
 refine hK.out _ _ (⟨c1, c2, c3⟩) (fun hHeld => ?_)
 clear hK K
 try simp only [Act.put, List.setIfInBounds_toArray, List.set_cons_zero, List.set_cons_succ]
 clear c1 c2 c3
 refine held_take (v := ?qv13) 13 rfl (by kernel_rfl) (by kernel_rfl) (by kernel_rfl) (fun _ _ _ h => h) (by rfl) hHeld ?qy13 ?qr13
 case qy13 => (intro W hSw; obtain ⟨y0, y1, y2⟩ := hSw; go_simp; with_reducible rfl)
 simp only [Act.put, List.setIfInBounds_toArray, List.set_cons_zero, List.set_cons_succ]
 refine wpAnyH_done (by kernel_rfl) ?_ _
 go_wp2_with fail
 go_ret
 exact ⟨rfl, D.out⟩
theorem did_undrew {w w' : World} (h : Did w.drew b F d' w') : Did w b F d' w' := by
 obtain ⟨F1, h1, h2⟩ := h
 exact ⟨F1, h1, ⟨h2.frm.os, h2.frm.tape, h2.frm.output, h2.frm.size, h2.frm.block⟩, h2.own, h2.sh⟩
set_option maxHeartbeats 1000000 in
set_option maxRecDepth 20000 in
theorem lcheck1_any (h : LgAt w l b F G g d) (hs : d.Small 1099511527776) (p q r : Nat) (n : Int) (s : List UInt8) (hsl : s.length ≤ 1099511627776) (hn : 1 ≤ n ∧ n ≤ 256)
  (cp : w.heap[p]? = some (.cells #[.pointer (some ⟨l, 0, none⟩)] 77 (0, 0))) (cq : w.heap[q]? = some (.cells #[.int .i64 n] 3 (0, 0))) (cr : w.heap[r]? = some (.cells #[.string (bs s)] 9 (0, 0))) (hpo : ∀ k, k = p ∨ k = q ∨ k = r → ¬ F.own k) :
  Calls Tryz.prog 101 #[.pointer (some ⟨p, 0, none⟩), .pointer (some ⟨q, 0, none⟩), .pointer (some ⟨r, 0, none⟩)] w fun e w' => e = .returned (.int .i64 (lpageM n s g d).1) ∧ LgDid w l b F G (lpageM n s g d).2.1 (lpageM n s g d).2.2 w' := by
 obtain ⟨lv, hl⟩ := h.log
 have c0 := hl.cell 0
 simp only [logCells, List.getElem?_cons_succ, List.getElem?_cons_zero] at c0
 have p0 := cell_of_block cp 0
 have q0 := cell_of_block cq 0
 have r0 := cell_of_block cr 0
 simp only [List.getElem?_toArray, List.getElem?_cons_zero] at p0 q0 r0
 have hd' : DiskAt w.drew b F d := h.disk.below ⟨rfl, rfl, rfl, Nat.le_refl _, fun _ _ => rfl⟩
 have WR : Calls Tryz.prog 7 #[.pointer (some ⟨b, 0, none⟩), .int .i64 0, .int .i64 (8 * (n - 1)), .string (bs s)] w.drew fun e w' => e = .returned (.int .i64 (writeM d 0 (8 * (n - 1)) s).1) ∧ LgDid w l b F G g (writeM d 0 (8 * (n - 1)) s).2 w' ∧ w'.cell? ⟨p, 0, none⟩ = some (.pointer (some ⟨l, 0, none⟩)) ∧ w'.cell? ⟨l, 0, none⟩ = some (.pointer (some ⟨b, 0, none⟩)) ∧ w'.cell? ⟨q, 0, none⟩ = some (.int .i64 n) ∧ w'.cell? ⟨r, 0, none⟩ = some (.string (bs s)) := by
  refine (write_any hd' 0 (8 * (n - 1)) s hs hsl).mono ?_
  rintro e w3 ⟨rfl, hd3⟩
  have hd4 := did_undrew hd3
  refine ⟨rfl, h.did hd4, ?_⟩
  obtain ⟨F3, -, s3⟩ := hd4
  refine ⟨?_, (hl.disk s3).cell 0, ?_, ?_⟩
  ·rw [cell_of_block ((s3.frm.block p (lt_of_block cp) (hpo p (.inl rfl))).trans cp)]
   rfl
  ·rw [cell_of_block ((s3.frm.block q (lt_of_block cq) (hpo q (.inr (.inl rfl)))).trans cq)]
   rfl
  ·rw [cell_of_block ((s3.frm.block r (lt_of_block cr) (hpo r (.inr (.inr rfl)))).trans cr)]
   rfl
 unfold lpageM
 obtain ⟨x, hx⟩ : ∃ x, x = writeM d 0 (8 * (n - 1)) s := ⟨_, rfl⟩
 rw [← hx] at WR ⊢
 obtain ⟨e, d1⟩ := x
 simp only at WR ⊢
 have WR := hid WR
 have h7 : IntKind.i64.wrap (n - 1) = n - 1 := IntWalk.i64_in _ (by omega)
 have h8 : IntKind.i64.wrap (8 * (n - 1)) = 8 * (n - 1) := IntWalk.i64_in _ (by omega)
 clear hx hl h hd' hs hsl cp cq cr hpo hn
 go_enter Tryz.func101, Tryz.ntmps101
 go_upto_region 1 with fail
 refine wp_region_held_drew (S := fun W => W.cell? ⟨p, 0, none⟩ = some (.pointer (some ⟨l, 0, none⟩)) ∧ W.cell? ⟨l, 0, none⟩ = some (.pointer (some ⟨b, 0, none⟩)) ∧ W.cell? ⟨q, 0, none⟩ = some (.int .i64 n) ∧ W.cell? ⟨r, 0, none⟩ = some (.string (bs s))) (by kernel_rfl) ⟨p0, c0, q0, r0⟩ (fun hHeld => ?_)
 clear c0 p0 q0 r0
 refine held_take (v := ?pv0) 0 rfl (by kernel_rfl) (by kernel_rfl) (by kernel_rfl) (fun _ _ _ h => h) (by rfl) hHeld ?py0 ?pr0
 case py0 => (intro W hSw; obtain ⟨y0, y1, y2, y3⟩ := hSw; go_simp; with_reducible rfl)
 simp only [Act.put, List.setIfInBounds_toArray, List.set_cons_zero, List.set_cons_succ]
 refine held_take (v := ?pv1) 1 rfl (by kernel_rfl) (by kernel_rfl) (by kernel_rfl) (fun _ _ _ h => h) (by rfl) hHeld ?py1 ?pr1
 case py1 => (intro W hSw; obtain ⟨y0, y1, y2, y3⟩ := hSw; go_simp; with_reducible rfl)
 simp only [Act.put, List.setIfInBounds_toArray, List.set_cons_zero, List.set_cons_succ]
 refine held_take (v := ?pv2) 2 rfl (by kernel_rfl) (by kernel_rfl) (by kernel_rfl) (fun _ _ _ h => h) (by rfl) hHeld ?py2 ?pr2
 case py2 => (intro W hSw; obtain ⟨y0, y1, y2, y3⟩ := hSw; go_simp; with_reducible rfl)
 simp only [Act.put, List.setIfInBounds_toArray, List.set_cons_zero, List.set_cons_succ]
 refine held_take (v := ?pv3) 3 rfl (by kernel_rfl) (by kernel_rfl) (by kernel_rfl) (fun _ _ _ h => h) (by rfl) hHeld ?py3 ?pr3
 case py3 => (intro W hSw; obtain ⟨y0, y1, y2, y3⟩ := hSw; go_simp; with_reducible rfl)
 simp only [Act.put, List.setIfInBounds_toArray, List.set_cons_zero, List.set_cons_succ]
 refine held_take (v := ?pv4) 4 rfl (by kernel_rfl) (by kernel_rfl) (by kernel_rfl) (fun _ _ _ h => h) (by rfl) hHeld ?py4 ?pr4
 case py4 => (intro W hSw; obtain ⟨y0, y1, y2, y3⟩ := hSw; go_simp; with_reducible rfl)
 simp only [Act.put, List.setIfInBounds_toArray, List.set_cons_zero, List.set_cons_succ]
 refine held_take (v := ?pv5) 5 rfl (by kernel_rfl) (by kernel_rfl) (by kernel_rfl) (fun _ _ _ h => h) (by rfl) hHeld ?py5 ?pr5
 case py5 => (intro W hSw; obtain ⟨y0, y1, y2, y3⟩ := hSw; go_simp; with_reducible rfl)
 simp only [Act.put, List.setIfInBounds_toArray, List.set_cons_zero, List.set_cons_succ]
 refine held_take (v := ?pv6) 6 rfl (by kernel_rfl) (by kernel_rfl) (by kernel_rfl) (fun _ _ _ h => h) (by rfl) hHeld ?py6 ?pr6
 case py6 => (intro W hSw; obtain ⟨y0, y1, y2, y3⟩ := hSw; go_simp; with_reducible rfl)
 simp only [Act.put, List.setIfInBounds_toArray, List.set_cons_zero, List.set_cons_succ]
 refine held_take (v := ?pv7) 7 rfl (by kernel_rfl) (by kernel_rfl) (by kernel_rfl) (fun _ _ _ h => h) (by rfl) hHeld ?py7 ?pr7
 case py7 => (intro W hSw; obtain ⟨y0, y1, y2, y3⟩ := hSw; go_simp; with_reducible rfl)
 simp only [Act.put, List.setIfInBounds_toArray, List.set_cons_zero, List.set_cons_succ]
 refine held_one 8 (by kernel_rfl) rfl (fun K hK => ?_)
 go_simp
 refine (WR.out).mono ?_
 rintro e1 w2 ⟨rfl, hd2, c1, c2, c3, c4⟩
 have D := hid hd2
 clear hd2 WR
 try dsimp only
 refine hK.out _ _ (⟨c1, c2, c3, c4⟩) (fun hHeld => ?_)
 clear hK K
 try simp only [Act.put, List.setIfInBounds_toArray, List.set_cons_zero, List.set_cons_succ]
 clear c1 c2 c3 c4
 refine held_take (v := ?qv9) 9 rfl (by kernel_rfl) (by kernel_rfl) (by kernel_rfl) (fun _ _ _ h => h) (by rfl) hHeld ?qy9 ?qr9
 case qy9 => (intro W hSw; obtain ⟨y0, y1, y2, y3⟩ := hSw; go_simp; with_reducible rfl)
 simp only [Act.put, List.setIfInBounds_toArray, List.set_cons_zero, List.set_cons_succ]
 refine wpAnyH_done (by kernel_rfl) ?_ _
 go_wp2_with fail
 go_ret
 exact ⟨rfl, D.out⟩
set_option maxHeartbeats 1000000 in
set_option maxRecDepth 20000 in
theorem lcheck2_any (h : LgAt w l b F G g d) (hs : d.Small 1099511527776) (p q : Nat) (hd : Hd) (hn : 0 ≤ hd.pages ∧ hd.pages ≤ 256)
  (cp : w.heap[p]? = some (.cells #[.pointer (some ⟨l, 0, none⟩)] 77 (0, 0))) (cq : w.heap[q]? = some (.cells #[.int .u64 hd.number, .int .i64 hd.frames, .int .i64 hd.pages] 104 (0, 0))) (hpo : ∀ k, k = p ∨ k = q → ¬ F.own k) :
  Calls Tryz.prog 102 #[.pointer (some ⟨p, 0, none⟩), .pointer (some ⟨q, 0, none⟩)] w fun e w' => e = .returned (.int .i64 (lcutM hd.pages g d).1) ∧ LgDid w l b F G (lcutM hd.pages g d).2.1 (lcutM hd.pages g d).2.2 w' := by
 obtain ⟨lv, hl⟩ := h.log
 have c0 := hl.cell 0
 simp only [logCells, List.getElem?_cons_succ, List.getElem?_cons_zero] at c0
 have p0 := cell_of_block cp 0
 have q2 := cell_of_block cq 2
 simp only [List.getElem?_toArray, List.getElem?_cons_succ, List.getElem?_cons_zero] at p0 q2
 obtain ⟨n, hnn⟩ : ∃ n, n = hd.pages := ⟨_, rfl⟩
 rw [← hnn] at q2 hn ⊢
 have hd1 : DiskAt w.drew b F d := h.disk.below ⟨rfl, rfl, rfl, Nat.le_refl _, fun _ _ => rfl⟩
 have SZ := size_any hd1 0
 rw [if_pos (by omega)] at SZ
 have hd2 : DiskAt w.drew.drew b F d := h.disk.below ⟨rfl, rfl, rfl, Nat.le_refl _, fun _ _ => rfl⟩
 have WR : Calls Tryz.prog 103 #[.pointer (some ⟨b, 0, none⟩), .int .i64 0, .int .i64 (8 * n)] w.drew.drew fun e w' => e = .returned (.int .i64 (cutM d 0 (8 * n)).1) ∧ LgDid w l b F G g (cutM d 0 (8 * n)).2 w' ∧ w'.cell? ⟨p, 0, none⟩ = some (.pointer (some ⟨l, 0, none⟩)) ∧ w'.cell? ⟨l, 0, none⟩ = some (.pointer (some ⟨b, 0, none⟩)) ∧ w'.cell? ⟨q, 2, none⟩ = some (.int .i64 n) := by
  refine (cut_any hd2 0 (8 * n) (hs.mono (by omega))).mono ?_
  rintro e w3 ⟨rfl, hd3⟩
  have hd4 := did_undrew (did_undrew hd3)
  refine ⟨rfl, h.did hd4, ?_⟩
  obtain ⟨F3, -, s3⟩ := hd4
  refine ⟨?_, (hl.disk s3).cell 0, ?_⟩
  ·rw [cell_of_block ((s3.frm.block p (lt_of_block cp) (hpo p (.inl rfl))).trans cp)]
   rfl
  ·rw [cell_of_block ((s3.frm.block q (lt_of_block cq) (hpo q (.inr rfl))).trans cq)]
   simp [← hnn]
 obtain ⟨z, hz⟩ : ∃ z : Int, z = ((d.now 0).length : Int) := ⟨_, rfl⟩
 have hz2 : ((d.now (0 : Int).toNat).length : Int) = z := by rw [hz]; rfl
 rw [hz2] at SZ
 unfold lcutM
 rw [← hz]
 obtain ⟨x, hx⟩ : ∃ x, x = cutM d 0 (8 * n) := ⟨_, rfl⟩
 rw [← hx] at WR ⊢
 obtain ⟨e, d1⟩ := x
 simp only at WR ⊢
 have WR := hid WR
 have SZ := hid SZ
 have H := hid (show LgDid w l b F G g d w.drew from did_drew (LgDid.same h))
 have h8 : IntKind.i64.wrap (8 * n) = 8 * n := IntWalk.i64_in _ (by omega)
 clear hx hl h hd1 hd2 hs cp cq hpo hn hz hz2 hnn
 by_cases hlt : 8 * n < z
 ·have hlt' : decide (8 * n < z) = true := by simpa using hlt
  rw [if_pos hlt]
  clear hlt
  go_enter Tryz.func102, Tryz.ntmps102
  go_upto_region 1 with fail
  refine wp_region_held_drew (S := fun W => W.cell? ⟨p, 0, none⟩ = some (.pointer (some ⟨l, 0, none⟩)) ∧ W.cell? ⟨l, 0, none⟩ = some (.pointer (some ⟨b, 0, none⟩)) ∧ W.cell? ⟨q, 2, none⟩ = some (.int .i64 n)) (by kernel_rfl) ⟨p0, c0, q2⟩ (fun hHeld => ?_)
  refine held_take (v := ?pv0) 0 rfl (by kernel_rfl) (by kernel_rfl) (by kernel_rfl) (fun _ _ _ h => h) (by rfl) hHeld ?py0 ?pr0
  case py0 => (intro W hSw; obtain ⟨y0, y1, y2⟩ := hSw; go_simp; with_reducible rfl)
  simp only [Act.put, List.setIfInBounds_toArray, List.set_cons_zero, List.set_cons_succ]
  refine held_take (v := ?pv1) 1 rfl (by kernel_rfl) (by kernel_rfl) (by kernel_rfl) (fun _ _ _ h => h) (by rfl) hHeld ?py1 ?pr1
  case py1 => (intro W hSw; obtain ⟨y0, y1, y2⟩ := hSw; go_simp; with_reducible rfl)
  simp only [Act.put, List.setIfInBounds_toArray, List.set_cons_zero, List.set_cons_succ]
  refine held_take (v := ?pv2) 2 rfl (by kernel_rfl) (by kernel_rfl) (by kernel_rfl) (fun _ _ _ h => h) (by rfl) hHeld ?py2 ?pr2
  case py2 => (intro W hSw; obtain ⟨y0, y1, y2⟩ := hSw; go_simp; with_reducible rfl)
  simp only [Act.put, List.setIfInBounds_toArray, List.set_cons_zero, List.set_cons_succ]
  refine held_take (v := ?pv3) 3 rfl (by kernel_rfl) (by kernel_rfl) (by kernel_rfl) (fun _ _ _ h => h) (by rfl) hHeld ?py3 ?pr3
  case py3 => (intro W hSw; obtain ⟨y0, y1, y2⟩ := hSw; go_simp; with_reducible rfl)
  simp only [Act.put, List.setIfInBounds_toArray, List.set_cons_zero, List.set_cons_succ]
  refine held_take (v := ?pv5) 5 rfl (by kernel_rfl) (by kernel_rfl) (by kernel_rfl) (fun _ _ _ h => h) (by rfl) hHeld ?py5 ?pr5
  case py5 => (intro W hSw; obtain ⟨y0, y1, y2⟩ := hSw; go_simp; with_reducible rfl)
  simp only [Act.put, List.setIfInBounds_toArray, List.set_cons_zero, List.set_cons_succ]
  refine held_take (v := ?pv6) 6 rfl (by kernel_rfl) (by kernel_rfl) (by kernel_rfl) (fun _ _ _ h => h) (by rfl) hHeld ?py6 ?pr6
  case py6 => (intro W hSw; obtain ⟨y0, y1, y2⟩ := hSw; go_simp; with_reducible rfl)
  simp only [Act.put, List.setIfInBounds_toArray, List.set_cons_zero, List.set_cons_succ]
  refine held_take (v := ?pv7) 7 rfl (by kernel_rfl) (by kernel_rfl) (by kernel_rfl) (fun _ _ _ h => h) (by rfl) hHeld ?py7 ?pr7
  case py7 => (intro W hSw; obtain ⟨y0, y1, y2⟩ := hSw; go_simp; with_reducible rfl)
  simp only [Act.put, List.setIfInBounds_toArray, List.set_cons_zero, List.set_cons_succ]
  refine held_one 4 (by kernel_rfl) rfl (fun K hK => ?_)
  go_simp
  refine (SZ.out).mono ?_
  rintro e1 w2 ⟨rfl, rfl⟩
  try dsimp only
  refine hK.out _ _ (⟨p0, c0, q2⟩) (fun hHeld => ?_)
  clear hK K
  try simp only [Act.put, List.setIfInBounds_toArray, List.set_cons_zero, List.set_cons_succ]
  refine held_take (v := ?qv8) 8 rfl (by kernel_rfl) (by kernel_rfl) (by kernel_rfl) (fun _ _ _ h => h) (by rfl) hHeld ?qy8 ?qr8
  case qy8 => (intro W hSw; obtain ⟨y0, y1, y2⟩ := hSw; go_simp; with_reducible rfl)
  simp only [Act.put, List.setIfInBounds_toArray, List.set_cons_zero, List.set_cons_succ]
  refine wpAnyH_done (by kernel_rfl) ?_ _
  go_upto_region 2 with fail
  refine wp_region_held_drew (S := fun W => W.cell? ⟨p, 0, none⟩ = some (.pointer (some ⟨l, 0, none⟩)) ∧ W.cell? ⟨l, 0, none⟩ = some (.pointer (some ⟨b, 0, none⟩)) ∧ W.cell? ⟨q, 2, none⟩ = some (.int .i64 n)) (by kernel_rfl) ⟨p0, c0, q2⟩ (fun hHeld => ?_)
  clear c0 p0 q2
  refine held_take (v := ?rv0) 0 rfl (by kernel_rfl) (by kernel_rfl) (by kernel_rfl) (fun _ _ _ h => h) (by rfl) hHeld ?ry0 ?rr0
  case ry0 => (intro W hSw; obtain ⟨y0, y1, y2⟩ := hSw; go_simp; with_reducible rfl)
  simp only [Act.put, List.setIfInBounds_toArray, List.set_cons_zero, List.set_cons_succ]
  refine held_take (v := ?rv1) 1 rfl (by kernel_rfl) (by kernel_rfl) (by kernel_rfl) (fun _ _ _ h => h) (by rfl) hHeld ?ry1 ?rr1
  case ry1 => (intro W hSw; obtain ⟨y0, y1, y2⟩ := hSw; go_simp; with_reducible rfl)
  simp only [Act.put, List.setIfInBounds_toArray, List.set_cons_zero, List.set_cons_succ]
  refine held_take (v := ?rv2) 2 rfl (by kernel_rfl) (by kernel_rfl) (by kernel_rfl) (fun _ _ _ h => h) (by rfl) hHeld ?ry2 ?rr2
  case ry2 => (intro W hSw; obtain ⟨y0, y1, y2⟩ := hSw; go_simp; with_reducible rfl)
  simp only [Act.put, List.setIfInBounds_toArray, List.set_cons_zero, List.set_cons_succ]
  refine held_take (v := ?rv3) 3 rfl (by kernel_rfl) (by kernel_rfl) (by kernel_rfl) (fun _ _ _ h => h) (by rfl) hHeld ?ry3 ?rr3
  case ry3 => (intro W hSw; obtain ⟨y0, y1, y2⟩ := hSw; go_simp; with_reducible rfl)
  simp only [Act.put, List.setIfInBounds_toArray, List.set_cons_zero, List.set_cons_succ]
  refine held_take (v := ?rv4) 4 rfl (by kernel_rfl) (by kernel_rfl) (by kernel_rfl) (fun _ _ _ h => h) (by rfl) hHeld ?ry4 ?rr4
  case ry4 => (intro W hSw; obtain ⟨y0, y1, y2⟩ := hSw; go_simp; with_reducible rfl)
  simp only [Act.put, List.setIfInBounds_toArray, List.set_cons_zero, List.set_cons_succ]
  refine held_take (v := ?rv5) 5 rfl (by kernel_rfl) (by kernel_rfl) (by kernel_rfl) (fun _ _ _ h => h) (by rfl) hHeld ?ry5 ?rr5
  case ry5 => (intro W hSw; obtain ⟨y0, y1, y2⟩ := hSw; go_simp; with_reducible rfl)
  simp only [Act.put, List.setIfInBounds_toArray, List.set_cons_zero, List.set_cons_succ]
  refine held_take (v := ?rv6) 6 rfl (by kernel_rfl) (by kernel_rfl) (by kernel_rfl) (fun _ _ _ h => h) (by rfl) hHeld ?ry6 ?rr6
  case ry6 => (intro W hSw; obtain ⟨y0, y1, y2⟩ := hSw; go_simp; with_reducible rfl)
  simp only [Act.put, List.setIfInBounds_toArray, List.set_cons_zero, List.set_cons_succ]
  refine held_one 7 (by kernel_rfl) rfl (fun K hK => ?_)
  go_simp
  refine (WR.out).mono ?_
  rintro e1 w2 ⟨rfl, hd2, c1, c2, c3⟩
  have D := hid hd2
  clear hd2 WR
  try dsimp only
  refine hK.out _ _ (⟨c1, c2, c3⟩) (fun hHeld => ?_)
  clear hK K
  try simp only [Act.put, List.setIfInBounds_toArray, List.set_cons_zero, List.set_cons_succ]
  clear c1 c2 c3
  refine held_take (v := ?sv8) 8 rfl (by kernel_rfl) (by kernel_rfl) (by kernel_rfl) (fun _ _ _ h => h) (by rfl) hHeld ?sy8 ?sr8
  case sy8 => (intro W hSw; obtain ⟨y0, y1, y2⟩ := hSw; go_simp; with_reducible rfl)
  simp only [Act.put, List.setIfInBounds_toArray, List.set_cons_zero, List.set_cons_succ]
  refine wpAnyH_done (by kernel_rfl) ?_ _
  go_wp2_with fail
  go_ret
  exact ⟨rfl, D.out⟩
 ·have hlt' : decide (8 * n < z) = false := by simpa using hlt
  rw [if_neg hlt]
  clear hlt WR
  go_enter Tryz.func102, Tryz.ntmps102
  go_upto_region 1 with fail
  refine wp_region_held_drew (S := fun W => W.cell? ⟨p, 0, none⟩ = some (.pointer (some ⟨l, 0, none⟩)) ∧ W.cell? ⟨l, 0, none⟩ = some (.pointer (some ⟨b, 0, none⟩)) ∧ W.cell? ⟨q, 2, none⟩ = some (.int .i64 n)) (by kernel_rfl) ⟨p0, c0, q2⟩ (fun hHeld => ?_)
  refine held_take (v := ?ppv0) 0 rfl (by kernel_rfl) (by kernel_rfl) (by kernel_rfl) (fun _ _ _ h => h) (by rfl) hHeld ?ppy0 ?ppr0
  case ppy0 => (intro W hSw; obtain ⟨y0, y1, y2⟩ := hSw; go_simp; with_reducible rfl)
  simp only [Act.put, List.setIfInBounds_toArray, List.set_cons_zero, List.set_cons_succ]
  refine held_take (v := ?ppv1) 1 rfl (by kernel_rfl) (by kernel_rfl) (by kernel_rfl) (fun _ _ _ h => h) (by rfl) hHeld ?ppy1 ?ppr1
  case ppy1 => (intro W hSw; obtain ⟨y0, y1, y2⟩ := hSw; go_simp; with_reducible rfl)
  simp only [Act.put, List.setIfInBounds_toArray, List.set_cons_zero, List.set_cons_succ]
  refine held_take (v := ?ppv2) 2 rfl (by kernel_rfl) (by kernel_rfl) (by kernel_rfl) (fun _ _ _ h => h) (by rfl) hHeld ?ppy2 ?ppr2
  case ppy2 => (intro W hSw; obtain ⟨y0, y1, y2⟩ := hSw; go_simp; with_reducible rfl)
  simp only [Act.put, List.setIfInBounds_toArray, List.set_cons_zero, List.set_cons_succ]
  refine held_take (v := ?ppv3) 3 rfl (by kernel_rfl) (by kernel_rfl) (by kernel_rfl) (fun _ _ _ h => h) (by rfl) hHeld ?ppy3 ?ppr3
  case ppy3 => (intro W hSw; obtain ⟨y0, y1, y2⟩ := hSw; go_simp; with_reducible rfl)
  simp only [Act.put, List.setIfInBounds_toArray, List.set_cons_zero, List.set_cons_succ]
  refine held_take (v := ?ppv5) 5 rfl (by kernel_rfl) (by kernel_rfl) (by kernel_rfl) (fun _ _ _ h => h) (by rfl) hHeld ?ppy5 ?ppr5
  case ppy5 => (intro W hSw; obtain ⟨y0, y1, y2⟩ := hSw; go_simp; with_reducible rfl)
  simp only [Act.put, List.setIfInBounds_toArray, List.set_cons_zero, List.set_cons_succ]
  refine held_take (v := ?ppv6) 6 rfl (by kernel_rfl) (by kernel_rfl) (by kernel_rfl) (fun _ _ _ h => h) (by rfl) hHeld ?ppy6 ?ppr6
  case ppy6 => (intro W hSw; obtain ⟨y0, y1, y2⟩ := hSw; go_simp; with_reducible rfl)
  simp only [Act.put, List.setIfInBounds_toArray, List.set_cons_zero, List.set_cons_succ]
  refine held_take (v := ?ppv7) 7 rfl (by kernel_rfl) (by kernel_rfl) (by kernel_rfl) (fun _ _ _ h => h) (by rfl) hHeld ?ppy7 ?ppr7
  case ppy7 => (intro W hSw; obtain ⟨y0, y1, y2⟩ := hSw; go_simp; with_reducible rfl)
  simp only [Act.put, List.setIfInBounds_toArray, List.set_cons_zero, List.set_cons_succ]
  refine held_one 4 (by kernel_rfl) rfl (fun K hK => ?_)
  go_simp
  refine (SZ.out).mono ?_
  rintro e1 w2 ⟨rfl, rfl⟩
  try dsimp only
  refine hK.out _ _ (⟨p0, c0, q2⟩) (fun hHeld => ?_)
  clear hK K
  try simp only [Act.put, List.setIfInBounds_toArray, List.set_cons_zero, List.set_cons_succ]
  refine held_take (v := ?qqv8) 8 rfl (by kernel_rfl) (by kernel_rfl) (by kernel_rfl) (fun _ _ _ h => h) (by rfl) hHeld ?qqy8 ?qqr8
  case qqy8 => (intro W hSw; obtain ⟨y0, y1, y2⟩ := hSw; go_simp; with_reducible rfl)
  simp only [Act.put, List.setIfInBounds_toArray, List.set_cons_zero, List.set_cons_succ]
  refine wpAnyH_done (by kernel_rfl) ?_ _
  go_wp2_with fail
  go_ret
  exact ⟨rfl, H.out⟩
set_option maxRecDepth 20000 in
theorem lcheck3_any (h : LgAt w l b F G g d) (hs : d.Small 1099511527776) (p : Nat) (cp : w.heap[p]? = some (.cells #[.pointer (some ⟨l, 0, none⟩)] 77 (0, 0))) :
  Calls Tryz.prog 104 #[.pointer (some ⟨p, 0, none⟩)] w fun e w' => e = .returned (.int .i64 (lsync0M g d).1) ∧ LgDid w l b F G (lsync0M g d).2.1 (lsync0M g d).2.2 w' := by
 obtain ⟨lv, c0, -⟩ := h.cells
 have p0 := cell_of_block cp 0
 simp only [List.getElem?_toArray, List.getElem?_cons_zero] at p0
 have S := sync_any h.disk 0 hs
 unfold lsync0M
 obtain ⟨x, hx⟩ : ∃ x, x = syncM d 0 := ⟨_, rfl⟩
 rw [← hx] at S ⊢
 obtain ⟨e, d1⟩ := x
 simp only at S ⊢
 have S := hid S
 have H := hid h
 clear hx h hs cp
 go_enter Tryz.func104, Tryz.ntmps104
 go_wp2_with (first | (go_at_call 105; refine (S.out).mono ?_; rintro e1 w1 ⟨rfl, hd1⟩) | go_in)
 go_ret
 exact ⟨rfl, H.out.did hd1⟩
end
end Go.Proofs.YtlkkclooihjpiaaGreat
