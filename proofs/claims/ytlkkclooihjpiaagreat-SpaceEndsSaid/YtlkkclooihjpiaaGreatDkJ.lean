import Derived.Test.YtlkkclooihjpiaaGreatDkH
import Derived.Maps.AppendAt
set_option linter.unusedVariables false
set_option linter.unusedSimpArgs false
namespace Go.Proofs.YtlkkclooihjpiaaGreat
open Go.RowKit Go.Maps
set_option maxRecDepth 20000
section
variable {w : World} {b : Nat} {F : Foot} {d : Dsk}
theorem ready_zero {f : Int} (hr : readyM d f = 0) : d.off = false ∧ 0 ≤ f ∧ f < 8 := by
 unfold readyM at hr
 split at hr
 ·omega
 ·split at hr
  ·rename_i h1 h2; exact ⟨by simpa using h1, h2⟩
  ·omega
set_option maxRecDepth 20000 in
theorem write_any (h : DiskAt w b F d) (f a : Int) (s : List UInt8) (hs : d.Small 1099511527776) (hsl : s.length ≤ 1099511627776) :
  Calls Tryz.prog 7 #[.pointer (some ⟨b, 0, none⟩), .int .i64 f, .int .i64 a, .string (bs s)] w fun e w' => e = .returned (.int .i64 (writeM d f a s).1) ∧ Did w b F (writeM d f a s).2 w' := by
 have R := ready_any h f
 by_cases hr : readyM d f = 0
 ·obtain ⟨ho, hf0, hf8⟩ := ready_zero hr
  obtain ⟨k, rfl⟩ : ∃ k : Nat, f = k := ⟨f.toNat, by omega⟩
  have hk : k < 8 := by omega
  obtain ⟨n, hn⟩ : ∃ n, n = s.length / 64 := ⟨_, rfl⟩
  have hq : ((s.length : Int)).tdiv 64 = (n : Int) := by rw [Int.tdiv_eq_ediv_of_nonneg (by omega)]; omega
  have hq2 : ((s.length : Int)).tmod 64 = ((s.length % 64 : Nat) : Int) := by rw [Int.tmod_eq_emod_of_nonneg (by omega)]; omega
  have nb : (n : Int) ≤ 1099511627776 := by omega
  have nw : IntKind.i64.wrap (n : Int) = (n : Int) := IntWalk.i64_in _ (by omega)
  rw [hr] at R
  have R := hid R
  by_cases h1 : n = 0 ∨ s.length % 64 ≠ 0
  ·have e : writeM d k a s = (2, d) := by unfold writeM; rw [if_neg (by simpa using hr), if_pos (by rw [← hn]; exact h1)]
   rw [e]
   have H := hid h
   obtain ⟨q, hq3⟩ : ∃ q : Int, q = ((s.length % 64 : Nat) : Int) := ⟨_, rfl⟩
   rw [← hq3] at hq2
   by_cases h2 : n = 0
   ·have n0 : ((n : Int) == 0) = true := by simp; omega
    clear e hr h hs hn h1 h2 hq3
    go_enter Tryz.func7, Tryz.ntmps7
    go_wp2_with (first | (go_at_call 23; refine (R.out).mono ?_; rintro e w1 ⟨rfl, rfl⟩) | go_in)
    go_ret
    exact ⟨rfl, Did.same H.out⟩
   ·have n0 : ((n : Int) == 0) = false := by simp; omega
    have q0 : (q != 0) = true := by simp; omega
    clear e hr h hs hn h1 h2 hq3
    go_enter Tryz.func7, Tryz.ntmps7
    go_wp2_with (first | (go_at_call 23; refine (R.out).mono ?_; rintro e w1 ⟨rfl, rfl⟩) | go_in)
    go_ret
    exact ⟨rfl, Did.same H.out⟩
  ·have n0 : ((n : Int) == 0) = false := by simp; omega
   have hm0 : s.length % 64 = 0 := by omega
   rw [hm0] at hq2
   by_cases h2 : a < 0 ∨ (8192 : Int) < (n : Nat) ∨ (8192 : Int) - (n : Nat) < a
   ·have e : writeM d k a s = (5, d) := by unfold writeM; rw [if_neg (by simpa using hr), ← hn, if_neg h1, if_pos h2]
    rw [e]
    have H := hid h
    by_cases h3 : a < 0
    ·have a0 : decide (a < 0) = true := by simpa using h3
     clear e hr h hs hn h1 h2 hm0
     go_enter Tryz.func7, Tryz.ntmps7
     go_wp2_with (first | (go_at_call 23; refine (R.out).mono ?_; rintro e w1 ⟨rfl, rfl⟩) | go_in)
     go_ret
     exact ⟨rfl, Did.same H.out⟩
    ·have a0 : decide (a < 0) = false := by simpa using h3
     by_cases h4 : (8192 : Int) < (n : Int)
     ·have a1 : decide ((8192 : Int) < (n : Int)) = true := by simpa using h4
      clear e hr h hs hn h1 h2 hm0
      go_enter Tryz.func7, Tryz.ntmps7
      go_wp2_with (first | (go_at_call 23; refine (R.out).mono ?_; rintro e w1 ⟨rfl, rfl⟩) | go_in)
      go_ret
      exact ⟨rfl, Did.same H.out⟩
     ·have a1 : decide ((8192 : Int) < (n : Int)) = false := by simpa using h4
      have a2 : decide ((8192 : Int) - (n : Int) < a) = true := by simp; omega
      have hw : IntKind.i64.wrap ((8192 : Int) - (n : Int)) = (8192 : Int) - (n : Int) := IntWalk.i64_in _ (by omega)
      clear e hr h hs hn h1 h2 hm0
      go_enter Tryz.func7, Tryz.ntmps7
      go_wp2_with (first | (go_at_call 23; refine (R.out).mono ?_; rintro e w1 ⟨rfl, rfl⟩) | go_in)
      go_ret
      exact ⟨rfl, Did.same H.out⟩
   ·obtain ⟨j, rfl⟩ : ∃ j : Nat, a = j := ⟨a.toNat, by omega⟩
    by_cases hm : (meetsM d).1 = 0
    ·have e : writeM d k j s = (0, wrN (meetsM d).2 k j s n) := by
      unfold writeM
      rw [if_neg (by simpa using hr), ← hn, if_neg h1, if_neg h2, if_neg (by simpa using hm), Int.toNat_natCast, Int.toNat_natCast]
     rw [e, hn]
     exact write_main h k j s hs hk ho (by omega) hm0 (by omega) hm
    ·have e : writeM d k j s = meetsM d := by
      unfold writeM
      rw [if_neg (by simpa using hr), ← hn, if_neg h1, if_neg h2, if_pos hm]
     rw [e]
     have M := meets_any h (hs.mono (by omega))
     obtain ⟨r, hr2⟩ : ∃ r, r = (meetsM d).1 := ⟨_, rfl⟩
     obtain ⟨d1, hd1⟩ : ∃ d1, d1 = (meetsM d).2 := ⟨_, rfl⟩
     rw [← hr2, ← hd1] at M ⊢
     rw [← hr2] at hm
     have hrne : (r != 0) = true := by simpa using hm
     have a1 : (n : Int) ≤ 8192 := by omega
     have a2 : (j : Int) ≤ (8192 : Int) - (n : Int) := by omega
     have hw : IntKind.i64.wrap ((8192 : Int) - (n : Int)) = (8192 : Int) - (n : Int) := IntWalk.i64_in _ (by omega)
     have M := hid M
     clear e hr h hs hn h1 h2 hm0 hr2 hd1 hm
     go_enter Tryz.func7, Tryz.ntmps7
     go_wp2_with (first | (go_at_call 23; refine (R.out).mono ?_; rintro e w1 ⟨rfl, rfl⟩) | (go_at_call 24; refine (M.out).mono ?_; rintro e w2 ⟨rfl, hd2⟩) | go_in)
     go_ret
     exact ⟨rfl, hd2⟩
 ·have e : writeM d f a s = (readyM d f, d) := by unfold writeM; rw [if_pos hr]
  rw [e]
  obtain ⟨r, hr2⟩ : ∃ r, r = readyM d f := ⟨_, rfl⟩
  rw [← hr2] at R ⊢
  rw [← hr2] at hr
  have hrne : (r != 0) = true := by simpa using hr
  have R := hid R
  have H := hid h
  clear hr2 e hr h hs
  go_enter Tryz.func7, Tryz.ntmps7
  go_wp2_with (first | (go_at_call 23; refine (R.out).mono ?_; rintro e w1 ⟨rfl, rfl⟩) | go_in)
  go_ret
  exact ⟨rfl, Did.same H.out⟩
end
end Go.Proofs.YtlkkclooihjpiaaGreat
namespace Go.Proofs.YtlkkclooihjpiaaGreat
open Go.RowKit Go.Maps
set_option maxRecDepth 20000
theorem chgs_get : ∀ {l : List Chg} {i : Nat} {c : Chg}, (∀ c ∈ l, c.bytes.length = 64) → l[i]? = some c → ∀ j, j < 67 → (chgsCells l)[i * 67 + j]? = (chgCells c)[j]?
 | [], i, c, _, h, j, hj => by simp at h
 | x :: r, 0, c, hb, h, j, hj => by
  simp only [List.getElem?_cons_zero, Option.some.injEq] at h
  subst h
  simp only [chgsCells, List.flatMap_cons, Nat.zero_mul, Nat.zero_add]
  rw [List.getElem?_append_left (by rw [chgCells_length (hb x (by simp))]; exact hj)]
 | x :: r, i + 1, c, hb, h, j, hj => by
  simp only [List.getElem?_cons_succ] at h
  have ih := chgs_get (l := r) (fun c hc => hb c (by simp [hc])) h j hj
  have h1 := chgCells_length (hb x (by simp))
  simp only [chgsCells, List.flatMap_cons] at ih ⊢
  rw [List.getElem?_append_right (by rw [h1]; omega), h1, ← ih]
  congr 1
  omega
theorem row_range {w : World} {base : Nat} {l : List Chg} {i : Nat} {c : Chg} {g cap n : Nat} (h : w.ownsRow base 75 67 (.slice (some ⟨g, 0, none⟩) n cap) n (chgsCells l)) (hb : ∀ c ∈ l, c.bytes.length = 64) (hi : l[i]? = some c) (hn : l.length = n) :
  w.rangeAt g (i * 67) (chgCells c) := fun j v hv => by
 have hj : j < 67 := by
  have := (List.getElem?_eq_some_iff.1 hv).1
  rwa [chgCells_length (hb c (List.mem_of_getElem? hi))] at this
 have hil : i < l.length := (List.getElem?_eq_some_iff.1 hi).1
 have h3 := h.cells (g := g) rfl (i * 67 + j) v (by rw [chgs_get hb hi j hj]; exact hv)
 rw [Addr.add_mid, Nat.zero_add] at h3
 exact h3
theorem row_form {w : World} {base n size : Nat} {e : TypeId} {v : Value} {xs : List Value} (h : w.ownsRow base e size v n xs) : (v = .slice none 0 0 ∧ n = 0) ∨ ∃ g cap, v = .slice (some ⟨g, 0, none⟩) n cap := by
 rcases h.2 with h | ⟨g, cap, cur, rfl, _⟩
 ·exact .inl h
 ·exact .inr ⟨g, cap, rfl⟩
theorem row_zero {w : World} {base n size : Nat} {e : TypeId} {v : Value} {xs : List Value} (h : w.ownsRow base e size v n xs) : w.ownsRow 0 e size v n xs := by
 refine ⟨h.1, h.2.imp id ?_⟩
 rintro ⟨g, cap, cur, hv, _, r⟩
 exact ⟨g, cap, cur, hv, Nat.zero_le _, r⟩
theorem row_base {w : World} {base n size : Nat} {e : TypeId} {v : Value} {xs : List Value} (h : w.ownsRow base e size v n xs) {g : Nat} (hg : v.ownBlock = some g) : base ≤ g ∧ g < w.heap.size := by
 rcases h.2 with ⟨rfl, _⟩ | ⟨g', cap, cur, rfl, hb, hh, _⟩
 ·cases hg
 ·cases hg; exact ⟨hb, lt_of_block hh⟩
def keepsOf (k : Nat) (l : List Chg) : List Chg := l.filter fun c => c.file != k
theorem keepsOf_snoc (k : Nat) (l : List Chg) (c : Chg) : keepsOf k (l ++ [c]) = if c.file = k then keepsOf k l else keepsOf k l ++ [c] := by
 unfold keepsOf
 rw [List.filter_append]
 by_cases h : c.file = k
 ·rw [if_pos h]; simp [h]
 ·rw [if_neg h]; simp [h]
def sureM (d : Dsk) (k : Nat) : Dsk := { d with sure := put d.sure k (d.now k), loose := keepsOf k d.loose }
def syncM (d : Dsk) (f : Int) : Int × Dsk := if readyM d f ≠ 0 then (readyM d f, d) else if (meetsM d).1 ≠ 0 then meetsM d else (0, sureM (meetsM d).2 f.toNat)
section
variable {w w' : World} {b : Nat} {F : Foot} {d d' : Dsk} {nm sm : Nat → Option Nat} {lv : Value} {am : Nat}
theorem DiskMem.copy_sure (h : DiskMem w b F d nm sm lv am) {f : Nat} (hf : f < 8) :
  DiskMem ((w.setCell ⟨b, 16 + f * 2, none⟩ (.int .i64 (d.now f).length)).setCell ⟨b, 16 + f * 2 + 1, none⟩ (.map (nm f))) b F { d with sure := put d.sure f (d.now f) } nm (put sm f (nm f)) lv am ∧
   FootStep F F w ((w.setCell ⟨b, 16 + f * 2, none⟩ (.int .i64 (d.now f).length)).setCell ⟨b, 16 + f * 2 + 1, none⟩ (.map (nm f))) := by
 have old : ∀ k, k ≠ b → ((w.setCell ⟨b, 16 + f * 2, none⟩ (.int .i64 (d.now f).length)).setCell ⟨b, 16 + f * 2 + 1, none⟩ (.map (nm f))).heap[k]? = w.heap[k]? := fun k hk => by
  rw [Below.heap_setCell _ ⟨b, _, none⟩ _ k hk, Below.heap_setCell _ ⟨b, _, none⟩ _ k hk]
 have hz : ((w.setCell ⟨b, 16 + f * 2, none⟩ (.int .i64 (d.now f).length)).setCell ⟨b, 16 + f * 2 + 1, none⟩ (.map (nm f))).heap.size = w.heap.size := by simp
 have nb : ∀ k, F.sh k → k ≠ b := fun k hs e => h.apart k (e ▸ h.bown) hs
 refine ⟨⟨?_, fun i hi => (h.now i hi).keep fun x hx => old x (nb x (h.nsh i hi x hx)), fun i hi => ?_, h.nsh, fun i hi x hx => ?_, row_keep h.row fun g hg => old g (h.ne_row hg).1, h.rown, h.arm.keep (old am h.ne_arm), h.aown, h.bown, h.apart, fun k hk2 => by rw [hz]; exact h.olt k hk2, fun k hk2 => by rw [hz]; exact h.slt k hk2, ?_⟩, ?_, fun k hk => .inl hk, fun k hk => .inl hk⟩
 ·rw [heap_setCell_same (heap_setCell_same h.blk (16 + f * 2) _) (16 + f * 2 + 1) _, set_sure d nm sm lv am hf]
 ·by_cases e : i = f
  ·subst e
   simp only [put_same]
   exact (h.now i hi).keep fun x hx => old x (nb x (h.nsh i hi x hx))
  ·simp only [put_other _ _ e]
   exact (h.sure i hi).keep fun x hx => old x (nb x (h.ssh i hi x hx))
 ·by_cases e : i = f
  ·subst e
   rw [put_same] at hx
   exact h.nsh i hi x hx
  ·rw [put_other _ _ e] at hx
   exact h.ssh i hi x hx
 ·refine ⟨h.ok.nl, fun i hi => ?_, h.ok.ns, fun i hi => ?_, h.ok.lo, h.ok.op0⟩
  ·by_cases e : i = f
   ·subst e; simp only [put_same]; exact h.ok.nl i hi
   ·simp only [put_other _ _ e]; exact h.ok.sl i hi
  ·by_cases e : i = f
   ·subst e; simp only [put_same]; exact h.ok.ns i hi
   ·simp only [put_other _ _ e]; exact h.ok.ss i hi
 ·exact ((Frm.refl _ _).setCell (p := ⟨b, 16 + f * 2, none⟩) (.inl h.bown) _).setCell (p := ⟨b, 16 + f * 2 + 1, none⟩) (.inl h.bown) _
def Foot.val (F : Foot) (v : Value) : Foot := ⟨fun i => F.own i ∨ v.ownBlock = some i, F.sh⟩
theorem DiskMem.new_row (h : DiskMem w b F d nm sm lv am) {l : List Chg} {v : Value} (hb : Below w.heap.size w w') (hrow : w'.ownsRow w.heap.size 75 67 v l.length (chgsCells l)) (hl : ∀ c ∈ l, c ∈ d.loose) :
  DiskMem (w'.setCell ⟨b, 32, none⟩ v) b (F.val v) { d with loose := l } nm sm v am ∧ FootStep F (F.val v) w (w'.setCell ⟨b, 32, none⟩ v) := by
 have hz : (w'.setCell ⟨b, 32, none⟩ v).heap.size = w'.heap.size := by simp
 have hblt := lt_of_block h.blk
 have old : ∀ k, k < w.heap.size → k ≠ b → (w'.setCell ⟨b, 32, none⟩ v).heap[k]? = w.heap[k]? := fun k hk hne => by
  rw [Below.heap_setCell _ ⟨b, 32, none⟩ _ k hne, hb.block k hk]
 have nb : ∀ k, F.sh k → k ≠ b := fun k hs e => h.apart k (e ▸ h.bown) hs
 have vg : ∀ g, v.ownBlock = some g → w.heap.size ≤ g ∧ g < w'.heap.size := fun g hg => row_base hrow hg
 refine ⟨⟨heap_setCell_same ((hb.block b hblt).trans h.blk) 32 v, fun i hi => (h.now i hi).keep fun x hx => old x (h.slt x (h.nsh i hi x hx)) (nb x (h.nsh i hi x hx)), fun i hi => (h.sure i hi).keep fun x hx => old x (h.slt x (h.ssh i hi x hx)) (nb x (h.ssh i hi x hx)), h.nsh, h.ssh, ?_, fun g hg => .inr hg, h.arm.keep (old am (h.olt am h.aown) h.ne_arm), .inl h.aown, .inl h.bown, ?_, ?_, fun k hk => by rw [hz]; exact Nat.lt_of_lt_of_le (h.slt k hk) hb.size, ?_⟩, ?_, ?_, fun k hk => .inl hk⟩
 ·exact row_keep (row_zero hrow) fun g hg => Below.heap_setCell _ ⟨b, 32, none⟩ _ g (by have := (vg g hg).1; simp; omega)
 ·rintro k (h1 | h1) h2
  ·exact h.apart k h1 h2
  ·have := h.slt k h2; have := (vg k h1).1; omega
 ·rintro k (h1 | h1)
  ·rw [hz]; exact Nat.lt_of_lt_of_le (h.olt k h1) hb.size
  ·rw [hz]; exact (vg k h1).2
 ·exact ⟨h.ok.nl, h.ok.sl, h.ok.ns, h.ok.ss, fun c hc => h.ok.lo c (hl c hc), h.ok.op0⟩
 ·exact (Frm.of_below hb).setCell (p := ⟨b, 32, none⟩) (.inl h.bown) _
 ·rintro k (h1 | h1)
  ·exact .inl h1
  ·exact .inr (vg k h1).1
end
end Go.Proofs.YtlkkclooihjpiaaGreat
