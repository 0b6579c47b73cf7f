/- Plain laws of UnitLike: the one that follows, on a disk that fails and crashes. -/
import Derived.Test.YtdinjghfjmmjoaaGreatLkB
import Derived.Test.YtdinjghfjmmjoaaGreatNxE
set_option linter.unusedVariables false
set_option linter.unusedSimpArgs false
namespace Go.Proofs.YtdinjghfjmmjoaaGreat
open Go.RowKit Go.Maps
set_option maxRecDepth 20000
structure Stays (d : Dsk) : Prop where
 on : d.off = false
 goes : d.goes < 0
 ops : 0 ≤ d.ops
section
variable {g g' : Lg} {d d' : Dsk} {T : List (List (List UInt8))} {m : Sh} {k j : Nat} {L M : List (List UInt8)} {S : List (List UInt8) → Prop}
theorem stays_meets (h : Stays d) : Stays (meetsM d).2 := by
 have h1 := h.goes
 have h2 := h.ops
 refine ⟨?_, h1, by show 0 ≤ d.ops + 1; omega⟩
 show (d.off || d.ops == d.goes) = false
 rw [h.on]
 have : (d.ops == d.goes) = false := by simp; omega
 rw [this]
 rfl
theorem stays_wrN (h : Stays d) (k a : Nat) (s : List UInt8) : ∀ n, Stays (wrN d k a s n)
 | 0 => h
 | n + 1 => by
  have := stays_wrN h k a s n
  exact ⟨this.on, this.goes, this.ops⟩
theorem stays_write (h : Stays d) (f a : Int) (s : List UInt8) : Stays (writeM d f a s).2 := by
 unfold writeM
 split
 ·exact h
 split
 ·exact h
 split
 ·exact h
 split
 ·exact stays_meets h
 ·exact stays_wrN (stays_meets h) _ _ _ _
theorem stays_sync (h : Stays d) (f : Int) : Stays (syncM d f).2 := by
 unfold syncM
 split
 ·exact h
 split
 ·exact stays_meets h
 ·have := stays_meets h
  exact ⟨this.on, this.goes, this.ops⟩
theorem stays_cut (h : Stays d) (f n : Int) : Stays (cutM d f n).2 := by
 unfold cutM
 split
 ·exact h
 split
 ·exact h
 split
 ·exact stays_meets h
 ·have := stays_meets h
  exact ⟨this.on, this.goes, this.ops⟩
theorem stays_mend (h : Stays d) : Stays (lmendM g d).2.2 := by
 unfold lmendM
 split
 ·exact steps_inv (J := Stays) _ (fun m hm g d h => by
   rcases List.mem_cons.1 hm with rfl | hm
   ·exact stays_write h _ _ _
   ·rw [List.mem_singleton.1 hm]; exact stays_sync h _) g d h
 ·exact h
theorem stays_append (h : Stays d) (pages : Int) (x : List Img) : Stays (lappendM pages x g d).2.2 :=
 app_inv (J := Stays) (fun d a s h => stays_write h 1 a s) (fun d h => stays_sync h 1) pages x g d h
theorem stays_check (h : Stays d) : Stays (lcheckM g d).2.2 := by
 have hst : Stays (lstepsM (ckSteps g) g d).2.2 := steps_inv (J := Stays) _ (fun m hm g2 d2 h2 => by
  unfold ckSteps at hm
  simp only [List.mem_cons, List.mem_append, List.not_mem_nil, or_false] at hm
  rcases hm with rfl | hm | rfl | rfl | rfl | rfl
  ·exact stays_mend h2
  ·unfold ckPages at hm
   obtain ⟨i, hi, hm⟩ := List.mem_filterMap.1 hm
   obtain ⟨s, hs, rfl⟩ := Option.map_eq_some_iff.1 hm
   exact stays_write h2 _ _ _
  ·unfold lcutM
   split
   ·exact stays_cut h2 _ _
   ·exact h2
  ·exact stays_sync h2 _
  ·exact stays_write h2 _ _ _
  ·exact stays_sync h2 _) g d h
 unfold lcheckM
 split
 ·exact h
 split
 ·exact h
 split
 ·exact hst
 ·exact hst
theorem stays_put (h : Stays d) (p : Pg) (t : Tr) : Stays (putM p t g d).2.2.2 := by
 unfold putM
 split
 ·split
  ·exact stays_check h
  ·exact stays_append (stays_check h) _ _
 ·exact stays_append h _ _
theorem stays_new : Stays newM := ⟨rfl, by decide, by decide⟩
theorem stays_arm (h : Stays d) (n e : Int) : Stays (armM d n e).2 := by
 unfold armM
 split
 ·exact ⟨h.on, h.goes, h.ops⟩
 ·exact h
theorem stays_crash (h : Stays d) (keep : List Bool) : Stays (crashM d keep) := ⟨rfl, (by show (-1 : Int) < 0; decide), h.ops⟩
structure Trail (T : List (List (List UInt8))) (g : Lg) (d : Dsk) (j : Nat) : Prop where
 jT : j < T.length
 inv : ∃ S, LgInv g d (T.getD j []) S ∧ ∀ L, S L → ∃ i, j ≤ i ∧ i < T.length ∧ L = T.getD i []
 stays : Stays d
theorem trail_new : Trail [[]] exG0 newM 0 := ⟨by decide, ⟨_, inv_new, fun L h => h.elim⟩, stays_new⟩
theorem Trail.more (h : Trail T g d j) (M : List (List UInt8)) : Trail (T ++ [M]) g d j := by
 obtain ⟨hj, ⟨S, h1, h2⟩, h3⟩ := h
 refine ⟨by simp; omega, ⟨S, by rw [getD_left hj]; exact h1, fun L hL => ?_⟩, h3⟩
 obtain ⟨i, a, b, c⟩ := h2 L hL
 exact ⟨i, a, by simp; omega, by rw [getD_left b]; exact c⟩
theorem Trail.db (h : Trail T g d j) : DbW g d (T.getD j []) := by
 obtain ⟨hj, ⟨S, h1, h2⟩, h3⟩ := h
 exact h1.reads h3.on
theorem trail_check (h : Trail T g d j) : Trail T (lcheckM g d).2.1 (lcheckM g d).2.2 j := by
 obtain ⟨hj, ⟨S, h1, h2⟩, h3⟩ := h
 obtain ⟨-, -, -, c4⟩ := inv_check h1
 refine ⟨hj, ⟨_, c4, fun L hL => ?_⟩, stays_check h3⟩
 rcases hL with hL | rfl
 ·exact h2 L hL
 ·exact ⟨j, Nat.le_refl _, hj, rfl⟩
theorem trail_arm (h : Trail T g d j) (n e : Int) : Trail T g (armM d n e).2 j := by
 obtain ⟨hj, ⟨S, h1, h2⟩, h3⟩ := h
 refine ⟨hj, ⟨S, h1.alike ?_, h2⟩, stays_arm h3 n e⟩
 unfold armM
 split
 ·exact ⟨rfl, rfl, rfl⟩
 ·exact Alike.refl d
theorem trail_crash (h : Trail T g d j) (keep : List Bool) : ∃ g' j', lopenM (crashM d keep) = (some g', 0) ∧ Trail T g' (crashM d keep) j' ∧ j ≤ j' ∧ g'.off = false := by
 obtain ⟨hj, ⟨S, h1, h2⟩, h3⟩ := h
 obtain ⟨g', L', c1, c2, c3, c4, c5⟩ := inv_crash h1 keep
 rcases c5 with rfl | c5
 ·exact ⟨g', j, c1, ⟨hj, ⟨_, c2, fun L h => h.elim⟩, stays_crash h3 keep⟩, Nat.le_refl _, c4⟩
 ·obtain ⟨i, a, b, rfl⟩ := h2 L' c5
  exact ⟨g', i, c1, ⟨b, ⟨_, c2, fun L h => h.elim⟩, stays_crash h3 keep⟩, a, c4⟩
theorem crash_calm (h : Stays d) (keep : List Bool) : Calm (crashM d keep) := ⟨rfl, rfl, fun _ => rfl, h.ops⟩
theorem follow_put (hT : Told T) (hD : DbW g d (T.getD j [])) (hj : j < T.length) (hm : Says T m k) (hk : j < k) (hf : m.full = true ∨ k = j + 1) :
  ∃ t2, followM p0 g d m = putM { p0 with now := some t2 } t2 g d ∧ Tx { p0 with now := some t2 } g d t2 (T.getD k []) ∧ trImgs t2 ≠ [] := by
 have hkT := hm.kT
 have hmay := hm.may hT
 have hkind := hm.kind
 have hgood := hT.good j hj
 obtain ⟨h, u1, u2⟩ := uready_db (p := p0) hD hgood rfl
 rw [hT.comm j hj] at u2
 have hmany := hT.many
 have hfs := follow_says hT hm hj
 have c0 : ¬ (m.full = false ∧ k ≠ j + 1) := by
  rintro ⟨e1, e2⟩
  rcases hf with e | e
  ·rw [e1] at e; cases e
  ·exact e2 e
 rw [if_neg (by omega), if_neg c0] at hfs
 unfold followL at hfs
 rw [if_neg (by rw [hmay, hkind]; simp), hT.comm j hj, hm.num, if_neg (by omega)] at hfs
 have hw : IntKind.u64.wrap ((j : Int) + 1) = (j : Int) + 1 := IntWalk.u64_in _ (by omega)
 have c3 : ¬ (m.full = false ∧ (k : Int) ≠ IntKind.u64.wrap ((j : Int) + 1)) := by
  rw [hw]
  rintro ⟨e1, e2⟩
  rcases hf with e | e
  ·rw [e1] at e; cases e
  ·omega
 rw [if_neg c3] at hfs
 obtain ⟨hP, hI⟩ := may_unit hmay hkind
 unfold followM
 rw [u1, if_neg (by rw [hmay, hkind]; simp), if_neg (by simp)]
 dsimp only
 rw [u2, hm.num, if_neg (by omega), if_neg c3]
 cases hi : m.imgs with
 | nil => rw [hi] at hfs; exact absurd (congrArg (fun x => x.2) hfs) (by simp)
 | cons x r =>
  rw [hi] at hfs
  dsimp only at hfs ⊢
  by_cases c4 : x.page ≠ 1
  ·rw [if_pos c4] at hfs; exact absurd (congrArg (fun x => x.2) hfs) (by simp)
  rw [if_neg c4] at hfs ⊢
  by_cases c5 : (takeH x.data).2 ≠ 0 ∨ (takeH x.data).1.commits ≠ (k : Int)
  ·rw [if_pos c5] at hfs; exact absurd (congrArg (fun x => x.2) hfs) (by simp)
  rw [if_neg c5] at hfs ⊢
  have hx1 : x.page = 1 := Decidable.not_not.1 c4
  have hall := (mayImgs_len m.imgs m.pages 0 hI).2
  obtain ⟨P, hPn⟩ : ∃ P : Nat, m.pages = (P : Int) := ⟨m.pages.toNat, by omega⟩
  obtain ⟨b1, b2⟩ := tx_begin (p := p0) hD rfl rfl
  obtain ⟨t1, r1, r2, -⟩ := tx_resize b2 (n := P) (by omega) (by omega)
  obtain ⟨t2, w1, w2, w3⟩ := tx_putAll m.imgs _ t1 _ r2 (fun y hy => by
   have := hall y hy
   have e' : y.1 = y.page := rfl
   have e2' : y.2 = y.data := rfl
   rw [List.length_map, List.length_range]
   exact ⟨by omega, this.1⟩)
  have hbe : putL9 ((List.range P).map fun i => if i < (T.getD j []).length then (T.getD j []).getD i [] else zeros 512) m.imgs = behindL (T.getD j []) m := by
   apply List.ext_getElem
   ·rw [putL9_length]; simp [behindL, hPn]
   ·intro i i1 i2
    have i3 : i < P := by rw [putL9_length] at i1; simpa using i1
    have := putL9_get m.imgs ((List.range P).map fun i => if i < (T.getD j []).length then (T.getD j []).getD i [] else zeros 512) i (by simpa using i3) (fun y hy => by
     have := hall y hy
     have e' : y.1 = y.page := rfl
     omega)
    rw [List.getD_eq_getElem?_getD, List.getElem?_eq_getElem i1, Option.getD_some] at this
    rw [this]
    simp only [behindL, List.getElem_map, List.getElem_range]
    rw [List.getD_eq_getElem?_getD, List.getElem?_eq_getElem (by simpa using i3), Option.getD_some, List.getElem_map, List.getElem_range]
  have hbe2 : behindL (T.getD j []) m = T.getD k [] := congrArg (fun x => x.1) hfs
  rw [hbe, hbe2] at w2
  have h1 := w3 (.inl ⟨x, by rw [hi]; exact List.mem_cons_self, hx1⟩)
  have hne : trImgs t2 ≠ [] := trImgs_some ⟨by decide, by decide⟩ h1
  have hkeys : keysOf t2.wr ≠ [] := fun e => hne (by unfold trImgs; rw [e]; rfl)
  refine ⟨t2, ?_, w2, hne⟩
  rw [← hi, b1]
  dsimp only
  rw [hPn, r1, w1]
  unfold pcommitM
  dsimp only
  rw [if_neg hkeys]
theorem follow_no (hT : Told T) (hD : DbW g d (T.getD j [])) (hj : j < T.length) (hm : Says T m k) (hk : ¬ (j < k ∧ (m.full = true ∨ k = j + 1))) : ∃ e, e ≠ 0 ∧ followM p0 g d m = (e, p0, g, d) := by
 have hmay := hm.may hT
 have hkind := hm.kind
 obtain ⟨h, u1, u2⟩ := uready_db (p := p0) hD (hT.good j hj) rfl
 rw [hT.comm j hj] at u2
 have hmany := hT.many
 unfold followM
 rw [u1, if_neg (by rw [hmay, hkind]; simp), if_neg (by simp)]
 dsimp only
 rw [u2, hm.num]
 by_cases c1 : k ≤ j
 ·rw [if_pos (by omega)]
  exact ⟨4, by decide, rfl⟩
 rw [if_neg (by omega)]
 have hw : IntKind.u64.wrap ((j : Int) + 1) = (j : Int) + 1 := IntWalk.u64_in _ (by omega)
 have hf : m.full = false := by
  cases e : m.full with
  | false => rfl
  | true => exact absurd ⟨by omega, .inl e⟩ hk
 rw [hw, if_pos ⟨hf, fun e => hk ⟨by omega, .inr (by omega)⟩⟩]
 exact ⟨5, by decide, rfl⟩
theorem trail_follow (hT : Told T) (h : Trail T g d j) (hm : Says T m k) : ∃ e g' d' j', followM p0 g d m = (e, p0, g', d') ∧ Trail T g' d' j' ∧ j ≤ j' := by
 have hD := h.db
 obtain ⟨hj, ⟨S, h1, h2⟩, h3⟩ := h
 by_cases hk : j < k ∧ (m.full = true ∨ k = j + 1)
 ·obtain ⟨t2, e1, e2, e3⟩ := follow_put hT hD hj hm hk.1 hk.2
  have hpt := inv_put (p := { p0 with now := some t2 }) h1 e2.ok e2.pages (hT.len k hm.kT) (fun n n1 n2 => by
   rcases e2.page n n1 n2 with e | ⟨a, b, c⟩
   ·exact .inl e
   ·refine .inr ⟨a, b, ?_⟩
    have hp := hD.pages
    have := hD.page n n1 (by omega)
    rw [this] at c
    exact (congrArg (fun x => x.1) c).symm)
  obtain ⟨p1, p2, p3⟩ := hpt
  have hst := stays_put h3 { p0 with now := some t2 } t2 (g := g)
  rw [← e1] at p1 p2 p3 hst
  obtain ⟨R, hR⟩ : ∃ R, R = followM p0 g d m := ⟨_, rfl⟩
  rw [← hR] at p1 p2 p3 hst ⊢
  obtain ⟨e, p', g', d'⟩ := R
  have p1 : p' = p0 := p1
  subst p1
  by_cases he : e = 0
  ·exact ⟨e, g', d', k, rfl, ⟨hm.kT, ⟨_, (p2 he).1, fun L h => h.elim⟩, hst⟩, Nat.le_of_lt hk.1⟩
  ·refine ⟨e, g', d', j, rfl, ⟨hj, ⟨_, p3 he, fun L hL => ?_⟩, hst⟩, Nat.le_refl _⟩
   rcases hL with hL | rfl | rfl
   ·exact h2 L hL
   ·exact ⟨j, Nat.le_refl _, hj, rfl⟩
   ·exact ⟨k, Nat.le_of_lt hk.1, hm.kT, rfl⟩
 ·obtain ⟨e, he, e1⟩ := follow_no hT hD hj hm hk
  exact ⟨e, g, d, j, e1, ⟨hj, ⟨S, h1, h2⟩, h3⟩, Nat.le_refl _⟩
theorem trail_goes (hT : Told T) (h : Trail T g d j) (hm : Says T m k) (hk : j < k) (hf : m.full = true ∨ k = j + 1) (hc : Calm d) (ho : g.off = false) (hg : g.Ok) :
  ∃ g' d', followM p0 g d m = (0, p0, g', d') ∧ Trail T g' d' k ∧ Calm d' ∧ g'.off = false := by
 have hD := h.db
 obtain ⟨hj, ⟨S, h1, h2⟩, h3⟩ := h
 obtain ⟨t2, e1, e2, e3⟩ := follow_put hT hD hj hm hk hf
 obtain ⟨f1, f2, f3⟩ := put_fine hc ho h1.ok.may hg e2.ok (p := { p0 with now := some t2 }) rfl e3
 have hpt := inv_put (p := { p0 with now := some t2 }) h1 e2.ok e2.pages (hT.len k hm.kT) (fun n n1 n2 => by
  rcases e2.page n n1 n2 with e | ⟨a, b, c⟩
  ·exact .inl e
  ·refine .inr ⟨a, b, ?_⟩
   have hp := hD.pages
   have := hD.page n n1 (by omega)
   rw [this] at c
   exact (congrArg (fun x => x.1) c).symm)
 obtain ⟨p1, p2, p3⟩ := hpt
 have hst := stays_put h3 { p0 with now := some t2 } t2 (g := g)
 rw [← e1] at p1 p2 hst f1 f2 f3
 obtain ⟨R, hR⟩ : ∃ R, R = followM p0 g d m := ⟨_, rfl⟩
 rw [← hR] at p1 p2 hst f1 f2 f3 ⊢
 obtain ⟨e, p', g', d'⟩ := R
 have p1 : p' = p0 := p1
 have f1 : e = 0 := f1
 subst p1 f1
 exact ⟨g', d', rfl, ⟨hm.kT, ⟨_, (p2 rfl).1, fun L h => h.elim⟩, hst⟩, f2, f3⟩
end
end Go.Proofs.YtdinjghfjmmjoaaGreat
/- References of units: Unit. -/
namespace Go.Proofs.YtdinjghfjmmjoaaGreat
open Go.RowKit Go.Maps
set_option maxRecDepth 20000
section
variable {w W W' : World} {L : List (List UInt8)} {at' : List Int}
end
end Go.Proofs.YtdinjghfjmmjoaaGreat
/- The law UnitNext: turns that come in, opened out of their readings; rows of rows. -/
namespace Go.Proofs.YtdinjghfjmmjoaaGreat
open Go.ChangeShapes Go.WideShapes Go.ChangeAt Go.RowKit Go.Deep
set_option maxRecDepth 20000
set_option maxRecDepth 20000
def TurnsAt (w : World) (v : Value) (l : List (Int × Int)) : Prop :=
 ∃ ao cap, v = .slice ao l.length cap ∧ ∀ k (hk : k < l.length), ∃ q o, ao = some ⟨q, o, none⟩ ∧ q < w.heap.size ∧ w.cell? ⟨q, o + k * 2, none⟩ = some (.int .i64 l[k].1) ∧ w.cell? ⟨q, o + k * 2 + 1, none⟩ = some (.int .u8 l[k].2)
structure TurnsIn (w : World) (v : Value) (l : List (Int × Int)) : Prop where
 at' : TurnsAt w v l
 len : l.length ≤ 9223372036854775807
 each : ∀ x ∈ l, (-9223372036854775808 ≤ x.1 ∧ x.1 ≤ 9223372036854775807) ∧ 0 ≤ x.2 ∧ x.2 ≤ 255
section
variable {H : Type} {enc : TypeId × Value → H} {w : World} {base : Nat} {sp : Nat → Bool} {held : Bool}
end
end Go.Proofs.YtdinjghfjmmjoaaGreat
/- The law UnitNext: rows of rows in memory. -/
namespace Go.Proofs.YtdinjghfjmmjoaaGreat
open Go.RowKit Go.Maps
set_option maxRecDepth 20000
def intsV2 (l : List Int) : List Value := l.map fun n => .int .i64 n
def IntRow2 (w : World) (base : Nat) (v : Value) (l : List Int) : Prop := w.ownsRow base 3 1 v l.length (intsV2 l)
structure RowsAt (W : World) (base : Nat) (vS vA : Value) (S : List (List (List UInt8))) (A : List (List Int)) (X : Nat → Prop) : Prop where
 ex : ∃ sv av : List Value, sv.length = S.length ∧ av.length = A.length ∧ W.ownsRow base 52 1 vS S.length sv ∧ W.ownsRow base 55 1 vA A.length av ∧
  (∀ i (h1 : i < sv.length) (h2 : i < S.length), StrRow W base sv[i] S[i] ∧ ∀ k, sv[i].ownBlock = some k → X k) ∧
  (∀ i (h1 : i < av.length) (h2 : i < A.length), IntRow2 W base av[i] A[i] ∧ ∀ k, av[i].ownBlock = some k → X k)
 s : ∀ k, vS.ownBlock = some k → X k
 a : ∀ k, vA.ownBlock = some k → X k
section
variable {W W' : World} {base : Nat} {vS vA : Value} {S : List (List (List UInt8))} {A : List (List Int)} {X X' : Nat → Prop}
end
end Go.Proofs.YtdinjghfjmmjoaaGreat
/- Plain laws of UnitNext: what a turn asks and how far a disk grows. -/
namespace Go.Proofs.YtdinjghfjmmjoaaGreat
open Go.RowKit Go.Maps
set_option maxRecDepth 20000
section
variable {g : Lg} {d : Dsk} {L : List (List UInt8)} {S : List (List (List UInt8))} {A : List (List Int)} {lg : Nat}
theorem spc_small {N : Nat} (hg : g.head.pages ≤ 256) (h : d.Small N) (p : Pg) : (spCommitM p g d).2.2.2.Small (N + 8519680) := by
 have hm := h.mono (M := N + 8519680) (by omega)
 unfold spCommitM
 split
 ·exact hm
 split
 ·exact hm
 ·exact commit_small N hg h _
theorem turn_small {N : Nat} {n : Int} {c : UInt8} (hg : g.head.pages ≤ 256) (h : d.Small N) (p : Pg) : (turnGM p g d n c).2.2.2.Small (N + 8519680) := by
 have hm := h.mono (M := N + 8519680) (by omega)
 unfold turnGM
 by_cases e : (spBeginM p g d).1 ≠ 0
 ·rw [if_pos e]; exact hm
 ·rw [if_neg e]; exact spc_small hg h _
theorem check_small2 {N : Nat} (hg : g.head.pages ≤ 256) (h : d.Small N) : (lcheckM g d).2.2.Small (N + 8519680) := (ck_small g d N (N + 8388608) (Nat.le_refl _) hg h).mono (by omega)
theorem turn_page (x : Int) : ∃ n : Nat, 2 + Int.tmod (Int.tmod x 20 + 20) 20 = (n : Int) ∧ 2 ≤ n ∧ n ≤ 21 := by
 have h1 : -20 < Int.tmod x 20 ∧ Int.tmod x 20 < 20 := by
  refine ⟨?_, Int.tmod_lt_of_pos x (by decide)⟩
  have := Int.lt_tmod_of_pos x (b := 20) (by decide)
  omega
 have h2 : 0 ≤ Int.tmod (Int.tmod x 20 + 20) 20 := Int.tmod_nonneg _ (by omega)
 have h3 : Int.tmod (Int.tmod x 20 + 20) 20 < 20 := Int.tmod_lt_of_pos _ (by decide)
 exact ⟨(2 + Int.tmod (Int.tmod x 20 + 20) 20).toNat, by omega, by omega, by omega⟩
end
end Go.Proofs.YtdinjghfjmmjoaaGreat
