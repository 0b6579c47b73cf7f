import Derived.Test.YtlkkclooihjpiaaGreatWaI
import Derived.Maps.StringElems
set_option linter.unusedVariables false
set_option linter.unusedSimpArgs false
namespace Go.Proofs.YtlkkclooihjpiaaGreat
open Go.RowKit Go.Maps
set_option maxRecDepth 20000
section
variable {w w' : World} {l b : Nat} {F F' : Foot} {G : Nat → Prop} {g : Lg} {d d' : Dsk} {lv : Value}
theorem lappend_any (h : LgAt w l b F G g d) (N : Nat) (hsm : d.Small N) (hN : N + 1048576 ≤ 1099511527776) (pages : Int) (v : Value) (x : List Img) (hx : ImgsAt w v x) (hs : x.length ≤ 1099511627776) :
  Calls Tryz.prog 73 #[.pointer (some ⟨l, 0, none⟩), .int .i64 pages, v] w fun e w' => e = .returned (.int .i64 (lappendM pages x g d).1) ∧ LgDid w l b F G (lappendM pages x g d).2.1 (lappendM pages x g d).2.2 w' := by
 by_cases ho : g.off = true
 ·have e : lappendM pages x g d = (32, g, d) := by unfold lappendM; rw [if_pos ho]
  rw [e]
  refine (lappend_off h pages v ho).mono ?_
  rintro e w1 ⟨rfl, hb⟩
  exact ⟨rfl, LgDid.ofBelow h hb⟩
 have ho' : g.off = false := by simpa using ho
 by_cases hp : pages < 1 ∨ 256 < pages ∨ x.length = 0
 ·have e : lappendM pages x g d = (2, g, d) := by unfold lappendM; rw [if_neg ho, if_pos hp]
  rw [e]
  refine (lappend_args h pages v x hx ho' hp).mono ?_
  rintro e w1 ⟨rfl, hb⟩
  exact ⟨rfl, LgDid.ofBelow h hb⟩
 by_cases hb : x.any imgBad = true
 ·have e : lappendM pages x g d = (2, g, d) := by unfold lappendM; rw [if_neg ho, if_neg hp, if_pos hb]
  rw [e]
  refine (lappend_check h pages v x hx hs ho' (by omega) (by omega) hb).mono ?_
  rintro e w1 ⟨rfl, hb⟩
  exact ⟨rfl, LgDid.ofBelow h hb⟩
 ·exact lappend_main h N hsm hN pages v x hx hs ho' (by omega) (by omega) (by simpa using hb)
end
def ckPages (l : List Fr) (P : Nat) : List LgM := (List.range P).filterMap fun i => (lastAt l ((i + 1 : Nat) : Int) l.length).map (lpageM ((i + 1 : Nat) : Int))
def ckHead (g : Lg) : Hd := ⟨IntKind.u64.wrap (g.head.number + 1), 0, g.head.pages⟩
def ckSteps (g : Lg) : List LgM := lmendM :: (ckPages g.list g.head.pages.toNat ++ [lcutM g.head.pages, lsync0M, lputsM (ckHead g) true, lsyncM])
def lcheckM : LgM := fun g d =>
 if g.off then (32, g, d) else if g.list.length = 0 then (0, g, d)
 else if (lstepsM (ckSteps g) g d).1 ≠ 0 then lstepsM (ckSteps g) g d
 else (0, { (lstepsM (ckSteps g) g d).2.1 with head := ckHead g, list := [], pair := startP (ckHead g).number }, (lstepsM (ckSteps g) g d).2.2)
theorem ckPages_succ (l : List Fr) (P : Nat) : ckPages l (P + 1) = ckPages l P ++ (match lastAt l ((P + 1 : Nat) : Int) l.length with | some s => [lpageM ((P + 1 : Nat) : Int) s] | none => []) := by
 unfold ckPages
 rw [List.range_succ, List.filterMap_append]
 congr 1
 simp only [List.filterMap_cons, List.filterMap_nil]
 cases lastAt l ((P + 1 : Nat) : Int) l.length <;> rfl
theorem ckPages_length (l : List Fr) (P : Nat) : (ckPages l P).length ≤ P := by
 unfold ckPages
 exact Nat.le_trans (List.length_filterMap_le _ _) (by simp)
def NewAt (w : World) (mb : Nat) (l : List Fr) (k : Nat) : Prop :=
 ∃ D : DataW Unit, w.ownsMap Tryz.prog 3 (plainElem Tryz.prog 9) mb k D ∧ ∀ p : Int, match lastAt l p k with
  | some s => Maps.has D (ik p) = true ∧ ∀ z, D.atKey (ik p) z = .lit (.string s)
  | none => Maps.has D (ik p) = false
theorem newAt_nil {w : World} {mb : Nat} {l : List Fr} (h : w.ownsMap Tryz.prog 3 (plainElem Tryz.prog 9) mb 0 (.map [] : DataW Unit)) : NewAt w mb l 0 := ⟨.map [], h, fun p => rfl⟩
theorem newAt_put {w2 : World} {mb k : Nat} {l : List Fr} {D : DataW Unit} (hk : k < l.length) (hm : IsMap D)
  (h : ∀ p : Int, match lastAt l p k with | some s => Maps.has D (ik p) = true ∧ ∀ z, D.atKey (ik p) z = .lit (.string s) | none => Maps.has D (ik p) = false)
  (h2 : w2.ownsMap Tryz.prog 3 (plainElem Tryz.prog 9) mb (k + 1) (D.put (ik l[k].page) (.lit (.string l[k].data)))) : NewAt w2 mb l (k + 1) := by
 refine ⟨_, h2, fun p => ?_⟩
 by_cases e : l[k].page = p
 ·subst e
  rw [lastAt_hit hk rfl]
  exact ⟨has_put_same hm (ik_key _) _, fun z => atKey_put_same hm (ik_key _) _ _⟩
 ·rw [lastAt_miss hk e]
  have hp := h p
  have hne : ik p ≠ ik l[k].page := ik_ne (fun x => e x.symm)
  revert hp
  cases lastAt l p k with
  | some s => exact fun hp => ⟨by rw [has_put_other hne]; exact hp.1, fun z => by rw [atKey_put_other hne]; exact hp.2 z⟩
  | none =>
   intro hp
   show Maps.has _ (ik p) = false
   rw [has_put_other hne]
   exact hp
end Go.Proofs.YtlkkclooihjpiaaGreat
namespace Go.Proofs.YtlkkclooihjpiaaGreat
open Go.RowKit Go.Maps
set_option maxRecDepth 20000
section
variable {w w' : World} {l b : Nat} {F F' : Foot} {G : Nat → Prop} {g : Lg} {d d' : Dsk} {lv : Value}
set_option maxRecDepth 20000 in
theorem lcheck_off (h : LgAt w l b F G g d) (ho : g.off = true) :
  Calls Tryz.prog 72 #[.pointer (some ⟨l, 0, none⟩)] w fun e w' => e = .returned (.int .i64 32) ∧ Below w.heap.size w w' := by
 have R := lready_any (h.below ((Below.refl _ _).alloc (Nat.le_refl _) (.cells #[.pointer (some ⟨l, 0, none⟩)] 77)))
 unfold lreadyM at R
 rw [ho, if_pos rfl] at R
 have R := hid R
 clear h ho
 go_enter Tryz.func72, Tryz.ntmps72
 go_wp2_with (first | (go_at_call 99; refine (R.out).mono ?_; rintro e w1 ⟨rfl, rfl⟩) | go_in)
 go_ret
 exact ⟨rfl, (Below.refl _ _).alloc (Nat.le_refl _) _⟩
theorem box_step {k : Nat} {o : Obj} {W : World} {F1 : Foot} {G1 : Nat → Prop} (hk : w.heap[k]? = some o) (h1 : ¬ F.own k) (h2 : ¬ G k) (hs : LgStep F F1 G G1 w W) : W.heap[k]? = some o ∧ ¬ F1.own k :=
 ⟨(hs.frm.block k (lt_of_block hk) (fun e => e.elim h1 h2)).trans hk, fun e => (hs.own k e).elim h1 (fun e => by have := lt_of_block hk; omega)⟩
theorem does_check1 (N : Nat) (hN : N ≤ 1099511527776) {p q r : Nat} {n : Int} {s : List UInt8} (hsl : s.length ≤ 1099511627776) (hn : 1 ≤ n ∧ n ≤ 256) (cp : w.heap[p]? = some (.cells #[.pointer (some ⟨l, 0, none⟩)] 77 (0, 0))) (cq : w.heap[q]? = some (.cells #[.int .i64 n] 3 (0, 0))) (cr : w.heap[r]? = some (.cells #[.string (bs s)] 9 (0, 0)))
  (ho : ∀ k, k = p ∨ k = q ∨ k = r → ¬ F.own k ∧ ¬ G k) : Does w l b F G G N (.func (.func 101) #[] #[.pointer (some ⟨p, 0, none⟩), .pointer (some ⟨q, 0, none⟩), .pointer (some ⟨r, 0, none⟩)]) (lpageM n s) :=
 does_of (by decide) (fun g d h => (write_small h).mono (by omega)) fun g d W F1 G1 h1 h2 h3 =>
  lcheck1_any h2 (h1.mono hN) p q r n s hsl hn (box_step cp (ho p (.inl rfl)).1 (ho p (.inl rfl)).2 h3).1 (box_step cq (ho q (.inr (.inl rfl))).1 (ho q (.inr (.inl rfl))).2 h3).1 (box_step cr (ho r (.inr (.inr rfl))).1 (ho r (.inr (.inr rfl))).2 h3).1
   (by rintro k (rfl | rfl | rfl)
       ·exact (box_step cp (ho k (.inl rfl)).1 (ho k (.inl rfl)).2 h3).2
       ·exact (box_step cq (ho k (.inr (.inl rfl))).1 (ho k (.inr (.inl rfl))).2 h3).2
       ·exact (box_step cr (ho k (.inr (.inr rfl))).1 (ho k (.inr (.inr rfl))).2 h3).2)
theorem does_check2 (N : Nat) (hN : N ≤ 1099511527776) {p q : Nat} {hd : Hd} (hn : 0 ≤ hd.pages ∧ hd.pages ≤ 256) (cp : w.heap[p]? = some (.cells #[.pointer (some ⟨l, 0, none⟩)] 77 (0, 0))) (cq : w.heap[q]? = some (.cells #[.int .u64 hd.number, .int .i64 hd.frames, .int .i64 hd.pages] 104 (0, 0)))
  (ho : ∀ k, k = p ∨ k = q → ¬ F.own k ∧ ¬ G k) : Does w l b F G G N (.func (.func 102) #[] #[.pointer (some ⟨p, 0, none⟩), .pointer (some ⟨q, 0, none⟩)]) (lcutM hd.pages) :=
 does_of (by decide) (fun g d h => by
  unfold lcutM
  split
  ·exact (cut_small h).mono (by omega)
  ·exact h.mono (by omega)) fun g d W F1 G1 h1 h2 h3 =>
  lcheck2_any h2 (h1.mono hN) p q hd hn (box_step cp (ho p (.inl rfl)).1 (ho p (.inl rfl)).2 h3).1 (box_step cq (ho q (.inr rfl)).1 (ho q (.inr rfl)).2 h3).1
   (by rintro k (rfl | rfl)
       ·exact (box_step cp (ho k (.inl rfl)).1 (ho k (.inl rfl)).2 h3).2
       ·exact (box_step cq (ho k (.inr rfl)).1 (ho k (.inr rfl)).2 h3).2)
theorem does_check3 (N : Nat) (hN : N ≤ 1099511527776) {p : Nat} (cp : w.heap[p]? = some (.cells #[.pointer (some ⟨l, 0, none⟩)] 77 (0, 0))) (ho : ¬ F.own p ∧ ¬ G p) : Does w l b F G G N (.func (.func 104) #[] #[.pointer (some ⟨p, 0, none⟩)]) lsync0M :=
 does_of (by decide) (fun g d h => (sync_small h).mono (by omega)) fun g d W F1 G1 h1 h2 h3 => lcheck3_any h2 (h1.mono hN) p (box_step cp ho.1 ho.2 h3).1
def ClosAt (W : World) (l p lo hi : Nat) (vs : List Value) (ms : List LgM) : Prop :=
 vs.length = ms.length ∧ ∀ (i : Nat) (v : Value) (m : LgM), vs[i]? = some v → ms[i]? = some m → (v = .func (.func 100) #[.pointer (some ⟨l, 0, none⟩)] #[] ∧ m = lmendM) ∨
  ∃ q r n s, v = .func (.func 101) #[] #[.pointer (some ⟨p, 0, none⟩), .pointer (some ⟨q, 0, none⟩), .pointer (some ⟨r, 0, none⟩)] ∧ m = lpageM n s ∧ W.heap[q]? = some (.cells #[.int .i64 n] 3 (0, 0)) ∧ W.heap[r]? = some (.cells #[.string (bs s)] 9 (0, 0)) ∧
   lo ≤ q ∧ q < hi ∧ lo ≤ r ∧ r < hi ∧ (1 ≤ n ∧ n ≤ 256) ∧ s.length ≤ 1099511627776
theorem ClosAt.keep {W W' : World} {p lo hi hi' : Nat} {vs : List Value} {ms : List LgM} (h : ClosAt W l p lo hi vs ms) (hh : hi ≤ hi') (hk : ∀ (k : Nat) (o : Obj), W.heap[k]? = some o → lo ≤ k → k < hi → (∃ c T, o = .cells c T (0, 0) ∧ (T = 3 ∨ T = 9)) → W'.heap[k]? = some o) : ClosAt W' l p lo hi' vs ms := by
 refine ⟨h.1, fun i v m hv hm => (h.2 i v m hv hm).imp id ?_⟩
 rintro ⟨q, r, n, s, e1, e2, hq, hr, q1, q2, r1, r2, hn, hs⟩
 exact ⟨q, r, n, s, e1, e2, hk q _ hq q1 q2 ⟨_, _, rfl, .inl rfl⟩, hk r _ hr r1 r2 ⟨_, _, rfl, .inr rfl⟩, q1, by omega, r1, by omega, hn, hs⟩
theorem ClosAt.snoc {W : World} {p lo hi : Nat} {vs : List Value} {ms : List LgM} (h : ClosAt W l p lo hi vs ms) (q r : Nat) (n : Int) (s : List UInt8) (hq : W.heap[q]? = some (.cells #[.int .i64 n] 3 (0, 0))) (hr : W.heap[r]? = some (.cells #[.string (bs s)] 9 (0, 0))) (q1 : lo ≤ q) (q2 : q < hi) (r1 : lo ≤ r) (r2 : r < hi) (hn : 1 ≤ n ∧ n ≤ 256) (hs : s.length ≤ 1099511627776) :
  ClosAt W l p lo hi (vs ++ [.func (.func 101) #[] #[.pointer (some ⟨p, 0, none⟩), .pointer (some ⟨q, 0, none⟩), .pointer (some ⟨r, 0, none⟩)]]) (ms ++ [lpageM n s]) := by
 refine ⟨by simp [h.1], fun i v m hv hm => ?_⟩
 by_cases hi : i < vs.length
 ·rw [List.getElem?_append_left hi] at hv
  rw [List.getElem?_append_left (by rw [← h.1]; exact hi)] at hm
  exact h.2 i v m hv hm
 ·have hl : i = vs.length := by
   have := (List.getElem?_eq_some_iff.1 hv).1
   simp at this
   omega
  subst hl
  rw [List.getElem?_append_right (Nat.le_refl _)] at hv
  rw [h.1, List.getElem?_append_right (Nat.le_refl _)] at hm
  simp at hv hm
  exact .inr ⟨q, r, n, s, hv.symm, hm.symm, hq, hr, q1, q2, r1, r2, hn, hs⟩
theorem newAt_keep {W W' : World} {mb k : Nat} {l : List Fr} (h : NewAt W mb l k) (hk : W'.heap[mb]? = W.heap[mb]?) : NewAt W' mb l k := by
 obtain ⟨D, h1, h2⟩ := h
 exact ⟨D, map_keep h1 hk, h2⟩
theorem new_look {W : World} {mb k : Nat} {l : List Fr} (h : NewAt W mb l k) {p : Int} (hp : 0 ≤ p ∧ p ≤ 1000) :
  (Instr.lookup 84 (.map (some mb)) (.int .i64 p) true).run Tryz.prog W = .ok (.tuple #[.string (bs ((lastAt l p k).getD [])), .bool (lastAt l p k).isSome]) W := by
 obtain ⟨D, h1, h2⟩ := h
 obtain ⟨v, ps, hrun, hR⟩ := h1.look_ok (t := 84) (e := 9) keyI Tryz.underlying84 (z := .string (bs [])) (by kernel_rfl) (plainElem_string (H := Unit) (P := Tryz.prog) (e := 9) Tryz.underlying9 (s := bs []) (by rw [bs_size]; decide)) (key := .int .i64 p) (kl := ik p) (keyOf_int_mk Tryz.underlying3 (WalkArith.wf_i64 (by omega)))
 obtain ⟨s, rfl, h4, -⟩ := plainElem_string_inv Tryz.underlying9 hR
 obtain ⟨u, rfl⟩ := bs_of s
 refine hrun.trans ?_
 have h5 := (Prod.mk.inj h4).1
 have h6 := h2 p
 clear h4 hR hrun h1 h2
 cases hl : lastAt l p k with
 | some t =>
  rw [hl] at h6
  have h6 : Maps.has D (ik p) = true ∧ ∀ z, D.atKey (ik p) z = .lit (.string t) := h6
  rw [h6.2] at h5
  have e : t = u := by
   injection h5 with h5
   injection h5
  rw [h6.1, e, Option.getD_some, Option.isSome_some]
 | none =>
  rw [hl] at h6
  have h6 : Maps.has D (ik p) = false := h6
  rw [atKey_of_not_has h6] at h5
  have e : [] = u := by
   injection h5 with h5
   injection h5
  rw [h6, ← e, Option.getD_none, Option.isSome_none]
theorem lastAt_mem {l : List Fr} {p : Int} {s : List UInt8} : ∀ {k : Nat}, lastAt l p k = some s → ∃ f ∈ l, f.data = s ∧ f.page = p
 | 0, h => by cases h
 | k + 1, h => by
  by_cases hk : k < l.length
  ·by_cases e : l[k].page = p
   ·rw [lastAt_hit hk e] at h
    injection h with h
    exact ⟨l[k], List.getElem_mem hk, h, e⟩
   ·rw [lastAt_miss hk e] at h
    exact lastAt_mem h
  ·unfold lastAt at h
   rw [List.getElem?_eq_none (by omega)] at h
   exact lastAt_mem h
def cellNat (w : World) (v : Value) : Nat := match v with
 | .pointer (some p) => (match w.cell? p with | some u => (intOf u).toNat | none => 0)
 | _ => 0
theorem cellNat_of {w : World} {b : Nat} {n : Nat} {T : TypeId} {fr : Nat × Nat} (h : w.heap[b]? = some (.cells #[.int .i64 (n : Int)] T fr)) : cellNat w (.pointer (some ⟨b, 0, none⟩)) = n := by
 have := cell_of_block h 0
 simp only [List.getElem?_toArray, List.getElem?_cons_zero] at this
 show (match w.cell? ⟨b, 0, none⟩ with | some u => (intOf u).toNat | none => 0) = n
 rw [this]
 simp [intOf]
set_option maxHeartbeats 4000000 in
set_option maxRecDepth 20000 in
theorem lcheck_main (h : LgAt w l b F G g d) (N : Nat) (hsm : d.Small N) (hN : N + 16777216 ≤ 1099511527776) (ho : g.off = false) :
  Calls Tryz.prog 72 #[.pointer (some ⟨l, 0, none⟩)] w fun e w' => e = .returned (.int .i64 (lcheckM g d).1) ∧ LgDid w l b F G (lcheckM g d).2.1 (lcheckM g d).2.2 w' := by
 have hbA := (Below.refl w.heap.size w).alloc (Nat.le_refl _) (.cells #[.pointer (some ⟨l, 0, none⟩)] 77)
 have hnew := heap_alloc_new w (.cells #[.pointer (some ⟨l, 0, none⟩)] 77)
 have hz0 : (w.alloc (.cells #[.pointer (some ⟨l, 0, none⟩)] 77)).heap.size = w.heap.size + 1 := by simp
 have h0 := h.below hbA
 have R := lready_any h0
 unfold lreadyM at R
 rw [ho, if_neg (by simp)] at R
 have R := hid R
 have hM : lcheckM g d = if g.list.length = 0 then (0, g, d)
   else if (lstepsM (ckSteps g) g d).1 ≠ 0 then lstepsM (ckSteps g) g d
   else (0, { (lstepsM (ckSteps g) g d).2.1 with head := ckHead g, list := [], pair := startP (ckHead g).number }, (lstepsM (ckSteps g) g d).2.2) := by
  unfold lcheckM
  rw [ho, if_neg (by simp)]
 obtain ⟨M, hMM⟩ : ∃ M, M = lcheckM g d := ⟨_, rfl⟩
 rw [← hMM] at hM ⊢
 have HM := hid hM
 have Hsm := hid hsm
 have HL := hid h
 have hsize := h.lt
 obtain ⟨lv, hl⟩ := h0.log
 obtain ⟨ao, cap, rfl, hcs⟩ := hl.slice
 have c5 := hl.cell 5
 simp only [logCells, List.getElem?_cons_succ, List.getElem?_cons_zero] at c5
 obtain ⟨z, hz⟩ : ∃ z, z = g.list.length := ⟨_, rfl⟩
 have hmany := hl.ok.many
 rw [← hz] at c5 hmany
 have p0 := cell_of_block hnew 0
 simp only [List.getElem?_toArray, List.getElem?_cons_zero] at p0
 have Hcs := hid hcs
 have Hz := hid hz
 have Hl := hid hl
 have hmm := @run_makeMap Tryz.prog
 clear h ho hM hMM hsm hcs hz hl
 by_cases hz00 : z = 0
 ·subst hz00
  clear hmm
  go_enter Tryz.func72, Tryz.ntmps72
  go_wp2_with (first | (go_at_call 99; refine (R.out).mono ?_; rintro e w1 ⟨rfl, rfl⟩) | go_in)
  go_ret
  rw [HM.out, if_pos Hz.out.symm]
  exact ⟨rfl, LgDid.ofBelow HL.out hbA⟩
 ·have zn : ((z : Int) == 0) = false := by simp; omega
  go_enter Tryz.func72, Tryz.ntmps72
  go_wp2_with (first | (go_at_call 99; refine (R.out).mono ?_; rintro e w1 ⟨rfl, rfl⟩) | go_in)
  obtain ⟨P3, hP3⟩ : ∃ P3, P3 = w.heap.size := ⟨_, rfl⟩
  obtain ⟨w0, hw0⟩ : ∃ w0, w0 = w.alloc (.cells #[.pointer (some ⟨l, 0, none⟩)] 77) := ⟨_, rfl⟩
  rw [← hw0] at hbA hnew hz0 h0 ⊢
  simp only [← hw0] at Hl Hcs
  rw [← hP3] at hnew hz0 ⊢
  have hmade := World.ownsMap_made (H := Unit) (P := Tryz.prog) w0 3 (plainElem Tryz.prog 9)
  rw [hz0] at hmade
  have hb1 : Below w0.heap.size w0 (w0.alloc (.map #[] 0)) := (Below.refl _ _).alloc (Nat.le_refl _) _
  have H0 := hid h0
  have HBA := hid hbA
  have Hnew := hid hnew
  have Hz0 := hid hz0
  have HP3 := hid hP3
  have Hmade := hid hmade
  have Hb1 := hid hb1
  have Hmany := hid hmany
  clear hbA hnew hz0 h0 hP3 hw0 R hmade hb1 p0 c5 hmm
  go_loopw [30] (fun v30 wr => ∃ i : Nat, i ≤ z ∧ v30 = .int .i64 (i : Int) ∧ Below w0.heap.size w0 wr ∧ NewAt wr (P3 + 1) g.list i) (fun v30 _ => z - (intOf v30).toNat)
  case atStart => exact ⟨0, Nat.zero_le _, rfl, Hb1.out, newAt_nil Hmade.out⟩
  case round =>
   obtain ⟨i, hi, rfl, hbw, hnm⟩ := hrel
   have HBw := hid hbw
   have Hnm := hid hnm
   by_cases hlt : i < z
   ·have hil : i < g.list.length := by have := Hz.out; omega
    obtain ⟨q, rfl, f0, f1, f2⟩ := Hcs.out i hil
    have hq : q < w0.heap.size := World.block_lt_of_cell? _ ⟨q, i * 3, none⟩ f0
    obtain ⟨fr, hfr⟩ : ∃ fr, fr = g.list[i] := ⟨_, rfl⟩
    rw [← hfr] at f0 f1 f2
    have f0 := (hbw.cell (p := ⟨q, i * 3, none⟩) hq).trans f0
    have f1 := (hbw.cell (p := ⟨q, i * 3 + 1, none⟩) hq).trans f1
    have f2 := (hbw.cell (p := ⟨q, i * 3 + 2, none⟩) hq).trans f2
    have hi3 : (i : Int) < 9223372036854775807 := by have := Hmany.out; omega
    have hok := HL.out.ok.data fr (by rw [hfr]; exact List.getElem_mem hil)
    have hfd : 1 ≤ fr.page ∧ fr.page ≤ 256 ∧ fr.data.length = 512 := by
     unfold frOk frMay inB at hok
     simp at hok
     omega
    obtain ⟨D, hown, hD⟩ := hnm
    have Hfr := hid hfr
    have Hfd := hid hfd
    have hkey := keyOf_int_mk Tryz.underlying3 (WalkArith.wf_i64 (n := fr.page) (by omega))
    have Hkey := hid hkey
    have hval := plainElem_string (H := Unit) (P := Tryz.prog) (e := 9) Tryz.underlying9 (s := bs fr.data) (by rw [bs_size, hfd.2.2]; decide)
    have Hval := hid hval
    have Hown := hid hown
    have HD := hid hD
    have Hil := hid hil
    have Hlt := hid hlt
    have HiN := hid (show i < maxLen by unfold maxLen; have := Hmany.out; omega)
    have Him := hid (hown.isMap)
    have hsz5 : w0.heap.size ≤ wr.heap.size := hbw.size
    clear hbw hi hfr hfd hok hkey hval hown hD
    go_wp2_with (first
     | (at_mapUpdate; refine wpList_mapUpdate_own _ rfl _ _ _ 84 rfl 3 9 keyI Tryz.underlying84 _ (P3 + 1) i D rfl (Hown.out.alloc _) HiN.out _ _ (ik fr.page) rfl rfl Hkey.out _ [] Hval.out ?_; intro w5 hown5 hgrow5)
     | go_in)
    have R5 := newAt_put Hil.out Him.out HD.out (by rw [← Hfr.out]; exact hown5)
    have B5 : Below w0.heap.size w0 w5 := by
     have hb := HBw.out.alloc HBw.out.size (.cells #[.int .i64 fr.page, .int .i64 fr.commit, .string (bs fr.data)] 118)
     exact ⟨hgrow5.os.trans hb.os, hgrow5.tape.trans hb.tape, hgrow5.output.trans hb.output, Nat.le_trans hb.size hgrow5.size, fun k hk => (hgrow5.block k (by simp; omega) (fun e => by have := Option.some.inj e; have := Hz0.out; omega)).trans (hb.block k hk)⟩
    have hlt := Hlt.out
    clear hown5 hgrow5
    go_roundw
    case rel => exact ⟨i + 1, hlt, by simp, B5, R5⟩
    case measure => (simp [intOf]) <;> omega
   ·obtain rfl : z = i := by omega
    clear hbw hnm
    obtain ⟨w1, hw1⟩ : ∃ w1, w1 = wr := ⟨_, rfl⟩
    subst hw1
    have hmf : ∀ (fn : Fn) (first cap : Array Value) (w : World), (Instr.makeFunc fn first cap).run Tryz.prog w = .ok (.func fn first cap) w := fun _ _ _ _ => rfl
    have hp1 := (HBw.out.block P3 (lt_of_block Hnew.out)).trans Hnew.out
    have p1 := cell_of_block hp1 0
    simp only [List.getElem?_toArray, List.getElem?_cons_zero] at p1
    have Hp1 := hid hp1
    clear hp1
    go_wp2_with fail
    obtain ⟨lo, hlo⟩ : ∃ lo, lo = w1.heap.size := ⟨_, rfl⟩
    have hrow2 : ((w1.alloc (.cells #[.func (.func 100) #[.pointer (some ⟨l, 0, none⟩)] #[]] 48)).alloc (.cells #[.int .i64 1] 3)).ownsRow w1.heap.size 48 1 (.slice (some ⟨w1.heap.size, 0, none⟩) 1 1) 1 [.func (.func 100) #[.pointer (some ⟨l, 0, none⟩)] #[]] := ⟨rfl, .inr ⟨w1.heap.size, 1, _, rfl, Nat.le_refl _, heap_alloc_old (heap_alloc_new _ _), Nat.le_refl _, by decide, rfl, rfl⟩⟩
    have hnb2 := heap_alloc_new (w1.alloc (.cells #[.func (.func 100) #[.pointer (some ⟨l, 0, none⟩)] #[]] 48)) (.cells #[.int .i64 1] 3)
    have hsz1 : (w1.alloc (.cells #[.func (.func 100) #[.pointer (some ⟨l, 0, none⟩)] #[]] 48)).heap.size = w1.heap.size + 1 := by simp
    rw [hsz1] at hnb2
    have hb2 : Below w1.heap.size w1 ((w1.alloc (.cells #[.func (.func 100) #[.pointer (some ⟨l, 0, none⟩)] #[]] 48)).alloc (.cells #[.int .i64 1] 3)) := ((Below.refl _ _).alloc (Nat.le_refl _) _).alloc (by simp) _
    obtain ⟨w2, hw2⟩ : ∃ w2, w2 = (w1.alloc (.cells #[.func (.func 100) #[.pointer (some ⟨l, 0, none⟩)] #[]] 48)).alloc (.cells #[.int .i64 1] 3) := ⟨_, rfl⟩
    rw [← hw2] at hrow2 hnb2 hb2 ⊢
    rw [← hlo] at hrow2 hnb2 hb2 ⊢
    have HH1 := hid (HL.out.below (HBA.out.trans (HBw.out.mono HBA.out.size)))
    have hpg := HL.out.ok.pages
    obtain ⟨PP, hPP⟩ : ∃ PP : Nat, g.head.pages = (PP : Int) := ⟨g.head.pages.toNat, by omega⟩
    have hPP2 : PP ≤ 256 := by omega
    have HPP := hid hPP
    have HPP2 := hid hPP2
    have Hrow2 := hid hrow2
    have Hnb2 := hid hnb2
    have Hb2 := hid hb2
    have Hlo := hid hlo
    have hP3lo : P3 + 1 + 1 ≤ lo := by
     obtain ⟨D, h1, -⟩ := Hnm.out
     have := h1.lt
     omega
    have HP3lo := hid hP3lo
    clear hsz1 hrow2 hnb2 hb2 hw2 hpg hPP hPP2 p1 hlo hP3lo
    go_loopw [7, 8] (fun v7 v8 wx => ∃ (k nb : Nat) (vs : List Value), k ≤ PP ∧ v8 = .pointer (some ⟨nb, 0, none⟩) ∧ wx.heap[nb]? = some (.cells #[.int .i64 ((k + 1 : Nat) : Int)] 3 (0, 0)) ∧ lo ≤ nb ∧ wx.ownsRow lo 48 1 v7 vs.length vs ∧ ClosAt wx l P3 lo nb vs (lmendM :: ckPages g.list k) ∧ Below lo w1 wx)
     (fun v7 v8 wx => PP + 2 - cellNat wx v8)
    case atStart => exact ⟨0, lo + 1, [.func (.func 100) #[.pointer (some ⟨l, 0, none⟩)] #[]], Nat.zero_le _, rfl, Hnb2.out, Nat.le_succ _, Hrow2.out, ⟨rfl, fun i v m hv hm => .inl (by
      cases i with
      | zero => simp at hv hm; exact ⟨hv.symm, hm.symm⟩
      | succ i => simp at hv)⟩, Hb2.out⟩
    case round =>
     obtain ⟨k, nb, vs, hk, rfl, hnb, hlonb, hrow, hcl, hbx⟩ := hrel
     have Hk := hid hk
     have Hnb := hid hnb
     have Hrow := hid hrow
     have Hcl := hid hcl
     have Hbx := hid hbx
     have Hlonb := hid hlonb
     have hW : Below w1.heap.size w1 wr := by rw [← Hlo.out]; exact hbx
     have HW := HH1.out.below hW
     obtain ⟨lvx, -, -, -, c3, -⟩ := HW.cells
     rw [HPP.out] at c3
     have hp3 := (hW.block P3 (by have := HP3lo.out; have := Hlo.out; omega)).trans Hp1.out
     have p3 := cell_of_block hp3 0
     have n0 := cell_of_block hnb 0
     simp only [List.getElem?_toArray, List.getElem?_cons_zero] at p3 n0
     have HHW := hid HW
     have HhW := hid hW
     have Hp3 := hid hp3
     have Hmeas := hid (cellNat_of hnb)
     clear hk hnb hrow hcl hbx hW HW hp3
     go_upto_region 14 with fail
     go_quiet (fail)
     obtain ⟨wq, hwq⟩ : ∃ wq, wq = wr.drewN nq := ⟨_, rfl⟩
     rw [← hwq]
     have hsame : ∀ j : Nat, wq.heap[j]? = wr.heap[j]? := fun j => by rw [hwq]; rfl
     have hsz : wq.heap.size = wr.heap.size := by rw [hwq]; rfl
     have hbq : Below wr.heap.size wr wq := by rw [hwq]; exact ⟨rfl, rfl, rfl, Nat.le_refl _, fun _ _ => rfl⟩
     have Hsame := hid hsame
     have Hsz := hid hsz
     have Hbq := hid hbq
     clear c3 p3 n0 hsame hsz hbq hwq
     by_cases hle : k < PP
     ·have hle1 : k + 1 ≤ PP := hle
      have LK := new_look (newAt_keep (W' := wq) Hnm.out ((Hsame.out _).trans (HhW.out.block _ (by obtain ⟨D, h1, -⟩ := Hnm.out; exact h1.lt)))) (p := (k : Int) + 1) (by have := HPP2.out; omega)
      obtain ⟨o, ho⟩ : ∃ o, o = lastAt g.list ((k : Int) + 1) z := ⟨_, rfl⟩
      rw [← ho] at LK
      have nq0 : wq.cell? ⟨nb, 0, none⟩ = some (.int .i64 ((k : Int) + 1)) := by
       have := cell_of_block ((Hsame.out nb).trans Hnb.out) 0
       simpa using this
      have nblt : nb < wq.heap.size := by rw [Hsz.out]; exact lt_of_block Hnb.out
      have Hle := hid hle
      have Ho := hid ho
      clear hle ho
      go_upto_if 58 with fail
      have hold : ∀ (j : Nat) (x : Obj), wr.heap[j]? = some x → (wq.alloc (.cells #[.string (bs (o.getD []))] 9)).heap[j]? = some x := fun j x h => heap_alloc_old ((Hsame.out j).trans h)
      have hnewr := heap_alloc_new wq (.cells #[.string (bs (o.getD []))] 9)
      have hszs : (wq.alloc (.cells #[.string (bs (o.getD []))] 9)).heap.size = wr.heap.size + 1 := by simp [Hsz.out]
      have hbs : Below wr.heap.size wr (wq.alloc (.cells #[.string (bs (o.getD []))] 9)) := Hbq.out.alloc (by rw [Hsz.out]; exact Nat.le_refl _) _
      obtain ⟨ws, hws⟩ : ∃ ws, ws = wq.alloc (.cells #[.string (bs (o.getD []))] 9) := ⟨_, rfl⟩
      rw [← hws] at hold hnewr hszs hbs ⊢
      rw [Hsz.out] at hnewr ⊢
      have Hold := hid hold
      have Hnewr := hid hnewr
      have Hszs := hid hszs
      have Hbs := hid hbs
      have ns0 : ws.cell? ⟨nb, 0, none⟩ = some (.int .i64 ((k : Int) + 1)) := by
       have := cell_of_block (hold nb _ Hnb.out) 0
       simpa using this
      have nslt : nb < ws.heap.size := lt_of_block (hold nb _ Hnb.out)
      have hk3 : (k : Int) + 1 < 9223372036854775807 := by have := HPP2.out; omega
      clear LK nq0 nblt hold hnewr hszs hbs hws
      have hck := ckPages_succ g.list k
      rw [← Hz.out] at hck
      rw [show ((k + 1 : Nat) : Int) = (k : Int) + 1 by omega, ← Ho.out] at hck
      have Hck := hid hck
      clear hck
      obtain ⟨ob, hob⟩ : ∃ ob : Bool, ob = o.isSome := ⟨_, rfl⟩
      rw [← hob]
      have Hob := hid hob
      clear hob
      cases ob with
      | false =>
       obtain rfl : o = none := by
        have := Hob.out
        cases o with
        | none => rfl
        | some s => cases this
       clear hle1
       go_wp2_with fail
       have e7 : ((k : Int) + 1 + 1) = ((k + 1 + 1 : Nat) : Int) := by omega
       have hnew6 := heap_alloc_new ws (.cells #[.int .i64 ((k : Int) + 1 + 1)] 3)
       rw [e7] at hnew6
       have hb6 : Below wr.heap.size wr (ws.alloc (.cells #[.int .i64 ((k : Int) + 1 + 1)] 3)) := Hbs.out.alloc Hbs.out.size _
       go_roundw
       case rel =>
        refine ⟨k + 1, ws.heap.size, vs, Hle.out, rfl, ?_, by have := Hlonb.out; omega, row_keep Hrow.out fun j hj => hb6.block j (row_base Hrow.out hj).2, ?_, Hbx.out.trans (hb6.mono (by have := Hlonb.out; have := lt_of_block Hnb.out; omega))⟩
        ·exact hnew6
        ·have hc := Hck.out
         simp only [List.append_nil] at hc
         rw [hc]
         exact Hcl.out.keep (Nat.le_of_lt nslt) fun j x h _ _ _ => heap_alloc_old (Hold.out j x h)
       case measure =>
        have hm6 := cellNat_of (n := k + 1 + 1) hnew6
        rw [← e7] at hm6
        rw [Hmeas.out, hm6]
        have := Hle.out
        omega
      | true =>
       obtain ⟨s, rfl⟩ : ∃ s, o = some s := by
        have := Hob.out
        cases o with
        | none => cases this
        | some s => exact ⟨s, rfl⟩
       clear hle1
       obtain ⟨i0, hi0, hz0, hz1, hz2⟩ := info_parts (P := Tryz.prog) (e := 48) (z := .nilFunc) (size := 1) (bytes := 8) (by kernel_rfl)
       have hslen : s.length = 512 := by
        obtain ⟨f, hf, rfl, -⟩ := lastAt_mem Ho.out.symm
        have hok := HL.out.ok.data f hf
        unfold frOk at hok
        simp only [Bool.and_eq_true, decide_eq_true_eq] at hok
        exact hok.2
       have Hslen := hid hslen
       have hvl : vs.length ≤ 257 := by
        rw [Hcl.out.1]
        have := ckPages_length g.list k
        simp
        have := Hk.out
        have := HPP2.out
        omega
       have Hvl := hid hvl
       have hrows : (ws.alloc (.cells #[.func (.func 101) #[] #[.pointer (some ⟨P3, 0, none⟩), .pointer (some ⟨nb, 0, none⟩), .pointer (some ⟨wr.heap.size, 0, none⟩)]] 48)).ownsRow lo 48 1 u7 vs.length vs := row_keep Hrow.out fun j hj => by
        obtain ⟨x, hx⟩ : ∃ x, wr.heap[j]? = some x := ⟨_, Array.getElem?_eq_getElem (row_base Hrow.out hj).2⟩
        exact (heap_alloc_old (Hold.out j x hx)).trans hx.symm
       have Hrows := hid hrows
       have hnews : ∀ j u, [Value.func (.func 101) #[] #[.pointer (some ⟨P3, 0, none⟩), .pointer (some ⟨nb, 0, none⟩), .pointer (some ⟨wr.heap.size, 0, none⟩)]][j]? = some u → (ws.alloc (.cells #[.func (.func 101) #[] #[.pointer (some ⟨P3, 0, none⟩), .pointer (some ⟨nb, 0, none⟩), .pointer (some ⟨wr.heap.size, 0, none⟩)]] 48)).cell? (Addr.add ⟨ws.heap.size, 0, none⟩ j) = some u :=
        World.news_of_block (w := ws.alloc (.cells #[.func (.func 101) #[] #[.pointer (some ⟨P3, 0, none⟩), .pointer (some ⟨nb, 0, none⟩), .pointer (some ⟨wr.heap.size, 0, none⟩)]] 48)) (cs := #[.func (.func 101) #[] #[.pointer (some ⟨P3, 0, none⟩), .pointer (some ⟨nb, 0, none⟩), .pointer (some ⟨wr.heap.size, 0, none⟩)]]) (t := 48) (fr := (0, 0)) (heap_alloc_new _ _)
       have Hnews := hid hnews
       have hlos : lo ≤ (ws.alloc (.cells #[.func (.func 101) #[] #[.pointer (some ⟨P3, 0, none⟩), .pointer (some ⟨nb, 0, none⟩), .pointer (some ⟨wr.heap.size, 0, none⟩)]] 48)).heap.size := by simp; have := Hlonb.out; omega
       have Hlos := hid hlos
       clear hslen hvl hrows hnews hlos
       go_upto_region 19 with (first
        | (at_builtin; go_must (refine wpList_append_own _ rfl _ _ 176 (by rfl) lo 48 i0 _ 1 8 Tryz.underlying176 hi0 hz0 hz1 hz2 rfl (by omega) u7 vs.length vs (by rfl) Hrows.out ⟨ws.heap.size, 0, none⟩ 1 1 _ (by rfl) (by rfl) Hnews.out (fun u hu => by simp at hu; subst hu; rfl) (by have := Hvl.out; unfold maxLen; omega) (by have := Hvl.out; omega) Hlos.out ?_; intro v9 w9 hown9 hgrow9 _))
        | go_in)
       have nrow : ∀ (j : Nat) (c : Array Value) (T : TypeId), wr.heap[j]? = some (.cells c T (0, 0)) → T ≠ 48 → some j ≠ u7.ownBlock := fun j c T h hT e => by
        rcases Hrow.out.2 with ⟨e2, _⟩ | ⟨g', cap', cur', e2, _, hh, _⟩
        ·rw [e2] at e; cases e
        ·rw [e2] at e
         cases e
         rw [h] at hh
         injection hh with hh
         injection hh with _ h5 _
         exact hT h5
       have old9 : ∀ (j : Nat) (x : Obj), ws.heap[j]? = some x → some j ≠ u7.ownBlock → w9.heap[j]? = some x := fun j x h hj => (hgrow9.block j (lt_of_block (heap_alloc_old h)) hj).trans (heap_alloc_old h)
       have hsz9 : ws.heap.size + 1 ≤ w9.heap.size := by have := hgrow9.size; simpa using this
       have hnb9 := old9 nb _ (Hold.out nb _ Hnb.out) (nrow nb _ _ Hnb.out (by decide))
       have hr9 := old9 wr.heap.size _ Hnewr.out (fun e => by have := (row_base Hrow.out e.symm).2; omega)
       have hcl9 : ClosAt w9 l P3 lo nb vs (lmendM :: ckPages g.list k) := Hcl.out.keep (Nat.le_refl _) fun j x h _ _ hT => by
        obtain ⟨c, T, rfl, hT⟩ := hT
        exact old9 j _ (Hold.out j _ h) (nrow j _ _ h (by rcases hT with rfl | rfl <;> decide))
       have hb9 : Below lo w1 w9 := by
        have hbb := Hbx.out.trans (Hbs.out.mono (by have := Hlonb.out; have := lt_of_block Hnb.out; omega))
        exact ⟨hgrow9.os.trans hbb.os, hgrow9.tape.trans hbb.tape, hgrow9.output.trans hbb.output, Nat.le_trans hbb.size (by omega), fun j hj => (hgrow9.block j (by simp; have := Hlonb.out; omega) (fun e => by have := (row_base Hrow.out e.symm).1; omega)).trans ((Below.heap_alloc ws _ j (by have := Hlonb.out; omega)).trans (hbb.block j hj))⟩
       have n90 : w9.cell? ⟨nb, 0, none⟩ = some (.int .i64 ((k : Int) + 1)) := by
        have := cell_of_block hnb9 0
        simpa using this
       have n9lt : nb < w9.heap.size := lt_of_block hnb9
       have Hown9 := hid hown9
       have Hnb9 := hid hnb9
       have Hr9 := hid hr9
       have Hcl9 := hid hcl9
       have Hb9 := hid hb9
       have Hsz9 := hid hsz9
       clear nrow old9 hsz9 hnb9 hr9 hcl9 hb9 hown9 hgrow9
       go_wp2_with fail
       have e7 : ((k : Int) + 1 + 1) = ((k + 1 + 1 : Nat) : Int) := by omega
       have hnew6 := heap_alloc_new w9 (.cells #[.int .i64 ((k : Int) + 1 + 1)] 3)
       rw [e7] at hnew6
       have hold6 : ∀ (j : Nat) (x : Obj), w9.heap[j]? = some x → (w9.alloc (.cells #[.int .i64 ((k : Int) + 1 + 1)] 3)).heap[j]? = some x := fun j x h => heap_alloc_old h
       have hrow6 := row_keep Hown9.out (w' := w9.alloc (.cells #[.int .i64 ((k : Int) + 1 + 1)] 3)) fun j hj => Below.heap_alloc w9 _ j (row_base Hown9.out hj).2
       have hb6 : Below lo w1 (w9.alloc (.cells #[.int .i64 ((k : Int) + 1 + 1)] 3)) := Hb9.out.alloc (by have := Hlonb.out; have := lt_of_block Hnb9.out; omega) _
       go_roundw
       case rel =>
        refine ⟨k + 1, w9.heap.size, vs ++ [.func (.func 101) #[] #[.pointer (some ⟨P3, 0, none⟩), .pointer (some ⟨nb, 0, none⟩), .pointer (some ⟨wr.heap.size, 0, none⟩)]], Hle.out, rfl, hnew6, by have := Hlonb.out; have := lt_of_block Hnb9.out; omega, by rw [List.length_append]; exact hrow6, ?_, hb6⟩
        have hc := Hck.out
        rw [hc]
        exact ((Hcl9.out.keep (hi' := w9.heap.size) (Nat.le_of_lt (lt_of_block Hnb9.out)) (fun j x h _ _ _ => hold6 j x h))).snoc nb wr.heap.size ((k : Int) + 1) s (hold6 _ _ Hnb9.out) (hold6 _ _ Hr9.out) Hlonb.out (lt_of_block Hnb9.out) (by have := Hlonb.out; have := lt_of_block Hnb.out; omega) (by have := Hsz9.out; have := Hszs.out; omega) (by have := Hle.out; have := HPP2.out; omega) (by rw [Hslen.out]; decide)
       case measure =>
        have hm6 := cellNat_of (n := k + 1 + 1) hnew6
        rw [← e7] at hm6
        rw [Hmeas.out, hm6]
        have := Hle.out
        omega
     ·have hle1 : ¬ (k + 1 ≤ PP) := hle
      obtain rfl : k = PP := by have := Hk.out; omega
      have hlw : w1.heap.size ≤ wr.heap.size := HhW.out.size
      have HSK := hid (show ∀ W, Below wr.heap.size wr W → W.cell? ⟨P3, 0, none⟩ = some (.pointer (some ⟨l, 0, none⟩)) ∧ W.cell? ⟨l, 1, none⟩ = some (.int .u64 g.head.number) ∧ W.cell? ⟨l, 3, none⟩ = some (.int .i64 g.head.pages) from fun W hW => by
       have b1 := (hW.block _ (lt_of_block Hp3.out)).trans Hp3.out
       obtain ⟨lv, -, d1, -, d3, -⟩ := (HHW.out.below hW).cells
       exact ⟨by rw [cell_of_block b1]; rfl, d1, d3⟩)
      have hpgw : HdWf (ckHead g) := by
       have := HL.out.ok.num
       unfold HdWf ckHead
       simp only
       rw [IntKind.wrap_u64]
       omega
      clear hle1
      go_upto_region 21 with fail
      refine wp_region_held_drew (S := fun W => W.cell? ⟨P3, 0, none⟩ = some (.pointer (some ⟨l, 0, none⟩)) ∧ W.cell? ⟨l, 1, none⟩ = some (.int .u64 g.head.number) ∧ W.cell? ⟨l, 3, none⟩ = some (.int .i64 g.head.pages)) (by kernel_rfl) (HSK.out wq.drew Hbq.out.drew) (fun hHeld => ?_)
      refine held_take (v := ?p21v0) 0 rfl (by kernel_rfl) (by kernel_rfl) (by kernel_rfl) (fun _ _ _ h => h) (by rfl) hHeld ?p21y0 ?p21r0
      case p21y0 => (intro W hSw; obtain ⟨y0, y1, y2⟩ := hSw; go_simp; with_reducible rfl)
      simp only [Act.put, List.setIfInBounds_toArray, List.set_cons_zero, List.set_cons_succ]
      refine held_take (v := ?p21v1) 1 rfl (by kernel_rfl) (by kernel_rfl) (by kernel_rfl) (fun _ _ _ h => h) (by rfl) hHeld ?p21y1 ?p21r1
      case p21y1 => (intro W hSw; obtain ⟨y0, y1, y2⟩ := hSw; go_simp; with_reducible rfl)
      simp only [Act.put, List.setIfInBounds_toArray, List.set_cons_zero, List.set_cons_succ]
      refine held_take (v := ?p21v2) 2 rfl (by kernel_rfl) (by kernel_rfl) (by kernel_rfl) (fun _ _ _ h => h) (by rfl) hHeld ?p21y2 ?p21r2
      case p21y2 => (intro W hSw; obtain ⟨y0, y1, y2⟩ := hSw; go_simp; with_reducible rfl)
      simp only [Act.put, List.setIfInBounds_toArray, List.set_cons_zero, List.set_cons_succ]
      refine held_take (v := ?p21v3) 3 rfl (by kernel_rfl) (by kernel_rfl) (by kernel_rfl) (fun _ _ _ h => h) (by rfl) hHeld ?p21y3 ?p21r3
      case p21y3 => (intro W hSw; obtain ⟨y0, y1, y2⟩ := hSw; go_simp; with_reducible rfl)
      simp only [Act.put, List.setIfInBounds_toArray, List.set_cons_zero, List.set_cons_succ]
      refine held_take (v := ?p21v4) 4 rfl (by kernel_rfl) (by kernel_rfl) (by kernel_rfl) (fun _ _ _ h => h) (by rfl) hHeld ?p21y4 ?p21r4
      case p21y4 => (intro W hSw; obtain ⟨y0, y1, y2⟩ := hSw; go_simp; with_reducible rfl)
      simp only [Act.put, List.setIfInBounds_toArray, List.set_cons_zero, List.set_cons_succ]
      refine held_take (v := ?p21v5) 5 rfl (by kernel_rfl) (by kernel_rfl) (by kernel_rfl) (fun _ _ _ h => h) (by rfl) hHeld ?p21y5 ?p21r5
      case p21y5 => (intro W hSw; obtain ⟨y0, y1, y2⟩ := hSw; go_simp; with_reducible rfl)
      simp only [Act.put, List.setIfInBounds_toArray, List.set_cons_zero, List.set_cons_succ]
      refine held_take (v := ?p21v6) 6 rfl (by kernel_rfl) (by kernel_rfl) (by kernel_rfl) (fun _ _ _ h => h) (by rfl) hHeld ?p21y6 ?p21r6
      case p21y6 => (intro W hSw; obtain ⟨y0, y1, y2⟩ := hSw; go_simp; with_reducible rfl)
      simp only [Act.put, List.setIfInBounds_toArray, List.set_cons_zero, List.set_cons_succ]
      refine held_take (v := ?p21v7) 7 rfl (by kernel_rfl) (by kernel_rfl) (by kernel_rfl) (fun _ _ _ h => h) (by rfl) hHeld ?p21y7 ?p21r7
      case p21y7 => (intro W hSw; obtain ⟨y0, y1, y2⟩ := hSw; go_simp; with_reducible rfl)
      simp only [Act.put, List.setIfInBounds_toArray, List.set_cons_zero, List.set_cons_succ]
      refine held_take (v := ?p21v8) 8 rfl (by kernel_rfl) (by kernel_rfl) (by kernel_rfl) (fun _ _ _ h => h) (by rfl) hHeld ?p21y8 ?p21r8
      case p21y8 => (intro W hSw; obtain ⟨y0, y1, y2⟩ := hSw; go_simp; with_reducible rfl)
      simp only [Act.put, List.setIfInBounds_toArray, List.set_cons_zero, List.set_cons_succ]
      refine held_take (v := ?p21v9) 9 rfl (by kernel_rfl) (by kernel_rfl) (by kernel_rfl) (fun _ _ _ h => h) (by rfl) hHeld ?p21y9 ?p21r9
      case p21y9 => (intro W hSw; obtain ⟨y0, y1, y2⟩ := hSw; go_simp; with_reducible rfl)
      simp only [Act.put, List.setIfInBounds_toArray, List.set_cons_zero, List.set_cons_succ]
      refine held_take (v := ?p21v10) 10 rfl (by kernel_rfl) (by kernel_rfl) (by kernel_rfl) (fun _ _ _ h => h) (by rfl) hHeld ?p21y10 ?p21r10
      case p21y10 => (intro W hSw; obtain ⟨y0, y1, y2⟩ := hSw; go_simp; with_reducible rfl)
      simp only [Act.put, List.setIfInBounds_toArray, List.set_cons_zero, List.set_cons_succ]
      refine held_take (v := ?p21v11) 11 rfl (by kernel_rfl) (by kernel_rfl) (by kernel_rfl) (fun _ _ _ h => h) (by rfl) hHeld ?p21y11 ?p21r11
      case p21y11 => (intro W hSw; obtain ⟨y0, y1, y2⟩ := hSw; go_simp; with_reducible rfl)
      simp only [Act.put, List.setIfInBounds_toArray, List.set_cons_zero, List.set_cons_succ]
      refine held_one 12 (by kernel_rfl) rfl (fun K hK => ?_)
      go_simp
      refine hK.out _ _ (HSK.out _ ((Hbq.out.alloc (by rw [Hsz.out]; exact Nat.le_refl _) _).drew)) (fun hHeld => ?_)
      clear hK K
      try simp only [Act.put, List.setIfInBounds_toArray, List.set_cons_zero, List.set_cons_succ]
      refine held_one 13 (by kernel_rfl) rfl (fun K hK => ?_)
      go_simp
      have hh0 : ((wq.alloc (.cells #[.int .u64 (ckHead g).number, .int .i64 0, .int .i64 g.head.pages] 104)).drew).heap[wq.heap.size]? = some (.cells #[.int .u64 (ckHead g).number, .int .i64 0, .int .i64 g.head.pages] 104 (0, 0)) := heap_alloc_new wq _
      have hh1 : Below wr.heap.size wr ((wq.alloc (.cells #[.int .u64 (ckHead g).number, .int .i64 0, .int .i64 g.head.pages] 104)).drew) := (Hbq.out.alloc (by rw [Hsz.out]; exact Nat.le_refl _) _).drew
      have hh2 : ((wq.alloc (.cells #[.int .u64 (ckHead g).number, .int .i64 0, .int .i64 g.head.pages] 104)).drew).heap.size = wr.heap.size + 1 := by simp [Hsz.out]
      rw [Hsz.out] at hh0 ⊢
      obtain ⟨wh, hwh⟩ : ∃ wh, wh = (wq.alloc (.cells #[.int .u64 (ckHead g).number, .int .i64 0, .int .i64 g.head.pages] 104)).drew := ⟨_, rfl⟩
      rw [← hwh] at hh0 hh1 hh2
      rw [show (wq.alloc (.cells #[.int .u64 (IntKind.u64.wrap (g.head.number + 1)), .int .i64 0, .int .i64 g.head.pages] 104)).drew = wh from hwh.symm]
      refine hK.out _ _ (HSK.out _ hh1) (fun hHeld => ?_)
      clear hK K
      try simp only [Act.put, List.setIfInBounds_toArray, List.set_cons_zero, List.set_cons_succ]
      refine wpAnyH_done (by kernel_rfl) ?_ _
      have Hh0 := hid hh0
      have Hh1 := hid hh1
      have Hh2 := hid hh2
      obtain ⟨p30, -, -⟩ := HSK.out _ hh1
      obtain ⟨HB, hHB⟩ : ∃ HB, HB = wr.heap.size := ⟨_, rfl⟩
      rw [← hHB] at hh0 ⊢
      have q0 := cell_of_block hh0 0
      have q1 := cell_of_block hh0 1
      have q2 := cell_of_block hh0 2
      simp only [List.getElem?_toArray, List.getElem?_cons_succ, List.getElem?_cons_zero] at q0 q1 q2
      have HHB := hid hHB
      have Hpgw := hid hpgw
      have PU := hid (show ∀ W, Calls Tryz.prog 106 #[.pointer (some ⟨l, 0, none⟩), .agg #[.int .u64 (ckHead g).number, .int .i64 0, .int .i64 g.head.pages], .bool true] W fun e w' => e = .returned (.func (.func 122) #[] #[.pointer (some ⟨W.heap.size + 1 + 1, 0, none⟩), .pointer (some ⟨W.heap.size + 1, 0, none⟩), .pointer (some ⟨W.heap.size, 0, none⟩)]) ∧ PutsAt w' l (ckHead g) true W.heap.size (W.heap.size + 1) (W.heap.size + 1 + 1) ∧ Below W.heap.size W w' from fun W => lputs_any l (ckHead g) true W)
      clear hHeld hwh hh0 hh1 hh2 hHB hpgw
      go_upto_region 22 with fail
      refine wp_region_held_drew (S := fun W => W.cell? ⟨P3, 0, none⟩ = some (.pointer (some ⟨l, 0, none⟩)) ∧ W.cell? ⟨HB, 0, none⟩ = some (.int .u64 (ckHead g).number) ∧ W.cell? ⟨HB, 1, none⟩ = some (.int .i64 0) ∧ W.cell? ⟨HB, 2, none⟩ = some (.int .i64 g.head.pages)) (by kernel_rfl) ⟨p30, q0, q1, q2⟩ (fun hHeld => ?_)
      clear p30 q0 q1 q2
      refine held_take (v := ?p22v0) 0 rfl (by kernel_rfl) (by kernel_rfl) (by kernel_rfl) (fun _ _ _ h => h) (by rfl) hHeld ?p22y0 ?p22r0
      case p22y0 => (intro W hSw; obtain ⟨y0, y1, y2, y3⟩ := hSw; go_simp; with_reducible rfl)
      simp only [Act.put, List.setIfInBounds_toArray, List.set_cons_zero, List.set_cons_succ]
      refine held_take (v := ?p22v1) 1 rfl (by kernel_rfl) (by kernel_rfl) (by kernel_rfl) (fun _ _ _ h => h) (by rfl) hHeld ?p22y1 ?p22r1
      case p22y1 => (intro W hSw; obtain ⟨y0, y1, y2, y3⟩ := hSw; go_simp; with_reducible rfl)
      simp only [Act.put, List.setIfInBounds_toArray, List.set_cons_zero, List.set_cons_succ]
      refine held_take (v := ?p22v2) 2 rfl (by kernel_rfl) (by kernel_rfl) (by kernel_rfl) (fun _ _ _ h => h) (by rfl) hHeld ?p22y2 ?p22r2
      case p22y2 => (intro W hSw; obtain ⟨y0, y1, y2, y3⟩ := hSw; go_simp; with_reducible rfl)
      simp only [Act.put, List.setIfInBounds_toArray, List.set_cons_zero, List.set_cons_succ]
      refine held_take (v := ?p22v3) 3 rfl (by kernel_rfl) (by kernel_rfl) (by kernel_rfl) (fun _ _ _ h => h) (by rfl) hHeld ?p22y3 ?p22r3
      case p22y3 => (intro W hSw; obtain ⟨y0, y1, y2, y3⟩ := hSw; go_simp; with_reducible rfl)
      simp only [Act.put, List.setIfInBounds_toArray, List.set_cons_zero, List.set_cons_succ]
      refine held_take (v := ?p22v4) 4 rfl (by kernel_rfl) (by kernel_rfl) (by kernel_rfl) (fun _ _ _ h => h) (by rfl) hHeld ?p22y4 ?p22r4
      case p22y4 => (intro W hSw; obtain ⟨y0, y1, y2, y3⟩ := hSw; go_simp; with_reducible rfl)
      simp only [Act.put, List.setIfInBounds_toArray, List.set_cons_zero, List.set_cons_succ]
      refine held_take (v := ?p22v6) 6 rfl (by kernel_rfl) (by kernel_rfl) (by kernel_rfl) (fun _ _ _ h => h) (by rfl) hHeld ?p22y6 ?p22r6
      case p22y6 => (intro W hSw; obtain ⟨y0, y1, y2, y3⟩ := hSw; go_simp; with_reducible rfl)
      simp only [Act.put, List.setIfInBounds_toArray, List.set_cons_zero, List.set_cons_succ]
      refine held_take (v := ?p22v7) 7 rfl (by kernel_rfl) (by kernel_rfl) (by kernel_rfl) (fun _ _ _ h => h) (by rfl) hHeld ?p22y7 ?p22r7
      case p22y7 => (intro W hSw; obtain ⟨y0, y1, y2, y3⟩ := hSw; go_simp; with_reducible rfl)
      simp only [Act.put, List.setIfInBounds_toArray, List.set_cons_zero, List.set_cons_succ]
      refine held_one 5 (by kernel_rfl) rfl (fun K hK => ?_)
      go_simp
      refine (PU.out _).mono ?_
      rintro e w3 ⟨rfl, hpu, hb3⟩
      have hb3 := below_undrew hb3
      have hb3r : Below wr.heap.size wr w3 := Hh1.out.trans (hb3.mono (by have := Hh2.out; omega))
      have HS22 := hid (show ∀ W : World, (∀ (j : Nat) (x : Obj), w3.heap[j]? = some x → (j = P3 ∨ j = HB) → W.heap[j]? = some x) → W.cell? ⟨P3, 0, none⟩ = some (.pointer (some ⟨l, 0, none⟩)) ∧ W.cell? ⟨HB, 0, none⟩ = some (.int .u64 (ckHead g).number) ∧ W.cell? ⟨HB, 1, none⟩ = some (.int .i64 0) ∧ W.cell? ⟨HB, 2, none⟩ = some (.int .i64 g.head.pages) from fun W hW2 => by
       have b1 := (hb3r.block _ (lt_of_block Hp3.out)).trans Hp3.out
       have b1 := hW2 _ _ b1 (.inl rfl)
       have b2 := (hb3.block _ (lt_of_block Hh0.out)).trans Hh0.out
       have b2 := hW2 _ _ b2 (.inr HHB.out.symm)
       rw [← HHB.out] at b2
       exact ⟨by rw [cell_of_block b1]; rfl, by rw [cell_of_block b2]; rfl, by rw [cell_of_block b2]; rfl, by rw [cell_of_block b2]; rfl⟩)
      try dsimp only
      refine hK.out _ _ (HS22.out _ (fun _ _ h _ => h)) (fun hHeld => ?_)
      clear hK K
      try simp only [Act.put, List.setIfInBounds_toArray, List.set_cons_zero, List.set_cons_succ]
      have Hpu := hid (show PutsAt w3 l (ckHead g) true wh.heap.size (wh.heap.size + 1) (wh.heap.size + 1 + 1) from hpu)
      have Hb3 := hid hb3
      have Hb3r := hid hb3r
      clear hpu hb3 hb3r PU HSK
      refine held_one 8 (by kernel_rfl) rfl (fun K hK => ?_)
      go_simp
      have hb4 := (Below.refl w3.heap.size w3).alloc (Nat.le_refl _) (.cells #[.func (.func 102) #[] #[.pointer (some ⟨P3, 0, none⟩), .pointer (some ⟨HB, 0, none⟩)], .func (.func 104) #[] #[.pointer (some ⟨P3, 0, none⟩)], .func (.func 122) #[] #[.pointer (some ⟨wh.heap.size + 1 + 1, 0, none⟩), .pointer (some ⟨wh.heap.size + 1, 0, none⟩), .pointer (some ⟨wh.heap.size, 0, none⟩)], .func (.func 107) #[.pointer (some ⟨l, 0, none⟩)] #[]] 48)
      have hnews4 := World.news_of_block (w := w3.alloc (.cells #[.func (.func 102) #[] #[.pointer (some ⟨P3, 0, none⟩), .pointer (some ⟨HB, 0, none⟩)], .func (.func 104) #[] #[.pointer (some ⟨P3, 0, none⟩)], .func (.func 122) #[] #[.pointer (some ⟨wh.heap.size + 1 + 1, 0, none⟩), .pointer (some ⟨wh.heap.size + 1, 0, none⟩), .pointer (some ⟨wh.heap.size, 0, none⟩)], .func (.func 107) #[.pointer (some ⟨l, 0, none⟩)] #[]] 48)) (cs := [Value.func (.func 102) #[] #[.pointer (some ⟨P3, 0, none⟩), .pointer (some ⟨HB, 0, none⟩)], .func (.func 104) #[] #[.pointer (some ⟨P3, 0, none⟩)], .func (.func 122) #[] #[.pointer (some ⟨wh.heap.size + 1 + 1, 0, none⟩), .pointer (some ⟨wh.heap.size + 1, 0, none⟩), .pointer (some ⟨wh.heap.size, 0, none⟩)], .func (.func 107) #[.pointer (some ⟨l, 0, none⟩)] #[]].toArray) (t := 48) (fr := (0, 0)) (heap_alloc_new w3 _)
      have hs4 : (w3.alloc (.cells #[.func (.func 102) #[] #[.pointer (some ⟨P3, 0, none⟩), .pointer (some ⟨HB, 0, none⟩)], .func (.func 104) #[] #[.pointer (some ⟨P3, 0, none⟩)], .func (.func 122) #[] #[.pointer (some ⟨wh.heap.size + 1 + 1, 0, none⟩), .pointer (some ⟨wh.heap.size + 1, 0, none⟩), .pointer (some ⟨wh.heap.size, 0, none⟩)], .func (.func 107) #[.pointer (some ⟨l, 0, none⟩)] #[]] 48)).heap.size = w3.heap.size + 1 := by simp
      obtain ⟨w4, hw4⟩ : ∃ w4, w4 = w3.alloc (.cells #[.func (.func 102) #[] #[.pointer (some ⟨P3, 0, none⟩), .pointer (some ⟨HB, 0, none⟩)], .func (.func 104) #[] #[.pointer (some ⟨P3, 0, none⟩)], .func (.func 122) #[] #[.pointer (some ⟨wh.heap.size + 1 + 1, 0, none⟩), .pointer (some ⟨wh.heap.size + 1, 0, none⟩), .pointer (some ⟨wh.heap.size, 0, none⟩)], .func (.func 107) #[.pointer (some ⟨l, 0, none⟩)] #[]] 48) := ⟨_, rfl⟩
      rw [← hw4] at hb4 hnews4 hs4 ⊢
      refine hK.out _ _ (HS22.out _ (fun j x h _ => (hb4.block j (lt_of_block h)).trans h)) (fun hHeld => ?_)
      clear hK K
      try simp only [Act.put, List.setIfInBounds_toArray, List.set_cons_zero, List.set_cons_succ]
      clear hw4
      have hb4r : Below wr.heap.size wr w4 := Hb3r.out.trans (hb4.mono Hb3r.out.size)
      have hrow4 := row_keep Hrow.out fun j hj => hb4r.block j (row_base Hrow.out hj).2
      obtain ⟨i0, hi0, hz0, hz1, hz2⟩ := info_parts (P := Tryz.prog) (e := 48) (z := .nilFunc) (size := 1) (bytes := 8) (by kernel_rfl)
      have hvl : vs.length ≤ 257 := by
       rw [Hcl.out.1]
       have := ckPages_length g.list k
       simp
       have := HPP2.out
       omega
      have hlo4 : lo ≤ w4.heap.size := by have := Hlonb.out; have := lt_of_block Hnb.out; have := hb4r.size; omega
      refine held_one 9 (by kernel_rfl) rfl (fun K hK => ?_)
      refine step_append_lies _ (by rfl) _ _ 176 (by rfl) lo 48 i0 _ 1 8 Tryz.underlying176 hi0 hz0 hz1 hz2 rfl (by omega) u7 vs.length vs (by rfl) hrow4 ⟨w3.heap.size, 0, none⟩ 4 4 [Value.func (.func 102) #[] #[.pointer (some ⟨P3, 0, none⟩), .pointer (some ⟨HB, 0, none⟩)], .func (.func 104) #[] #[.pointer (some ⟨P3, 0, none⟩)], .func (.func 122) #[] #[.pointer (some ⟨wh.heap.size + 1 + 1, 0, none⟩), .pointer (some ⟨wh.heap.size + 1, 0, none⟩), .pointer (some ⟨wh.heap.size, 0, none⟩)], .func (.func 107) #[.pointer (some ⟨l, 0, none⟩)] #[]] (by rfl) (by rfl) hnews4 (fun u hu => by simp at hu; rcases hu with rfl | rfl | rfl | rfl <;> rfl) (by omega) (by unfold maxLen; omega) (by omega) hlo4 (w3.heap.size + 1) hs4 ?_
      intro g5 cap5 w5 hown5 hgrow5 hat5 hlt5
      have nrow : ∀ (j : Nat) (x : Obj), wr.heap[j]? = some x → (∀ c fz, x ≠ .cells c 48 fz) → some j ≠ u7.ownBlock := fun j x h hT e => by
       rcases Hrow.out.2 with ⟨e2, _⟩ | ⟨g', cap', cur', e2, _, hh, _⟩
       ·rw [e2] at e; cases e
       ·rw [e2] at e
        cases e
        rw [h] at hh
        injection hh with hh
        exact hT _ _ hh
      have nrow2 : ∀ j : Nat, wr.heap.size ≤ j → some j ≠ u7.ownBlock := fun j h e => by have := (row_base Hrow.out e.symm).2; omega
      have old5 : ∀ (j : Nat) (x : Obj), w4.heap[j]? = some x → some j ≠ u7.ownBlock → w5.heap[j]? = some x := fun j x h hj => (hgrow5.block j (lt_of_block h) hj).trans h
      have hP4 := (hb4r.block _ (lt_of_block Hp3.out)).trans Hp3.out
      have hP5 := old5 _ _ hP4 (nrow _ _ Hp3.out (fun c fz e => by injection e with _ e2 _; exact absurd e2 (by decide)))
      have hH4 := ((Hb3.out.trans (hb4.mono Hb3.out.size)).block _ (lt_of_block Hh0.out)).trans Hh0.out
      have hH5 := old5 _ _ hH4 (nrow2 _ (Nat.le_refl _))
      have hPH := HS22.out w5 (fun j x h hj => by
       rcases hj with rfl | rfl
       ·have h3 := (Hb3r.out.block _ (lt_of_block Hp3.out)).trans Hp3.out
        rw [h] at h3
        rw [h3]
        exact hP5
       ·rw [HHB.out] at h ⊢
        have h3 := (Hb3.out.block _ (lt_of_block Hh0.out)).trans Hh0.out
        rw [h] at h3
        rw [h3]
        exact hH5)
      refine hK.out _ _ (hPH) (fun hHeld => ?_)
      clear hK K
      try simp only [Act.put, List.setIfInBounds_toArray, List.set_cons_zero, List.set_cons_succ]
      refine held_take (v := ?q22v10) 10 rfl (by kernel_rfl) (by kernel_rfl) (by kernel_rfl) (fun _ _ _ h => h) (by rfl) hHeld ?q22y10 ?q22r10
      case q22y10 => (intro W hSw; obtain ⟨y0, y1, y2, y3⟩ := hSw; go_simp; with_reducible rfl)
      simp only [Act.put, List.setIfInBounds_toArray, List.set_cons_zero, List.set_cons_succ]
      refine wpAnyH_done (by kernel_rfl) ?_ _
      rw [← HHB.out] at hH5
      have hb14 : Below lo w1 w4 := Hbx.out.trans (hb4r.mono (by have := Hlonb.out; have := lt_of_block Hnb.out; omega))
      have hb15 : Below lo w1 w5 := ⟨hgrow5.os.trans hb14.os, hgrow5.tape.trans hb14.tape, hgrow5.output.trans hb14.output, Nat.le_trans hb14.size hgrow5.size, fun j hj => (hgrow5.block j (by have := hb14.size; have := Hlo.out; omega) (fun e => by have := (row_base Hrow.out e.symm).1; omega)).trans (hb14.block j hj)⟩
      have hb15' : Below w1.heap.size w1 w5 := by rw [← Hlo.out]; exact hb15
      have hL5 := HH1.out.below hb15'
      have hcl5 : ClosAt w5 l P3 lo nb vs (lmendM :: ckPages g.list k) := Hcl.out.keep (Nat.le_refl _) fun j x h _ _ hT => by
       obtain ⟨c, T, rfl, hT⟩ := hT
       exact old5 j _ ((hb4r.block j (lt_of_block h)).trans h) (nrow j _ h (fun c2 fz e => by injection e with _ e2 _; rcases hT with rfl | rfl <;> exact absurd e2 (by decide)))
      have hpu5 : PutsAt w5 l (ckHead g) true wh.heap.size (wh.heap.size + 1) (wh.heap.size + 1 + 1) := by
       obtain ⟨p1, p2, p3⟩ := Hpu.out
       have hz := Hh2.out
       exact ⟨old5 _ _ ((hb4.block _ (lt_of_block p1)).trans p1) (nrow2 _ (by omega)), old5 _ _ ((hb4.block _ (lt_of_block p2)).trans p2) (nrow2 _ (by omega)), old5 _ _ ((hb4.block _ (lt_of_block p3)).trans p3) (nrow2 _ (by omega))⟩
      have hnew1 : ∀ j, lo ≤ j → ¬ F.own j ∧ ¬ F.sh j ∧ ¬ G j := fun j hj => HH1.out.new (by rw [← Hlo.out]; exact hj)
      have hnewP : ¬ F.own P3 ∧ ¬ F.sh P3 ∧ ¬ G P3 := HL.out.new (by rw [HP3.out]; exact Nat.le_refl _)
      have hlow : lo ≤ wr.heap.size ∧ wr.heap.size ≤ wh.heap.size := ⟨by have := Hlonb.out; have := lt_of_block Hnb.out; omega, Hh1.out.size⟩
      have hg5 := (row_base hown5 (g := g5) rfl).1
      have hck : ckSteps g = (lmendM :: ckPages g.list k) ++ [lcutM g.head.pages, lsync0M, lputsM (ckHead g) true, lsyncM] := by
       unfold ckSteps
       rw [HPP.out, Int.toNat_natCast]
       rfl
      have hcl := ckPages_length g.list k
      have hPP2 := HPP2.out
      have hbd : ∀ j, j ≤ 300 → N + 32768 * j ≤ 1099511527776 := fun j hj => by omega
      have hST := lsteps_any hL5 N Hsm.out (ckSteps g) (vs ++ [Value.func (.func 102) #[] #[.pointer (some ⟨P3, 0, none⟩), .pointer (some ⟨HB, 0, none⟩)], .func (.func 104) #[] #[.pointer (some ⟨P3, 0, none⟩)], .func (.func 122) #[] #[.pointer (some ⟨wh.heap.size + 1 + 1, 0, none⟩), .pointer (some ⟨wh.heap.size + 1, 0, none⟩), .pointer (some ⟨wh.heap.size, 0, none⟩)], .func (.func 107) #[.pointer (some ⟨l, 0, none⟩)] #[]]) (by rw [hck, List.length_append, List.length_append, Hcl.out.1]; rfl) (by rw [hck]; simp; omega) g5 cap5
       (fun i v hv => by
        have h1 := hown5.cells (g := g5) rfl i v hv
        rwa [Addr.add_lit, Nat.zero_add] at h1) hlt5 (fun _ => G) rfl (fun _ _ _ h => h) ⟨(hnew1 _ hg5).1, fun _ => (hnew1 _ hg5).2.2⟩
       (fun i v m hv hm => by
        rw [hck] at hm
        have hi : i < vs.length + 4 := by have := (List.getElem?_eq_some_iff.1 hv).1; simpa using this
        by_cases hi2 : i < vs.length
        ·rw [List.getElem?_append_left hi2] at hv
         rw [List.getElem?_append_left (by rw [← Hcl.out.1]; exact hi2)] at hm
         rcases hcl5.2 i v m hv hm with ⟨rfl, rfl⟩ | ⟨q, r, n, s, rfl, rfl, hq, hr, q1, q2, r1, r2, hn, hs⟩
         ·exact does_mend _ (by omega)
         ·exact does_check1 _ (by omega) hs hn hP5 hq hr (by
           rintro j (rfl | rfl | rfl)
           ·exact ⟨hnewP.1, hnewP.2.2⟩
           ·exact ⟨(hnew1 _ q1).1, (hnew1 _ q1).2.2⟩
           ·exact ⟨(hnew1 _ r1).1, (hnew1 _ r1).2.2⟩)
        ·obtain ⟨j, rfl⟩ : ∃ j, i = vs.length + j := ⟨i - vs.length, by omega⟩
         rw [List.getElem?_append_right (by omega), show vs.length + j - vs.length = j by omega] at hv
         rw [Hcl.out.1, List.getElem?_append_right (by omega), show (lmendM :: ckPages g.list k).length + j - (lmendM :: ckPages g.list k).length = j by omega] at hm
         match j, hv, hm with
         | 0, hv, hm =>
          simp only [List.getElem?_cons_zero, Option.some.injEq] at hv hm
          subst hv hm
          exact does_check2 (hd := ckHead g) _ (hbd _ (by omega)) HL.out.ok.pages hP5 hH5 (by
           rintro j (rfl | rfl)
           ·exact ⟨hnewP.1, hnewP.2.2⟩
           ·exact ⟨(hnew1 _ (by have := HHB.out; omega)).1, (hnew1 _ (by have := HHB.out; omega)).2.2⟩)
         | 1, hv, hm =>
          simp only [List.getElem?_cons_zero, List.getElem?_cons_succ, Option.some.injEq] at hv hm
          subst hv hm
          exact does_check3 _ (hbd _ (by omega)) hP5 ⟨hnewP.1, hnewP.2.2⟩
         | 2, hv, hm =>
          simp only [List.getElem?_cons_zero, List.getElem?_cons_succ, Option.some.injEq] at hv hm
          subst hv hm
          exact does_puts _ (hbd _ (by omega)) Hpgw.out hpu5 (fun j hj => hnew1 j (by omega))
         | 3, hv, hm =>
          simp only [List.getElem?_cons_zero, List.getElem?_cons_succ, Option.some.injEq] at hv hm
          subst hv hm
          exact does_sync _ (hbd _ (by omega))
         | j + 4, hv, hm => simp at hv)
      have hbw15 : Below w.heap.size w w5 := ((HBA.out.trans (HBw.out.mono HBA.out.size))).trans (hb15'.mono (by have := HBA.out.size; have := HBw.out.size; omega))
      obtain ⟨y, hy⟩ : ∃ y, y = lstepsM (ckSteps g) g d := ⟨_, rfl⟩
      have HM2 := HM.out
      rw [← hy] at hST HM2
      rw [if_neg (by rw [← Hz.out]; exact hz00)] at HM2
      rw [show (vs ++ [Value.func (.func 102) #[] #[.pointer (some ⟨P3, 0, none⟩), .pointer (some ⟨HB, 0, none⟩)], .func (.func 104) #[] #[.pointer (some ⟨P3, 0, none⟩)], .func (.func 122) #[] #[.pointer (some ⟨wh.heap.size + 1 + 1, 0, none⟩), .pointer (some ⟨wh.heap.size + 1, 0, none⟩), .pointer (some ⟨wh.heap.size, 0, none⟩)], .func (.func 107) #[.pointer (some ⟨l, 0, none⟩)] #[]]).length = vs.length + 4 by simp] at hST
      have KEEP := hid (show ∀ W F5 G5, LgStep F F5 G G5 w5 W → W.heap[P3]? = some (.cells #[.pointer (some ⟨l, 0, none⟩)] 77 (0, 0)) ∧ W.heap[HB]? = some (.cells #[.int .u64 (ckHead g).number, .int .i64 0, .int .i64 g.head.pages] 104 (0, 0)) from fun W F5 G5 hst =>
       ⟨(box_step hP5 hnewP.1 hnewP.2.2 hst).1, (box_step hH5 (hnew1 _ (by have := HHB.out; omega)).1 (hnew1 _ (by have := HHB.out; omega)).2.2 hst).1⟩)
      have ST := hid hST
      have HM2 := hid HM2
      have Hbw15 := hid hbw15
      clear hST hbw15 hy hbd hck hcl hg5 hnew1 hnewP hpu5 hcl5 hL5 hb15' hb15 hb14 hH5 hPH hH4 hP5 hP4 old5 nrow nrow2 hown5 hgrow5 hat5 hlt5 hrow4 hb4r hb4 hnews4 HS22 HM
      have hnst := HL.out.ok.num
      have hstp := fun W => start_any (ckHead g).number W Hpgw.out.1 Hpgw.out.2
      unfold pairV at hstp
      have Hstp := hid hstp
      clear hnst hstp
      by_cases hy0 : y.1 = 0
      ·have e0 : (y.1 != 0) = false := by simp [hy0]
       have HM3 := HM2.out
       rw [if_neg (by simpa using hy0)] at HM3
       have HM3 := hid HM3
       clear HM2 hy0
       go_upto_region 26 with (first | (go_at_call 108; refine (ST.out).mono ?_; rintro e w6 ⟨rfl, hd6⟩) | go_in)
       obtain ⟨F5, G5, h5, s5⟩ := hd6
       obtain ⟨kp, kh⟩ := KEEP.out w6 F5 G5 s5
       have DONE := hid (show LgStep F F5 G G5 w w6 from (LgStep.below Hbw15.out).trans s5)
       obtain ⟨lv5, hl5⟩ := h5.log
       have Hd5 := hid h5.disk
       have Hl5 := hid hl5
       have Kp := hid kp
       have Kh := hid kh
       clear h5 s5 hl5 kp kh ST KEEP
       have nPl : P3 ≠ l := fun e => by have h1 := Kp.out; rw [e, Hl5.out.blk] at h1; injection h1 with h1; injection h1 with _ h2 _; exact absurd h2 (by decide)
       have nHl : HB ≠ l := fun e => by have h1 := Kh.out; rw [e, Hl5.out.blk] at h1; injection h1 with h1; injection h1 with _ h2 _; exact absurd h2 (by decide)
       have HS26 := hid (show ∀ W : World, (∀ (j : Nat) (x : Obj), w6.heap[j]? = some x → j ≠ l → W.heap[j]? = some x) → W.cell? ⟨P3, 0, none⟩ = some (.pointer (some ⟨l, 0, none⟩)) ∧ W.cell? ⟨HB, 0, none⟩ = some (.int .u64 (ckHead g).number) ∧ W.cell? ⟨HB, 1, none⟩ = some (.int .i64 0) ∧ W.cell? ⟨HB, 2, none⟩ = some (.int .i64 g.head.pages) from fun W hW => by
        have b1 := hW P3 _ Kp.out nPl
        have b2 := hW HB _ Kh.out nHl
        exact ⟨by rw [cell_of_block b1]; rfl, by rw [cell_of_block b2]; rfl, by rw [cell_of_block b2]; rfl, by rw [cell_of_block b2]; rfl⟩)
       refine wp_region_held_drew (S := fun W => W.cell? ⟨P3, 0, none⟩ = some (.pointer (some ⟨l, 0, none⟩)) ∧ W.cell? ⟨HB, 0, none⟩ = some (.int .u64 (ckHead g).number) ∧ W.cell? ⟨HB, 1, none⟩ = some (.int .i64 0) ∧ W.cell? ⟨HB, 2, none⟩ = some (.int .i64 g.head.pages)) (by kernel_rfl) (HS26.out w6.drew (fun _ _ h _ => h)) (fun hHeld => ?_)
       clear nPl nHl
       refine held_take (v := ?p26v0) 0 rfl (by kernel_rfl) (by kernel_rfl) (by kernel_rfl) (fun _ _ _ h => h) (by rfl) hHeld ?p26y0 ?p26r0
       case p26y0 => (intro W hSw; obtain ⟨y0, y1, y2, y3⟩ := hSw; go_simp; with_reducible rfl)
       simp only [Act.put, List.setIfInBounds_toArray, List.set_cons_zero, List.set_cons_succ]
       refine held_take (v := ?p26v1) 1 rfl (by kernel_rfl) (by kernel_rfl) (by kernel_rfl) (fun _ _ _ h => h) (by rfl) hHeld ?p26y1 ?p26r1
       case p26y1 => (intro W hSw; obtain ⟨y0, y1, y2, y3⟩ := hSw; go_simp; with_reducible rfl)
       simp only [Act.put, List.setIfInBounds_toArray, List.set_cons_zero, List.set_cons_succ]
       refine held_take (v := ?p26v2) 2 rfl (by kernel_rfl) (by kernel_rfl) (by kernel_rfl) (fun _ _ _ h => h) (by rfl) hHeld ?p26y2 ?p26r2
       case p26y2 => (intro W hSw; obtain ⟨y0, y1, y2, y3⟩ := hSw; go_simp; with_reducible rfl)
       simp only [Act.put, List.setIfInBounds_toArray, List.set_cons_zero, List.set_cons_succ]
       refine held_take (v := ?p26v3) 3 rfl (by kernel_rfl) (by kernel_rfl) (by kernel_rfl) (fun _ _ _ h => h) (by rfl) hHeld ?p26y3 ?p26r3
       case p26y3 => (intro W hSw; obtain ⟨y0, y1, y2, y3⟩ := hSw; go_simp; with_reducible rfl)
       simp only [Act.put, List.setIfInBounds_toArray, List.set_cons_zero, List.set_cons_succ]
       refine held_take (v := ?p26v4) 4 rfl (by kernel_rfl) (by kernel_rfl) (by kernel_rfl) (fun _ _ _ h => h) (by rfl) hHeld ?p26y4 ?p26r4
       case p26y4 => (intro W hSw; obtain ⟨y0, y1, y2, y3⟩ := hSw; go_simp; with_reducible rfl)
       simp only [Act.put, List.setIfInBounds_toArray, List.set_cons_zero, List.set_cons_succ]
       refine held_take (v := ?p26v5) 5 rfl (by kernel_rfl) (by kernel_rfl) (by kernel_rfl) (fun _ _ _ h => h) (by rfl) hHeld ?p26y5 ?p26r5
       case p26y5 => (intro W hSw; obtain ⟨y0, y1, y2, y3⟩ := hSw; go_simp; with_reducible rfl)
       simp only [Act.put, List.setIfInBounds_toArray, List.set_cons_zero, List.set_cons_succ]
       refine held_one 6 (by kernel_rfl) rfl (fun K hK => ?_)
       go_simp
       refine (Hstp.out _).mono ?_
       rintro e w7 ⟨rfl, hb7⟩
       have hb7 := below_undrew hb7
       have sm7 : ∀ (j : Nat) (x : Obj), w6.heap[j]? = some x → j ≠ l → w7.heap[j]? = some x := fun j x h _ => (hb7.block j (lt_of_block h)).trans h
       try dsimp only
       refine hK.out _ _ (HS26.out _ sm7) (fun hHeld => ?_)
       clear hK K
       try simp only [Act.put, List.setIfInBounds_toArray, List.set_cons_zero, List.set_cons_succ]
       have hl7 := (hb7.block _ (lt_of_block Hl5.out.blk)).trans Hl5.out.blk
       have Hb7 := hid hb7
       have a1 : w7.cell? ⟨l, 1, none⟩ = some (.int .u64 y.2.1.head.number) := (cell_of_block hl7 1).trans rfl
       have a2 : w7.cell? ⟨l, 2, none⟩ = some (.int .i64 y.2.1.head.frames) := (cell_of_block hl7 2).trans rfl
       have a3 : w7.cell? ⟨l, 3, none⟩ = some (.int .i64 y.2.1.head.pages) := (cell_of_block hl7 3).trans rfl
       have af1 := free_of_block hl7 1
       have af2 := free_of_block hl7 2
       have af3 := free_of_block hl7 3
       clear hb7
       refine held_take (v := ?q26v7) 7 rfl (by kernel_rfl) (by kernel_rfl) (by kernel_rfl) (fun _ _ _ h => h) (by rfl) hHeld ?q26y7 ?q26r7
       case q26y7 => (intro W hSw; obtain ⟨y0, y1, y2, y3⟩ := hSw; go_simp; with_reducible rfl)
       simp only [Act.put, List.setIfInBounds_toArray, List.set_cons_zero, List.set_cons_succ]
       refine held_take (v := ?q26v8) 8 rfl (by kernel_rfl) (by kernel_rfl) (by kernel_rfl) (fun _ _ _ h => h) (by rfl) hHeld ?q26y8 ?q26r8
       case q26y8 => (intro W hSw; obtain ⟨y0, y1, y2, y3⟩ := hSw; go_simp; with_reducible rfl)
       simp only [Act.put, List.setIfInBounds_toArray, List.set_cons_zero, List.set_cons_succ]
       refine held_one 9 (by kernel_rfl) rfl (fun K hK => ?_)
       go_simp
       obtain ⟨wa, hwa⟩ : ∃ wa, wa = ((w7.setCell ⟨l, 1, none⟩ (.int .u64 (ckHead g).number)).setCell ⟨l, 2, none⟩ (.int .i64 0)).setCell ⟨l, 3, none⟩ (.int .i64 g.head.pages) := ⟨_, rfl⟩
       rw [← hwa]
       have SET := hid (show ∀ (W : World) (o : Nat) (u : Value), (∀ (j : Nat) (x : Obj), w6.heap[j]? = some x → j ≠ l → W.heap[j]? = some x) → ∀ (j : Nat) (x : Obj), w6.heap[j]? = some x → j ≠ l → (W.setCell ⟨l, o, none⟩ u).heap[j]? = some x from fun W o u h j x h1 h2 => by rw [Below.heap_setCell _ ⟨l, _, none⟩ _ j h2]; exact h j x h1 h2)
       have sma : ∀ (j : Nat) (x : Obj), w6.heap[j]? = some x → j ≠ l → wa.heap[j]? = some x := by
        rw [hwa]
        exact SET.out _ _ _ (SET.out _ _ _ (SET.out _ _ _ sm7))
       have bka : wa.heap[l]? = some (.cells (logCells b (⟨ckHead g, y.2.1.has, y.2.1.list, y.2.1.pair, y.2.1.torn, y.2.1.off⟩ : Lg) lv5).toArray 110 (0, 0)) := by
        rw [hwa]
        exact (heap_setCell_same (heap_setCell_same (heap_setCell_same hl7 1 (.int .u64 (ckHead g).number)) 2 (.int .i64 0)) 3 (.int .i64 g.head.pages)).trans rfl
       have sza : w6.heap.size ≤ wa.heap.size := by rw [hwa]; simpa using Hb7.out.size
       have fma : Frm (fun j => j = l) w6 wa := by
        rw [hwa]
        exact (((Frm.of_below (S := fun j => j = l) Hb7.out).setCell (p := ⟨l, 1, none⟩) (.inl rfl) _).setCell (p := ⟨l, 2, none⟩) (.inl rfl) _).setCell (p := ⟨l, 3, none⟩) (.inl rfl) _
       clear hwa a1 a2 a3 af1 af2 af3 hl7 sm7
       refine hK.out _ _ (HS26.out _ sma) (fun hHeld => ?_)
       clear hK K
       try simp only [Act.put, List.setIfInBounds_toArray, List.set_cons_zero, List.set_cons_succ]
       have a5 : wa.cell? ⟨l, 5, none⟩ = some lv5 := (cell_of_block bka 5).trans rfl
       have af5 := free_of_block bka 5
       refine held_take (v := ?r26v10) 10 rfl (by kernel_rfl) (by kernel_rfl) (by kernel_rfl) (fun _ _ _ h => h) (by rfl) hHeld ?r26y10 ?r26r10
       case r26y10 => (intro W hSw; obtain ⟨y0, y1, y2, y3⟩ := hSw; go_simp; with_reducible rfl)
       simp only [Act.put, List.setIfInBounds_toArray, List.set_cons_zero, List.set_cons_succ]
       refine held_take (v := ?r26v11) 11 rfl (by kernel_rfl) (by kernel_rfl) (by kernel_rfl) (fun _ _ _ h => h) (by rfl) hHeld ?r26y11 ?r26r11
       case r26y11 => (intro W hSw; obtain ⟨y0, y1, y2, y3⟩ := hSw; go_simp; with_reducible rfl)
       simp only [Act.put, List.setIfInBounds_toArray, List.set_cons_zero, List.set_cons_succ]
       refine held_one 12 (by kernel_rfl) rfl (fun K hK => ?_)
       go_simp
       obtain ⟨wb, hwb⟩ : ∃ wb, wb = wa.setCell ⟨l, 5, none⟩ (.slice none 0 0) := ⟨_, rfl⟩
       rw [← hwb]
       have smb : ∀ (j : Nat) (x : Obj), w6.heap[j]? = some x → j ≠ l → wb.heap[j]? = some x := by
        rw [hwb]
        exact SET.out _ _ _ sma
       have bkb : wb.heap[l]? = some (.cells (logCells b (⟨ckHead g, y.2.1.has, [], y.2.1.pair, y.2.1.torn, y.2.1.off⟩ : Lg) (.slice none 0 0)).toArray 110 (0, 0)) := by
        rw [hwb]
        exact (heap_setCell_same bka 5 (.slice none 0 0)).trans rfl
       have fmb : Frm (fun j => j = l) w6 wb := by
        rw [hwb]
        exact fma.setCell (p := ⟨l, 5, none⟩) (.inl rfl) _
       clear hwb sma bka fma sza a5 af5
       refine hK.out _ _ (HS26.out _ smb) (fun hHeld => ?_)
       clear hK K
       try simp only [Act.put, List.setIfInBounds_toArray, List.set_cons_zero, List.set_cons_succ]
       have a6 : wb.cell? ⟨l, 6, none⟩ = some (.int .u32 y.2.1.pair.1) := (cell_of_block bkb 6).trans rfl
       have a7 : wb.cell? ⟨l, 7, none⟩ = some (.int .u32 y.2.1.pair.2) := (cell_of_block bkb 7).trans rfl
       have af6 := free_of_block bkb 6
       have af7 := free_of_block bkb 7
       refine held_take (v := ?s26v13) 13 rfl (by kernel_rfl) (by kernel_rfl) (by kernel_rfl) (fun _ _ _ h => h) (by rfl) hHeld ?s26y13 ?s26r13
       case s26y13 => (intro W hSw; obtain ⟨y0, y1, y2, y3⟩ := hSw; go_simp; with_reducible rfl)
       simp only [Act.put, List.setIfInBounds_toArray, List.set_cons_zero, List.set_cons_succ]
       refine held_take (v := ?s26v14) 14 rfl (by kernel_rfl) (by kernel_rfl) (by kernel_rfl) (fun _ _ _ h => h) (by rfl) hHeld ?s26y14 ?s26r14
       case s26y14 => (intro W hSw; obtain ⟨y0, y1, y2, y3⟩ := hSw; go_simp; with_reducible rfl)
       simp only [Act.put, List.setIfInBounds_toArray, List.set_cons_zero, List.set_cons_succ]
       refine held_one 15 (by kernel_rfl) rfl (fun K hK => ?_)
       go_simp
       obtain ⟨wc, hwc⟩ : ∃ wc, wc = (wb.setCell ⟨l, 6, none⟩ (.int .u32 (startP (ckHead g).number).1)).setCell ⟨l, 7, none⟩ (.int .u32 (startP (ckHead g).number).2) := ⟨_, rfl⟩
       rw [← hwc]
       have smc : ∀ (j : Nat) (x : Obj), w6.heap[j]? = some x → j ≠ l → wc.heap[j]? = some x := by
        rw [hwc]
        exact SET.out _ _ _ (SET.out _ _ _ smb)
       have bkc : wc.heap[l]? = some (.cells (logCells b (⟨ckHead g, y.2.1.has, [], startP (ckHead g).number, y.2.1.torn, y.2.1.off⟩ : Lg) (.slice none 0 0)).toArray 110 (0, 0)) := by
        rw [hwc]
        exact (heap_setCell_same (heap_setCell_same bkb 6 (.int .u32 (startP (ckHead g).number).1)) 7 (.int .u32 (startP (ckHead g).number).2)).trans rfl
       have fmc : Frm (fun j => j = l) w6 wc := by
        rw [hwc]
        exact (fmb.setCell (p := ⟨l, 6, none⟩) (.inl rfl) _).setCell (p := ⟨l, 7, none⟩) (.inl rfl) _
       clear hwc smb bkb fmb a6 a7 af6 af7
       refine hK.out _ _ (HS26.out _ smc) (fun hHeld => ?_)
       clear hK K
       try simp only [Act.put, List.setIfInBounds_toArray, List.set_cons_zero, List.set_cons_succ]
       refine wpAnyH_done (by kernel_rfl) ?_ _
       go_wp2_with fail
       go_ret
       rw [HM3.out]
       have hfoot := Hl5.out.gout l Hl5.out.lown
       refine ⟨rfl, F5, G5, ⟨Hd5.out.keep (fun j hj => fmc.block j (hj.elim (Hd5.out.olt j) (Hd5.out.slt j)) (fun e => by rw [e] at hj; exact hj.elim hfoot.1 hfoot.2)) fmc.size, .slice none 0 0, bkc, World.ownsRow_nil _ _ _ _, (fun j hj => by cases hj), Hl5.out.lown, Hl5.out.gout, fun j hj => Nat.lt_of_lt_of_le (Hl5.out.glt j hj) fmc.size, ?_⟩, DONE.out.trans ⟨fmc.mono (fun j hj => .inr (hj ▸ Hl5.out.lown)), fun _ h => .inl h, fun _ h => .inl h, fun _ h => .inl h⟩⟩
       exact ⟨Hpgw.out, HL.out.ok.pages, ⟨Int.le_refl 0, (show (0 : Int) ≤ 256 by decide)⟩, sumAdd_bd _ _ (by decide) (by decide), (by simp), (fun f hf => by cases hf)⟩
      ·have e0 : (y.1 != 0) = true := by simp [hy0]
       have HM3 := HM2.out
       rw [if_pos hy0] at HM3
       have HM3 := hid HM3
       clear HM2 hy0
       go_wp2_with (first | (go_at_call 108; refine (ST.out).mono ?_; rintro e w6 ⟨rfl, hd6⟩) | go_in)
       go_ret
       rw [HM3.out]
       exact ⟨rfl, did_then (LgStep.below Hbw15.out) hd6⟩
theorem lcheck_any (h : LgAt w l b F G g d) (N : Nat) (hsm : d.Small N) (hN : N + 16777216 ≤ 1099511527776) :
  Calls Tryz.prog 72 #[.pointer (some ⟨l, 0, none⟩)] w fun e w' => e = .returned (.int .i64 (lcheckM g d).1) ∧ LgDid w l b F G (lcheckM g d).2.1 (lcheckM g d).2.2 w' := by
 by_cases ho : g.off = true
 ·have e : lcheckM g d = (32, g, d) := by unfold lcheckM; rw [if_pos ho]
  rw [e]
  refine (lcheck_off h ho).mono ?_
  rintro e w1 ⟨rfl, hb⟩
  exact ⟨rfl, LgDid.ofBelow h hb⟩
 ·exact lcheck_main h N hsm hN (by simpa using ho)
end
end Go.Proofs.YtlkkclooihjpiaaGreat
