/- Plain laws: on a calm disk no step of the log's fails, also behind a crash. -/
import Derived.Test.YtdinjghfjmmjoaaGreatCrD
import Derived.Test.YtdinjghfjmmjoaaGreatNxE
set_option linter.unusedVariables false
set_option linter.unusedSimpArgs false
namespace Go.Proofs.YtdinjghfjmmjoaaGreat
open Go.RowKit Go.Maps
set_option maxRecDepth 20000
def Steady (n : Nat) (g : Lg) : Prop := g.off = false ∧ g.list.length = n ∧ hdMay g.head = true
def Fine (n : Nat) (m : LgM) : Prop := ∀ g d, Calm d → Steady n g → (m g d).1 = 0 ∧ Calm (m g d).2.2 ∧ Steady n (m g d).2.1
section
variable {g : Lg} {d : Dsk} {n : Nat} {S : List (List UInt8) → Prop} {L M : List (List UInt8)}
theorem fine_puts {h : Hd} (has : Bool) (hm : hdMay h = true) : Fine n (lputsM h has) := by
 intro g d hc hg
 have hl : (lputsS h has).length = 1 * 64 := by rw [lputsS_eq has hm, headS_len]
 have hw : (writeM d ((1 : Nat) : Int) ((0 : Nat) : Int) (lputsS h has)).1 = 0 := write_ok hc (by decide) hl (by decide) (by decide)
 exact ⟨hw, calm_write hc 1 0 _, hg⟩
theorem fine_sync : Fine n lsyncM := fun g d hc hg => ⟨sync_ok hc (k := 1) (by decide), calm_sync hc 1, hg⟩
theorem fine_sync0 : Fine n lsync0M := fun g d hc hg => ⟨sync_ok hc (k := 0) (by decide), calm_sync hc 0, hg⟩
theorem fine_write {s : List UInt8} {m : Nat} (hs : s.length = m * 64) (h0 : 0 < m) (hm : 1 + 9 * n + m ≤ 8192) : Fine n (lwriteM s) := by
 intro g d hc hg
 have hw := write_ok hc (k := 1) (a := 1 + 9 * n) (by decide) hs h0 hm
 have e : ((1 + 9 * n : Nat) : Int) = 1 + 9 * (g.list.length : Int) := by rw [hg.2.1]; omega
 rw [e] at hw
 exact ⟨hw, calm_write hc 1 _ _, hg⟩
theorem fine_page {m : Nat} {s : List UInt8} (hs : s.length = 512) (h1 : 1 ≤ m) (h2 : m ≤ 256) : Fine n (lpageM (m : Int) s) := by
 intro g d hc hg
 have hw := write_ok hc (k := 0) (a := 8 * (m - 1)) (m := 8) (by decide) (by omega) (by decide) (by omega)
 have e : ((8 * (m - 1) : Nat) : Int) = 8 * ((m : Int) - 1) := by omega
 rw [e] at hw
 exact ⟨hw, calm_write hc 0 _ _, hg⟩
theorem fine_cut (P : Nat) : Fine n (lcutM (P : Int)) := by
 intro g d hc hg
 unfold lcutM
 by_cases h : 8 * (P : Int) < ((d.now 0).length : Int)
 ·rw [if_pos h]
  refine ⟨?_, calm_cut hc 0 _, hg⟩
  have e : (8 * (P : Int)) = ((8 * P : Nat) : Int) := by omega
  rw [e] at h ⊢
  show (cutM d ((0 : Nat) : Int) ((8 * P : Nat) : Int)).1 = 0
  unfold cutM
  rw [if_neg (by simpa using ready_on (k := 0) (by decide) hc.on), Int.toNat_natCast, if_neg (by omega), if_neg (by simpa using (calm_meets hc).1)]
 ·rw [if_neg h]
  exact ⟨rfl, hc, hg⟩
theorem fine_steps : ∀ (l : List LgM), (∀ m ∈ l, Fine n m) → Fine n (lstepsM l)
 | [], _ => fun g d hc hg => ⟨rfl, hc, hg⟩
 | m :: r, hl => fun g d hc hg => by
  obtain ⟨e, c, k⟩ := hl m List.mem_cons_self g d hc hg
  rw [steps_done e]
  exact fine_steps r (fun x hx => hl x (List.mem_cons_of_mem _ hx)) _ _ c k
theorem fine_mend : Fine n lmendM := by
 intro g d hc hg
 unfold lmendM
 split
 ·exact fine_steps [lputsM g.head g.has, lsyncM] (fun m hm => by
   rcases List.mem_cons.1 hm with rfl | hm
   ·exact fine_puts _ hg.2.2
   ·rw [List.mem_singleton.1 hm]; exact fine_sync) g d hc hg
 ·exact ⟨rfl, hc, hg⟩
theorem append_fine (hc : Calm d) (ho : g.off = false) (hm : hdMay g.head = true) {pages : Int} {x : List Img} (hp : 1 ≤ pages ∧ pages ≤ 256) (h0 : x ≠ []) (hx : ∀ i ∈ x, imgBad i = false) (hr : g.list.length + x.length ≤ 256) :
  (lappendM pages x g d).1 = 0 ∧ Calm (lappendM pages x g d).2.2 ∧ (lappendM pages x g d).2.1.off = false := by
 have hl : x.length ≠ 0 := fun e => h0 (List.length_eq_zero_iff.1 e)
 have hany : ¬ x.any imgBad = true := by
  intro e
  obtain ⟨i, hi, hb⟩ := List.any_eq_true.1 e
  rw [hx i hi] at hb
  cases hb
 have htext : (appText g pages x).1.length = (9 * x.length) * 64 := by
  unfold appText
  rw [putsN_length_ok _ _ _ (frsOf_ok hp hx), frsOf_length]
  omega
 have hS : hdMay (appHead g pages x) = true := by unfold hdMay appHead inB; simp; omega
 obtain ⟨e1, e2, e3⟩ := fine_steps (n := g.list.length) (appSteps g pages x) (fun m hm2 => by
  unfold appSteps at hm2
  simp only [List.mem_cons, List.not_mem_nil, or_false] at hm2
  rcases hm2 with rfl | rfl | rfl | rfl | rfl
  ·exact fine_mend
  ·exact fine_write htext (by omega) (by omega)
  ·exact fine_sync
  ·exact fine_puts _ hS
  ·exact fine_sync) g d hc ⟨ho, rfl, hm⟩
 unfold lappendM
 rw [if_neg (by rw [ho]; decide), if_neg (by omega), if_neg hany, if_neg (by omega), if_neg (by rw [e1]; simp)]
 exact ⟨rfl, e2, e3.1⟩
theorem check_fine (hc : Calm d) (ho : g.off = false) (hm : hdMay g.head = true) (hg : g.Ok) : (lcheckM g d).1 = 0 ∧ Calm (lcheckM g d).2.2 ∧ (lcheckM g d).2.1.off = false ∧ hdMay (lcheckM g d).2.1.head = true ∧ (lcheckM g d).2.1.list.length = 0 := by
 have hp := hg.pages
 obtain ⟨P, hP⟩ : ∃ P : Nat, g.head.pages = (P : Int) := ⟨g.head.pages.toNat, by omega⟩
 unfold lcheckM
 rw [if_neg (by rw [ho]; decide)]
 by_cases hl : g.list.length = 0
 ·rw [if_pos hl]
  exact ⟨rfl, hc, ho, hm, hl⟩
 rw [if_neg hl]
 have hS : hdMay (ckHead g) = true := by unfold hdMay ckHead inB; simp; omega
 obtain ⟨e1, e2, e3⟩ := fine_steps (n := g.list.length) (ckSteps g) (fun m hm2 => by
  unfold ckSteps at hm2
  rw [hP] at hm2
  simp only [List.mem_cons, List.mem_append, List.not_mem_nil, or_false] at hm2
  rcases hm2 with rfl | h | rfl | rfl | rfl | rfl
  ·exact fine_mend
  ·unfold ckPages at h
   obtain ⟨i, hi, h⟩ := List.mem_filterMap.1 h
   have hi := List.mem_range.1 hi
   obtain ⟨s, hs, rfl⟩ := Option.map_eq_some_iff.1 h
   refine fine_page ?_ (by omega) (by omega)
   obtain ⟨f, hf, e, -⟩ := lastAt_mem hs
   have := hg.data f hf
   unfold frOk at this
   simp only [Bool.and_eq_true, decide_eq_true_eq] at this
   rw [← e]
   exact this.2
  ·exact fine_cut P
  ·exact fine_sync0
  ·exact fine_puts _ hS
  ·exact fine_sync) g d hc ⟨ho, rfl, hm⟩
 rw [if_neg (by rw [e1]; simp)]
 exact ⟨rfl, e2, e3.1, hS, rfl⟩
theorem put_fine (hc : Calm d) (ho : g.off = false) (hm : hdMay g.head = true) (hg : g.Ok) {p : Pg} {t : Tr} (ht : t.Ok) (hop : p.opn = 0) (hne : trImgs t ≠ []) :
  (putM p t g d).1 = 0 ∧ Calm (putM p t g d).2.2.2 ∧ (putM p t g d).2.2.1.off = false := by
 have hx : ∀ i ∈ trImgs t, imgBad i = false := trImgs_good ht
 have hlen : (trImgs t).length ≤ 256 := trImgs_length t
 have hp : 1 ≤ t.pages ∧ t.pages ≤ 256 := by
  obtain ⟨i, hi⟩ := List.exists_mem_of_ne_nil _ hne
  have := ht.pages
  unfold trImgs at hi
  obtain ⟨q, hq, -⟩ := List.mem_map.1 hi
  have hq := (keysOf_mem.1 hq).2
  obtain ⟨s, hs⟩ := Option.isSome_iff_exists.1 hq
  have := ht.dom q s hs
  omega
 unfold putM
 split
 ·obtain ⟨c1, c2, c3, c4, c5⟩ := check_fine hc ho hm hg
  rw [if_neg (by rw [c1]; simp)]
  exact append_fine c2 c3 c4 hp hne hx (by omega)
 ·rename_i h
  exact append_fine hc ho hm hp hne hx (by omega)
end
end Go.Proofs.YtdinjghfjmmjoaaGreat
/- Plain laws of UnitLike: the states told, the ships that tell them. -/
namespace Go.Proofs.YtdinjghfjmmjoaaGreat
open Go.RowKit Go.Maps
set_option maxRecDepth 20000
structure Told (T : List (List (List UInt8))) : Prop where
 some : 0 < T.length
 zero : T.getD 0 [] = []
 many : T.length ≤ 1000
 good : ∀ j, j < T.length → Good (T.getD j [])
 comm : ∀ j, j < T.length → commL (T.getD j []) = (j : Int)
 one : ∀ j, 1 ≤ j → j < T.length → 1 ≤ (T.getD j []).length
 few : ∀ j, j < T.length → (T.getD j []).length ≤ 21
 len : ∀ j, j < T.length → ∀ s ∈ T.getD j [], s.length = 512
def imgsF (M : List (List UInt8)) (f : Int → Bool) : List Img := (imgsOf M).filter fun x => f x.page
structure Says (T : List (List (List UInt8))) (m : Sh) (k : Nat) : Prop where
 kind : m.kind = 1
 num : m.k = (k : Int)
 k1 : 1 ≤ k
 kT : k < T.length
 pages : m.pages = ((T.getD k []).length : Int)
 imgs : ∃ f : Int → Bool, m.imgs = imgsF (T.getD k []) f ∧ f 1 = true ∧ (m.full = true → ∀ n, f n = true) ∧
  (m.full = false → ∀ n : Nat, 1 ≤ n → n ≤ (T.getD k []).length → f n = true ∨ (n ≤ (T.getD (k - 1) []).length ∧ (T.getD k []).getD (n - 1) [] = (T.getD (k - 1) []).getD (n - 1) []))
section
variable {T : List (List (List UInt8))} {m : Sh} {k j : Nat} {M : List (List UInt8)} {f : Int → Bool}
theorem imgsF_range (M : List (List UInt8)) (f : Int → Bool) : imgsF M f = ((List.range M.length).map fun (i : Nat) => (⟨(i : Int) + 1, M.getD i []⟩ : Img)).filter fun x => f x.page := by
 unfold imgsF
 rw [imgsOf_range]
theorem imgAt_append (a b : List Img) (n : Int) (s : List UInt8) : imgAt (a ++ b) n s = imgAt b n (imgAt a n s) := by
 unfold imgAt
 rw [List.foldl_append]
theorem imgAt_range (M : List (List UInt8)) (f : Int → Bool) (n : Nat) (h1 : 1 ≤ n) (s : List UInt8) : ∀ K : Nat,
  imgAt (((List.range K).map fun (i : Nat) => (⟨(i : Int) + 1, M.getD i []⟩ : Img)).filter fun x => f x.page) n s = if n ≤ K ∧ f n = true then M.getD (n - 1) [] else s
 | 0 => by rw [if_neg (by omega)]; rfl
 | K + 1 => by
  rw [List.range_succ, List.map_append, List.filter_append, imgAt_append, imgAt_range M f n h1 s K]
  simp only [List.map_cons, List.map_nil]
  by_cases e : f ((K : Int) + 1) = true
  ·rw [List.filter_cons_of_pos (by simpa using e)]
   show (if (K : Int) + 1 = (n : Int) then M.getD K [] else _) = _
   by_cases hn : n = K + 1
   ·subst hn
    rw [if_pos (by omega), if_pos ⟨Nat.le_refl _, by rw [show (((K + 1 : Nat)) : Int) = (K : Int) + 1 by omega]; exact e⟩, Nat.add_sub_cancel]
   ·rw [if_neg (by omega)]
    by_cases h2 : n ≤ K ∧ f n = true
    ·rw [if_pos h2, if_pos ⟨by omega, h2.2⟩]
    ·rw [if_neg h2, if_neg (fun hh => h2 ⟨by omega, hh.2⟩)]
  ·rw [List.filter_cons_of_neg (by simpa using e)]
   show (if n ≤ K ∧ f n = true then M.getD (n - 1) [] else s) = _
   by_cases hn : n = K + 1
   ·subst hn
    rw [if_neg (by omega), if_neg (fun hh => e (by rw [← show (((K + 1 : Nat)) : Int) = (K : Int) + 1 by omega]; exact hh.2))]
   ·by_cases h2 : n ≤ K ∧ f n = true
    ·rw [if_pos h2, if_pos ⟨by omega, h2.2⟩]
    ·rw [if_neg h2, if_neg (fun hh => h2 ⟨by omega, hh.2⟩)]
theorem mayImgs_of (pages : Int) : ∀ (l : List Img) (q : Int), (∀ x ∈ l, q < x.1 ∧ x.1 ≤ pages ∧ x.2.length = 512) → l.Pairwise (fun a b => a.1 < b.1) → mayImgs pages q l = true
 | [], q, _, _ => by conv => lhs; unfold mayImgs
 | x :: r, q, hx, hp => by
  have h1 := hx x List.mem_cons_self
  rw [mayImgs_cons, if_neg (by omega)]
  have hp := List.pairwise_cons.1 hp
  exact mayImgs_of pages r x.1 (fun y hy => ⟨hp.1 y hy, (hx y (List.mem_cons_of_mem _ hy)).2⟩) hp.2
theorem imgsF_mem {x : Img} (h : x ∈ imgsF M f) : ∃ i, i < M.length ∧ x = ⟨(i : Int) + 1, M.getD i []⟩ ∧ f ((i : Int) + 1) = true := by
 rw [imgsF_range] at h
 obtain ⟨h1, h2⟩ := List.mem_filter.1 h
 obtain ⟨i, hi, rfl⟩ := List.mem_map.1 h1
 exact ⟨i, List.mem_range.1 hi, rfl, h2⟩
theorem imgsF_may (hl : ∀ s ∈ M, s.length = 512) : mayImgs (M.length : Int) 0 (imgsF M f) = true := by
 refine mayImgs_of _ _ _ (fun x hx => ?_) ?_
 ·obtain ⟨i, hi, rfl, -⟩ := imgsF_mem hx
  exact ⟨by show (0 : Int) < (i : Int) + 1; omega, by show (i : Int) + 1 ≤ _; omega, hl _ (getD_mem hi)⟩
 ·rw [imgsF_range]
  refine List.Pairwise.filter _ ?_
  rw [List.pairwise_map]
  exact List.pairwise_lt_range.imp fun {a b} h => by show (a : Int) + 1 < (b : Int) + 1; omega
theorem imgsF_all (h : ∀ n, f n = true) : imgsF M f = imgsOf M := by
 unfold imgsF
 exact List.filter_eq_self.2 fun x _ => h _
theorem Says.may (hT : Told T) (h : Says T m k) : mayB m = true := by
 obtain ⟨f, e, f1, f2, -⟩ := h.imgs
 have h1 := hT.one k h.k1 h.kT
 have h2 := hT.few k h.kT
 unfold mayB
 rw [if_neg (by rw [h.kind]; decide), if_pos h.kind]
 rw [e, h.pages, imgsF_may (hT.len k h.kT), h.num]
 simp only [Bool.and_true, Bool.not_eq_true', Bool.or_eq_false_iff, decide_eq_false_iff_not, Bool.and_eq_false_imp, Bool.not_eq_false', decide_eq_true_eq]
 have := h.k1
 refine ⟨⟨⟨by omega, by omega⟩, by omega⟩, fun hf => ?_⟩
 rw [imgsF_all (f2 hf), imgsOf_length]
theorem follow_says (hT : Told T) (h : Says T m k) (hj : j < T.length) :
  followL (T.getD j []) m = if k ≤ j then (T.getD j [], 4) else if m.full = false ∧ k ≠ j + 1 then (T.getD j [], 5) else (T.getD k [], 0) := by
 have hk1 := h.k1
 have hmany := hT.many
 have hkT := h.kT
 unfold followL
 rw [if_neg (by rw [h.may hT, h.kind]; simp), hT.comm j hj, h.num]
 by_cases c1 : k ≤ j
 ·rw [if_pos (by omega), if_pos c1]
 rw [if_neg (by omega), if_neg c1]
 have hw : IntKind.u64.wrap ((j : Int) + 1) = (j : Int) + 1 := IntWalk.u64_in _ (by omega)
 rw [hw]
 by_cases c2 : m.full = false ∧ k ≠ j + 1
 ·rw [if_pos ⟨c2.1, by omega⟩, if_pos c2]
 rw [if_neg (fun hh => c2 ⟨hh.1, fun e => hh.2 (by omega)⟩), if_neg c2]
 obtain ⟨f, e, f1, f2, f3⟩ := h.imgs
 have hone := hT.one k hk1 hkT
 obtain ⟨hd, M, eM, hh⟩ : ∃ hd M, T.getD k [] = hdrPg hd :: M ∧ HdOk hd := by
  rcases hT.good k hkT with e | e
  ·rw [e] at hone; simp at hone
  ·exact e
 have hcm := hT.comm k hkT
 have e0 : ∃ r, m.imgs = ⟨1, hdrPg hd⟩ :: r := by
  rw [e, imgsF_range, eM]
  rw [List.length_cons, List.range_succ_eq_map, List.map_cons, List.filter_cons_of_pos (by simpa using f1)]
  exact ⟨_, rfl⟩
 obtain ⟨r, e0⟩ := e0
 rw [e0]
 dsimp only
 rw [if_neg (by simp), takeH_put hh.may hh.wf, if_neg (by
  rw [eM] at hcm
  have hcm : (takeH (hdrPg hd)).1.commits = (k : Int) := hcm
  rw [takeH_put hh.may hh.wf] at hcm
  have hcm : hd.commits = (k : Int) := hcm
  simp [hcm])]
 refine Prod.ext ?_ rfl
 show behindL (T.getD j []) m = T.getD k []
 apply List.ext_getElem
 ·simp [behindL, h.pages]
 ·intro i i1 i2
  simp only [behindL, List.getElem_map, List.getElem_range]
  rw [e, imgsF_range]
  have := imgAt_range (T.getD k []) f (i + 1) (by omega) (if i < (T.getD j []).length then (T.getD j []).getD i [] else zeros 512) (T.getD k []).length
  rw [show (((i + 1 : Nat)) : Int) = (i : Int) + 1 by omega, Nat.add_sub_cancel] at this
  rw [this]
  have e3 : (T.getD k []).getD i [] = (T.getD k [])[i] := by rw [List.getD_eq_getElem?_getD, List.getElem?_eq_getElem i2]; rfl
  by_cases hf : f ((i : Int) + 1) = true
  ·rw [if_pos ⟨by omega, hf⟩, e3]
  ·rw [if_neg (fun hh => hf hh.2)]
   have hnf : m.full = false := by
    cases hm : m.full with
    | false => rfl
    | true => exact absurd (f2 hm _) hf
   have hkj : k = j + 1 := by
    rcases Decidable.em (k = j + 1) with e | e
    ·exact e
    ·exact absurd ⟨hnf, e⟩ c2
   rcases f3 hnf (i + 1) (by omega) (by omega) with e4 | ⟨e4, e5⟩
   ·rw [show (((i + 1 : Nat)) : Int) = (i : Int) + 1 by omega] at e4
    exact absurd e4 hf
   ·rw [hkj, Nat.add_sub_cancel] at e4
    rw [Nat.add_sub_cancel, show k - 1 = j by omega] at e5
    rw [if_pos (by omega), ← e5, e3]
end
end Go.Proofs.YtdinjghfjmmjoaaGreat
