/- A log and a disk that a law made: the calls on them; rows of images; plain laws of appends and checkpoints; a log apart from the law's own blocks. -/
import Derived.Test.YtcpejlmnplkbaaaGreatWaK
import Derived.Test.YtcpejlmnplkbaaaGreatWaM
set_option linter.unusedVariables false
set_option linter.unusedSimpArgs false
namespace Go.Proofs.YtcpejlmnplkbaaaGreat
open Go.RowKit Go.Maps
set_option maxRecDepth 20000
def pageOf (c : UInt8) : List UInt8 := List.replicate 512 c
theorem pageOf_length (c : UInt8) : (pageOf c).length = 512 := List.length_replicate
def imgCells (x : Img) : List Value := [.int .i64 x.page, .string (bs x.data)]
def exG0 : Lg := ⟨⟨0, 0, 0⟩, false, [], startP 0, false, false⟩
theorem ex_open : lopenM newM = (some exG0, 0) := by
 unfold lopenM firstM newM
 simp [exG0]
structure MkD (w W : World) (b : Nat) (d : Dsk) : Prop where
 ex : ∃ F, DiskAt W b F d ∧ ∀ k, F.own k ∨ F.sh k → w.heap.size ≤ k
 bel : Below w.heap.size w W
structure Mk (w W : World) (l b : Nat) (g : Lg) (d : Dsk) : Prop where
 ex : ∃ F G, LgAt W l b F G g d ∧ ∀ k, F.own k ∨ F.sh k ∨ G k → w.heap.size ≤ k
 bel : Below w.heap.size w W
section
variable {w W W' : World} {l b : Nat} {g g' : Lg} {d d' : Dsk}
theorem Mk.did {F : Foot} {G : Nat → Prop} (h2 : ∀ k, F.own k ∨ F.sh k ∨ G k → w.heap.size ≤ k) (hb1 : Below w.heap.size w W) (h : LgDid W l b F G g' d' W') : Mk w W' l b g' d' := by
 obtain ⟨F', G', h3, h4⟩ := h
 have hsz := hb1.size
 refine ⟨⟨F', G', h3, fun k hk => ?_⟩, h4.frm.os.trans hb1.os, h4.frm.tape.trans hb1.tape, h4.frm.output.trans hb1.output, Nat.le_trans hsz h4.frm.size, fun k hk => ?_⟩
 ·rcases hk with hk | hk | hk
  ·exact (h4.own k hk).elim (fun e => h2 k (.inl e)) (fun e => by omega)
  ·exact (h4.sh k hk).elim (fun e => h2 k (.inr (.inl e))) (fun e => by omega)
  ·exact (h4.gr k hk).elim (fun e => h2 k (.inr (.inr e))) (fun e => by omega)
 ·rw [h4.frm.block k (by omega) (fun e => by have := h2 k (e.elim .inl fun e => .inr (.inr e)); omega)]
  exact hb1.block k hk
theorem mk_new (w : World) : Calls Tryz.prog 36 #[] w fun e w' => ∃ b, e = .returned (.pointer (some ⟨b, 0, none⟩)) ∧ MkD w w' b newM := by
 refine (new_any w).mono ?_
 rintro e w' ⟨b, F, rfl, h1, h2, h3, h4⟩
 exact ⟨b, rfl, ⟨F, h1, fun k hk => hk.elim (h3 k) (h4 k)⟩, h2⟩
theorem mk_open (h : MkD w W b d) (ho : lopenM d = (some g, 0)) : Calls Tryz.prog 64 #[.pointer (some ⟨b, 0, none⟩)] W fun e w' => ∃ l, e = .returned (.tuple #[.pointer (some ⟨l, 0, none⟩), .int .i64 0]) ∧ Mk w w' l b g d := by
 obtain ⟨⟨F, h1, h2⟩, hb⟩ := h
 refine (lopen_any h1).mono ?_
 intro e w' hg
 rw [ho] at hg
 obtain ⟨hb2, l, G, rfl, h3, h4⟩ := hg
 refine ⟨l, rfl, ⟨F, G, h3, fun k hk => ?_⟩, hb.trans (hb2.mono hb.size)⟩
 rcases hk with hk | hk | hk
 ·exact h2 k (.inl hk)
 ·exact h2 k (.inr hk)
 ·exact Nat.le_trans hb.size (h4 k hk)
theorem mk_page (h : Mk w W l b g d) (n mark : Int) : Calls Tryz.prog 75 #[.pointer (some ⟨l, 0, none⟩), .int .i64 n, .int .i64 mark] W fun e w' => e = .returned (.tuple #[.string (bs (pageM g d n mark).1), .int .i64 (pageM g d n mark).2]) ∧ Below W.heap.size W w' := by
 obtain ⟨⟨F, G, h1, -⟩, -⟩ := h
 exact page_any h1 n mark
theorem mk_mark (h : Mk w W l b g d) : Calls Tryz.prog 76 #[.pointer (some ⟨l, 0, none⟩)] W fun e w' => e = .returned (.int .i64 g.list.length) ∧ w' = W := by
 obtain ⟨⟨F, G, h1, -⟩, -⟩ := h
 exact mark_any h1
theorem mk_pages (h : Mk w W l b g d) : Calls Tryz.prog 74 #[.pointer (some ⟨l, 0, none⟩)] W fun e w' => e = .returned (.int .i64 g.head.pages) ∧ w' = W := by
 obtain ⟨⟨F, G, h1, -⟩, -⟩ := h
 exact pages_any h1
end
theorem new_small : newM.Small 100 := ⟨by decide, by decide, by decide⟩
def imgsV (l : List Img) : List Value := l.flatMap imgCells
theorem imgsV_snoc (l : List Img) (x : Img) : imgsV (l ++ [x]) = imgsV l ++ imgCells x := by simp [imgsV]
theorem imgCells_one (x : Img) : ∀ u ∈ imgCells x, u.oneCell' = true := by
 intro u hu
 simp only [imgCells, List.mem_cons, List.not_mem_nil, or_false] at hu
 rcases hu with rfl | rfl <;> rfl
theorem imgsV_get : ∀ (l : List Img) (k : Nat) (h : k < l.length), (imgsV l)[k * 2]? = some (.int .i64 l[k].page) ∧ (imgsV l)[k * 2 + 1]? = some (.string (bs l[k].data))
 | x :: r, 0, _ => ⟨rfl, rfl⟩
 | x :: r, k + 1, h => by
  have e : imgsV (x :: r) = imgCells x ++ imgsV r := rfl
  have hl : (imgCells x).length = 2 := rfl
  have := imgsV_get r k (by simpa using h)
  rw [e, List.getElem?_append_right (by rw [hl]; omega), List.getElem?_append_right (by rw [hl]; omega), hl]
  rw [show (k + 1) * 2 - 2 = k * 2 by omega, show (k + 1) * 2 + 1 - 2 = k * 2 + 1 by omega]
  exact this
def ImgRow (w : World) (base : Nat) (v : Value) (l : List Img) : Prop := w.ownsRow base 99 2 v l.length (imgsV l)
theorem imgRow_nil (w : World) (base : Nat) : ImgRow w base (.slice none 0 0) [] := World.ownsRow_nil _ _ _ _
theorem ImgRow.get {w : World} {base : Nat} {v : Value} {l : List Img} (h : ImgRow w base v l) : ∃ ao cap, v = .slice ao l.length cap ∧ ∀ k (hk : k < l.length), ∃ q, ao = some ⟨q, 0, none⟩ ∧ base ≤ q ∧ q < w.heap.size ∧ w.cell? ⟨q, k * 2, none⟩ = some (.int .i64 l[k].page) ∧ w.cell? ⟨q, k * 2 + 1, none⟩ = some (.string (bs l[k].data)) := by
 obtain ⟨ao, cap, rfl, hc⟩ := row_slice h
 refine ⟨ao, cap, rfl, fun k hk => ?_⟩
 obtain ⟨c0, c1⟩ := imgsV_get l k hk
 obtain ⟨q, rfl, h0⟩ := hc (k * 2) _ (by omega) c0
 obtain ⟨q1, e1, h1⟩ := hc (k * 2 + 1) _ (by omega) c1
 obtain rfl : q = q1 := by simpa using e1
 have hb := row_base h (g := q) rfl
 exact ⟨q, rfl, hb.1, hb.2, h0, h1⟩
theorem ImgRow.at {w : World} {base : Nat} {v : Value} {l : List Img} (h : ImgRow w base v l) : ImgsAt w v l := by
 obtain ⟨ao, cap, rfl, hc⟩ := h.get
 refine ⟨ao, cap, rfl, fun k hk => ?_⟩
 obtain ⟨q, h1, -, h3, h4, h5⟩ := hc k hk
 exact ⟨q, h1, h3, h4, h5⟩
theorem ImgRow.keep {w w' : World} {base : Nat} {v : Value} {l : List Img} (h : ImgRow w base v l) (hk : ∀ k, base ≤ k → k < w.heap.size → w'.heap[k]? = w.heap[k]?) : ImgRow w' base v l :=
 row_keep h fun j hj => hk j (row_base h hj).1 (row_base h hj).2
theorem ImgRow.below {w w' : World} {base : Nat} {v : Value} {l : List Img} (h : ImgRow w base v l) (hb : Below w.heap.size w w') : ImgRow w' base v l := h.keep fun k _ hk => hb.block k hk
section
variable {g : Lg} {d : Dsk}
theorem steps_inv {J : Dsk → Prop} : ∀ (ms : List LgM), (∀ m ∈ ms, ∀ g d, J d → J (m g d).2.2) → ∀ g d, J d → J (lstepsM ms g d).2.2
 | [], _, g, d, h => h
 | m :: r, hm, g, d, h => by
  have h1 := hm m (by simp) g d h
  have h2 := steps_inv r (fun x hx => hm x (by simp [hx])) (m g d).2.1 (m g d).2.2 h1
  unfold lstepsM
  split
  ·exact h1
  ·exact h2
theorem steps_small : ∀ (ms : List LgM), (∀ m ∈ ms, ∀ g d N, d.Small N → (m g d).2.2.Small (N + 16384)) → ∀ g d N, d.Small N → (lstepsM ms g d).2.2.Small (N + 16384 * ms.length)
 | [], _, g, d, N, h => h
 | m :: r, hm, g, d, N, h => by
  have h1 := hm m (by simp) g d N h
  have h2 := steps_small r (fun x hx => hm x (by simp [hx])) (m g d).2.1 (m g d).2.2 _ h1
  unfold lstepsM
  split
  ·exact h1.mono (by simp; omega)
  ·exact h2.mono (by simp; omega)
theorem sync_sm (g : Lg) (d : Dsk) (N : Nat) (h : d.Small N) : (lsyncM g d).2.2.Small (N + 16384) := (sync_small h).mono (by omega)
theorem puts_sm (hd : Hd) (has : Bool) (g : Lg) (d : Dsk) (N : Nat) (h : d.Small N) : (lputsM hd has g d).2.2.Small (N + 16384) := (write_small h).mono (by omega)
theorem write_sm (s : List UInt8) (g : Lg) (d : Dsk) (N : Nat) (h : d.Small N) : (lwriteM s g d).2.2.Small (N + 16384) := (write_small h).mono (by omega)
theorem page_sm (n : Int) (s : List UInt8) (g : Lg) (d : Dsk) (N : Nat) (h : d.Small N) : (lpageM n s g d).2.2.Small (N + 16384) := (write_small h).mono (by omega)
theorem cut_sm (n : Int) (g : Lg) (d : Dsk) (N : Nat) (h : d.Small N) : (lcutM n g d).2.2.Small (N + 16384) := by
 unfold lcutM
 split
 ·exact (cut_small h).mono (by omega)
 ·exact h.mono (by omega)
theorem sync0_sm (g : Lg) (d : Dsk) (N : Nat) (h : d.Small N) : (lsync0M g d).2.2.Small (N + 16384) := (sync_small h).mono (by omega)
theorem mend_sm (g : Lg) (d : Dsk) (N : Nat) (h : d.Small N) : (lmendM g d).2.2.Small (N + 16384) := by
 unfold lmendM
 split
 ·unfold lstepsM
  split
  ·exact puts_sm g.head g.has g d _ h
  ·unfold lstepsM
   have h1 : (lputsM g.head g.has g d).2.2.Small (N + 8193) := write_small h
   have h2 : (lsyncM (lputsM g.head g.has g d).2.1 (lputsM g.head g.has g d).2.2).2.2.Small (N + 8193 + 1) := sync_small h1
   split
   ·exact h2.mono (by omega)
   ·exact h2.mono (by omega)
 ·exact h.mono (by omega)
theorem app_small (pages : Int) (x : List Img) (g : Lg) (d : Dsk) (N M : Nat) (hM : N + 131072 ≤ M) (h : d.Small N) : (lappendM pages x g d).2.2.Small M := by
 have hs : (lstepsM (appSteps g pages x) g d).2.2.Small M := (steps_small (appSteps g pages x) (by
  intro m hm
  simp only [appSteps, List.mem_cons, List.not_mem_nil, or_false] at hm
  rcases hm with rfl | rfl | rfl | rfl | rfl
  ·exact mend_sm
  ·exact write_sm _
  ·exact sync_sm
  ·exact puts_sm _ _
  ·exact sync_sm) g d N h).mono (by simp only [appSteps, List.length_cons, List.length_nil]; omega)
 unfold lappendM
 split
 ·exact h.mono (by omega)
 split
 ·exact h.mono (by omega)
 split
 ·exact h.mono (by omega)
 split
 ·exact h.mono (by omega)
 split
 ·exact hs
 ·exact hs
theorem ckPages_mem {l : List Fr} {P : Nat} {m : LgM} (h : m ∈ ckPages l P) : ∃ n s, m = lpageM n s := by
 unfold ckPages at h
 obtain ⟨i, -, hi⟩ := List.mem_filterMap.1 h
 cases hl : lastAt l ((i + 1 : Nat) : Int) l.length with
 | none => rw [hl] at hi; cases hi
 | some s => rw [hl] at hi; cases hi; exact ⟨_, _, rfl⟩
theorem ck_small (g : Lg) (d : Dsk) (N M : Nat) (hM : N + 8388608 ≤ M) (hp : g.head.pages ≤ 256) (h : d.Small N) : (lcheckM g d).2.2.Small M := by
 have hs : (lstepsM (ckSteps g) g d).2.2.Small M := (steps_small (ckSteps g) (by
  intro m hm
  simp only [ckSteps, List.mem_cons, List.mem_append, List.not_mem_nil, or_false] at hm
  rcases hm with rfl | hm | rfl | rfl | rfl | rfl
  ·exact mend_sm
  ·obtain ⟨n, s, rfl⟩ := ckPages_mem hm
   exact page_sm _ _
  ·exact cut_sm _
  ·exact sync0_sm
  ·exact puts_sm _ _
  ·exact sync_sm) g d N h).mono (by
   have hl : (ckSteps g).length ≤ 300 := by
    have := ckPages_length g.list g.head.pages.toNat
    have e : (ckSteps g).length = (ckPages g.list g.head.pages.toNat).length + 4 + 1 := by simp [ckSteps]
    omega
   obtain ⟨z, hz⟩ : ∃ z, z = (ckSteps g).length := ⟨_, rfl⟩
   rw [← hz] at hl ⊢
   clear hz
   have := Nat.mul_le_mul_left 16384 hl
   exact Nat.le_trans (Nat.add_le_add_left this N) (Nat.le_trans (Nat.add_le_add_left (by decide) N) hM))
 unfold lcheckM
 split
 ·exact h.mono (by omega)
 split
 ·exact h.mono (by omega)
 split
 ·exact hs
 ·exact hs
theorem app_inv {J : Dsk → Prop} (hw : ∀ d a s, J d → J (writeM d 1 a s).2) (hs : ∀ d, J d → J (syncM d 1).2) (pages : Int) (x : List Img) (g : Lg) (d : Dsk) (h : J d) : J (lappendM pages x g d).2.2 := by
 have hst : J (lstepsM (appSteps g pages x) g d).2.2 := steps_inv (appSteps g pages x) (by
  intro m hm
  simp only [appSteps, List.mem_cons, List.not_mem_nil, or_false] at hm
  rcases hm with rfl | rfl | rfl | rfl | rfl
  ·intro g d h
   unfold lmendM
   split
   ·refine steps_inv _ (fun m hm => ?_) g d h
    simp only [List.mem_cons, List.not_mem_nil, or_false] at hm
    rcases hm with rfl | rfl
    ·intro g d h; exact hw _ _ _ h
    ·intro g d h; exact hs _ h
   ·exact h
  ·intro g d h; exact hw _ _ _ h
  ·intro g d h; exact hs _ h
  ·intro g d h; exact hw _ _ _ h
  ·intro g d h; exact hs _ h) g d h
 unfold lappendM
 split
 ·exact h
 split
 ·exact h
 split
 ·exact h
 split
 ·exact h
 split
 ·exact hst
 ·exact hst
theorem app_list (pages : Int) (x : List Img) (g : Lg) (d : Dsk) : (lappendM pages x g d).2.1.list = if (lappendM pages x g d).1 = 0 then g.list ++ frsOf pages x else g.list := by
 have hk := (keeps_app g pages x g d).1
 unfold lappendM
 split
 ·simp
 split
 ·simp
 split
 ·simp
 split
 ·simp
 split
 ·exact hk
 ·rw [if_pos rfl, hk]
theorem wrN_now {k : Nat} (a : Nat) (s : List UInt8) {f : Nat} (hf : f ≠ k) (d : Dsk) : ∀ n, (wrN d k a s n).now f = d.now f
 | 0 => rfl
 | n + 1 => by
  show put (wrN d k a s n).now k _ f = _
  unfold put
  rw [if_neg hf]
  exact wrN_now a s hf d n
theorem write_now {k : Int} (a : Int) (s : List UInt8) {f : Nat} (hf : f ≠ k.toNat) (d : Dsk) : (writeM d k a s).2.now f = d.now f := by
 unfold writeM
 split
 ·rfl
 split
 ·rfl
 split
 ·rfl
 split
 ·rfl
 ·exact wrN_now _ _ hf _ _
theorem sync_now (k : Int) (d : Dsk) : (syncM d k).2.now = d.now := by
 unfold syncM
 split
 ·rfl
 split
 ·rfl
 ·rfl
theorem app_now0 (pages : Int) (x : List Img) (g : Lg) (d : Dsk) : (lappendM pages x g d).2.2.now 0 = d.now 0 :=
 app_inv (J := fun d' => d'.now 0 = d.now 0) (fun d' a s h => (write_now a s (by decide) d').trans h) (fun d' h => (congrFun (sync_now 1 d') 0).trans h) pages x g d rfl
theorem lastAt_append (l m : List Fr) (n : Int) : ∀ k, k ≤ l.length → lastAt (l ++ m) n k = lastAt l n k
 | 0, _ => rfl
 | k + 1, h => by
  unfold lastAt
  rw [List.getElem?_append_left (by omega), lastAt_append l m n k (by omega)]
end
structure Calm (d : Dsk) : Prop where
 on : d.off = false
 goes : d.goes = -1
 armed : ∀ k, d.armed k = 0
 ops : 0 ≤ d.ops
theorem new_calm : Calm newM := ⟨rfl, rfl, fun _ => rfl, Int.le_refl _⟩
section
variable {g : Lg} {d : Dsk}
theorem calm_meets (h : Calm d) : (meetsM d).1 = 0 ∧ Calm (meetsM d).2 := by
 have hne : d.ops ≠ d.goes := by have := h.goes; have := h.ops; omega
 have hb : (d.ops == d.goes) = false := by simpa using hne
 refine ⟨?_, ?_, h.goes, fun k => ?_, ?_⟩
 ·show (if d.ops = d.goes then 32 else d.armed d.ops) = 0
  rw [if_neg hne, h.armed]
 ·show (d.off || d.ops == d.goes) = false
  rw [hb, h.on]; rfl
 ·show (if k = d.ops then 0 else d.armed k) = 0
  split
  ·rfl
  ·exact h.armed k
 ·have := h.ops
  show 0 ≤ d.ops + 1
  omega
theorem wrN_calm {k a : Nat} {s : List UInt8} (h : Calm d) : ∀ n, Calm (wrN d k a s n)
 | 0 => h
 | n + 1 => by
  have ih := wrN_calm (k := k) (a := a) (s := s) h n
  exact ⟨ih.on, ih.goes, ih.armed, ih.ops⟩
theorem calm_write (h : Calm d) (f a : Int) (s : List UInt8) : Calm (writeM d f a s).2 := by
 unfold writeM
 split
 ·exact h
 split
 ·exact h
 split
 ·exact h
 split
 ·exact (calm_meets h).2
 ·exact wrN_calm (calm_meets h).2 _
theorem calm_sync (h : Calm d) (f : Int) : Calm (syncM d f).2 := by
 have h1 := (calm_meets h).2
 unfold syncM
 split
 ·exact h
 split
 ·exact h1
 ·exact ⟨h1.on, h1.goes, h1.armed, h1.ops⟩
theorem calm_cut (h : Calm d) (f n : Int) : Calm (cutM d f n).2 := by
 have h1 := (calm_meets h).2
 unfold cutM
 split
 ·exact h
 split
 ·exact h
 split
 ·exact h1
 ·exact ⟨h1.on, h1.goes, h1.armed, h1.ops⟩
theorem ready_on {k : Nat} (hk : k < 8) (ho : d.off = false) : readyM d (k : Int) = 0 := by unfold readyM; rw [ho, if_neg (by simp), if_pos (by omega)]
theorem sync_ok (h : Calm d) {k : Nat} (hk : k < 8) : (syncM d (k : Int)).1 = 0 := by
 unfold syncM
 rw [if_neg (by simpa using ready_on hk h.on), if_neg (by simpa using (calm_meets h).1)]
theorem write_ok (h : Calm d) {k a m : Nat} {s : List UInt8} (hk : k < 8) (hl : s.length = m * 64) (h0 : 0 < m) (ha : a + m ≤ 8192) : (writeM d (k : Int) (a : Int) s).1 = 0 := by
 unfold writeM
 have e : s.length / 64 = m := by omega
 rw [if_neg (by simpa using ready_on hk h.on), if_neg (by omega), if_neg (by rw [e]; omega), if_neg (by simpa using (calm_meets h).1)]
theorem write_not32 (h : Calm d) {k : Nat} (hk : k < 8) (a : Int) (s : List UInt8) : (writeM d (k : Int) a s).1 ≠ 32 := by
 unfold writeM
 rw [if_neg (by simpa using ready_on hk h.on)]
 split
 ·show (2 : Int) ≠ 32; decide
 split
 ·show (5 : Int) ≠ 32; decide
 rw [if_neg (by simpa using (calm_meets h).1)]
 show (0 : Int) ≠ 32
 decide
theorem put_same' {α : Type} (g : Nat → α) (f : Nat) (x : α) : put g f x f = x := if_pos rfl
theorem does_getD {l : List Sec} {c : Chg} (h : c.cut = false) (i : Nat) : (doesM l c).getD i nought = if i = c.at_ then c.bytes else l.getD i nought := by
 have hlen := doesM_length_write (l := l) h
 by_cases hi : i < (doesM l c).length
 ·rw [List.getD_eq_getElem?_getD, List.getElem?_eq_getElem hi, Option.getD_some, doesM_get_write h i hi]
  by_cases e : i = c.at_
  ·rw [if_pos e, if_pos e]
  ·rw [if_neg e, if_neg e]
   by_cases hl : i < l.length
   ·rw [dif_pos hl, List.getD_eq_getElem?_getD, List.getElem?_eq_getElem hl]; rfl
   ·rw [dif_neg hl, List.getD_eq_getElem?_getD, List.getElem?_eq_none (by omega)]; rfl
 ·rw [List.getD_eq_getElem?_getD, List.getElem?_eq_none (by omega), if_neg (by omega), List.getD_eq_getElem?_getD, List.getElem?_eq_none (by omega)]
section
variable {k a : Nat} {s : List UInt8}
theorem wr_at (n : Nat) : (wrN d k a s (n + 1)).now k = doesM ((wrN d k a s n).now k) (wrChg k a s n) := by
 show put (wrN d k a s n).now k _ k = _
 rw [put_same']
 rfl
theorem wr_len : ∀ n, ((wrN d k a s n).now k).length = if n = 0 then (d.now k).length else max (d.now k).length (a + n)
 | 0 => rfl
 | n + 1 => by
  rw [wr_at, doesM_length_write rfl, wr_len n]
  show max _ (a + n + 1) = _
  rw [if_neg (show ¬ n + 1 = 0 by omega)]
  split <;> omega
theorem wr_getD (i : Nat) : ∀ n, ((wrN d k a s n).now k).getD i nought = if a ≤ i ∧ i < a + n then secOf s (i - a) else (d.now k).getD i nought
 | 0 => by rw [if_neg (by omega)]; rfl
 | n + 1 => by
  rw [wr_at, does_getD rfl, wr_getD i n]
  show (if i = a + n then secOf s n else _) = _
  by_cases e : i = a + n
  ·rw [if_pos e, if_pos (by omega)]; congr 1; omega
  ·rw [if_neg e]
   by_cases h : a ≤ i ∧ i < a + n
   ·rw [if_pos h, if_pos (by omega)]
   ·rw [if_neg h, if_neg (by omega)]
end
theorem flat_secs (s : List UInt8) : ∀ m, ((List.range m).map (secOf s)).flatten = s.take (m * 64)
 | 0 => by simp
 | m + 1 => by
  rw [List.range_succ, List.map_append, List.flatten_append, flat_secs s m]
  simp only [List.map_cons, List.map_nil, List.flatten_cons, List.flatten_nil, List.append_nil]
  unfold secOf
  rw [show (m + 1) * 64 = m * 64 + 64 by omega, List.take_add]
theorem list_getD {l : List Sec} {m : Nat} {g : Nat → Sec} (hl : l.length = m) (h : ∀ i, i < m → l.getD i nought = g i) : l = (List.range m).map g := by
 apply List.ext_getElem?
 intro i
 by_cases hi : i < m
 ·have h1 := h i hi
  rw [List.getD_eq_getElem?_getD, List.getElem?_eq_getElem (by omega), Option.getD_some] at h1
  rw [List.getElem?_eq_getElem (by omega), h1]
  simp [hi]
 ·rw [List.getElem?_eq_none (by omega), List.getElem?_eq_none (by simp; omega)]
def pg (l : List Sec) (n : Nat) : List UInt8 := ((List.range 8).map fun i => l.getD (8 * (n - 1) + i) nought).flatten
theorem pg_here {l : List Sec} {n : Nat} (h1 : 1 ≤ n) (h : 8 * n ≤ l.length) : ((l.drop (8 * (n - 1))).take 8).flatten = pg l n := by
 unfold pg
 congr 1
 apply list_getD
 ·simp; omega
 ·intro i hi
  simp only [List.getD_eq_getElem?_getD, List.getElem?_take, hi, if_true, List.getElem?_drop]
theorem pg_out {l : List Sec} {n : Nat} (h8 : l.length % 8 = 0) (h : l.length < 8 * n) : zeros 512 = pg l n := by
 unfold pg
 have e : ((List.range 8).map fun i => l.getD (8 * (n - 1) + i) nought) = (List.range 8).map fun _ => nought := by
  apply List.map_congr_left
  intro i _
  rw [List.getD_eq_getElem?_getD, List.getElem?_eq_none (by omega)]
  rfl
 rw [e, List.map_const', List.length_range]
 unfold nought zeros
 rw [List.flatten_replicate_replicate]
theorem pageM_calm (ho : d.off = false) (h8 : (d.now 0).length % 8 = 0) (n k : Nat) (h1 : 1 ≤ n) (h2 : n ≤ 256) (hk : k ≤ g.list.length) : pageM g d (n : Int) (k : Int) = ((lastAt g.list (n : Int) k).getD (pg (d.now 0) n), 0) := by
 unfold pageM
 rw [if_neg (by unfold pageBad; omega), Int.toNat_natCast]
 cases lastAt g.list (n : Int) k with
 | some s => rfl
 | none =>
  simp only [Option.getD_none]
  by_cases h : (d.now 0).length < 8 * n
  ·rw [if_pos (by omega), pg_out h8 h]
  ·have e0 : ((0 : Int).toNat) = 0 := rfl
   have e8 : ((8 : Int).toNat) = 8 := rfl
   have ea : (8 * ((n : Int) - 1)).toNat = 8 * (n - 1) := by omega
   unfold readM
   rw [if_neg (by omega), if_neg (by simpa using ready_on (k := 0) (by decide) ho), e0, if_neg (by omega), e8, ea, pg_here h1 (by omega)]
theorem page_written (h : Calm d) (h8 : (d.now 0).length % 8 = 0) (m : Nat) (s : List UInt8) (hs : s.length = 512) (h1 : 1 ≤ m) (h2 : m ≤ 256) :
  ∃ d', lpageM (m : Int) s g d = (0, g, d') ∧ Calm d' ∧ (d'.now 0).length = max (d.now 0).length (8 * m) ∧ ∀ n, 1 ≤ n → pg (d'.now 0) n = if n = m then s else pg (d.now 0) n := by
 have ea : 8 * ((m : Int) - 1) = ((8 * (m - 1) : Nat) : Int) := by omega
 have hok := write_ok h (k := 0) (a := 8 * (m - 1)) (m := 8) (s := s) (by decide) hs (by decide) (by omega)
 have hc := calm_write h ((0 : Nat) : Int) ((8 * (m - 1) : Nat) : Int) s
 have hd : (writeM d ((0 : Nat) : Int) ((8 * (m - 1) : Nat) : Int) s).2 = wrN (meetsM d).2 0 (8 * (m - 1)) s 8 := by
  have e : s.length / 64 = 8 := by omega
  unfold writeM
  rw [if_neg (by simpa using ready_on (k := 0) (by decide) h.on), if_neg (by omega), if_neg (by rw [e]; omega), if_neg (by simpa using (calm_meets h).1), e, Int.toNat_natCast, Int.toNat_natCast]
 refine ⟨(writeM d ((0 : Nat) : Int) ((8 * (m - 1) : Nat) : Int) s).2, ?_, hc, ?_, fun n hn => ?_⟩
 ·have hok' : (writeM d 0 ((8 * (m - 1) : Nat) : Int) s).1 = 0 := hok
  unfold lpageM
  rw [ea]
  exact Prod.ext hok' rfl
 ·rw [hd, wr_len, if_neg (by decide)]
  show max (d.now 0).length _ = _
  omega
 ·rw [hd]
  unfold pg
  by_cases e : n = m
  ·subst e
   rw [if_pos rfl]
   refine Eq.trans (congrArg List.flatten (List.map_congr_left (g := secOf s) fun i hi => ?_)) ?_
   ·have hi8 := List.mem_range.1 hi
    rw [wr_getD, if_pos (by omega)]
    congr 1
    omega
   ·rw [flat_secs, List.take_of_length_le (by omega)]
  ·rw [if_neg e]
   refine congrArg List.flatten (List.map_congr_left fun i hi => ?_)
   have hi8 := List.mem_range.1 hi
   rw [wr_getD, if_neg (by omega)]
   rfl
theorem steps_one {m : LgM} {r : List LgM} {g1 : Lg} {d1 : Dsk} (h : m g d = (0, g1, d1)) : lstepsM (m :: r) g d = lstepsM r g1 d1 := by
 show (if (m g d).1 ≠ 0 then _ else lstepsM r (m g d).2.1 (m g d).2.2) = _
 rw [h]
 simp
theorem steps_append : ∀ (a r : List LgM) {g g1 : Lg} {d d1 : Dsk}, lstepsM a g d = (0, g1, d1) → lstepsM (a ++ r) g d = lstepsM r g1 d1
 | [], r, g, g1, d, d1, h => by cases h; rfl
 | m :: a, r, g, g1, d, d1, h => by
  have h0 : lstepsM (m :: a) g d = if (m g d).1 ≠ 0 then ((m g d).1, { (m g d).2.1 with off := (m g d).2.1.off || (m g d).1 == 32 }, (m g d).2.2) else lstepsM a (m g d).2.1 (m g d).2.2 := rfl
  rw [h0] at h
  by_cases hz : (m g d).1 ≠ 0
  ·rw [if_pos hz] at h
   exact absurd (congrArg Prod.fst h) hz
  ·rw [if_neg hz] at h
   have h1 : lstepsM (m :: (a ++ r)) g d = if (m g d).1 ≠ 0 then ((m g d).1, { (m g d).2.1 with off := (m g d).2.1.off || (m g d).1 == 32 }, (m g d).2.2) else lstepsM (a ++ r) (m g d).2.1 (m g d).2.2 := rfl
   rw [List.cons_append, h1, if_neg hz]
   exact steps_append a r h
theorem pages_written (h : Calm d) (h8 : (d.now 0).length % 8 = 0) (l : List Fr) (hl : ∀ f ∈ l, f.data.length = 512) : ∀ P, P ≤ 256 →
  ∃ d', lstepsM (ckPages l P) g d = (0, g, d') ∧ Calm d' ∧ (d'.now 0).length % 8 = 0 ∧ (d'.now 0).length ≤ max (d.now 0).length (8 * P) ∧ ∀ n, 1 ≤ n → pg (d'.now 0) n = if n ≤ P then (lastAt l (n : Int) l.length).getD (pg (d.now 0) n) else pg (d.now 0) n
 | 0, _ => ⟨d, rfl, h, h8, by omega, fun n hn => by rw [if_neg (by omega)]⟩
 | P + 1, hP => by
  obtain ⟨d1, r1, c1, e1, l1, p1⟩ := pages_written h h8 l hl P (by omega)
  rw [ckPages_succ]
  cases hh : lastAt l ((P + 1 : Nat) : Int) l.length with
  | none =>
   refine ⟨d1, ?_, c1, e1, by omega, fun n hn => ?_⟩
   ·simpa using r1
   ·rw [p1 n hn]
    by_cases e : n = P + 1
    ·subst e
     rw [if_neg (by omega), if_pos (by omega), hh]
     rfl
    ·by_cases h2 : n ≤ P
     ·rw [if_pos h2, if_pos (by omega)]
     ·rw [if_neg h2, if_neg (by omega)]
  | some s =>
   obtain ⟨f, hf, hfd, -⟩ := lastAt_mem hh
   obtain ⟨d2, r2, c2, e2, p2⟩ := page_written (g := g) c1 e1 (P + 1) s (by rw [← hfd]; exact hl f hf) (by omega) hP
   refine ⟨d2, ?_, c2, by omega, by omega, fun n hn => ?_⟩
   ·show lstepsM (ckPages l P ++ [lpageM ((P + 1 : Nat) : Int) s]) g d = _
    rw [steps_append _ _ r1, steps_one r2]
    rfl
   ·rw [p2 n hn]
    by_cases e : n = P + 1
    ·subst e
     rw [if_pos rfl, if_pos (by omega), hh]
     rfl
    ·rw [if_neg e, p1 n hn]
     by_cases h2 : n ≤ P
     ·rw [if_pos h2, if_pos (by omega)]
     ·rw [if_neg h2, if_neg (by omega)]
structure LgCalm (g : Lg) (d : Dsk) : Prop where
 calm : Calm d
 torn : g.torn = false
 off : g.off = false
 eight : (d.now 0).length % 8 = 0
 room : (d.now 0).length ≤ 2048
theorem sync_log (h : Calm d) (hg : g.off = false) : lsyncM g d = (0, { g with torn := false }, (syncM d 1).2) ∧ Calm (syncM d 1).2 := by
 have e := sync_ok h (k := 1) (by decide)
 have e : (syncM d 1).1 = 0 := e
 refine ⟨?_, calm_sync h 1⟩
 unfold lsyncM
 rw [e]
 simp
theorem mend_calm (h : g.torn = false) : lmendM g d = (0, g, d) := by unfold lmendM; rw [h]; simp
theorem app_steps_calm (h : Calm d) (ht : g.torn = false) (ho : g.off = false) (pages : Int) (x : List Img) (g0 : Lg) : (lstepsM (appSteps g0 pages x) g d).2.1.torn = false ∧ (lstepsM (appSteps g0 pages x) g d).2.1.off = false := by
 unfold appSteps
 rw [steps_one (mend_calm ht)]
 have hw := write_not32 h (k := 1) (by decide) (1 + 9 * g.list.length) (appText g0 pages x).1
 have hc := calm_write h 1 (1 + 9 * g.list.length) (appText g0 pages x).1
 obtain ⟨e, he⟩ : ∃ e, e = (lwriteM (appText g0 pages x).1 g d).1 := ⟨_, rfl⟩
 have he1 : e ≠ 32 := by rw [he]; exact hw
 have hd1 : Calm (lwriteM (appText g0 pages x).1 g d).2.2 := hc
 have hg1 : (lwriteM (appText g0 pages x).1 g d).2.1 = g := rfl
 by_cases h0 : e = 0
 ·have r1 : lwriteM (appText g0 pages x).1 g d = (0, g, (lwriteM (appText g0 pages x).1 g d).2.2) := by
   rw [← h0, he]; rfl
  rw [steps_one r1]
  obtain ⟨d1, hd⟩ : ∃ d1, d1 = (lwriteM (appText g0 pages x).1 g d).2.2 := ⟨_, rfl⟩
  rw [← hd] at hd1 ⊢
  clear hd r1 hw hc he he1 h0 hg1
  obtain ⟨r2, c2⟩ := sync_log hd1 ho
  rw [steps_one r2]
  obtain ⟨d2, hd⟩ : ∃ d2, d2 = (syncM d1 1).2 := ⟨_, rfl⟩
  rw [← hd] at c2 ⊢
  clear hd r2
  have hw := write_not32 c2 (k := 1) (by decide) 0 (lputsS (appHead g0 pages x) true)
  have hc := calm_write c2 1 0 (lputsS (appHead g0 pages x) true)
  obtain ⟨e, he⟩ : ∃ e, e = (writeM d2 1 0 (lputsS (appHead g0 pages x) true)).1 := ⟨_, rfl⟩
  have he1 : e ≠ 32 := by rw [he]; exact hw
  have r3 : lputsM (appHead g0 pages x) true { g with torn := false } d2 = (e, { g with torn := e == 0 }, (writeM d2 1 0 (lputsS (appHead g0 pages x) true)).2) := by
   unfold lputsM
   rw [← he]
   simp
  by_cases h0 : e = 0
  ·rw [h0] at r3
   rw [steps_one r3]
   obtain ⟨r4, -⟩ := sync_log (g := { g with torn := (0 : Int) == 0 }) hc ho
   rw [steps_one r4]
   exact ⟨rfl, ho⟩
  ·have : (lstepsM [lputsM (appHead g0 pages x) true, lsyncM] { g with torn := false } d2) = (e, { g with torn := e == 0, off := g.off || e == 32 }, (writeM d2 1 0 (lputsS (appHead g0 pages x) true)).2) := by
    show (if (lputsM (appHead g0 pages x) true { g with torn := false } d2).1 ≠ 0 then _ else _) = _
    rw [r3, if_pos h0]
   rw [this]
   exact ⟨by simpa using h0, by simp [ho, he1]⟩
 ·have : (lstepsM [lwriteM (appText g0 pages x).1, lsyncM, lputsM (appHead g0 pages x) true, lsyncM] g d) = (e, { g with off := g.off || e == 32 }, (lwriteM (appText g0 pages x).1 g d).2.2) := by
   show (if (lwriteM (appText g0 pages x).1 g d).1 ≠ 0 then _ else _) = _
   rw [← he, if_pos h0]
   rfl
  rw [this]
  exact ⟨ht, by simp [ho, he1]⟩
theorem app_calm (h : LgCalm g d) (pages : Int) (x : List Img) : LgCalm (lappendM pages x g d).2.1 (lappendM pages x g d).2.2 := by
 have hc := app_inv (J := Calm) (fun d a s h => calm_write h 1 a s) (fun d h => calm_sync h 1) pages x g d h.calm
 have h0 := app_now0 pages x g d
 refine ⟨hc, ?_, ?_, by rw [h0]; exact h.eight, by rw [h0]; exact h.room⟩
 all_goals
  obtain ⟨h1, h2⟩ := app_steps_calm h.calm h.torn h.off pages x g
  unfold lappendM
  split
  ·first | exact h.torn | exact h.off
  split
  ·first | exact h.torn | exact h.off
  split
  ·first | exact h.torn | exact h.off
  split
  ·first | exact h.torn | exact h.off
  split
  ·first | exact h1 | exact h2
  ·first | exact h1 | exact h2
theorem cut_calm (h : Calm d) (P : Nat) (hl : 8 * P < (d.now 0).length) : ∃ d', lcutM (P : Int) g d = (0, g, d') ∧ Calm d' ∧ d'.now 0 = (d.now 0).take (8 * P) := by
 have e : cutM d ((0 : Nat) : Int) ((8 * P : Nat) : Int) = (0, applyM (meetsM d).2 ⟨0, 8 * P, true, nought⟩) := by
  unfold cutM
  rw [if_neg (by simpa using ready_on (k := 0) (by decide) h.on), Int.toNat_natCast, if_neg (by omega), if_neg (by simpa using (calm_meets h).1), Int.toNat_natCast]
 have hc := calm_cut h ((0 : Nat) : Int) ((8 * P : Nat) : Int)
 rw [e] at hc
 refine ⟨_, ?_, hc, ?_⟩
 ·unfold lcutM
  rw [if_pos (by omega)]
  have e2 : (8 * (P : Int)) = ((8 * P : Nat) : Int) := by omega
  rw [e2]
  have e3 : cutM d 0 ((8 * P : Nat) : Int) = (0, applyM (meetsM d).2 ⟨0, 8 * P, true, nought⟩) := e
  rw [e3]
 ·show put (d.now) 0 (doesM (d.now 0) ⟨0, 8 * P, true, nought⟩) 0 = _
  rw [put_same', doesM_cut rfl]
theorem pg_take {l : List Sec} {P n : Nat} (h1 : 1 ≤ n) (h : n ≤ P) : pg (l.take (8 * P)) n = pg l n := by
 unfold pg
 congr 1
 apply List.map_congr_left
 intro i hi
 have hi8 := List.mem_range.1 hi
 simp only [List.getD_eq_getElem?_getD]
 rw [List.getElem?_take_of_lt (by omega)]
structure Checked (g g' : Lg) (d d' : Dsk) : Prop where
 calm : LgCalm g' d'
 pages : g'.head.pages = g.head.pages
 none : g.list = [] → g' = g ∧ d' = d
 list : g'.list = []
 number : g.list ≠ [] → g'.head.number = IntKind.u64.wrap (g.head.number + 1)
 page : ∀ n : Nat, 1 ≤ n → (n : Int) ≤ g.head.pages → pageM g' d' (n : Int) (g'.list.length : Int) = pageM g d (n : Int) (g.list.length : Int)
theorem check_calm (h : LgCalm g d) (hok : g.Ok) : (lcheckM g d).1 = 0 ∧ Checked g (lcheckM g d).2.1 d (lcheckM g d).2.2 := by
 have hp := hok.pages
 unfold lcheckM
 rw [if_neg (by rw [h.off]; decide)]
 by_cases hl : g.list.length = 0
 ·rw [if_pos hl]
  exact ⟨rfl, h, rfl, fun _ => ⟨rfl, rfl⟩, List.length_eq_zero_iff.1 hl, fun e => absurd (List.length_eq_zero_iff.1 hl) e, fun _ _ _ => rfl⟩
 rw [if_neg hl]
 obtain ⟨P, hP⟩ : ∃ P : Nat, g.head.pages = (P : Int) := ⟨g.head.pages.toNat, by omega⟩
 have hdat : ∀ f ∈ g.list, f.data.length = 512 := fun f hf => by
  have := hok.data f hf
  unfold frOk at this
  simp only [Bool.and_eq_true, decide_eq_true_eq] at this
  exact this.2
 obtain ⟨d1, r1, c1, e1, l1, p1⟩ := pages_written (g := g) h.calm h.eight g.list hdat P (by omega)
 have hroom := h.room
 obtain ⟨d2, r2, c2, e2, l2, p2⟩ : ∃ d2, lcutM (P : Int) g d1 = (0, g, d2) ∧ Calm d2 ∧ (d2.now 0).length % 8 = 0 ∧ (d2.now 0).length ≤ 2048 ∧ ∀ n, 1 ≤ n → n ≤ P → pg (d2.now 0) n = pg (d1.now 0) n := by
  by_cases hc : 8 * P < (d1.now 0).length
  ·obtain ⟨d2, r2, c2, n2⟩ := cut_calm (g := g) c1 P hc
   refine ⟨d2, r2, c2, ?_, ?_, fun n h1 h2 => by rw [n2, pg_take h1 h2]⟩
   ·rw [n2, List.length_take]; omega
   ·rw [n2, List.length_take]; omega
  ·refine ⟨d1, ?_, c1, e1, by omega, fun _ _ _ => rfl⟩
   unfold lcutM
   rw [if_neg (by omega)]
 have n3 : (syncM d2 0).2.now = d2.now := sync_now 0 d2
 have c3 : Calm (syncM d2 0).2 := calm_sync c2 0
 have r3 : lsync0M g d2 = (0, g, (syncM d2 0).2) := by
  have : (syncM d2 0).1 = 0 := sync_ok c2 (k := 0) (by decide)
  unfold lsync0M
  rw [this]
 obtain ⟨d3, hd3⟩ : ∃ d3, d3 = (syncM d2 0).2 := ⟨_, rfl⟩
 rw [← hd3] at n3 c3 r3
 clear hd3
 have hS : (lputsS (ckHead g) true).length = 1 * 64 := by
  show (hdR (ckHead g)).1.length = _
  unfold hdR
  rw [if_pos (by unfold hdMay ckHead inB; simp; omega)]
  exact hdL_length _
 have w4 : (writeM d3 ((1 : Nat) : Int) ((0 : Nat) : Int) (lputsS (ckHead g) true)).1 = 0 := write_ok c3 (by decide) hS (by decide) (by decide)
 have w4 : (writeM d3 1 0 (lputsS (ckHead g) true)).1 = 0 := w4
 have n4 : (writeM d3 1 0 (lputsS (ckHead g) true)).2.now 0 = d3.now 0 := write_now 0 _ (by decide) d3
 have c4 : Calm (writeM d3 1 0 (lputsS (ckHead g) true)).2 := calm_write c3 1 0 _
 have r4 : lputsM (ckHead g) true g d3 = (0, { g with torn := true }, (writeM d3 1 0 (lputsS (ckHead g) true)).2) := by
  unfold lputsM
  rw [w4]
  simp
 obtain ⟨d4, hd4⟩ : ∃ d4, d4 = (writeM d3 1 0 (lputsS (ckHead g) true)).2 := ⟨_, rfl⟩
 rw [← hd4] at n4 c4 r4
 clear hd4 w4
 obtain ⟨r5, c5⟩ := sync_log (g := { g with torn := true }) c4 h.off
 have n5 : (syncM d4 1).2.now = d4.now := sync_now 1 d4
 obtain ⟨d5, hd5⟩ : ∃ d5, d5 = (syncM d4 1).2 := ⟨_, rfl⟩
 rw [← hd5] at r5 c5 n5
 clear hd5
 have hsteps : lstepsM (ckSteps g) g d = (0, { g with torn := false }, d5) := by
  have hPn : g.head.pages.toNat = P := by omega
  unfold ckSteps
  rw [steps_one (mend_calm h.torn), hPn, hP, steps_append _ _ r1, steps_one r2, steps_one r3, steps_one r4, steps_one r5]
  rfl
 rw [hsteps, if_neg (by simp)]
 have now5 : d5.now 0 = d2.now 0 := by rw [n5, n4, n3]
 refine ⟨rfl, ⟨c5, rfl, h.off, by rw [now5]; exact e2, by rw [now5]; exact l2⟩, rfl, fun e => absurd (by rw [e]; rfl) hl, rfl, fun _ => rfl, fun n h1 h2 => ?_⟩
 have hnP : n ≤ P := by omega
 have q1 := pageM_calm (g := (⟨ckHead g, g.has, [], startP (ckHead g).number, false, g.off⟩ : Lg)) (d := d5) c5.on (by rw [now5]; exact e2) n 0 h1 (by omega) (Nat.zero_le _)
 have q2 := pageM_calm (g := g) (d := d) h.calm.on h.eight n g.list.length h1 (by omega) (Nat.le_refl _)
 rw [q2]
 refine Eq.trans q1 ?_
 have e0 : lastAt ([] : List Fr) (n : Int) 0 = none := rfl
 show ((lastAt ([] : List Fr) (n : Int) 0).getD (pg (d5.now 0) n), (0 : Int)) = _
 rw [e0, now5, p2 n h1 hnP, p1 n h1, if_pos hnP]
 rfl
end
theorem exG0_calm : LgCalm exG0 newM := ⟨new_calm, rfl, rfl, by decide, by decide⟩
theorem Mk.okLg {w W : World} {l b : Nat} {g : Lg} {d : Dsk} (h : Mk w W l b g d) : g.Ok := by
 obtain ⟨⟨F, G, h1, -⟩, -⟩ := h
 exact h1.ok
structure MkX (w W : World) (l b : Nat) (g : Lg) (d : Dsk) (X : Nat → Prop) : Prop where
 ex : ∃ F G, LgAt W l b F G g d ∧ ∀ k, F.own k ∨ F.sh k ∨ G k → w.heap.size ≤ k ∧ ¬ X k
 bel : Below w.heap.size w W
 xlt : ∀ k, X k → k < W.heap.size
section
variable {w W W' : World} {l b : Nat} {g g' : Lg} {d d' : Dsk} {X X' : Nat → Prop}
theorem MkX.mk' (h : MkX w W l b g d X) : Mk w W l b g d := by
 obtain ⟨⟨F, G, h1, h2⟩, hb, -⟩ := h
 exact ⟨⟨F, G, h1, fun k hk => (h2 k hk).1⟩, hb⟩
theorem LgAt.flt {F : Foot} {G : Nat → Prop} {k : Nat} (h : LgAt W l b F G g d) (hk : F.own k ∨ F.sh k ∨ G k) : k < W.heap.size := by
 obtain ⟨lv, h1⟩ := h.log
 rcases hk with hk | hk | hk
 ·exact h.disk.olt k hk
 ·exact h.disk.slt k hk
 ·exact h1.glt k hk
theorem mk_frames (h : Mk w W l b g d) : Calls Tryz.prog 101 #[.pointer (some ⟨l, 0, none⟩), .int .i64 0, .int .i64 (g.list.length : Int)] W fun e w' => ∃ v, e = .returned (.tuple #[v, .int .i64 0]) ∧ w'.ownsRow W.heap.size 186 3 v g.list.length (frsCells g.list) ∧ Below W.heap.size W w' := by
 obtain ⟨⟨F, G, h1, -⟩, -⟩ := h
 have := frames_good h1 0 g.list.length (Nat.zero_le _) (Nat.le_refl _)
 simp only [Nat.sub_zero, List.drop_zero, List.take_length] at this
 exact this
end
end Go.Proofs.YtcpejlmnplkbaaaGreat
