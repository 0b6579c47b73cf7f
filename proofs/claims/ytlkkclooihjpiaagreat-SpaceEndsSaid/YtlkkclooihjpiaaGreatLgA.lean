/- A log and a disk that a law made: the calls on them; rows of images; plain laws of appends and checkpoints; a log apart from the law's own blocks. -/
import Derived.Test.YtlkkclooihjpiaaGreatWaK
import Derived.Test.YtlkkclooihjpiaaGreatWaM
set_option linter.unusedVariables false
set_option linter.unusedSimpArgs false
namespace Go.Proofs.YtlkkclooihjpiaaGreat
open Go.RowKit Go.Maps
set_option maxRecDepth 20000
def imgCells (x : Img) : List Value := [.int .i64 x.page, .string (bs x.data)]
def exG0 : Lg := ⟨⟨0, 0, 0⟩, false, [], startP 0, false, false⟩
theorem ex_open : lopenM newM = (some exG0, 0) := by
 unfold lopenM firstM newM
 simp [exG0]
structure MkD (w W : World) (b : Nat) (d : Dsk) : Prop where
 ex : ∃ F, DiskAt W b F d ∧ ∀ k, F.own k ∨ F.sh k → w.heap.size ≤ k
 bel : Below w.heap.size w W
structure Mk (w W : World) (l b : Nat) (g : Lg) (d : Dsk) : Prop where
 ex : ∃ F G, LgAt W l b F G g d ∧ ∀ k, F.own k ∨ F.sh k ∨ G k → w.heap.size ≤ k
 bel : Below w.heap.size w W
section
variable {w W W' : World} {l b : Nat} {g g' : Lg} {d d' : Dsk}
theorem MkD.below (h : MkD w W b d) (hb : Below W.heap.size W W') : MkD w W' b d := by
 obtain ⟨⟨F, h1, h2⟩, hb1⟩ := h
 exact ⟨⟨F, h1.below hb, h2⟩, hb1.trans (hb.mono hb1.size)⟩
theorem Mk.did {F : Foot} {G : Nat → Prop} (h2 : ∀ k, F.own k ∨ F.sh k ∨ G k → w.heap.size ≤ k) (hb1 : Below w.heap.size w W) (h : LgDid W l b F G g' d' W') : Mk w W' l b g' d' := by
 obtain ⟨F', G', h3, h4⟩ := h
 have hsz := hb1.size
 refine ⟨⟨F', G', h3, fun k hk => ?_⟩, h4.frm.os.trans hb1.os, h4.frm.tape.trans hb1.tape, h4.frm.output.trans hb1.output, Nat.le_trans hsz h4.frm.size, fun k hk => ?_⟩
 ·rcases hk with hk | hk | hk
  ·exact (h4.own k hk).elim (fun e => h2 k (.inl e)) (fun e => by omega)
  ·exact (h4.sh k hk).elim (fun e => h2 k (.inr (.inl e))) (fun e => by omega)
  ·exact (h4.gr k hk).elim (fun e => h2 k (.inr (.inr e))) (fun e => by omega)
 ·rw [h4.frm.block k (by omega) (fun e => by have := h2 k (e.elim .inl fun e => .inr (.inr e)); omega)]
  exact hb1.block k hk
theorem mk_new (w : World) : Calls Tryz.prog 6 #[] w fun e w' => ∃ b, e = .returned (.pointer (some ⟨b, 0, none⟩)) ∧ MkD w w' b newM := by
 refine (new_any w).mono ?_
 rintro e w' ⟨b, F, rfl, h1, h2, h3, h4⟩
 exact ⟨b, rfl, ⟨F, h1, fun k hk => hk.elim (h3 k) (h4 k)⟩, h2⟩
theorem mk_open (h : MkD w W b d) (ho : lopenM d = (some g, 0)) : Calls Tryz.prog 26 #[.pointer (some ⟨b, 0, none⟩)] W fun e w' => ∃ l, e = .returned (.tuple #[.pointer (some ⟨l, 0, none⟩), .int .i64 0]) ∧ Mk w w' l b g d := by
 obtain ⟨⟨F, h1, h2⟩, hb⟩ := h
 refine (lopen_any h1).mono ?_
 intro e w' hg
 rw [ho] at hg
 obtain ⟨hb2, l, G, rfl, h3, h4⟩ := hg
 refine ⟨l, rfl, ⟨F, G, h3, fun k hk => ?_⟩, hb.trans (hb2.mono hb.size)⟩
 rcases hk with hk | hk | hk
 ·exact h2 k (.inl hk)
 ·exact h2 k (.inr hk)
 ·exact Nat.le_trans hb.size (h4 k hk)
theorem mk_page (h : Mk w W l b g d) (n mark : Int) : Calls Tryz.prog 57 #[.pointer (some ⟨l, 0, none⟩), .int .i64 n, .int .i64 mark] W fun e w' => e = .returned (.tuple #[.string (bs (pageM g d n mark).1), .int .i64 (pageM g d n mark).2]) ∧ Below W.heap.size W w' := by
 obtain ⟨⟨F, G, h1, -⟩, -⟩ := h
 exact page_any h1 n mark
theorem mk_mark (h : Mk w W l b g d) : Calls Tryz.prog 58 #[.pointer (some ⟨l, 0, none⟩)] W fun e w' => e = .returned (.int .i64 g.list.length) ∧ w' = W := by
 obtain ⟨⟨F, G, h1, -⟩, -⟩ := h
 exact mark_any h1
theorem mk_pages (h : Mk w W l b g d) : Calls Tryz.prog 27 #[.pointer (some ⟨l, 0, none⟩)] W fun e w' => e = .returned (.int .i64 g.head.pages) ∧ w' = W := by
 obtain ⟨⟨F, G, h1, -⟩, -⟩ := h
 exact pages_any h1
end
theorem new_small : newM.Small 100 := ⟨by decide, by decide, by decide⟩
def imgsV (l : List Img) : List Value := l.flatMap imgCells
theorem imgsV_snoc (l : List Img) (x : Img) : imgsV (l ++ [x]) = imgsV l ++ imgCells x := by simp [imgsV]
theorem imgCells_one (x : Img) : ∀ u ∈ imgCells x, u.oneCell' = true := by
 intro u hu
 simp only [imgCells, List.mem_cons, List.not_mem_nil, or_false] at hu
 rcases hu with rfl | rfl <;> rfl
theorem imgsV_get : ∀ (l : List Img) (k : Nat) (h : k < l.length), (imgsV l)[k * 2]? = some (.int .i64 l[k].page) ∧ (imgsV l)[k * 2 + 1]? = some (.string (bs l[k].data))
 | x :: r, 0, _ => ⟨rfl, rfl⟩
 | x :: r, k + 1, h => by
  have e : imgsV (x :: r) = imgCells x ++ imgsV r := rfl
  have hl : (imgCells x).length = 2 := rfl
  have := imgsV_get r k (by simpa using h)
  rw [e, List.getElem?_append_right (by rw [hl]; omega), List.getElem?_append_right (by rw [hl]; omega), hl]
  rw [show (k + 1) * 2 - 2 = k * 2 by omega, show (k + 1) * 2 + 1 - 2 = k * 2 + 1 by omega]
  exact this
def ImgRow (w : World) (base : Nat) (v : Value) (l : List Img) : Prop := w.ownsRow base 144 2 v l.length (imgsV l)
theorem imgRow_nil (w : World) (base : Nat) : ImgRow w base (.slice none 0 0) [] := World.ownsRow_nil _ _ _ _
theorem ImgRow.get {w : World} {base : Nat} {v : Value} {l : List Img} (h : ImgRow w base v l) : ∃ ao cap, v = .slice ao l.length cap ∧ ∀ k (hk : k < l.length), ∃ q, ao = some ⟨q, 0, none⟩ ∧ base ≤ q ∧ q < w.heap.size ∧ w.cell? ⟨q, k * 2, none⟩ = some (.int .i64 l[k].page) ∧ w.cell? ⟨q, k * 2 + 1, none⟩ = some (.string (bs l[k].data)) := by
 obtain ⟨ao, cap, rfl, hc⟩ := row_slice h
 refine ⟨ao, cap, rfl, fun k hk => ?_⟩
 obtain ⟨c0, c1⟩ := imgsV_get l k hk
 obtain ⟨q, rfl, h0⟩ := hc (k * 2) _ (by omega) c0
 obtain ⟨q1, e1, h1⟩ := hc (k * 2 + 1) _ (by omega) c1
 obtain rfl : q = q1 := by simpa using e1
 have hb := row_base h (g := q) rfl
 exact ⟨q, rfl, hb.1, hb.2, h0, h1⟩
theorem ImgRow.at {w : World} {base : Nat} {v : Value} {l : List Img} (h : ImgRow w base v l) : ImgsAt w v l := by
 obtain ⟨ao, cap, rfl, hc⟩ := h.get
 refine ⟨ao, cap, rfl, fun k hk => ?_⟩
 obtain ⟨q, h1, -, h3, h4, h5⟩ := hc k hk
 exact ⟨q, h1, h3, h4, h5⟩
theorem ImgRow.keep {w w' : World} {base : Nat} {v : Value} {l : List Img} (h : ImgRow w base v l) (hk : ∀ k, base ≤ k → k < w.heap.size → w'.heap[k]? = w.heap[k]?) : ImgRow w' base v l :=
 row_keep h fun j hj => hk j (row_base h hj).1 (row_base h hj).2
theorem ImgRow.below {w w' : World} {base : Nat} {v : Value} {l : List Img} (h : ImgRow w base v l) (hb : Below w.heap.size w w') : ImgRow w' base v l := h.keep fun k _ hk => hb.block k hk
section
variable {g : Lg} {d : Dsk}
theorem steps_small : ∀ (ms : List LgM), (∀ m ∈ ms, ∀ g d N, d.Small N → (m g d).2.2.Small (N + 16384)) → ∀ g d N, d.Small N → (lstepsM ms g d).2.2.Small (N + 16384 * ms.length)
 | [], _, g, d, N, h => h
 | m :: r, hm, g, d, N, h => by
  have h1 := hm m (by simp) g d N h
  have h2 := steps_small r (fun x hx => hm x (by simp [hx])) (m g d).2.1 (m g d).2.2 _ h1
  unfold lstepsM
  split
  ·exact h1.mono (by simp; omega)
  ·exact h2.mono (by simp; omega)
theorem sync_sm (g : Lg) (d : Dsk) (N : Nat) (h : d.Small N) : (lsyncM g d).2.2.Small (N + 16384) := (sync_small h).mono (by omega)
theorem puts_sm (hd : Hd) (has : Bool) (g : Lg) (d : Dsk) (N : Nat) (h : d.Small N) : (lputsM hd has g d).2.2.Small (N + 16384) := (write_small h).mono (by omega)
theorem page_sm (n : Int) (s : List UInt8) (g : Lg) (d : Dsk) (N : Nat) (h : d.Small N) : (lpageM n s g d).2.2.Small (N + 16384) := (write_small h).mono (by omega)
theorem cut_sm (n : Int) (g : Lg) (d : Dsk) (N : Nat) (h : d.Small N) : (lcutM n g d).2.2.Small (N + 16384) := by
 unfold lcutM
 split
 ·exact (cut_small h).mono (by omega)
 ·exact h.mono (by omega)
theorem sync0_sm (g : Lg) (d : Dsk) (N : Nat) (h : d.Small N) : (lsync0M g d).2.2.Small (N + 16384) := (sync_small h).mono (by omega)
theorem mend_sm (g : Lg) (d : Dsk) (N : Nat) (h : d.Small N) : (lmendM g d).2.2.Small (N + 16384) := by
 unfold lmendM
 split
 ·unfold lstepsM
  split
  ·exact puts_sm g.head g.has g d _ h
  ·unfold lstepsM
   have h1 : (lputsM g.head g.has g d).2.2.Small (N + 8193) := write_small h
   have h2 : (lsyncM (lputsM g.head g.has g d).2.1 (lputsM g.head g.has g d).2.2).2.2.Small (N + 8193 + 1) := sync_small h1
   split
   ·exact h2.mono (by omega)
   ·exact h2.mono (by omega)
 ·exact h.mono (by omega)
theorem ckPages_mem {l : List Fr} {P : Nat} {m : LgM} (h : m ∈ ckPages l P) : ∃ n s, m = lpageM n s := by
 unfold ckPages at h
 obtain ⟨i, -, hi⟩ := List.mem_filterMap.1 h
 cases hl : lastAt l ((i + 1 : Nat) : Int) l.length with
 | none => rw [hl] at hi; cases hi
 | some s => rw [hl] at hi; cases hi; exact ⟨_, _, rfl⟩
theorem ck_small (g : Lg) (d : Dsk) (N M : Nat) (hM : N + 8388608 ≤ M) (hp : g.head.pages ≤ 256) (h : d.Small N) : (lcheckM g d).2.2.Small M := by
 have hs : (lstepsM (ckSteps g) g d).2.2.Small M := (steps_small (ckSteps g) (by
  intro m hm
  simp only [ckSteps, List.mem_cons, List.mem_append, List.not_mem_nil, or_false] at hm
  rcases hm with rfl | hm | rfl | rfl | rfl | rfl
  ·exact mend_sm
  ·obtain ⟨n, s, rfl⟩ := ckPages_mem hm
   exact page_sm _ _
  ·exact cut_sm _
  ·exact sync0_sm
  ·exact puts_sm _ _
  ·exact sync_sm) g d N h).mono (by
   have hl : (ckSteps g).length ≤ 300 := by
    have := ckPages_length g.list g.head.pages.toNat
    have e : (ckSteps g).length = (ckPages g.list g.head.pages.toNat).length + 4 + 1 := by simp [ckSteps]
    omega
   obtain ⟨z, hz⟩ : ∃ z, z = (ckSteps g).length := ⟨_, rfl⟩
   rw [← hz] at hl ⊢
   clear hz
   have := Nat.mul_le_mul_left 16384 hl
   exact Nat.le_trans (Nat.add_le_add_left this N) (Nat.le_trans (Nat.add_le_add_left (by decide) N) hM))
 unfold lcheckM
 split
 ·exact h.mono (by omega)
 split
 ·exact h.mono (by omega)
 split
 ·exact hs
 ·exact hs
theorem wrN_now {k : Nat} (a : Nat) (s : List UInt8) {f : Nat} (hf : f ≠ k) (d : Dsk) : ∀ n, (wrN d k a s n).now f = d.now f
 | 0 => rfl
 | n + 1 => by
  show put (wrN d k a s n).now k _ f = _
  unfold put
  rw [if_neg hf]
  exact wrN_now a s hf d n
theorem write_now {k : Int} (a : Int) (s : List UInt8) {f : Nat} (hf : f ≠ k.toNat) (d : Dsk) : (writeM d k a s).2.now f = d.now f := by
 unfold writeM
 split
 ·rfl
 split
 ·rfl
 split
 ·rfl
 split
 ·rfl
 ·exact wrN_now _ _ hf _ _
end
structure Calm (d : Dsk) : Prop where
 on : d.off = false
 goes : d.goes = -1
 armed : ∀ k, d.armed k = 0
 ops : 0 ≤ d.ops
theorem new_calm : Calm newM := ⟨rfl, rfl, fun _ => rfl, Int.le_refl _⟩
section
variable {g : Lg} {d : Dsk}
theorem calm_meets (h : Calm d) : (meetsM d).1 = 0 ∧ Calm (meetsM d).2 := by
 have hne : d.ops ≠ d.goes := by have := h.goes; have := h.ops; omega
 have hb : (d.ops == d.goes) = false := by simpa using hne
 refine ⟨?_, ?_, h.goes, fun k => ?_, ?_⟩
 ·show (if d.ops = d.goes then 32 else d.armed d.ops) = 0
  rw [if_neg hne, h.armed]
 ·show (d.off || d.ops == d.goes) = false
  rw [hb, h.on]; rfl
 ·show (if k = d.ops then 0 else d.armed k) = 0
  split
  ·rfl
  ·exact h.armed k
 ·have := h.ops
  show 0 ≤ d.ops + 1
  omega
theorem wrN_calm {k a : Nat} {s : List UInt8} (h : Calm d) : ∀ n, Calm (wrN d k a s n)
 | 0 => h
 | n + 1 => by
  have ih := wrN_calm (k := k) (a := a) (s := s) h n
  exact ⟨ih.on, ih.goes, ih.armed, ih.ops⟩
theorem calm_write (h : Calm d) (f a : Int) (s : List UInt8) : Calm (writeM d f a s).2 := by
 unfold writeM
 split
 ·exact h
 split
 ·exact h
 split
 ·exact h
 split
 ·exact (calm_meets h).2
 ·exact wrN_calm (calm_meets h).2 _
theorem ready_on {k : Nat} (hk : k < 8) (ho : d.off = false) : readyM d (k : Int) = 0 := by unfold readyM; rw [ho, if_neg (by simp), if_pos (by omega)]
theorem write_ok (h : Calm d) {k a m : Nat} {s : List UInt8} (hk : k < 8) (hl : s.length = m * 64) (h0 : 0 < m) (ha : a + m ≤ 8192) : (writeM d (k : Int) (a : Int) s).1 = 0 := by
 unfold writeM
 have e : s.length / 64 = m := by omega
 rw [if_neg (by simpa using ready_on hk h.on), if_neg (by omega), if_neg (by rw [e]; omega), if_neg (by simpa using (calm_meets h).1)]
theorem put_same' {α : Type} (g : Nat → α) (f : Nat) (x : α) : put g f x f = x := if_pos rfl
theorem does_getD {l : List Sec} {c : Chg} (h : c.cut = false) (i : Nat) : (doesM l c).getD i nought = if i = c.at_ then c.bytes else l.getD i nought := by
 have hlen := doesM_length_write (l := l) h
 by_cases hi : i < (doesM l c).length
 ·rw [List.getD_eq_getElem?_getD, List.getElem?_eq_getElem hi, Option.getD_some, doesM_get_write h i hi]
  by_cases e : i = c.at_
  ·rw [if_pos e, if_pos e]
  ·rw [if_neg e, if_neg e]
   by_cases hl : i < l.length
   ·rw [dif_pos hl, List.getD_eq_getElem?_getD, List.getElem?_eq_getElem hl]; rfl
   ·rw [dif_neg hl, List.getD_eq_getElem?_getD, List.getElem?_eq_none (by omega)]; rfl
 ·rw [List.getD_eq_getElem?_getD, List.getElem?_eq_none (by omega), if_neg (by omega), List.getD_eq_getElem?_getD, List.getElem?_eq_none (by omega)]
section
variable {k a : Nat} {s : List UInt8}
theorem wr_at (n : Nat) : (wrN d k a s (n + 1)).now k = doesM ((wrN d k a s n).now k) (wrChg k a s n) := by
 show put (wrN d k a s n).now k _ k = _
 rw [put_same']
 rfl
theorem wr_len : ∀ n, ((wrN d k a s n).now k).length = if n = 0 then (d.now k).length else max (d.now k).length (a + n)
 | 0 => rfl
 | n + 1 => by
  rw [wr_at, doesM_length_write rfl, wr_len n]
  show max _ (a + n + 1) = _
  rw [if_neg (show ¬ n + 1 = 0 by omega)]
  split <;> omega
theorem wr_getD (i : Nat) : ∀ n, ((wrN d k a s n).now k).getD i nought = if a ≤ i ∧ i < a + n then secOf s (i - a) else (d.now k).getD i nought
 | 0 => by rw [if_neg (by omega)]; rfl
 | n + 1 => by
  rw [wr_at, does_getD rfl, wr_getD i n]
  show (if i = a + n then secOf s n else _) = _
  by_cases e : i = a + n
  ·rw [if_pos e, if_pos (by omega)]; congr 1; omega
  ·rw [if_neg e]
   by_cases h : a ≤ i ∧ i < a + n
   ·rw [if_pos h, if_pos (by omega)]
   ·rw [if_neg h, if_neg (by omega)]
end
theorem flat_secs (s : List UInt8) : ∀ m, ((List.range m).map (secOf s)).flatten = s.take (m * 64)
 | 0 => by simp
 | m + 1 => by
  rw [List.range_succ, List.map_append, List.flatten_append, flat_secs s m]
  simp only [List.map_cons, List.map_nil, List.flatten_cons, List.flatten_nil, List.append_nil]
  unfold secOf
  rw [show (m + 1) * 64 = m * 64 + 64 by omega, List.take_add]
def pg (l : List Sec) (n : Nat) : List UInt8 := ((List.range 8).map fun i => l.getD (8 * (n - 1) + i) nought).flatten
structure LgCalm (g : Lg) (d : Dsk) : Prop where
 calm : Calm d
 torn : g.torn = false
 off : g.off = false
 eight : (d.now 0).length % 8 = 0
 room : (d.now 0).length ≤ 2048
structure Checked (g g' : Lg) (d d' : Dsk) : Prop where
 calm : LgCalm g' d'
 pages : g'.head.pages = g.head.pages
 none : g.list = [] → g' = g ∧ d' = d
 list : g'.list = []
 number : g.list ≠ [] → g'.head.number = IntKind.u64.wrap (g.head.number + 1)
 page : ∀ n : Nat, 1 ≤ n → (n : Int) ≤ g.head.pages → pageM g' d' (n : Int) (g'.list.length : Int) = pageM g d (n : Int) (g.list.length : Int)
end
theorem Mk.okLg {w W : World} {l b : Nat} {g : Lg} {d : Dsk} (h : Mk w W l b g d) : g.Ok := by
 obtain ⟨⟨F, G, h1, -⟩, -⟩ := h
 exact h1.ok
structure MkX (w W : World) (l b : Nat) (g : Lg) (d : Dsk) (X : Nat → Prop) : Prop where
 ex : ∃ F G, LgAt W l b F G g d ∧ ∀ k, F.own k ∨ F.sh k ∨ G k → w.heap.size ≤ k ∧ ¬ X k
 bel : Below w.heap.size w W
 xlt : ∀ k, X k → k < W.heap.size
section
variable {w W W' : World} {l b : Nat} {g g' : Lg} {d d' : Dsk} {X X' : Nat → Prop}
theorem MkX.mk' (h : MkX w W l b g d X) : Mk w W l b g d := by
 obtain ⟨⟨F, G, h1, h2⟩, hb, -⟩ := h
 exact ⟨⟨F, G, h1, fun k hk => (h2 k hk).1⟩, hb⟩
theorem Mk.x (h : Mk w W l b g d) : MkX w W l b g d (fun _ => False) := by
 obtain ⟨⟨F, G, h1, h2⟩, hb⟩ := h
 exact ⟨⟨F, G, h1, fun k hk => ⟨h2 k hk, id⟩⟩, hb, fun _ h => h.elim⟩
theorem LgAt.flt {F : Foot} {G : Nat → Prop} {k : Nat} (h : LgAt W l b F G g d) (hk : F.own k ∨ F.sh k ∨ G k) : k < W.heap.size := by
 obtain ⟨lv, h1⟩ := h.log
 rcases hk with hk | hk | hk
 ·exact h.disk.olt k hk
 ·exact h.disk.slt k hk
 ·exact h1.glt k hk
end
end Go.Proofs.YtlkkclooihjpiaaGreat
