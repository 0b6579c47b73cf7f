/- A pager's small calls: ready, Pages, Read, Begin, Write, Release, Rollback. -/
import Derived.Test.YtlkkclooihjpiaaGreatPgA
set_option linter.unusedVariables false
set_option linter.unusedSimpArgs false
namespace Go.Proofs.YtlkkclooihjpiaaGreat
open Go.RowKit Go.Maps
set_option maxRecDepth 20000
theorem says_put {D : DataW Unit} {f : Int → Option (List UInt8)} (h : MapSays D f) (hm : IsMap D) (n : Int) (s : List UInt8) : MapSays (D.put (ik n) (.lit (.string s))) (fun k => if k = n then some s else f k) := by
 refine ⟨fun k hk => ?_, fun p => ?_⟩
 ·by_cases e : k = ik n
  ·exact ⟨n, e⟩
  ·rw [has_put_other e] at hk
   exact h.1 k hk
 ·by_cases e : p = n
  ·subst e
   simp only [if_true]
   exact ⟨has_put_same hm (ik_key _) _, fun z => atKey_put_same hm (ik_key _) _ _⟩
  ·simp only [e, if_false]
   have hp := h.2 p
   have hne : ik p ≠ ik n := ik_ne e
   revert hp
   cases f p with
   | some s => exact fun hp => ⟨by rw [has_put_other hne]; exact hp.1, fun z => by rw [atKey_put_other hne]; exact hp.2 z⟩
   | none =>
    intro hp
    show Maps.has _ (ik p) = false
    rw [has_put_other hne]
    exact hp
theorem says_look {W : World} {mb : Nat} {f : Int → Option (List UInt8)} (h : WrAt W mb f) {p : Int} (hp : -9223372036854775808 ≤ p ∧ p ≤ 9223372036854775807) :
  (Instr.lookup 84 (.map (some mb)) (.int .i64 p) true).run Tryz.prog W = .ok (.tuple #[.string (bs ((f p).getD [])), .bool (f p).isSome]) W := by
 obtain ⟨D, h1, h2⟩ := h
 obtain ⟨v, ps, hrun, hR⟩ := h1.look_ok (t := 84) (e := 9) keyI Tryz.underlying84 (z := .string (bs [])) (by kernel_rfl) (plainElem_string (H := Unit) (P := Tryz.prog) (e := 9) Tryz.underlying9 (s := bs []) (by rw [bs_size]; decide)) (key := .int .i64 p) (kl := ik p) (keyOf_int_mk Tryz.underlying3 (WalkArith.wf_i64 (by omega)))
 obtain ⟨s, rfl, h4, -⟩ := plainElem_string_inv Tryz.underlying9 hR
 obtain ⟨u, rfl⟩ := bs_of s
 refine hrun.trans ?_
 have h5 := (Prod.mk.inj h4).1
 have h6 := h2.2 p
 clear h4 hR hrun h1 h2
 cases hl : f p with
 | some t =>
  rw [hl] at h6
  have h6 : Maps.has D (ik p) = true ∧ ∀ z, D.atKey (ik p) z = .lit (.string t) := h6
  rw [h6.2] at h5
  have e : t = u := by
   injection h5 with h5
   injection h5
  rw [h6.1, e, Option.getD_some, Option.isSome_some]
 | none =>
  rw [hl] at h6
  have h6 : Maps.has D (ik p) = false := h6
  rw [atKey_of_not_has h6] at h5
  have e : ([] : List UInt8) = u := by
   injection h5 with h5
   injection h5
  rw [h6, ← e]
  rfl
section
variable {w w' : World} {pb l b : Nat} {F K : Foot} {G : Nat → Prop} {p : Pg} {g : Lg} {d : Dsk} {nv sv : Value}
def preadyM (p : Pg) : Int := match p.now with | none => 9 | some _ => 0
theorem pready_any (h : PgMem w pb l K p nv sv) : Calls Tryz.prog 37 #[.pointer (some ⟨pb, 0, none⟩)] w fun e w' => e = .returned (.int .i64 (preadyM p)) ∧ w' = w := by
 obtain ⟨-, c1, -, -⟩ := h.cell
 have hn := h.now
 unfold preadyM
 cases hp : p.now with
 | none =>
  rw [hp] at hn
  have hn : nv = .pointer none := hn
  subst hn
  clear h
  go_enter Tryz.func37, Tryz.ntmps37
  go_wp2_with fail
  go_ret
  exact ⟨rfl, rfl⟩
 | some t =>
  rw [hp] at hn
  obtain ⟨nb, mb, hn, -⟩ := hn
  subst hn
  clear h
  go_enter Tryz.func37, Tryz.ntmps37
  go_wp2_with fail
  go_ret
  exact ⟨rfl, rfl⟩
def ppagesM (p : Pg) (g : Lg) : Int := match p.now with | some t => t.pages | none => g.head.pages
theorem ppages_any (hl : LgAt w l b F G g d) (h : PgMem w pb l K p nv sv) : Calls Tryz.prog 9 #[.pointer (some ⟨pb, 0, none⟩)] w fun e w' => e = .returned (.int .i64 (ppagesM p g)) ∧ w' = w := by
 obtain ⟨c0, c1, -, -⟩ := h.cell
 have hn := h.now
 have LP := hid (pages_any hl)
 unfold ppagesM
 cases hp : p.now with
 | none =>
  rw [hp] at hn
  have hn : nv = .pointer none := hn
  subst hn
  clear h hl
  go_enter Tryz.func9, Tryz.ntmps9
  go_wp2_with (first
   | (go_at_call 27; refine (LP.out).mono ?_; rintro e w1 ⟨rfl, hw⟩; obtain rfl := hw.symm)
   | go_in)
  go_ret
  exact ⟨rfl, rfl⟩
 | some t =>
  rw [hp] at hn
  obtain ⟨nb, mb, hn, hb, -⟩ := hn
  subst hn
  have d0 : w.cell? ⟨nb, 0, none⟩ = some (.int .i64 t.pages) := (cell_of_block hb 0).trans rfl
  clear h hl hb
  go_enter Tryz.func9, Tryz.ntmps9
  go_wp2_with fail
  go_ret
  exact ⟨rfl, rfl⟩
theorem PgMem.to {W' : World} {K' : Foot} {p' : Pg} {nv' sv' : Value} (h : PgMem w pb l K p nv sv) (hf : Frm K.own w W')
  (hblk : W'.heap[pb]? = some (.cells #[.pointer (some ⟨l, 0, none⟩), nv', sv', .int .i64 p'.opn] 83 (0, 0))) (hnow : NowAt W' K' nv' p'.now) (hsav : SavesAt W' K' sv' p'.saves)
  (hrow : ∀ nb, nv' = .pointer (some ⟨nb, 0, none⟩) → sv'.ownBlock ≠ some nb) (ho : ∀ k, K'.own k → K.own k ∨ (w.heap.size ≤ k ∧ k < W'.heap.size)) (hs : ∀ k, K'.sh k → K.sh k ∨ (w.heap.size ≤ k ∧ k < W'.heap.size))
  (hp : K'.own pb) (hap : ∀ k, w.heap.size ≤ k → K'.own k → K'.sh k → False) (hok : p'.Ok) : PgDid w pb l K p' W' := by
 have hsz := hf.size
 refine ⟨K', nv', sv', ⟨hblk, hnow, hsav, hrow, hp, fun k hk => ?_, fun k hk => ?_, fun k h1 h2 => ?_, hok⟩, hf, fun k hk => (ho k hk).imp id (·.1), fun k hk => (hs k hk).imp id (·.1)⟩
 ·rcases ho k hk with e | e
  ·have := h.olt k e; omega
  ·exact e.2
 ·rcases hs k hk with e | e
  ·have := h.slt k e; omega
  ·exact e.2
 ·rcases ho k h1 with e | e
  ·rcases hs k h2 with f | f
   ·exact h.apart k e f
   ·have := h.olt k e; omega
  ·exact hap k e.1 h1 h2
theorem PgDid.same (h : PgMem w pb l K p nv sv) : PgDid w pb l K p w := ⟨K, nv, sv, h, Frm.refl _ _, fun _ h => .inl h, fun _ h => .inl h⟩
theorem SavesAt.mono {K' : Foot} {t : List Tr} (h : SavesAt w K sv t) (ho : ∀ k, K.own k → K'.own k) (hs : ∀ k, K.sh k → K'.sh k) : SavesAt w K' sv t := by
 obtain ⟨ms, h1, h2, h3, h4⟩ := h
 exact ⟨ms, h1, h2, fun k hk => ho k (h3 k hk), fun x hx => ⟨(h4 x hx).1, hs _ (h4 x hx).2⟩⟩
theorem SavesAt.own {t : List Tr} (h : SavesAt w K sv t) {k : Nat} (hk : sv.ownBlock = some k) : K.own k := by
 obtain ⟨ms, h1, h2, h3, h4⟩ := h
 exact h3 k hk
theorem says_nil : MapSays (.map []) (fun _ => none) := ⟨fun k h => (by cases h), fun p => rfl⟩
def beginM (p : Pg) (g : Lg) : Int × Pg := match p.now with | some _ => (9, p) | none => (0, { p with now := some ⟨g.head.pages, fun _ => none⟩ })
theorem begin_mem (h : PgMem w pb l K p nv sv) (P : Int) (hP : 0 ≤ P ∧ P ≤ 256) :
  PgDid w pb l K { p with now := some ⟨P, fun _ => none⟩ } (((w.alloc (.map #[] 0)).alloc (.cells #[.int .i64 P, .map (some w.heap.size)] 86)).setCell ⟨pb, 1, none⟩ (.pointer (some ⟨w.heap.size + 1, 0, none⟩))) := by
 have hpl := h.olt pb h.pown
 have hb1 : Below w.heap.size w (w.alloc (.map #[] 0)) := (Below.refl _ w).alloc (Nat.le_refl _) _
 have hm1 := World.ownsMap_made (H := Unit) w Tryz.prog 3 (plainElem Tryz.prog 9)
 have hs1 : (w.alloc (.map #[] 0)).heap.size = w.heap.size + 1 := by simp
 obtain ⟨w1, hw1⟩ : ∃ w1, w1 = w.alloc (.map #[] 0) := ⟨_, rfl⟩
 rw [← hw1] at hb1 hm1 hs1 ⊢
 have hn2 := heap_alloc_new w1 (.cells #[.int .i64 P, .map (some w.heap.size)] 86)
 have hb2 : Below w1.heap.size w1 (w1.alloc (.cells #[.int .i64 P, .map (some w.heap.size)] 86)) := (Below.refl _ w1).alloc (Nat.le_refl _) _
 have hs2 : (w1.alloc (.cells #[.int .i64 P, .map (some w.heap.size)] 86)).heap.size = w1.heap.size + 1 := by simp
 obtain ⟨w2, hw2⟩ : ∃ w2, w2 = w1.alloc (.cells #[.int .i64 P, .map (some w.heap.size)] 86) := ⟨_, rfl⟩
 rw [← hw2] at hn2 hb2 hs2 ⊢
 rw [hs1] at hn2
 clear hw1 hw2
 have hb02 : Below w.heap.size w w2 := hb1.trans (hb2.mono hb1.size)
 have hpb2 : w2.heap[pb]? = some (.cells #[.pointer (some ⟨l, 0, none⟩), nv, sv, .int .i64 p.opn] 83 (0, 0)) := (hb02.block pb hpl).trans h.blk
 have hpb3 : (w2.setCell ⟨pb, 1, none⟩ (.pointer (some ⟨w.heap.size + 1, 0, none⟩))).heap[pb]? = some (.cells #[.pointer (some ⟨l, 0, none⟩), .pointer (some ⟨w.heap.size + 1, 0, none⟩), sv, .int .i64 p.opn] 83 (0, 0)) := (heap_setCell_same (cs := #[.pointer (some ⟨l, 0, none⟩), nv, sv, .int .i64 p.opn]) hpb2 1 _).trans rfl
 have ho3 : ∀ k, k ≠ pb → (w2.setCell ⟨pb, 1, none⟩ (.pointer (some ⟨w.heap.size + 1, 0, none⟩))).heap[k]? = w2.heap[k]? := fun k hk => Below.heap_setCell _ ⟨pb, 1, none⟩ _ k hk
 have hs3 : (w2.setCell ⟨pb, 1, none⟩ (.pointer (some ⟨w.heap.size + 1, 0, none⟩))).heap.size = w2.heap.size := by simp
 have hf3 : Frm K.own w (w2.setCell ⟨pb, 1, none⟩ (.pointer (some ⟨w.heap.size + 1, 0, none⟩))) := (Frm.of_below hb02).setCell (p := ⟨pb, 1, none⟩) (.inl h.pown) _
 obtain ⟨w3, hw3⟩ : ∃ w3, w3 = w2.setCell ⟨pb, 1, none⟩ (.pointer (some ⟨w.heap.size + 1, 0, none⟩)) := ⟨_, rfl⟩
 rw [← hw3] at hpb3 ho3 hs3 hf3 ⊢
 clear hw3
 have hold : ∀ k, k < w.heap.size → k ≠ pb → w3.heap[k]? = w.heap[k]? := fun k hk hne => (ho3 k hne).trans (hb02.block k hk)
 have hsp : ∀ k, sv.ownBlock = some k → k ≠ pb := fun k hk e => by
  obtain ⟨ms, -, hr, -, -⟩ := h.saves
  rcases hr.2 with ⟨rfl, -⟩ | ⟨q, cap, cur, rfl, -, hq, -⟩
  ·cases hk
  ·injection hk with hk
   have hk : q = k := hk
   rw [hk, e, h.blk] at hq
   injection hq with hq
   injection hq with _ h5 _
   exact absurd h5 (by decide)
 refine h.to (K' := ⟨fun k => K.own k ∨ k = w.heap.size ∨ k = w.heap.size + 1, K.sh⟩) hf3 hpb3 ⟨w.heap.size + 1, w.heap.size, rfl, (ho3 _ (by omega)).trans hn2, ⟨.map [], ?_, says_nil⟩, .inr (.inr rfl), .inr (.inl rfl)⟩ ?_ ?_ ?_ ?_ (.inl h.pown) ?_ ?_
 ·exact map_keep hm1 ((ho3 _ (by omega)).trans (hb2.block _ (by omega)))
 ·exact (h.saves.mono (K' := ⟨fun k => K.own k ∨ k = w.heap.size ∨ k = w.heap.size + 1, K.sh⟩) (fun k hk => .inl hk) (fun k hk => hk)).keep fun k hk => by
   rcases hk with hk | hk
   ·exact hold k (h.olt k (h.saves.own hk.2)) (hsp k hk.2)
   ·exact hold k (h.slt k hk) (fun e => h.apart pb h.pown (e ▸ hk))
 ·intro nb e f
  injection e with e
  injection e with e
  injection e with e
  have := h.olt _ (h.saves.own f)
  omega
 ·intro k hk
  rcases hk with hk | hk | hk
  ·exact .inl hk
  ·exact .inr (by omega)
  ·exact .inr (by omega)
 ·exact fun k hk => .inl hk
 ·intro k hk _ h2
  have := h.slt k h2
  omega
 ·exact ⟨fun t ht => by cases ht; exact ⟨hP, fun p s hs => by cases hs⟩, h.ok.saves, h.ok.many, fun e => by cases e⟩
theorem begin_any (hl : LgAt w l b F G g d) (h : PgMem w pb l K p nv sv) : Calls Tryz.prog 30 #[.pointer (some ⟨pb, 0, none⟩)] w fun e w' => e = .returned (.int .i64 (beginM p g).1) ∧ PgDid w pb l K (beginM p g).2 w' := by
 obtain ⟨c0, c1, -, -⟩ := h.cell
 have fr := h.free 1
 have H := hid h
 have RD := pready_any h
 unfold beginM
 cases hp : p.now with
 | none =>
  have e : preadyM p = 9 := by unfold preadyM; rw [hp]
  rw [e] at RD
  have RD := hid RD
  have LP := pages_any hl
  have hP := hl.ok.pages
  obtain ⟨P, hPe⟩ : ∃ P, P = g.head.pages := ⟨_, rfl⟩
  rw [← hPe] at LP hP
  have LP := hid LP
  have HPe := hid hPe
  have HP := hid hP
  have hmm := @run_makeMap Tryz.prog
  have fr2 : ((w.alloc (.map #[] 0)).alloc (.cells #[.int .i64 P, .map (some w.heap.size)] 86)).frozen? ⟨pb, 1, none⟩ = false := free_of_block (heap_alloc_old (heap_alloc_old h.blk)) 1
  have cw2 : ((w.alloc (.map #[] 0)).alloc (.cells #[.int .i64 P, .map (some w.heap.size)] 86)).cell? ⟨pb, 1, none⟩ = some nv := (cell_of_block (heap_alloc_old (heap_alloc_old h.blk)) 1).trans rfl
  clear hPe hP h hl e
  go_enter Tryz.func30, Tryz.ntmps30
  go_wp2_with (first
   | (go_at_call 37; refine (RD.out).mono ?_; rintro e w1 ⟨rfl, hw⟩; obtain rfl := hw.symm)
   | (go_at_call 27; refine (LP.out).mono ?_; rintro e w1 ⟨rfl, hw⟩; obtain rfl := hw.symm)
   | go_in)
  go_ret
  refine ⟨rfl, ?_⟩
  rw [← HPe.out]
  exact begin_mem H.out P HP.out
 | some t =>
  have e : preadyM p = 0 := by unfold preadyM; rw [hp]
  rw [e] at RD
  have RD := hid RD
  clear h hl e
  go_enter Tryz.func30, Tryz.ntmps30
  go_wp2_with (first
   | (go_at_call 37; refine (RD.out).mono ?_; rintro e w1 ⟨rfl, hw⟩; obtain rfl := hw.symm)
   | go_in)
  go_ret
  exact ⟨rfl, PgDid.same H.out⟩
end
end Go.Proofs.YtlkkclooihjpiaaGreat
