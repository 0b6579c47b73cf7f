/- A pager's Write, Rollback, Release. -/
import Derived.Test.YtlkkclooihjpiaaGreatPgB
import Derived.Shelf.SlMaps.Clone
import Derived.Test.YtlkkclooihjpiaaGreatLast
set_option linter.unusedVariables false
set_option linter.unusedSimpArgs false
namespace Go.Proofs.YtlkkclooihjpiaaGreat
open Go.RowKit Go.Maps
set_option maxRecDepth 20000
section
variable {w w' : World} {pb l b : Nat} {F K : Foot} {G : Nat → Prop} {p : Pg} {g : Lg} {d : Dsk} {nv sv : Value}
theorem SavesAt.block {t : List Tr} (h : SavesAt w K sv t) {k : Nat} (hk : sv.ownBlock = some k) : ∃ cur, w.heap[k]? = some (.cells cur 86 (0, 0)) := by
 obtain ⟨ms, -, hr, -, -⟩ := h
 rcases hr.2 with ⟨rfl, -⟩ | ⟨q, cap, cur, rfl, -, hq, -⟩
 ·cases hk
 ·injection hk with hk
  exact ⟨cur, by rw [← hk]; exact hq⟩
theorem PgMem.saves_keep (h : PgMem w pb l K p nv sv) {S : Nat → Prop} (hf : ∀ k, k < w.heap.size → ¬ S k → w'.heap[k]? = w.heap[k]?) (h1 : ∀ k, sv.ownBlock = some k → ¬ S k) (h2 : ∀ k, K.sh k → ¬ S k) : SavesAt w' K sv p.saves :=
 h.saves.keep fun k hk => by
  rcases hk with hk | hk
  ·exact hf k (h.olt k hk.1) (h1 k hk.2)
  ·exact hf k (h.slt k hk) (h2 k hk)
theorem SavesAt.len {t : List Tr} (h : SavesAt w K sv t) : ∃ ao cap, sv = .slice ao t.length cap ∧ (0 < t.length → ∃ q, ao = some ⟨q, 0, none⟩) ∧ t.length ≤ cap := by
 obtain ⟨ms, h1, h2, h3, h4⟩ := h
 rcases h2.2 with ⟨rfl, e⟩ | ⟨q, cap, cur, rfl, -, -, hc, -⟩
 ·exact ⟨none, 0, by rw [e], fun h => by omega, by omega⟩
 ·exact ⟨_, cap, rfl, fun _ => ⟨q, rfl⟩, hc⟩
def prollM (p : Pg) : Int × Pg := match p.now with | none => (9, p) | some _ => (0, ⟨none, [], p.opn⟩)
theorem roll_mem (h : PgMem w pb l K p nv sv) : PgDid w pb l K ⟨none, [], p.opn⟩ ((w.setCell ⟨pb, 1, none⟩ (.pointer none)).setCell ⟨pb, 2, none⟩ (.slice none 0 0)) := by
 have hb := h.blk
 have hf : Frm K.own w ((w.setCell ⟨pb, 1, none⟩ (.pointer none)).setCell ⟨pb, 2, none⟩ (.slice none 0 0)) := ((Frm.refl _ w).setCell (p := ⟨pb, 1, none⟩) (.inl h.pown) _).setCell (p := ⟨pb, 2, none⟩) (.inl h.pown) _
 refine h.to (K' := K) hf ((heap_setCell_same (heap_setCell_same hb 1 (.pointer none)) 2 (.slice none 0 0)).trans rfl) rfl ⟨[], rfl, World.ownsRow_nil _ _ _ _, (fun k hk => by cases hk), (fun x hx => by cases hx)⟩ (fun nb e => by cases e) (fun k hk => .inl hk) (fun k hk => .inl hk) h.pown (fun k hk h1 _ => by have := h.olt k h1; omega) ⟨(fun t ht => by cases ht), (fun t ht => by cases ht), by simp, fun _ => rfl⟩
theorem roll_any (h : PgMem w pb l K p nv sv) : Calls Tryz.prog 15 #[.pointer (some ⟨pb, 0, none⟩)] w fun e w' => e = .returned (.int .i64 (prollM p).1) ∧ PgDid w pb l K (prollM p).2 w' := by
 obtain ⟨c0, c1, c2, -⟩ := h.cell
 have fr1 := h.free 1
 have fr2 := h.free 2
 have H := hid h
 have RD := pready_any h
 unfold prollM
 cases hp : p.now with
 | none =>
  have e : preadyM p = 9 := by unfold preadyM; rw [hp]
  rw [e] at RD
  have RD := hid RD
  clear h e
  go_enter Tryz.func15, Tryz.ntmps15
  go_wp2_with (first
   | (go_at_call 37; refine (RD.out).mono ?_; rintro e w1 ⟨rfl, hw⟩; obtain rfl := hw.symm)
   | go_in)
  go_ret
  exact ⟨rfl, PgDid.same H.out⟩
 | some t =>
  have e : preadyM p = 0 := by unfold preadyM; rw [hp]
  rw [e] at RD
  have RD := hid RD
  clear h e
  go_enter Tryz.func15, Tryz.ntmps15
  go_wp2_with (first
   | (go_at_call 37; refine (RD.out).mono ?_; rintro e w1 ⟨rfl, hw⟩; obtain rfl := hw.symm)
   | go_in)
  go_ret
  exact ⟨rfl, roll_mem H.out⟩
end
end Go.Proofs.YtlkkclooihjpiaaGreat
/- A pager's Write; a transaction copied. -/
namespace Go.Proofs.YtlkkclooihjpiaaGreat
open Go.RowKit Go.Maps
set_option maxRecDepth 20000
section
variable {w w' : World} {pb l b : Nat} {F K : Foot} {G : Nat → Prop} {p : Pg} {g : Lg} {d : Dsk} {nv sv : Value}
def pwriteM (p : Pg) (n : Int) (s : List UInt8) : Int × Pg := match p.now with
 | none => (9, p)
 | some t => if n < 1 ∨ t.pages < n then (5, p) else if s.length ≠ 512 then (2, p) else (0, { p with now := some { t with wr := fun k => if k = n then some s else t.wr k } })
theorem write_mem (h : PgMem w pb l K p nv sv) {t : Tr} (hp : p.now = some t) {nb mb : Nat} (hnv : nv = .pointer (some ⟨nb, 0, none⟩)) (hnb : w.heap[nb]? = some (.cells (trCells t mb).toArray 86 (0, 0))) (ho1 : K.own nb) (ho2 : K.own mb) {D : DataW Unit}
  (hm : w.ownsMap Tryz.prog 3 (plainElem Tryz.prog 9) mb (Maps.size D) D) (hsay : MapSays D t.wr) {n : Int} {s : List UInt8} (hn : 1 ≤ n ∧ n ≤ t.pages) (hs : s.length = 512) {k : Nat}
  (hown : w'.ownsMap Tryz.prog 3 (plainElem Tryz.prog 9) mb k (D.put (ik n) (.lit (.string s)))) (hgrow : w.grownBy w' (some mb)) : PgDid w pb l K { p with now := some { t with wr := fun k => if k = n then some s else t.wr k } } w' := by
 have hf : Frm K.own w w' := ⟨hgrow.os, hgrow.tape, hgrow.output, hgrow.size, fun k hk hn => hgrow.block k hk (fun e => hn (by injection e with e; rw [e]; exact ho2))⟩
 obtain ⟨es, c, hmb⟩ : ∃ es c, w.heap[mb]? = some (.map es c) := by obtain ⟨es, clock, hb, r⟩ := hm; exact ⟨es, clock, hb⟩
 have hne : ∀ k (cs : Array Value) (T : TypeId) (fr : Nat × Nat), w.heap[k]? = some (.cells cs T fr) → k ≠ mb := fun k cs T fr hk e => by rw [e, hmb] at hk; cases hk
 have hkeep : ∀ k, k < w.heap.size → k ≠ mb → w'.heap[k]? = w.heap[k]? := fun k hk hn => hgrow.block k hk (fun e => hn (by injection e))
 have hS := h.saves_keep (S := fun k => k = mb) hkeep (fun k hk => by obtain ⟨cur, hc⟩ := h.saves.block hk; exact hne k _ _ _ hc) (fun k hk e => h.apart mb ho2 (e ▸ hk))
 refine h.to (K' := K) hf ((hkeep pb (h.olt pb h.pown) (hne pb _ _ _ h.blk)).trans h.blk) ⟨nb, mb, hnv, (hkeep nb (h.olt nb ho1) (hne nb _ _ _ hnb)).trans hnb, ⟨_, owns_exact hown, says_put hsay hm.isMap n s⟩, ho1, ho2⟩ hS h.nrow (fun k hk => .inl hk) (fun k hk => .inl hk) h.pown (fun k hk h1 _ => by have := h.olt k h1; omega) ⟨fun t' ht => ?_, h.ok.saves, h.ok.many, fun e => by cases e⟩
 cases ht
 have ht := h.ok.now t hp
 refine ⟨ht.pages, fun q x hx => ?_⟩
 by_cases e : q = n
 ·subst e
  simp only [if_true] at hx
  cases hx
  exact ⟨hn.1, hn.2, hs⟩
 ·simp only [e, if_false] at hx
  exact ht.dom q x hx
set_option maxHeartbeats 2000000 in
theorem pwrite_any (h : PgMem w pb l K p nv sv) (n : Int) (s : List UInt8) (hn : -9223372036854775808 ≤ n ∧ n ≤ 9223372036854775807) (hsl : s.length ≤ 9223372036854775807) :
  Calls Tryz.prog 36 #[.pointer (some ⟨pb, 0, none⟩), .int .i64 n, .string (bs s)] w fun e w' => e = .returned (.int .i64 (pwriteM p n s).1) ∧ PgDid w pb l K (pwriteM p n s).2 w' := by
 obtain ⟨c0, c1, c2, -⟩ := h.cell
 have H := hid h
 have RD := pready_any h
 have hnow := h.now
 have htok := h.ok.now
 unfold pwriteM
 cases hp : p.now with
 | none =>
  have e : preadyM p = 9 := by unfold preadyM; rw [hp]
  rw [e] at RD
  have RD := hid RD
  clear h e hnow htok hp
  go_enter Tryz.func36, Tryz.ntmps36
  go_wp2_with (first
   | (go_at_call 37; refine (RD.out).mono ?_; rintro e w1 ⟨rfl, hw⟩; obtain rfl := hw.symm)
   | go_in)
  go_ret
  exact ⟨rfl, PgDid.same H.out⟩
 | some t =>
  have e : preadyM p = 0 := by unfold preadyM; rw [hp]
  rw [e] at RD
  have RD := hid RD
  rw [hp] at hnow
  obtain ⟨nb, mb, hnv, hnb, ⟨D, hm, hsay⟩, ho1, ho2⟩ := hnow
  have htp := (htok t hp).pages
  have hsz : Maps.size D ≤ 256 := says_size (P := t.pages) htp.2 hsay (fun q x hx => by have := (htok t hp).dom q x hx; exact ⟨this.1, this.2.1⟩) (hm.canon keyI)
  have d0 : w.cell? ⟨nb, 0, none⟩ = some (.int .i64 t.pages) := (cell_of_block hnb 0).trans rfl
  have d1 : w.cell? ⟨nb, 1, none⟩ = some (.map (some mb)) := (cell_of_block hnb 1).trans rfl
  have Hp := hid hp
  have Hnb := hid hnb
  have Ho := hid (And.intro ho1 ho2)
  have Hm := hid hm
  have Hsay := hid hsay
  have Hnv := hid hnv
  subst hnv
  obtain ⟨P, hP⟩ : ∃ P, P = t.pages := ⟨_, rfl⟩
  rw [← hP] at d0
  dsimp only
  rw [← hP]
  have HP := hid hP
  obtain ⟨sl, hsl'⟩ : ∃ sl, sl = s.length := ⟨_, rfl⟩
  have Hsl := hid hsl'
  clear h e hp hnb ho1 ho2 hm hsay hP htok htp
  by_cases h1 : n < 1
  ·have b1 : decide (n < 1) = true := by simpa using h1
   simp only [h1, true_or, if_true]
   clear h1
   go_enter Tryz.func36, Tryz.ntmps36
   go_wp2_with (first
    | (go_at_call 37; refine (RD.out).mono ?_; rintro e w1 ⟨rfl, hw⟩; obtain rfl := hw.symm)
    | go_in)
   go_ret
   exact ⟨rfl, PgDid.same H.out⟩
  by_cases h2 : P < n
  ·have b1 : decide (n < 1) = false := by simpa using h1
   have b2 : decide (P < n) = true := by simpa using h2
   simp only [h2, or_true, if_true]
   clear h1 h2
   go_enter Tryz.func36, Tryz.ntmps36
   go_wp2_with (first
    | (go_at_call 37; refine (RD.out).mono ?_; rintro e w1 ⟨rfl, hw⟩; obtain rfl := hw.symm)
    | go_in)
   go_ret
   exact ⟨rfl, PgDid.same H.out⟩
  rw [if_neg (by omega)]
  have b1 : decide (n < 1) = false := by simpa using h1
  have b2 : decide (P < n) = false := by simpa using h2
  by_cases h3 : s.length = 512
  ·have b3 : ((s.length : Int) != 512) = false := by simp [h3]
   rw [if_neg (by simpa using h3)]
   have Hn := hid (show 1 ≤ n ∧ n ≤ P by omega)
   have H3 := hid h3
   have Hkey := hid (keyOf_int_mk (P := Tryz.prog) (k := 3) (a := n) Tryz.underlying3 (WalkArith.wf_i64 (by omega)))
   have Hval := hid (plainElem_string (H := Unit) (P := Tryz.prog) (e := 9) Tryz.underlying9 (s := bs s) (by rw [bs_size, h3]; decide))
   have HiN := hid (show Maps.size D < maxLen by unfold maxLen; omega)
   clear h1 h2 h3 hn hsl hsz
   go_enter Tryz.func36, Tryz.ntmps36
   go_wp2_with (first
    | (go_at_call 37; refine (RD.out).mono ?_; rintro e w1 ⟨rfl, hw⟩; obtain rfl := hw.symm)
    | (at_mapUpdate; refine wpList_mapUpdate_own _ rfl _ _ _ 84 rfl 3 9 keyI Tryz.underlying84 _ mb (Maps.size D) D rfl Hm.out HiN.out _ _ (ik n) rfl rfl Hkey.out _ [] Hval.out ?_; intro w5 hown5 hgrow5; have Hown5 := hid hown5; have Hgrow5 := hid hgrow5; clear hown5 hgrow5)
    | go_in)
   go_ret
   refine ⟨rfl, ?_⟩
   have R := write_mem H.out Hp.out rfl Hnb.out Ho.out.1 Ho.out.2 Hm.out Hsay.out (by rw [← HP.out]; exact Hn.out) H3.out Hown5.out Hgrow5.out
   rw [← HP.out] at R
   exact R
  ·have b3 : ((s.length : Int) != 512) = true := by simp; omega
   rw [if_pos (by simpa using h3)]
   clear h1 h2 h3
   go_enter Tryz.func36, Tryz.ntmps36
   go_wp2_with (first
    | (go_at_call 37; refine (RD.out).mono ?_; rintro e w1 ⟨rfl, hw⟩; obtain rfl := hw.symm)
    | go_in)
   go_ret
   exact ⟨rfl, PgDid.same H.out⟩
end
end Go.Proofs.YtlkkclooihjpiaaGreat
/- A pager's Save and Back. -/
namespace Go.Proofs.YtlkkclooihjpiaaGreat
open Go.RowKit Go.Maps
set_option maxRecDepth 20000
section
variable {w w1 w2 w3 w' : World} {pb l b : Nat} {F K : Foot} {G : Nat → Prop} {p : Pg} {g : Lg} {d : Dsk} {nv sv : Value}
theorem ne_cells {k m : Nat} {cs : Array Value} {T : TypeId} {fr : Nat × Nat} {es : Array MapEntry} {c : Nat} (h : w.heap[k]? = some (.cells cs T fr)) (h2 : w.heap[m]? = some (.map es c)) : k ≠ m := fun e => by
 rw [e, h2] at h; cases h
theorem ne_type {k m : Nat} {cs cs2 : Array Value} {T T2 : TypeId} {fr fr2 : Nat × Nat} (h : w.heap[k]? = some (.cells cs T fr)) (h2 : w.heap[m]? = some (.cells cs2 T2 fr2)) (hT : T ≠ T2) : k ≠ m := fun e => by
 rw [e, h2] at h
 injection h with h
 injection h with _ h5 _
 exact hT h5.symm
end
end Go.Proofs.YtlkkclooihjpiaaGreat
/- A pager's Back. -/
namespace Go.Proofs.YtlkkclooihjpiaaGreat
open Go.RowKit Go.Maps
set_option maxRecDepth 20000
section
variable {w w1 w2 w3 w' : World} {pb l b : Nat} {F K : Foot} {G : Nat → Prop} {p : Pg} {g : Lg} {d : Dsk} {nv sv : Value}
end
end Go.Proofs.YtlkkclooihjpiaaGreat
