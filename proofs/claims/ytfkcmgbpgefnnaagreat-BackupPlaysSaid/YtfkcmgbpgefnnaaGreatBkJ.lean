import Derived.Test.YtfkcmgbpgefnnaaGreatBkH
import Derived.Laws.EntriesVeiled
set_option linter.unusedVariables false
set_option linter.unusedSimpArgs false
namespace Go.Proofs.YtfkcmgbpgefnnaaGreat
open Go.RowKit Go.Maps
set_option maxRecDepth 20000
def lastC (B : Bk) (d : Dsk) : Int × Dsk := bcutM 0 (8 * B.pages) d
def lastY (B : Bk) (d : Dsk) : Int × Dsk := syncM (lastC B d).2 0
def lastU (s : List UInt8) (B : Bk) (d : Dsk) : Int × Dsk := writeM (lastY B d).2 0 (8 * (B.next - 1)) s
def lastV (s : List UInt8) (B : Bk) (d : Dsk) : Int × Dsk := syncM (lastU s B d).2 0
theorem blast_eq (s : List UInt8) (B : Bk) (d : Dsk) : blastM s B d = if (lastC B d).1 ≠ 0 then ((lastC B d).1, B, (lastC B d).2) else if (lastY B d).1 ≠ 0 then ((lastY B d).1, B, (lastY B d).2) else if (lastU s B d).1 ≠ 0 then ((lastU s B d).1, B, (lastU s B d).2) else if (lastV s B d).1 ≠ 0 then ((lastV s B d).1, { B with opn := true }, (lastV s B d).2) else (0, { B with opn := true, next := 0 }, (lastV s B d).2) := by
 have h : bseqM [bcutM 0 (8 * B.pages), fun d => syncM d 0] d = if (lastC B d).1 ≠ 0 then lastC B d else if (lastY B d).1 ≠ 0 then lastY B d else (0, (lastY B d).2) := rfl
 unfold blastM
 rw [h]
 by_cases h1 : (lastC B d).1 ≠ 0
 ·simp only [if_pos h1]
 simp only [if_neg h1]
 by_cases h2 : (lastY B d).1 ≠ 0
 ·simp only [if_pos h2]
 simp only [if_neg h2, ne_eq, not_true_eq_false, if_false]
 rfl
theorem blast_pages (s : List UInt8) (B : Bk) (d : Dsk) : (blastM s B d).2.1.pages = B.pages := by
 rw [blast_eq]
 split
 ·rfl
 split
 ·rfl
 split
 ·rfl
 split <;> rfl
def LastAt (s : List UInt8) (B : Bk) (d : Dsk) : Nat → Dsk → Bk → Prop
 | 0, di, Bi => di = d ∧ Bi = B
 | 1, di, Bi => (lastC B d).1 = 0 ∧ di = (lastC B d).2 ∧ Bi = B
 | 2, di, Bi => (lastC B d).1 = 0 ∧ (lastY B d).1 = 0 ∧ di = (lastY B d).2 ∧ Bi = B
 | 3, di, Bi => (lastC B d).1 = 0 ∧ (lastY B d).1 = 0 ∧ (lastU s B d).1 = 0 ∧ di = (lastU s B d).2 ∧ Bi = { B with opn := true }
 | _, di, Bi => (lastC B d).1 = 0 ∧ (lastY B d).1 = 0 ∧ (lastU s B d).1 = 0 ∧ (lastV s B d).1 = 0 ∧ di = (lastV s B d).2 ∧ Bi = { B with opn := true }
section
variable {w W W' : World} {a : PgD} {pb db bb xb sb : Nat} {F : Foot} {d d' : Dsk} {B : Bk} {X X' : Nat → Prop}
set_option maxHeartbeats 4000000 in
theorem blast_steps {w9 : World} {X6 : Nat → Prop} {wb q cap N : Nat} {Bs : List Nat} {s : List UInt8} {f1 f2 f4 : Value} (hp : PD w w9 a db d X6) (hbb : X6 bb) (hxb : X6 xb) (hsb : X6 sb) (hwb : X6 wb) (hq : X6 q) (hB : ∀ y ∈ Bs, X6 y)
  (hge : w.heap.size ≤ bb) (nx : xb ≠ bb) (ns : sb ≠ bb) (nw : wb ≠ bb) (nq : q ≠ bb) (nB : ∀ y ∈ Bs, y ≠ bb)
  (bx : boxB w9 xb bb) (bs' : boxS w9 sb s) (bw : w9.heap[wb]? = some (.cells #[.func (.func 85) #[] #[.pointer (some ⟨xb, 0, none⟩), .pointer (some ⟨sb, 0, none⟩)]] 56 (0, 0)))
  (bk : w9.heap[bb]? = some (bkObj a.pb db B)) (bq : w9.heap[q]? = some (.cells #[f1, f2, .func (.func 86) #[] #[.pointer (some ⟨wb, 0, none⟩), .pointer (some ⟨xb, 0, none⟩)], f4] 56 (0, 0)))
  (d1 : DDoes 0 w9 db f1 (bcutM 0 (8 * B.pages)) Bs) (d2 : DDoes 0 w9 db f2 (fun d => syncM d 0) Bs) (d4 : DDoes 0 w9 db f4 (fun d => syncM d 0) Bs)
  (hn : 0 ≤ B.next ∧ B.next ≤ 1000) (hsl : s.length ≤ 1000) (hsm : d.Small N) (hN : N + 262144 ≤ 1099511527776) :
  Calls Tryz.prog 40 #[.slice (some ⟨q, 0, none⟩) 4 cap] w9 fun e w' => ∃ (r : Int) (d' : Dsk) (B' : Bk), e = .returned (.int .i64 r) ∧ PD w w' a db d' X6 ∧ w'.heap[bb]? = some (bkObj a.pb db B') ∧ (∀ k, X6 k → k ≠ bb → w'.heap[k]? = w9.heap[k]?) ∧ ((r = 0 ∧ LastAt s B d 4 d' B') ∨ (r ≠ 0 ∧ blastM s B d = (r, B', d'))) := by
 refine (bsteps_gen [f1, f2, .func (.func 86) #[] #[.pointer (some ⟨wb, 0, none⟩), .pointer (some ⟨xb, 0, none⟩)], f4] (by simp) q cap
  (fun i Wi => ∃ di Bi, LastAt s B d i di Bi ∧ di.Small (N + 32768 * i) ∧ PD w Wi a db di X6 ∧ Wi.heap[bb]? = some (bkObj a.pb db Bi) ∧ ∀ k, X6 k → k ≠ bb → Wi.heap[k]? = w9.heap[k]?)
  (fun r Wi => ∃ di Bi, PD w Wi a db di X6 ∧ Wi.heap[bb]? = some (bkObj a.pb db Bi) ∧ (∀ k, X6 k → k ≠ bb → Wi.heap[k]? = w9.heap[k]?) ∧ blastM s B d = (r, Bi, di)) ?_ ?_ ⟨d, B, ⟨rfl, rfl⟩, hsm, hp, bk, fun _ _ _ => rfl⟩).mono ?_
 ·rintro i Wi ⟨di, Bi, -, -, -, -, hk⟩ j v hv
  rw [za ((hk q hq nq).trans bq)]
  simpa using hv
 ·intro i v hv
  have hi : i = 0 ∨ i = 1 ∨ i = 2 ∨ i = 3 := by
   have := (List.getElem?_eq_some_iff.1 hv).1
   simp at this
   omega
  have step : ∀ (v : Value) (m : Dsk → Int × Dsk), DDoes 0 w9 db v m Bs → ∃ k a1 c, v = .func (.func k) a1 c ∧ (∀ args w, (callFunc k args).run Tryz.prog w = .ok (.enter k args) w) ∧ ∀ Wi di M, di.Small M → M + 131072 ≤ 1099511527776 → PD w Wi a db di X6 → (∀ k, X6 k → k ≠ bb → Wi.heap[k]? = w9.heap[k]?) →
    (m di).2.Small (M + 32768) ∧ Calls Tryz.prog k (a1 ++ c) Wi fun e W' => e = .returned (.int .i64 (m di).1) ∧ PD w W' a db (m di).2 X6 ∧ ∀ k, X6 k → W'.heap[k]? = Wi.heap[k]? := by
   rintro v m ⟨k, a1, c, e1, e2, e3, e4⟩
   refine ⟨k, a1, c, e1, e2, fun Wi di M hs hM hpi hk => ?_⟩
   obtain ⟨F, hF, hFX, hcl⟩ := hpi.right
   obtain ⟨s1, s2⟩ := e4 Wi F di M (fun x hx => hk x (hB x hx) (nB x hx)) (fun x hx e => (hFX x (.inl e)).1 (hB x hx)) hF hs (by omega)
   exact ⟨s1, s2.mono fun e W' he => ⟨he.1, (hcl _ _ he.2).1, (hcl _ _ he.2).2⟩⟩
  rcases hi with rfl | rfl | rfl | rfl
  ·simp only [List.getElem?_cons_zero, Option.some.injEq] at hv
   subst hv
   obtain ⟨k, a1, c, e1, e2, e3⟩ := step _ _ d1
   refine ⟨k, a1, c, e1, e2, ?_⟩
   rintro Wi ⟨di, Bi, ⟨q1, q2⟩, hs, hpi, hbi, hki⟩
   subst di
   rw [q2] at hbi
   obtain ⟨s1, s2⟩ := e3 Wi _ _ hs (by omega) hpi hki
   refine s2.mono ?_
   rintro e W' ⟨rfl, hp2, hk2⟩
   refine ⟨_, rfl, fun hr => ⟨_, _, ⟨hr, rfl, rfl⟩, s1, hp2, (hk2 bb hbb).trans hbi, fun k hk hn => (hk2 k hk).trans (hki k hk hn)⟩, fun hr => ⟨_, _, hp2, (hk2 bb hbb).trans hbi, fun k hk hn => (hk2 k hk).trans (hki k hk hn), ?_⟩⟩
   rw [blast_eq, if_pos (show (lastC B d).1 ≠ 0 from hr)]
   rfl
  ·simp only [List.getElem?_cons_zero, List.getElem?_cons_succ, Option.some.injEq] at hv
   subst hv
   obtain ⟨k, a1, c, e1, e2, e3⟩ := step _ _ d2
   refine ⟨k, a1, c, e1, e2, ?_⟩
   rintro Wi ⟨di, Bi, ⟨h1, q1, q2⟩, hs, hpi, hbi, hki⟩
   subst di
   rw [q2] at hbi
   obtain ⟨s1, s2⟩ := e3 Wi _ _ hs (by omega) hpi hki
   refine s2.mono ?_
   rintro e W' ⟨rfl, hp2, hk2⟩
   refine ⟨_, rfl, fun hr => ⟨_, _, ⟨h1, hr, rfl, rfl⟩, s1.mono (by omega), hp2, (hk2 bb hbb).trans hbi, fun k hk hn => (hk2 k hk).trans (hki k hk hn)⟩, fun hr => ⟨_, _, hp2, (hk2 bb hbb).trans hbi, fun k hk hn => (hk2 k hk).trans (hki k hk hn), ?_⟩⟩
   rw [blast_eq, if_neg (by simpa using h1), if_pos (show (lastY B d).1 ≠ 0 from hr)]
   rfl
  ·simp only [List.getElem?_cons_zero, List.getElem?_cons_succ, Option.some.injEq] at hv
   subst hv
   refine ⟨86, _, _, rfl, fun args w => run_enter Tryz.func86 (by kernel_rfl) rfl args w, ?_⟩
   rintro Wi ⟨di, Bi, ⟨h1, h2, q1, q2⟩, hs, hpi, hbi, hki⟩
   subst di
   rw [q2] at hbi
   obtain ⟨F, hF, hFX, hcl⟩ := hpi.right
   refine (bopenc_any ((hki wb hwb nw).trans bw) ((hki xb hxb nx).trans bx) ((hki sb hsb ns).trans bs') hbi hn hF (hs.mono (by omega)) hsl (fun e => (hFX xb (.inl e)).1 hxb) (fun e => (hFX sb (.inl e)).1 hsb) (fun e => (hFX bb (.inl e)).1 hbb)).mono ?_
   rintro e W' ⟨rfl, Wm, hdm, hfm, hbm⟩
   obtain ⟨hp2, hk2⟩ := hcl _ _ hdm
   have hp3 := hp2.law hfm (fun k hk => by rw [hk]; exact ⟨hbb, hge⟩)
   have hk3 : ∀ k, X6 k → k ≠ bb → W'.heap[k]? = w9.heap[k]? := fun k hk hn => (hfm.block k (hp2.xlt k hk) hn).trans ((hk2 k hk).trans (hki k hk hn))
   refine ⟨_, rfl, fun hr => ⟨_, _, ⟨h1, h2, hr, rfl, rfl⟩, (write_small hs).mono (by omega), hp3, ?_, hk3⟩, fun hr => ⟨_, B, hp3, ?_, hk3, ?_⟩⟩
   ·have ht : ((0 : Int) == 0) = true := rfl
    rw [hr, ht, Bool.or_true] at hbm
    exact hbm
   ·have hf : ((writeM (lastY B d).2 0 (8 * (B.next - 1)) s).1 == 0) = false := by simp [hr]
    rw [hf, Bool.or_false] at hbm
    exact hbm
   ·rw [blast_eq, if_neg (by simpa using h1), if_neg (by simpa using h2), if_pos (show (lastU s B d).1 ≠ 0 from hr)]
    rfl
  ·simp only [List.getElem?_cons_zero, List.getElem?_cons_succ, Option.some.injEq] at hv
   subst hv
   obtain ⟨k, a1, c, e1, e2, e3⟩ := step _ _ d4
   refine ⟨k, a1, c, e1, e2, ?_⟩
   rintro Wi ⟨di, Bi, ⟨h1, h2, h3, q1, q2⟩, hs, hpi, hbi, hki⟩
   subst di
   rw [q2] at hbi
   obtain ⟨s1, s2⟩ := e3 Wi _ _ hs (by omega) hpi hki
   refine s2.mono ?_
   rintro e W' ⟨rfl, hp2, hk2⟩
   refine ⟨_, rfl, fun hr => ⟨_, _, ⟨h1, h2, h3, hr, rfl, rfl⟩, s1.mono (by omega), hp2, (hk2 bb hbb).trans hbi, fun k hk hn => (hk2 k hk).trans (hki k hk hn)⟩, fun hr => ⟨_, _, hp2, (hk2 bb hbb).trans hbi, fun k hk hn => (hk2 k hk).trans (hki k hk hn), ?_⟩⟩
   rw [blast_eq, if_neg (by simpa using h1), if_neg (by simpa using h2), if_neg (by simpa using h3), if_pos (show (lastV s B d).1 ≠ 0 from hr)]
   rfl
 ·rintro e w' ⟨r, rfl, h1, h2⟩
  by_cases hr : r = 0
  ·obtain ⟨di, Bi, hl, -, hp2, hb2, hk2⟩ := h1 hr
   exact ⟨r, di, Bi, rfl, hp2, hb2, hk2, .inl ⟨hr, hl⟩⟩
  ·obtain ⟨di, Bi, hp2, hb2, hk2, hl⟩ := h2 hr
   exact ⟨r, di, Bi, rfl, hp2, hb2, hk2, .inr ⟨hr, hl⟩⟩
set_option maxHeartbeats 8000000 in
theorem bcopy_any {N : Nat} (h : PD w W a db d X) (hX : X bb) (hge : w.heap.size ≤ bb) (hbk : W.heap[bb]? = some (bkObj a.pb db B)) (hn : 1 ≤ B.next ∧ B.next ≤ 256) (hpgs : 0 ≤ B.pages ∧ B.pages ≤ 256) (hsm : d.Small N) (hN : N + 524288 ≤ 1099511527776) :
  Calls Tryz.prog 55 #[.pointer (some ⟨bb, 0, none⟩)] W fun e w' => e = .returned (.int .i64 (bcopyM a.p a.g a.d B d).1) ∧ PD w w' a db (bcopyM a.p a.g a.d B d).2.2 X ∧ w'.heap[bb]? = some (bkObj a.pb db (bcopyM a.p a.g a.d B d).2.1) ∧ ∀ j, X j → j ≠ bb → w'.heap[j]? = W.heap[j]? := by
 have hx1 := ze W (.cells #[.pointer (some ⟨bb, 0, none⟩)] 34)
 have hb1 := (Below.refl W.heap.size W).alloc (Nat.le_refl _) (.cells #[.pointer (some ⟨bb, 0, none⟩)] 34)
 obtain ⟨xb, hxe⟩ : ∃ xb, xb = W.heap.size := ⟨_, rfl⟩
 obtain ⟨W1, hW1⟩ : ∃ W1, W1 = W.alloc (.cells #[.pointer (some ⟨bb, 0, none⟩)] 34) := ⟨_, rfl⟩
 have hbx : bb < W.heap.size := h.xlt bb hX
 have hbk1 : W1.heap[bb]? = some (bkObj a.pb db B) := by rw [hW1]; exact (hb1.block bb hbx).trans hbk
 rw [← hW1, ← hxe] at hx1
 rw [← hW1] at hb1
 have hs1 : W1.heap.size = xb + 1 := by rw [hW1, hxe]; simp
 have hp1 := h.add (X' := fun k => X k ∨ k = xb) hb1 (fun k hk => hk.imp id (fun e => by omega)) (fun k hk => hk.elim (fun e => Nat.lt_of_lt_of_le (h.xlt k e) hb1.size) (fun e => by rw [e]; exact zc hx1))
 have hkX : ∀ k, X k → W1.heap[k]? = W.heap[k]? := fun k hk => hb1.block k (h.xlt k hk)
 have PR := fun (W2 : World) (hb : Below W1.heap.size W1 W2) => px_read (hp1.below hb).pg B.next (by omega)
 have hlen := pread_len hp1.pg B.next
 obtain ⟨Q, hQ⟩ : ∃ Q, Q = preadM a.p a.g a.d B.next := ⟨_, rfl⟩
 obtain ⟨R, hR⟩ : ∃ R, R = bcopyM a.p a.g a.d B d := ⟨_, rfl⟩
 rw [← hR]
 unfold bcopyM at hR
 simp only [← hQ] at PR hR hlen
 obtain ⟨s, E⟩ := Q
 dsimp only at PR hR hlen
 have hcell : ∀ W2 : World, W2.heap[xb]? = W1.heap[xb]? → W2.heap[bb]? = W1.heap[bb]? → W2.cell? ⟨xb, 0, none⟩ = some (.pointer (some ⟨bb, 0, none⟩)) ∧ W2.cell? ⟨bb, 0, none⟩ = some (.pointer (some ⟨a.pb, 0, none⟩)) ∧ W2.cell? ⟨bb, 4, none⟩ = some (.int .i64 B.next) := fun W2 h1 h2 =>
  ⟨(za (h1.trans hx1) 0).trans rfl, (bk_cells (h2.trans hbk1)).c0, (bk_cells (h2.trans hbk1)).c4⟩
 obtain ⟨c0, c1, c4⟩ := hcell W1.drew rfl rfl
 have HCE := hid hcell
 have HP1 := hid hp1
 have HX1 := hid hx1
 have HBK1 := hid hbk1
 have HKX := hid hkX
 have HR := hid hR
 have HS := hid hsm
 have HPR := hid PR
 have Hs1 := hid hs1
 have Hbx := hid (show bb < W1.heap.size by omega)
 have HX := hid hX
 have HXW := hid h.xlt
 have Hxe := hid hxe
 have Hge := hid hge
 clear h hbk hx1 hb1 hp1 hbk1 hkX hR hsm PR hcell hs1 hX hbx hQ hge
 go_enter Tryz.func55, Tryz.ntmps55
 go_upto_region 1 with fail
 rw [← hW1, ← hxe]
 clear hW1 hxe
 refine wp_region_held_drew (S := fun W2 => W2.cell? ⟨xb, 0, none⟩ = some (.pointer (some ⟨bb, 0, none⟩)) ∧ W2.cell? ⟨bb, 0, none⟩ = some (.pointer (some ⟨a.pb, 0, none⟩)) ∧ W2.cell? ⟨bb, 4, none⟩ = some (.int .i64 B.next)) (by kernel_rfl) ⟨c0, c1, c4⟩ (fun hHeld => ?_)
 clear c0 c1 c4
 refine ht 0 hHeld ?_
 refine ht 1 hHeld ?_
 refine ht 2 hHeld ?_
 refine ht 3 hHeld ?_
 refine ht 4 hHeld ?_
 refine ht 5 hHeld ?_
 refine ht 6 hHeld ?_
 refine ht 7 hHeld ?_
 refine held_both 8 12 (by kernel_rfl) rfl rfl (fun K hK => ?_) (fun K hK => ?_)
 case' refine_1 =>
  go_simp
  refine (HPR.out _ ((Below.refl _ W1).drew)).mono ?_
  rintro e w2 ⟨rfl, hb2⟩
  have hb2' : Below W1.heap.size W1 w2 := below_undrew hb2
  have hs2 := HCE.out w2 (hb2.block xb (zc HX1.out)) (hb2.block bb Hbx.out)
  have HB2 := hid hb2'
  clear hb2 hb2'
  try dsimp only
  refine hK.out _ _ (hs2) (fun hHeld => ?_)
  clear hK K
  try simp only [Act.put, zl0, zl1, zl2]
  refine ht 9 hHeld ?_
  refine ht 10 hHeld ?_
  refine ht 11 hHeld ?_
  refine held_one 12 (by kernel_rfl) rfl (fun K hK => ?_)
  go_simp
  have hz := ze w2 (.cells #[.string ⟨#[]⟩] 9)
  have hb3 := HB2.out.alloc HB2.out.size (.cells #[.string ⟨#[]⟩] 9)
  obtain ⟨sb, hsbe⟩ : ∃ sb, sb = w2.heap.size := ⟨_, rfl⟩
  obtain ⟨w3, hw3⟩ : ∃ w3, w3 = w2.alloc (.cells #[.string ⟨#[]⟩] 9) := ⟨_, rfl⟩
  rw [← hw3, ← hsbe] at hz
  rw [← hw3] at hb3
  rw [← hw3, ← hsbe]
  have hs3 := HCE.out w3 (hb3.block xb (zc HX1.out)) (hb3.block bb Hbx.out)
  have z0 : w3.cell? ⟨sb, 0, none⟩ = some (.string ⟨#[]⟩) := (za hz 0).trans rfl
  have z1 := zg hz 0
  have HZ := hid hz
  have HB3 := hid hb3
  have Hsb := hid (show W1.heap.size ≤ sb by rw [hsbe]; exact HB2.out.size)
  clear hw3 hsbe hz hb3 hs2 HB2
  try dsimp only
  refine hK.out _ _ (hs3) (fun hHeld => ?_)
  clear hK K
  try simp only [Act.put, zl0, zl1, zl2]
  clear hs3
  refine held_one 13 (by kernel_rfl) rfl (fun K hK => ?_)
  go_simp
  obtain ⟨w4, hw4⟩ : ∃ w4, w4 = w3.setCell ⟨sb, 0, none⟩ (.string (bs s)) := ⟨_, rfl⟩
  rw [← hw4]
  have hsb4 : boxS w4 sb s := by rw [hw4]; exact (zd HZ.out 0 (.string (bs s))).trans rfl
  have hb4 : Below W1.heap.size W1 w4 := by rw [hw4]; exact HB3.out.setCell (by show W1.heap.size ≤ sb; have := Hsb.out; omega) _
  have hs4 := HCE.out w4 (hb4.block xb (zc HX1.out)) (hb4.block bb Hbx.out)
  have HSB := hid hsb4
  have HB4 := hid hb4
  clear hw4 hsb4 hb4
  try dsimp only
  refine hK.out _ _ (hs4) (fun hHeld => ?_)
  clear hK K
  try simp only [Act.put, zl0, zl1, zl2]
  clear hs4
  refine ht 14 hHeld ?_
  clear hHeld HB3 HZ
  refine wpAnyH_done (by kernel_rfl) ?_ _
 case' refine_2 =>
  go_simp
  have hz := ze W1.drew (.cells #[.string ⟨#[]⟩] 9)
  have hb2 := ((Below.refl W1.heap.size W1).drew).alloc (Nat.le_refl _) (.cells #[.string ⟨#[]⟩] 9)
  obtain ⟨sb, hsbe⟩ : ∃ sb, sb = W1.heap.size := ⟨_, rfl⟩
  obtain ⟨w2, hw2⟩ : ∃ w2, w2 = (W1.alloc (.cells #[.string ⟨#[]⟩] 9)).drew := ⟨_, rfl⟩
  have hw2' : W1.drew.alloc (.cells #[.string ⟨#[]⟩] 9) = w2 := hw2.symm
  rw [hw2', show W1.drew.heap.size = W1.heap.size from rfl, ← hsbe] at hz
  rw [hw2'] at hb2
  rw [← hw2, ← hsbe]
  have hs2 := HCE.out w2 (hb2.block xb (zc HX1.out)) (hb2.block bb Hbx.out)
  have Hsb := hid (show W1.heap.size ≤ sb by omega)
  have HB2 := hid hb2
  have HZ2 := hid hz
  clear hw2 hw2' hsbe hz hb2
  try dsimp only
  refine hK.out _ _ (hs2) (fun hHeld => ?_)
  clear hK K
  try simp only [Act.put, zl0, zl1, zl2]
  refine held_one 8 (by kernel_rfl) rfl (fun K hK => ?_)
  go_simp
  refine (HPR.out _ HB2.out).mono ?_
  rintro e w3 ⟨rfl, hb⟩
  have hb3 := HB2.out.trans (hb.mono HB2.out.size)
  have hz := (hb.block sb (zc HZ2.out)).trans HZ2.out
  have hs3 := HCE.out w3 (hb3.block xb (zc HX1.out)) (hb3.block bb Hbx.out)
  have z0 : w3.cell? ⟨sb, 0, none⟩ = some (.string ⟨#[]⟩) := (za hz 0).trans rfl
  have z1 := zg hz 0
  have HZ := hid hz
  have HB3 := hid hb3
  clear hb hb3 hz hs2 HB2 HZ2
  try dsimp only
  refine hK.out _ _ (hs3) (fun hHeld => ?_)
  clear hK K
  try simp only [Act.put, zl0, zl1, zl2]
  clear hs3
  refine ht 9 hHeld ?_
  refine ht 10 hHeld ?_
  refine ht 11 hHeld ?_
  refine held_one 13 (by kernel_rfl) rfl (fun K hK => ?_)
  go_simp
  obtain ⟨w4, hw4⟩ : ∃ w4, w4 = w3.setCell ⟨sb, 0, none⟩ (.string (bs s)) := ⟨_, rfl⟩
  rw [← hw4]
  have hsb4 : boxS w4 sb s := by rw [hw4]; exact (zd HZ.out 0 (.string (bs s))).trans rfl
  have hb4 : Below W1.heap.size W1 w4 := by rw [hw4]; exact HB3.out.setCell (by show W1.heap.size ≤ sb; have := Hsb.out; omega) _
  have hs4 := HCE.out w4 (hb4.block xb (zc HX1.out)) (hb4.block bb Hbx.out)
  have HSB := hid hsb4
  have HB4 := hid hb4
  clear hw4 hsb4 hb4
  try dsimp only
  refine hK.out _ _ (hs4) (fun hHeld => ?_)
  clear hK K
  try simp only [Act.put, zl0, zl1, zl2]
  clear hs4
  refine ht 14 hHeld ?_
  clear hHeld HB3 HZ
  refine wpAnyH_done (by kernel_rfl) ?_ _
 all_goals
  clear z0 z1 HPR
  have hp4 : PD w w4 a db d (fun k => (X k ∨ k = xb) ∨ k = sb) := HP1.out.add HB4.out (fun k hk => hk.elim .inl (fun e => .inr (by have := Hsb.out; omega))) (fun k hk => hk.elim (fun e => Nat.lt_of_lt_of_le (HP1.out.xlt k e) HB4.out.size) (fun e => by rw [e]; exact zc HSB.out))
  have hbk4 := (HB4.out.block bb Hbx.out).trans HBK1.out
  have hx4 : boxB w4 xb bb := (HB4.out.block xb (zc HX1.out)).trans HX1.out
  have hk4 : ∀ k, X k → w4.heap[k]? = W.heap[k]? := fun k hk => (HB4.out.block k (HP1.out.xlt k (.inl hk))).trans (HKX.out k hk)
  by_cases hE : E = 0
  rotate_left
  ·have b1 : (E != 0) = true := by simp [hE]
   have hR := HR.out
   rw [if_pos hE] at hR
   replace HR := hid hR
   have HP4 := hid hp4
   have HBK4 := hid hbk4
   have HK4 := hid hk4
   clear hR hE hp4 hbk4 hx4 hk4
   go_wp2_with fail
   go_ret
   rw [HR.out]
   exact ⟨rfl, HP4.out.to (fun k hk => .inl (.inl hk)), HBK4.out, fun j hj _ => HK4.out j hj⟩
  have b1 : (E != 0) = false := by simp [hE]
  have hR := HR.out
  rw [if_neg (by simpa using hE)] at hR
  replace HR := hid hR
  have HP4 := hid hp4
  have HBK4 := hid hbk4
  have HX4 := hid hx4
  have HK4 := hid hk4
  clear hR hE hp4 hbk4 hx4 hk4 HP1 HX1 HBK1 HKX HCE HB4
  go_upto_region 5 with fail
  have hwb := ze w4 (.cells #[.func (.func 85) #[] #[.pointer (some ⟨xb, 0, none⟩), .pointer (some ⟨sb, 0, none⟩)]] 56)
  have hb5 := (Below.refl w4.heap.size w4).alloc (Nat.le_refl _) (.cells #[.func (.func 85) #[] #[.pointer (some ⟨xb, 0, none⟩), .pointer (some ⟨sb, 0, none⟩)]] 56)
  obtain ⟨wb, hwbe⟩ : ∃ wb, wb = w4.heap.size := ⟨_, rfl⟩
  obtain ⟨w5, hw5⟩ : ∃ w5, w5 = w4.alloc (.cells #[.func (.func 85) #[] #[.pointer (some ⟨xb, 0, none⟩), .pointer (some ⟨sb, 0, none⟩)]] 56) := ⟨_, rfl⟩
  rw [← hw5, ← hwbe] at hwb
  rw [← hw5] at hb5
  rw [← hw5, ← hwbe]
  have hp5 : PD w w5 a db d (fun k => ((X k ∨ k = xb) ∨ k = sb) ∨ k = wb) := HP4.out.add hb5 (fun k hk => hk.elim .inl (fun e => .inr (by omega))) (fun k hk => hk.elim (fun e => Nat.lt_of_lt_of_le (HP4.out.xlt k e) hb5.size) (fun e => by rw [e]; exact zc hwb))
  have hbk5 := (hb5.block bb (zc HBK4.out)).trans HBK4.out
  have hx5 : boxB w5 xb bb := (hb5.block xb (zc HX4.out)).trans HX4.out
  have hs5 : boxS w5 sb s := (hb5.block sb (zc HSB.out)).trans HSB.out
  have hk5 : ∀ k, X k → w5.heap[k]? = W.heap[k]? := fun k hk => (hb5.block k (HP4.out.xlt k (.inl (.inl hk)))).trans (HK4.out k hk)
  obtain ⟨F, hF, hFX, hcl⟩ := hp5.right
  have x0 : w5.cell? ⟨xb, 0, none⟩ = some (.pointer (some ⟨bb, 0, none⟩)) := (za hx5 0).trans rfl
  have x4 := (bk_cells hbk5).c4
  have y0 : w5.cell? ⟨wb, 0, none⟩ = some (.func (.func 85) #[] #[.pointer (some ⟨xb, 0, none⟩), .pointer (some ⟨sb, 0, none⟩)]) := (za hwb 0).trans rfl
  have HWB := hid hwb
  have HP5 := hid hp5
  have HBK5 := hid hbk5
  have HX5 := hid hx5
  have HS5 := hid hs5
  have HK5 := hid hk5
  have HF := hid hF
  have HFX := hid hFX
  have HCL := hid hcl
  clear hwb hb5 hwbe hw5 hp5 hbk5 hx5 hs5 hk5 hF hFX hcl HP4 HBK4 HX4 HK4 HSB
  by_cases hnx : 1 < B.next
  ·have b2 : decide (1 < B.next) = true := by simpa using hnx
   have hR := HR.out
   rw [if_pos hnx] at hR
   have WC := bwritec_any HX5.out HS5.out HBK5.out (by omega) HF.out (HS.out.mono (by omega)) (by omega) (fun e => (HFX.out xb (.inl e)).1 (.inl (.inl (.inr rfl)))) (fun e => (HFX.out sb (.inl e)).1 (.inl (.inr rfl))) (fun e => (HFX.out bb (.inl e)).1 (.inl (.inl (.inl HX.out))))
   obtain ⟨Z, hZ⟩ : ∃ Z, Z = writeM d 0 (8 * (B.next - 1)) s := ⟨_, rfl⟩
   rw [← hZ] at WC hR
   replace HR := hid hR
   have WC := hid WC
   have hen := fun args w => run_enter Tryz.func85 (by kernel_rfl) rfl args w
   clear hR hnx hZ
   go_upto_region 7 with (first
    | (refine (WC.out).mono ?_; rintro e w6 ⟨rfl, hd⟩; have HP6 := hid (HCL.out _ _ hd).1; have HK6 := hid (HCL.out _ _ hd).2; clear hd)
    | go_in)
   have HKX := hid (fun k (hk : X k) => (HK6.out k (.inl (.inl (.inl hk)))).trans (HK5.out k hk))
   have HBK6 := hid ((HK6.out bb (.inl (.inl (.inl HX.out)))).trans HBK5.out)
   by_cases hz : Z.1 = 0
   rotate_left
   ·have b3 : (Z.1 != 0) = true := by simp [hz]
    have hR := HR.out
    rw [if_pos hz] at hR
    replace HR := hid hR
    clear hR hz x0 x4 y0
    go_wp2_with fail
    go_ret
    rw [HR.out]
    exact ⟨rfl, HP6.out.to (fun k hk => .inl (.inl (.inl hk))), HBK6.out, fun j hj _ => HKX.out j hj⟩
   have b3 : (Z.1 != 0) = false := by simp [hz]
   have hR := HR.out
   rw [if_neg (by simpa using hz)] at hR
   replace HR := hid hR
   clear x0 x4 y0
   have x0 : w6.cell? ⟨xb, 0, none⟩ = some (.pointer (some ⟨bb, 0, none⟩)) := (za ((HK6.out xb (.inl (.inl (.inr rfl)))).trans HX5.out) 0).trans rfl
   have x4 := (bk_cells HBK6.out).c4
   have f4 := bk_free HBK6.out 4
   obtain ⟨n, hne⟩ : ∃ n, n = B.next := ⟨_, rfl⟩
   rw [← hne] at x4 hn hR
   have hwr : IntKind.i64.wrap (n + 1) = n + 1 := IntWalk.i64_in _ (by omega)
   have Hne := hid hne
   replace HR := hid hR
   clear hR hz b2 hne
   go_upto_region 10 with fail
   have hbk7 : (w6.setCell ⟨bb, 4, none⟩ (.int .i64 (n + 1))).heap[bb]? = some (bkObj a.pb db { B with next := n + 1 }) := by
    have hk := HBK6.out
    unfold bkObj at hk
    exact (zd hk 4 (.int .i64 (n + 1))).trans rfl
   have hf7 : Frm (fun j => j = bb) w6 (w6.setCell ⟨bb, 4, none⟩ (.int .i64 (n + 1))) := (Frm.refl (fun j => j = bb) w6).setCell (p := ⟨bb, 4, none⟩) (.inl rfl) _
   obtain ⟨w7, hw7⟩ : ∃ w7, w7 = w6.setCell ⟨bb, 4, none⟩ (.int .i64 (n + 1)) := ⟨_, rfl⟩
   rw [← hw7] at hbk7 hf7
   rw [← hw7]
   have hxne : xb ≠ bb := by
    have h1 := Hxe.out
    have h2 := HXW.out bb HX.out
    omega
   have hx7 := (hf7.block xb (HP6.out.xlt xb (.inl (.inl (.inr rfl)))) hxne).trans ((HK6.out xb (.inl (.inl (.inr rfl)))).trans HX5.out)
   clear x0 x4 f4
   have x0 : w7.cell? ⟨xb, 0, none⟩ = some (.pointer (some ⟨bb, 0, none⟩)) := (za hx7 0).trans rfl
   have x3 := (bk_cells hbk7).c3
   have x4 := (bk_cells hbk7).c4
   have f4 := bk_free hbk7 4
   dsimp only at x3 x4
   have hp7 := HP6.out.law hf7 (fun k hk => by rw [hk]; exact ⟨.inl (.inl (.inl HX.out)), Hge.out⟩)
   have hk7 : ∀ k, X k → k ≠ bb → w7.heap[k]? = W.heap[k]? := fun k hk hn => (hf7.block k (HP6.out.xlt k (.inl (.inl (.inl hk)))) hn).trans (HKX.out k hk)
   have HP7 := hid hp7
   have HK7 := hid hk7
   have HBK7 := hid hbk7
   clear hw7 hbk7 hf7 hxne hx7 hp7 hk7 hwr
   by_cases hle : B.pages < n + 1
   ·have d1 : decide (B.pages < n + 1) = true := by simpa using hle
    have hR := HR.out
    rw [if_pos hle] at hR
    replace HR := hid hR
    clear hR
    go_wp2_with fail
    go_quiet (fail)
    go_wp2_with fail
    go_ret
    rw [HR.out]
    have hk8 := HBK7.out
    unfold bkObj at hk8
    have hf8 := fun (m : Nat) => (Frm.refl (fun j => j = bb) (w7.drewN m)).setCell (p := ⟨bb, 4, none⟩) (.inl rfl) (.int .i64 1)
    have hp8 := fun (m : Nat) => (HP7.out.below (below_drewN (Below.refl _ w7) m)).law (hf8 m) (fun k hk => by rw [hk]; exact ⟨.inl (.inl (.inl HX.out)), Hge.out⟩)
    exact ⟨rfl, (hp8 _).to (fun k hk => .inl (.inl (.inl hk))), (zd (w := w7.drewN _) hk8 4 (.int .i64 1)).trans rfl, fun j hj hne => ((hf8 _).block j (HP7.out.xlt j (.inl (.inl (.inl hj)))) hne).trans (HK7.out j hj hne)⟩
   ·have d1 : decide (B.pages < n + 1) = false := by simpa using hle
    have hR := HR.out
    rw [if_neg hle] at hR
    replace HR := hid hR
    clear hR
    go_wp2_with fail
    go_quiet (fail)
    go_wp2_with fail
    go_ret
    rw [HR.out]
    exact ⟨rfl, (HP7.out.below (below_drewN (Below.refl _ w7) _)).to (fun k hk => .inl (.inl (.inl hk))), HBK7.out, fun j hj hne => HK7.out j hj hne⟩
  ·have hR := HR.out
   rw [if_neg hnx] at hR
   replace HR := hid hR
   have b2 : decide (1 < B.next) = false := by simpa using hnx
   clear hR hnx
   go_upto_region 13 with fail
   have x1 := (bk_cells HBK5.out).c1
   have x3 := (bk_cells HBK5.out).c3
   have hcell : ∀ W2 : World, W2.heap[xb]? = w5.heap[xb]? → W2.heap[bb]? = w5.heap[bb]? → W2.cell? ⟨xb, 0, none⟩ = some (.pointer (some ⟨bb, 0, none⟩)) ∧ W2.cell? ⟨bb, 1, none⟩ = some (.pointer (some ⟨db, 0, none⟩)) ∧ W2.cell? ⟨bb, 3, none⟩ = some (.int .i64 B.pages) := fun W2 h1 h2 =>
    ⟨(za (h1.trans HX5.out) 0).trans rfl, (bk_cells (h2.trans HBK5.out)).c1, (bk_cells (h2.trans HBK5.out)).c3⟩
   have HCE := hid hcell
   have hwr : IntKind.i64.wrap (8 * B.pages) = 8 * B.pages := IntWalk.i64_in _ (by omega)
   have hwr2 : wrap64 (8 * B.pages) = 8 * B.pages := by unfold wrap64; omega
   obtain ⟨c0, c1, c3⟩ := hcell w5.drew rfl rfl
   clear hcell x0 x1 x3 x4 y0
   refine wp_region_held_drew (S := fun W2 => W2.cell? ⟨xb, 0, none⟩ = some (.pointer (some ⟨bb, 0, none⟩)) ∧ W2.cell? ⟨bb, 1, none⟩ = some (.pointer (some ⟨db, 0, none⟩)) ∧ W2.cell? ⟨bb, 3, none⟩ = some (.int .i64 B.pages)) (by kernel_rfl) ⟨c0, c1, c3⟩ (fun hHeld => ?_)
   clear c0 c1 c3
   refine ht 0 hHeld ?_
   refine ht 1 hHeld ?_
   refine ht 2 hHeld ?_
   refine ht 3 hHeld ?_
   refine ht 4 hHeld ?_
   refine ht 5 hHeld ?_
   refine ht 6 hHeld ?_
   refine ht 7 hHeld ?_
   refine ht 8 hHeld ?_
   refine ht 10 hHeld ?_
   refine ht 11 hHeld ?_
   refine ht 12 hHeld ?_
   refine ht 13 hHeld ?_
   refine ht 15 hHeld ?_
   refine ht 16 hHeld ?_
   refine ht 17 hHeld ?_
   refine ht 18 hHeld ?_
   refine ht 19 hHeld ?_
   refine held_one 9 (by kernel_rfl) rfl (fun K hK => ?_)
   go_simp
   refine (cut_mk db 0 (8 * B.pages) _).mono ?_
   rintro e w6 ⟨v1, B1, rfl, hd1, hg1, hb1⟩
   obtain ⟨k1, a1, c1, rfl, -⟩ := id hd1
   have hq1 : Below w5.heap.size w5 w6 := below_undrew hb1
   have hs1 := HCE.out w6 (hq1.block xb (zc HX5.out)) (hq1.block bb (zc HBK5.out))
   have HD1 := hid hd1
   have HG1 := hid hg1
   have HBB1 := hid hb1
   have HQ1 := hid hq1
   try dsimp only
   refine hK.out _ _ (hs1) (fun hHeld => ?_)
   clear hK K
   try simp only [Act.put, zl0, zl1, zl2]
   clear hd1 hg1 hb1 hq1
   refine held_one 14 (by kernel_rfl) rfl (fun K hK => ?_)
   go_simp
   refine (sync_mk db 0 _).mono ?_
   rintro e w7 ⟨v2, B2, rfl, hd2, hg2, hb2⟩
   obtain ⟨k2, a2, c2, rfl, -⟩ := id hd2
   have hq2 : Below w5.heap.size w5 w7 := HQ1.out.trans (hb2.mono HQ1.out.size)
   have hs2 := HCE.out w7 (hq2.block xb (zc HX5.out)) (hq2.block bb (zc HBK5.out))
   have HD2 := hid hd2
   have HG2 := hid hg2
   have HBB2 := hid hb2
   have HQ2 := hid hq2
   try dsimp only
   refine hK.out _ _ (hs2) (fun hHeld => ?_)
   clear hK K
   try simp only [Act.put, zl0, zl1, zl2]
   clear hd2 hg2 hb2 hq2
   refine held_one 20 (by kernel_rfl) rfl (fun K hK => ?_)
   go_simp
   refine (sync_mk db 0 _).mono ?_
   rintro e w8 ⟨v3, B3, rfl, hd3, hg3, hb3⟩
   obtain ⟨k3, a3, c3, rfl, -⟩ := id hd3
   have hq3 : Below w5.heap.size w5 w8 := HQ2.out.trans (hb3.mono HQ2.out.size)
   have hs3 := HCE.out w8 (hq3.block xb (zc HX5.out)) (hq3.block bb (zc HBK5.out))
   have HD3 := hid hd3
   have HG3 := hid hg3
   have HBB3 := hid hb3
   have HQ3 := hid hq3
   try dsimp only
   refine hK.out _ _ (hs3) (fun hHeld => ?_)
   clear hK K
   try simp only [Act.put, zl0, zl1, zl2]
   clear hd3 hg3 hb3 hq3
   refine held_one 21 (by kernel_rfl) rfl (fun K hK => ?_)
   go_simp
   have hq := ze w8 (.cells #[.func (.func k1) a1 c1, .func (.func k2) a2 c2, .func (.func 86) #[] #[.pointer (some ⟨wb, 0, none⟩), .pointer (some ⟨xb, 0, none⟩)], .func (.func k3) a3 c3] 56)
   have hb9 := (Below.refl w8.heap.size w8).alloc (Nat.le_refl _) (.cells #[.func (.func k1) a1 c1, .func (.func k2) a2 c2, .func (.func 86) #[] #[.pointer (some ⟨wb, 0, none⟩), .pointer (some ⟨xb, 0, none⟩)], .func (.func k3) a3 c3] 56)
   obtain ⟨q, hqe⟩ : ∃ q, q = w8.heap.size := ⟨_, rfl⟩
   obtain ⟨w9, hw9⟩ : ∃ w9, w9 = w8.alloc (.cells #[.func (.func k1) a1 c1, .func (.func k2) a2 c2, .func (.func 86) #[] #[.pointer (some ⟨wb, 0, none⟩), .pointer (some ⟨xb, 0, none⟩)], .func (.func k3) a3 c3] 56) := ⟨_, rfl⟩
   rw [← hw9, ← hqe] at hq
   rw [← hw9] at hb9
   rw [← hw9, ← hqe]
   have hQ9 : Below w5.heap.size w5 w9 := HQ3.out.trans (hb9.mono HQ3.out.size)
   have hs9 := HCE.out w9 (hQ9.block xb (zc HX5.out)) (hQ9.block bb (zc HBK5.out))
   try dsimp only
   refine hK.out _ _ (hs9) (fun hHeld => ?_)
   clear hK K
   try simp only [Act.put, zl0, zl1, zl2]
   have hs8 := HQ3.out.size
   have hqlt : w8.heap.size = q := hqe.symm
   have hp9 : PD w w9 a db d (fun k => ((((X k ∨ k = xb) ∨ k = sb) ∨ k = wb) ∨ k = q) ∨ k ∈ B1 ++ (B2 ++ B3)) := by
    refine HP5.out.add hQ9 (fun k hk => ?_) (fun k hk => ?_)
    ·rcases hk with (hk | hk) | hk
     ·exact .inl hk
     ·exact .inr (by omega)
     ·refine .inr ?_
      have h1 : w5.drew.heap.size = w5.heap.size := rfl
      have h2 := HBB1.out.size
      have h3 := HBB2.out.size
      rcases List.mem_append.1 hk with e | hk
      ·have := HG1.out k e; omega
      rcases List.mem_append.1 hk with e | e
      ·have := HG2.out k e; omega
      ·have := HG3.out k e; omega
    ·rcases hk with (hk | hk) | hk
     ·exact Nat.lt_of_lt_of_le (HP5.out.xlt k hk) hQ9.size
     ·rw [hk]; exact zc hq
     ·rcases List.mem_append.1 hk with e | hk
      ·exact (((HD1.out.below HBB2.out).below HBB3.out).below hb9).lt k e
      rcases List.mem_append.1 hk with e | e
      ·exact ((HD2.out.below HBB3.out).below hb9).lt k e
      ·exact (HD3.out.below hb9).lt k e
   have hBlt : ∀ y ∈ B1 ++ (B2 ++ B3), y < w9.heap.size := fun y hy => hp9.xlt y (.inr hy)
   have hbb5 : bb < w5.heap.size := zc HBK5.out
   have hB5 : ∀ y ∈ B1 ++ (B2 ++ B3), w5.heap.size ≤ y := fun y hy => by
    have h1 : w5.drew.heap.size = w5.heap.size := rfl
    have h2 := HBB1.out.size
    have h3 := HBB2.out.size
    rcases List.mem_append.1 hy with e | hk
    ·have := HG1.out y e; omega
    rcases List.mem_append.1 hk with e | e
    ·have := HG2.out y e; omega
    ·have := HG3.out y e; omega
   have hbW := HXW.out bb HX.out
   have hxe := Hxe.out
   have hs1 := Hs1.out
   have hsbl := Hsb.out
   have ST := blast_steps (s := s) (cap := 4) hp9 (.inl (.inl (.inl (.inl (.inl HX.out))))) (.inl (.inl (.inl (.inl (.inr rfl))))) (.inl (.inl (.inl (.inr rfl)))) (.inl (.inl (.inr rfl))) (.inl (.inr rfl)) (fun y hy => .inr hy) Hge.out (by omega) (by omega)
    (fun e => by rw [e] at HWB; have h1 := HWB.out; rw [HBK5.out] at h1; unfold bkObj at h1; cases h1) (by omega) (fun y hy e => by have := hB5 y hy; omega)
    ((hQ9.block xb (zc HX5.out)).trans HX5.out) ((hQ9.block sb (zc HS5.out)).trans HS5.out) ((hQ9.block wb (zc HWB.out)).trans HWB.out) ((hQ9.block bb hbb5).trans HBK5.out) hq
    ((((HD1.out.below HBB2.out).below HBB3.out).below hb9).wider (fun y hy => List.mem_append.2 (.inl hy)) hBlt) (((HD2.out.below HBB3.out).below hb9).wider (fun y hy => List.mem_append.2 (.inr (List.mem_append.2 (.inl hy)))) hBlt) ((HD3.out.below hb9).wider (fun y hy => List.mem_append.2 (.inr (List.mem_append.2 (.inr hy)))) hBlt)
    (by omega) (by omega) HS.out (by omega)
   have hk9 : ∀ k, X k → w9.heap[k]? = W.heap[k]? := fun k hk => (hQ9.block k (HP5.out.xlt k (.inl (.inl (.inl hk))))).trans (HK5.out k hk)
   have hx9 := (hQ9.block xb (zc HX5.out)).trans HX5.out
   have hxne : xb ≠ bb := by omega
   have HX9 := hid hx9
   have HK9 := hid hk9
   have Hxne := hid hxne
   have ST := hid ST
   clear hp9 hBlt hbb5 hB5 hbW hxe hs1 hsbl hk9 hx9 hxne hq hb9 hw9 hqe hQ9 hs8 hqlt hs2 hs3
   refine held_one 22 (by kernel_rfl) rfl (fun K hK => ?_)
   go_simp
   refine (ST.out).mono ?_
   rintro e w10 ⟨r, d10, B10, rfl, hp10, hbk10, hk10, hl10⟩
   have hpg10 : B10.pages = B.pages := by
    rcases hl10 with ⟨-, hl⟩ | ⟨-, hl⟩
    ·rw [hl.2.2.2.2.2]
    ·have := blast_pages s B d
     rw [hl] at this
     exact this
   have hs10 : w10.cell? ⟨xb, 0, none⟩ = some (.pointer (some ⟨bb, 0, none⟩)) ∧ w10.cell? ⟨bb, 1, none⟩ = some (.pointer (some ⟨db, 0, none⟩)) ∧ w10.cell? ⟨bb, 3, none⟩ = some (.int .i64 B.pages) := by
    refine ⟨(za ((hk10 xb (.inl (.inl (.inl (.inl (.inr rfl))))) Hxne.out).trans HX9.out) 0).trans rfl, (bk_cells hbk10).c1, ?_⟩
    rw [← hpg10]
    exact (bk_cells hbk10).c3
   have HP10 := hid hp10
   have HBK10 := hid hbk10
   have HK10 := hid hk10
   have HL10 := hid hl10
   clear hp10 hbk10 hk10 hl10 hpg10 hs9
   try dsimp only
   refine hK.out _ _ (hs10) (fun hHeld => ?_)
   clear hK K
   try simp only [Act.put, zl0, zl1, zl2]
   refine ht 23 hHeld ?_
   clear hHeld
   refine wpAnyH_done (by kernel_rfl) ?_ _
   obtain ⟨x0, -, -⟩ := hs10
   by_cases hr : r = 0
   rotate_left
   ·have b3 : (r == 0) = false := by simp [hr]
    rcases HL10.out with ⟨e1, -⟩ | ⟨-, hl⟩
    ·exact absurd e1 hr
    rw [hl] at HR
    clear hr hl x0
    go_wp2_with fail
    go_ret
    rw [HR.out]
    exact ⟨rfl, HP10.out.to (fun k hk => .inl (.inl (.inl (.inl (.inl hk))))), HBK10.out, fun j hj hne => (HK10.out j (.inl (.inl (.inl (.inl (.inl hj))))) hne).trans (HK9.out j hj)⟩
   ·have b3 : (r == 0) = true := by simp [hr]
    rcases HL10.out with ⟨-, hl⟩ | ⟨e1, -⟩
    rotate_left
    ·exact absurd hr e1
    obtain ⟨l1, l2, l3, l4, l5, l6⟩ := hl
    have hbl : blastM s B d = (0, { B with opn := true, next := 0 }, d10) := by
     rw [blast_eq, if_neg (by simpa using l1), if_neg (by simpa using l2), if_neg (by simpa using l3), if_neg (by simpa using l4), l5]
    rw [hbl] at HR
    have hbk := HBK10.out
    rw [l6] at hbk
    have HBK := hid hbk
    have f4 := bk_free hbk 4
    have x4 := (bk_cells hbk).c4
    clear hbk l1 l2 l3 l4 l5 l6 hbl
    subst hr
    go_wp2_with fail
    go_ret
    rw [HR.out]
    have hk8 := HBK.out
    unfold bkObj at hk8
    have hf8 := (Frm.refl (fun j => j = bb) w10).setCell (p := ⟨bb, 4, none⟩) (.inl rfl) (.int .i64 0)
    have hp8 := HP10.out.law hf8 (fun k hk => by rw [hk]; exact ⟨.inl (.inl (.inl (.inl (.inl HX.out)))), Hge.out⟩)
    exact ⟨rfl, hp8.to (fun k hk => .inl (.inl (.inl (.inl (.inl hk))))), (zd hk8 4 (.int .i64 0)).trans rfl, fun j hj hne => (hf8.block j (HP10.out.xlt j (.inl (.inl (.inl (.inl (.inl hj)))))) hne).trans ((HK10.out j (.inl (.inl (.inl (.inl (.inl hj))))) hne).trans (HK9.out j hj))⟩
end
section
variable {w W W' : World} {a : PgD} {pb db bb : Nat} {F : Foot} {d d' : Dsk} {B : Bk} {X X' : Nat → Prop}
theorem bdone_any (hbk : W.heap[bb]? = some (bkObj pb db B)) : Calls Tryz.prog 27 #[.pointer (some ⟨bb, 0, none⟩)] W fun e w' => e = .returned (.bool (B.next == 0)) ∧ w' = W := by
 have x4 := (bk_cells hbk).c4
 clear hbk
 go_enter Tryz.func27, Tryz.ntmps27
 go_wp2_with fail
 go_ret
 exact ⟨rfl, rfl⟩
theorem bcommits_any (hbk : W.heap[bb]? = some (bkObj pb db B)) : Calls Tryz.prog 28 #[.pointer (some ⟨bb, 0, none⟩)] W fun e w' => e = .returned (.int .u64 B.k) ∧ w' = W := by
 have x2 := (bk_cells hbk).c2
 clear hbk
 go_enter Tryz.func28, Tryz.ntmps28
 go_wp2_with fail
 go_ret
 exact ⟨rfl, rfl⟩
theorem brestarts_any (hbk : W.heap[bb]? = some (bkObj pb db B)) : Calls Tryz.prog 31 #[.pointer (some ⟨bb, 0, none⟩)] W fun e w' => e = .returned (.int .i64 B.restarts) ∧ w' = W := by
 have x6 := (bk_cells hbk).c6
 clear hbk
 go_enter Tryz.func31, Tryz.ntmps31
 go_wp2_with fail
 go_ret
 exact ⟨rfl, rfl⟩
theorem bleft_any (hbk : W.heap[bb]? = some (bkObj pb db B)) (hn : 0 ≤ B.next ∧ B.next ≤ 300) (hp : 0 ≤ B.pages ∧ B.pages ≤ 300) : Calls Tryz.prog 29 #[.pointer (some ⟨bb, 0, none⟩)] W fun e w' => e = .returned (.int .i64 (bleftM B)) ∧ Below W.heap.size W w' := by
 have x3 := (bk_cells hbk).c3
 have x4 := (bk_cells hbk).c4
 unfold bleftM
 obtain ⟨n, hne⟩ : ∃ n, n = B.next := ⟨_, rfl⟩
 obtain ⟨p, hpe⟩ : ∃ p, p = B.pages := ⟨_, rfl⟩
 rw [← hne] at x4 hn ⊢
 rw [← hpe] at x3 hp ⊢
 clear hbk hne hpe
 by_cases h0 : n = 0
 ·have b0 : (n == 0) = true := by simp [h0]
  rw [if_pos h0]
  clear h0
  go_enter Tryz.func29, Tryz.ntmps29
  go_wp2_with fail
  go_ret
  exact ⟨rfl, Below.refl _ _⟩
 have b0 : (n == 0) = false := by simp [h0]
 rw [if_neg h0]
 by_cases h1 : n = 1
 ·have b1 : (n == 1) = true := by simp [h1]
  rw [if_pos h1]
  clear h0 h1
  go_enter Tryz.func29, Tryz.ntmps29
  go_wp2_with fail
  go_ret
  exact ⟨rfl, Below.refl _ _⟩
 have b1 : (n == 1) = false := by simp [h1]
 rw [if_neg h1]
 have hw1 : IntKind.i64.wrap (p - n) = p - n := IntWalk.i64_in _ (by omega)
 have hw2 : IntKind.i64.wrap (p - n + 2) = p - n + 2 := IntWalk.i64_in _ (by omega)
 clear h0 h1
 go_enter Tryz.func29, Tryz.ntmps29
 go_wp2_with fail
 go_quiet (fail)
 go_wp2_with fail
 go_ret
 exact ⟨rfl, below_drewN (Below.refl _ _) _⟩
structure BkIn (B : Bk) : Prop where
 pages : 1 ≤ B.pages ∧ B.pages ≤ 256
 next : B.next = 0 ∨ (1 ≤ B.next ∧ B.next ≤ B.pages)
theorem bleft_in (h : BkIn B) : 0 ≤ bleftM B ∧ bleftM B ≤ 256 := by
 have h1 := h.pages
 unfold bleftM
 rcases h.next with e | ⟨e1, e2⟩
 ·rw [if_pos e]; omega
 ·rw [if_neg (by omega)]
  split <;> omega
theorem bleft_least (h : BkIn B) (hn : B.next ≠ 0) : 1 ≤ bleftM B := by
 have h1 := h.pages
 unfold bleftM
 rcases h.next with e | ⟨e1, e2⟩
 ·exact absurd e hn
 ·rw [if_neg hn]
  split <;> omega
theorem bcopy_in {p : Pg} {g : Lg} {ds : Dsk} (h : BkIn B) (hn : B.next ≠ 0) (h0 : (bcopyM p g ds B d).1 = 0) : BkIn (bcopyM p g ds B d).2.1 ∧ bleftM (bcopyM p g ds B d).2.1 = bleftM B - 1 ∧ (bcopyM p g ds B d).2.1.pages = B.pages ∧ (bcopyM p g ds B d).2.1.k = B.k ∧ (bcopyM p g ds B d).2.1.restarts = B.restarts := by
 have hp := h.pages
 rcases h.next with e | ⟨e1, e2⟩
 ·exact absurd e hn
 unfold bcopyM at h0 ⊢
 split at h0
 ·rename_i hh; exact absurd h0 hh
 rename_i hh
 rw [if_neg hh]
 split at h0
 ·rename_i h1
  rw [if_pos h1]
  split at h0
  ·rename_i h2; exact absurd h0 h2
  rename_i h2
  rw [if_neg h2]
  by_cases hle : B.pages < B.next + 1
  ·refine ⟨⟨hp, .inr ⟨?_, ?_⟩⟩, ?_, rfl, rfl, rfl⟩
   ·show 1 ≤ (if B.pages < B.next + 1 then (1 : Int) else B.next + 1)
    rw [if_pos hle]; omega
   ·show (if B.pages < B.next + 1 then (1 : Int) else B.next + 1) ≤ B.pages
    rw [if_pos hle]; omega
   ·unfold bleftM
    dsimp only
    rw [if_pos hle, if_neg (by omega), if_pos rfl, if_neg (by omega), if_neg (by omega)]
    omega
  ·refine ⟨⟨hp, .inr ⟨?_, ?_⟩⟩, ?_, rfl, rfl, rfl⟩
   ·show 1 ≤ (if B.pages < B.next + 1 then (1 : Int) else B.next + 1)
    rw [if_neg hle]; omega
   ·show (if B.pages < B.next + 1 then (1 : Int) else B.next + 1) ≤ B.pages
    rw [if_neg hle]; omega
   ·unfold bleftM
    dsimp only
    rw [if_neg hle, if_neg (by omega), if_neg (by omega), if_neg (by omega), if_neg (by omega)]
    omega
 ·rename_i h1
  rw [if_neg h1]
  have hb1 : B.next = 1 := by omega
  rw [blast_eq] at h0 ⊢
  split at h0
  ·rename_i h2; exact absurd h0 h2
  rename_i h2
  rw [if_neg h2]
  split at h0
  ·rename_i h3; exact absurd h0 h3
  rename_i h3
  rw [if_neg h3]
  split at h0
  ·rename_i h4; exact absurd h0 h4
  rename_i h4
  rw [if_neg h4]
  split at h0
  ·rename_i h5; exact absurd h0 h5
  rename_i h5
  rw [if_neg h5]
  refine ⟨⟨hp, .inl rfl⟩, ?_, rfl, rfl, rfl⟩
  unfold bleftM
  dsimp only
  rw [if_pos rfl, if_neg hn, if_pos hb1]
  rfl
structure BkOk (B : Bk) : Prop where
 pages : 1 ≤ B.pages ∧ B.pages ≤ 256
 next : B.next = 0 ∨ (1 ≤ B.next ∧ B.next ≤ B.pages ∧ B.opn = false)
theorem BkOk.toIn (h : BkOk B) : BkIn B := ⟨h.pages, h.next.imp id fun e => ⟨e.1, e.2.1⟩⟩
theorem bcopy_small {p : Pg} {g : Lg} {ds : Dsk} {N : Nat} (h : d.Small N) : (bcopyM p g ds B d).2.2.Small (N + 65536) := by
 unfold bcopyM
 split
 ·exact h.mono (by omega)
 split
 ·split
  ·exact (write_small h).mono (by omega)
  ·exact (write_small h).mono (by omega)
 rw [blast_eq]
 have hc : (lastC B d).2.Small (N + 8193) := bcut_sm8 h
 have hy : (lastY B d).2.Small (N + 8194) := sync_small hc
 have hu : ∀ s, (lastU s B d).2.Small (N + 16387) := fun s => (write_small hy).mono (by omega)
 have hv : ∀ s, (lastV s B d).2.Small (N + 16388) := fun s => (sync_small (hu s)).mono (by omega)
 split
 ·exact hc.mono (by omega)
 split
 ·exact hy.mono (by omega)
 split
 ·exact (hu _).mono (by omega)
 split
 ·exact (hv _).mono (by omega)
 ·exact (hv _).mono (by omega)
set_option maxHeartbeats 8000000 in
theorem bstep_in {N : Nat} (h : PD w W a db d X) (hX : X bb) (hge : w.heap.size ≤ bb) (hbk : W.heap[bb]? = some (bkObj a.pb db B)) (hB : BkIn B) (hrs : 0 ≤ B.restarts ∧ B.restarts ≤ 1000000) (hP : 1 ≤ ppagesM a.p a.g) (n : Int) (hn : in64 n) (hsm : d.Small N) (hN : N + 67108864 ≤ 1099511527776) :
  Calls Tryz.prog 14 #[.pointer (some ⟨bb, 0, none⟩), .int .i64 n] W fun e w' => e = .returned (.int .i64 (bstepM a.p a.g a.d n B d).1) ∧ PD w w' a db (bstepM a.p a.g a.d n B d).2.2 X ∧ w'.heap[bb]? = some (bkObj a.pb db (bstepM a.p a.g a.d n B d).2.1) ∧ ∀ j, X j → j ≠ bb → w'.heap[j]? = W.heap[j]? := by
 have cs := bk_cells hbk
 obtain ⟨x0, x1, x2, x3, x4, x5, x6⟩ := cs
 obtain ⟨R, hR⟩ : ∃ R, R = bstepM a.p a.g a.d n B d := ⟨_, rfl⟩
 rw [← hR]
 unfold bstepM at hR
 by_cases h0 : B.next = 0
 ·have b0 : (B.next == 0) = true := by simp [h0]
  rw [if_pos h0] at hR
  have HR := hid hR
  have H := hid h
  have HBK := hid hbk
  clear hR h0 h hbk
  go_enter Tryz.func14, Tryz.ntmps14
  go_wp2_with fail
  go_ret
  rw [HR.out]
  exact ⟨rfl, H.out, HBK.out, fun _ _ _ => rfl⟩
 have b0 : (B.next == 0) = false := by simp [h0]
 rw [if_neg h0] at hR
 obtain ⟨hb1, hb2⟩ := hB.next.resolve_left h0
 obtain ⟨T, hpg, hcl⟩ := h.left
 have HV := have_any hpg
 obtain ⟨Q, hQ⟩ : ∃ Q, Q = haveM a.p a.g a.d := ⟨_, rfl⟩
 rw [← hQ] at HV hR
 obtain ⟨k, E⟩ := Q
 dsimp only at HV hR
 have HVc := hid HV
 have HCL := hid hcl
 have HBK := hid hbk
 have HX := hid hX
 have HS := hid hsm
 have HBO := hid hB
 have Hge := hid hge
 have HP := hid hP
 clear HV hcl hbk h hpg hX hsm hB hQ hge hP
 by_cases hE : E = 0
 rotate_left
 ·have b1 : (E != 0) = true := by simp [hE]
  rw [if_pos hE] at hR
  have HR := hid hR
  clear hR hE
  go_enter Tryz.func14, Tryz.ntmps14
  go_wp2_with (first
   | (go_at_call 38; refine (HVc.out).mono ?_; rintro e w2 ⟨rfl, hx, hk⟩; have HP2 := hid (HCL.out _ _ hx hk).1; have HK2 := hid (HCL.out _ _ hx hk).2; clear hx hk)
   | go_in)
  go_ret
  rw [HR.out]
  exact ⟨rfl, HP2.out, (HK2.out bb HX.out).trans HBK.out, fun j hj _ => HK2.out j hj⟩
 have b1 : (E != 0) = false := by simp [hE]
 rw [if_neg (by simpa using hE)] at hR
 have HR := hid hR
 clear hR hE x0 x1 x2 x3 x5 x6
 have y0 := (bk_cells HBK.out).c0
 -- the loop, from whatever backup
 go_enter Tryz.func14, Tryz.ntmps14
 go_upto_region 8 with (first
  | (go_at_call 38; refine (HVc.out).mono ?_; rintro e w2 ⟨rfl, hx, hk⟩; have HP2 := hid (HCL.out _ _ hx hk).1; have HK2 := hid (HCL.out _ _ hx hk).2; clear hx hk)
  | go_in)
 have HBK2 := hid ((HK2.out bb HX.out).trans HBK.out)
 have hPr : ppagesM a.p a.g ≤ 256 := (ppages_range HP2.out.pg).2
 have HPr := hid hPr
 clear x4 y0 hPr
 have h3 : k = B.k ∨ (k ≠ B.k ∧ B.opn = false) ∨ (k ≠ B.k ∧ B.opn = true) := by
  by_cases hk : k = B.k
  ·exact .inl hk
  ·cases B.opn
   ·exact .inr (.inl ⟨hk, rfl⟩)
   ·exact .inr (.inr ⟨hk, rfl⟩)
 rcases h3 with hk | ⟨hk, hop⟩ | ⟨hk, hop⟩
 case' inl =>
  have b2 : (k != B.k) = false := by simp [hk]
  have hR := HR.out
  rw [if_pos hk] at hR
  obtain ⟨B3, hB3⟩ : ∃ B3, B3 = B := ⟨_, rfl⟩
  rw [← hB3] at hR
  have z2 := (bk_cells HBK2.out).c2
  replace HR := hid hR
  have HB3 := hid hB3
  clear hR hk hB3
  go_upto_region 16 with fail
  obtain ⟨w3, hw3⟩ : ∃ w3, w3 = w2 := ⟨_, rfl⟩
  rw [← hw3]
  have HP3 := HP2.out
  have HBK3 := HBK2.out
  have HK3 : ∀ j, X j → j ≠ bb → w2.heap[j]? = W.heap[j]? := fun j hj _ => HK2.out j hj
  have HO3 := HBO.out
  rw [← hw3] at HP3 HBK3 HK3
  rw [← HB3.out] at HBK3 HO3
  replace HP3 := hid HP3
  replace HBK3 := hid HBK3
  replace HK3 := hid HK3
  replace HO3 := hid HO3
  clear hw3 z2 HB3
  obtain ⟨d3, hd3⟩ : ∃ d3, d3 = d := ⟨_, rfl⟩
  obtain ⟨N3, hN3e⟩ : ∃ N3, N3 = N := ⟨_, rfl⟩
  have hR9 := HR.out
  rw [← hd3] at hR9
  replace HR := hid hR9
  have hP9 := HP3.out
  rw [← hd3] at hP9
  replace HP3 := hid hP9
  clear hP9
  have HS3 := hid (show d3.Small N3 by rw [hd3, hN3e]; exact HS.out)
  have hN3 : N3 + 33554432 ≤ 1099511527776 := by omega
  clear hR9 hd3 hN3e
 case' inr.inl =>
  have b2 : (k != B.k) = true := by simp [hk]
  have hR := HR.out
  have hlid : blidM B d = (0, B, d) := by unfold blidM; rw [hop]; rfl
  rw [if_neg hk, hlid, if_neg (by simp)] at hR
  dsimp only at hR
  have z2 := (bk_cells HBK2.out).c2
  have z5 := (bk_cells HBK2.out).c5
  rw [hop] at z5
  have AN := hid (banew_any HP2.out HX.out Hge.out HBK2.out k)
  obtain ⟨Ba, hBa⟩ : ∃ Ba, Ba = bkAnew a.p a.g B k := ⟨_, rfl⟩
  have AN := AN.out
  rw [← hBa] at AN hR
  replace AN := hid AN
  have hrsa : Ba.restarts = B.restarts := by rw [hBa]; rfl
  have hw6 : IntKind.i64.wrap (B.restarts + 1) = B.restarts + 1 := IntWalk.i64_in _ (by omega)
  rw [hw6] at hR
  have hoa : BkIn { Ba with restarts := B.restarts + 1 } := by
   have h1 := HP.out
   have h2 := HPr.out
   rw [hBa]
   refine ⟨⟨h1, h2⟩, .inr ?_⟩
   unfold bkAnew
   dsimp only
   split
   ·exact ⟨by omega, by omega⟩
   ·exact ⟨by omega, by omega⟩
  replace HR := hid hR
  have HOA := hid hoa
  have Hrsa := hid hrsa
  clear hR hk hlid hrsa hoa hBa hop
  go_upto_region 15 with (first
   | (go_at_call 46; refine (AN.out).mono ?_; rintro e w5 ⟨rfl, hp, hb, hkk⟩; have HP5 := hid hp; have HB5 := hid hb; have HK5 := hid hkk; clear hp hb hkk)
   | go_in)
  have z6 := (bk_cells HB5.out).c6
  have f6 := bk_free HB5.out 6
  rw [Hrsa.out] at z6
  clear z2 z5
  go_upto_region 16 with fail
  have hk8 := HB5.out
  unfold bkObj at hk8
  have hf8 := (Frm.refl (fun j => j = bb) w5).setCell (p := ⟨bb, 6, none⟩) (.inl rfl) (.int .i64 (B.restarts + 1))
  have hp8 := HP5.out.law hf8 (fun k hk => by rw [hk]; exact ⟨HX.out, Hge.out⟩)
  have hbk8 : (w5.setCell ⟨bb, 6, none⟩ (.int .i64 (B.restarts + 1))).heap[bb]? = some (bkObj a.pb db { Ba with restarts := B.restarts + 1 }) := (zd hk8 6 (.int .i64 (B.restarts + 1))).trans rfl
  have hkk8 : ∀ j, X j → j ≠ bb → (w5.setCell ⟨bb, 6, none⟩ (.int .i64 (B.restarts + 1))).heap[j]? = W.heap[j]? := fun j hj hn => (hf8.block j (HP5.out.xlt j hj) hn).trans ((HK5.out j hj hn).trans (HK2.out j hj))
  obtain ⟨w3, hw3⟩ : ∃ w3, w3 = w5.setCell ⟨bb, 6, none⟩ (.int .i64 (B.restarts + 1)) := ⟨_, rfl⟩
  obtain ⟨B3, hB3⟩ : ∃ B3 : Bk, B3 = { Ba with restarts := B.restarts + 1 } := ⟨_, rfl⟩
  rw [← hw3]
  rw [← hw3] at hp8 hbk8 hkk8
  have hR := HR.out
  have hO := HOA.out
  rw [← hB3] at hR hbk8 hO
  replace HR := hid hR
  have HP3 := hid hp8
  have HBK3 := hid hbk8
  have HK3 := hid hkk8
  have HO3 := hid hO
  clear hR hw3 hp8 hbk8 hkk8 hO hf8 hk8 z6 f6 hB3 HOA Hrsa AN hw6 HP5 HB5 HK5
  obtain ⟨d3, hd3⟩ : ∃ d3, d3 = d := ⟨_, rfl⟩
  obtain ⟨N3, hN3e⟩ : ∃ N3, N3 = N := ⟨_, rfl⟩
  have hR9 := HR.out
  rw [← hd3] at hR9
  replace HR := hid hR9
  have hP9 := HP3.out
  rw [← hd3] at hP9
  replace HP3 := hid hP9
  clear hP9
  have HS3 := hid (show d3.Small N3 by rw [hd3, hN3e]; exact HS.out)
  have hN3 : N3 + 33554432 ≤ 1099511527776 := by omega
  clear hR9 hd3 hN3e
 case' inr.inr =>
  have b2 : (k != B.k) = true := by simp [hk]
  have hR := HR.out
  rw [if_neg hk] at hR
  have z2 := (bk_cells HBK2.out).c2
  have z5 := (bk_cells HBK2.out).c5
  rw [hop] at z5
  obtain ⟨F, hF, hFX, hclF⟩ := HP2.out.right
  have y1 : w2.drew.cell? ⟨bb, 1, none⟩ = some (.pointer (some ⟨db, 0, none⟩)) := (bk_cells (show w2.drew.heap[bb]? = _ from HBK2.out)).c1
  obtain ⟨Z, hZ⟩ : ∃ Z, Z = bseqM [fun d => writeM d 0 0 lidL, fun d => syncM d 0] d := ⟨_, rfl⟩
  have hlid : blidM B d = if Z.1 ≠ 0 then (Z.1, B, Z.2) else (0, { B with opn := false }, Z.2) := by unfold blidM; rw [if_pos hop, ← hZ]
  have hzs : Z.2.Small (N + 65536) := by
   have h1 := bseq_small [fun d => writeM d 0 0 lidL, fun d => syncM d 0] d N (fun m hm d N hd => by
    simp only [List.mem_cons, List.not_mem_nil, or_false] at hm
    rcases hm with rfl | rfl
    ·exact (write_small hd).mono (by omega)
    ·exact (sync_small hd).mono (by omega)) HS.out
   rw [← hZ] at h1
   exact h1.mono (by simp)
  rw [hlid] at hR
  have HF := hid hF
  have HFX := hid hFX
  have HCLF := hid hclF
  have HRa := hid hR
  have HZ := hid hZ
  have HZS := hid hzs
  clear hF hFX hclF hR hk hop hlid hZ hzs HR
  go_upto_region 10 with fail
  clear z2 z5
  refine wp_region_held_drew (S := fun W2 => W2.cell? ⟨bb, 1, none⟩ = some (.pointer (some ⟨db, 0, none⟩))) (by kernel_rfl) y1 (fun hHeld => ?_)
  clear y1
  refine ht 0 hHeld ?_
  refine ht 1 hHeld ?_
  refine ht 2 hHeld ?_
  refine ht 3 hHeld ?_
  refine ht 5 hHeld ?_
  refine ht 6 hHeld ?_
  refine ht 7 hHeld ?_
  refine ht 8 hHeld ?_
  refine held_one 4 (by kernel_rfl) rfl (fun K hK => ?_)
  go_simp
  refine (lays_mk db _).mono ?_
  rintro e w4 ⟨v1, B1, rfl, hd1, hg1, hbx1⟩
  obtain ⟨k1, a1, c1, rfl, -⟩ := id hd1
  have hx1 := (hbx1.block bb (zc HBK2.out)).trans HBK2.out
  have hx1c : w4.cell? ⟨bb, 1, none⟩ = some (.pointer (some ⟨db, 0, none⟩)) := (bk_cells hx1).c1
  have HD1 := hid hd1
  have HG1 := hid hg1
  have HB1 := hid hbx1
  have HX1 := hid hx1
  try dsimp only
  refine hK.out _ _ (hx1c) (fun hHeld => ?_)
  clear hK K
  try simp only [Act.put, zl0, zl1, zl2]
  clear hd1 hg1 hbx1 hx1
  refine held_one 9 (by kernel_rfl) rfl (fun K hK => ?_)
  go_simp
  refine (sync_mk db 0 _).mono ?_
  rintro e w5 ⟨v2, B2, rfl, hd2, hg2, hbx2⟩
  obtain ⟨k2, a2, c2, rfl, -⟩ := id hd2
  have hx2 := (hbx2.block bb (zc HX1.out)).trans HX1.out
  have hx2c : w5.cell? ⟨bb, 1, none⟩ = some (.pointer (some ⟨db, 0, none⟩)) := (bk_cells hx2).c1
  have HD2 := hid hd2
  have HG2 := hid hg2
  have HB2 := hid hbx2
  have HX2 := hid hx2
  try dsimp only
  refine hK.out _ _ (hx2c) (fun hHeld => ?_)
  clear hK K
  try simp only [Act.put, zl0, zl1, zl2]
  clear hd2 hg2 hbx2 hx2 hx1c
  refine held_one 10 (by kernel_rfl) rfl (fun K hK => ?_)
  go_simp
  obtain ⟨w6, hw6⟩ : ∃ w6, w6 = w5.alloc (.cells #[.func (.func k1) a1 c1, .func (.func k2) a2 c2] 56) := ⟨_, rfl⟩
  rw [← hw6]
  have hb6 : Below w5.heap.size w5 w6 := by rw [hw6]; exact (Below.refl _ _).alloc (Nat.le_refl _) _
  have hblk := ze w5 (.cells #[.func (.func k1) a1 c1, .func (.func k2) a2 c2] 56)
  rw [← hw6] at hblk
  have hx6 := (hb6.block bb (zc HX2.out)).trans HX2.out
  have hx6c : w6.cell? ⟨bb, 1, none⟩ = some (.pointer (some ⟨db, 0, none⟩)) := (bk_cells hx6).c1
  try dsimp only
  refine hK.out _ _ (hx6c) (fun hHeld => ?_)
  clear hK K
  try simp only [Act.put, zl0, zl1, zl2]
  have hs1 := HB1.out.size
  have hs2 := HB2.out.size
  have hW6 : Below w2.heap.size w2 w6 := by
   have h1 : Below w2.heap.size w2 w4 := below_undrew HB1.out
   exact (h1.trans (HB2.out.mono h1.size)).trans (hb6.mono (Nat.le_trans h1.size hs2))
  have hD6 := HF.out.below hW6
  have hlt : ∀ y ∈ B1 ++ B2, y < w6.heap.size := fun y hy => by
   rcases List.mem_append.1 hy with h | h
   ·exact ((HD1.out.below HB2.out).below hb6).lt y h
   ·exact (HD2.out.below hb6).lt y h
  have ST := bseq_any [.func (.func k1) a1 c1, .func (.func k2) a2 c2] [fun d => writeM d 0 0 lidL, fun d => syncM d 0] (B1 ++ B2) rfl (by simp) w5.heap.size 2 N hD6 HS.out (by omega) (B := 0)
   (fun j v hv => by rw [za hblk]; simpa using hv) (zc hblk) (fun e => by have := HF.out.olt _ e; have h1 : w2.drew.heap.size = w2.heap.size := rfl; omega)
   (fun y hy e => by
    have := HF.out.olt _ e
    have h1 : w2.drew.heap.size = w2.heap.size := rfl
    rcases List.mem_append.1 hy with h | h
    ·have := HG1.out y h; omega
    ·have := HG2.out y h; omega)
   (fun i v m hv hm => by
    match i, hv, hm with
    | 0, hv, hm =>
     simp only [List.getElem?_cons_zero, Option.some.injEq] at hv hm
     subst hv hm
     exact ((HD1.out.below HB2.out).below hb6).wider (fun y hy => List.mem_append.2 (.inl hy)) hlt
    | 1, hv, hm =>
     simp only [List.getElem?_cons_zero, List.getElem?_cons_succ, Option.some.injEq] at hv hm
     subst hv hm
     exact (HD2.out.below hb6).wider (fun y hy => List.mem_append.2 (.inr hy)) hlt)
  rw [← HZ.out] at ST
  have ST := hid ST
  have HW6 := hid hW6
  clear hW6 hx6 hblk hb6 hw6 hD6 hlt hs1 hs2 hx2c
  refine held_one 11 (by kernel_rfl) rfl (fun K hK => ?_)
  go_simp
  refine (ST.out).mono ?_
  rintro e w7 ⟨rfl, hd7⟩
  have hp7 := HCLF.out _ _ (Did.then (foot_below F HW6.out) hd7)
  have hbk7 := (hp7.2 bb HX.out).trans HBK2.out
  have hx7c : w7.cell? ⟨bb, 1, none⟩ = some (.pointer (some ⟨db, 0, none⟩)) := (bk_cells hbk7).c1
  have HP7 := hid hp7.1
  have HK7 := hid hp7.2
  have HBK7 := hid hbk7
  clear hd7 hp7 hbk7
  try dsimp only
  refine hK.out _ _ (hx7c) (fun hHeld => ?_)
  clear hK K
  try simp only [Act.put, zl0, zl1, zl2]
  clear hx6c hx7c
  refine ht 12 hHeld ?_
  clear hHeld
  refine wpAnyH_done (by kernel_rfl) ?_ _
  obtain ⟨z, hz⟩ : ∃ z, z = Z.1 := ⟨_, rfl⟩
  have hR := HRa.out
  rw [← hz] at hR ⊢
  have Hz := hid hz
  clear hz
  by_cases hz0 : z = 0
  rotate_left
  ·have b3 : (z != 0) = true := by simp [hz0]
   rw [if_pos hz0, if_pos (show (z, B, Z.2).1 ≠ 0 from hz0)] at hR
   have HR := hid hR
   clear hR hz0
   go_wp2_with fail
   go_ret
   rw [HR.out]
   exact ⟨rfl, HP7.out, HBK7.out, fun j hj _ => (HK7.out j hj).trans (HK2.out j hj)⟩
  have b3 : (z != 0) = false := by simp [hz0]
  rw [if_neg (show ¬ z ≠ 0 from fun e => e hz0), if_neg (show ¬ ((0 : Int), ({ B with opn := false } : Bk), Z.2).1 ≠ 0 from fun e => e rfl)] at hR
  dsimp only at hR
  obtain ⟨Bo, hBo⟩ : ∃ Bo : Bk, Bo = { B with opn := false } := ⟨_, rfl⟩
  rw [← hBo] at hR
  have HBo := hid hBo
  have HR := hid hR
  have f5 := bk_free HBK7.out 5
  have z5 := (bk_cells HBK7.out).c5
  have z0 := (bk_cells HBK7.out).c0
  clear hR hz0 hBo
  go_upto_region 14 with fail
  have hk7 := HBK7.out
  unfold bkObj at hk7
  have hf7 := (Frm.refl (fun j => j = bb) w7).setCell (p := ⟨bb, 5, none⟩) (.inl rfl) (.bool false)
  have hp8 := HP7.out.law hf7 (fun k hk => by rw [hk]; exact ⟨HX.out, Hge.out⟩)
  have hbk8 : (w7.setCell ⟨bb, 5, none⟩ (.bool false)).heap[bb]? = some (bkObj a.pb db Bo) := (zd hk7 5 (.bool false)).trans (by rw [HBo.out]; rfl)
  have hkk8 : ∀ j, X j → j ≠ bb → (w7.setCell ⟨bb, 5, none⟩ (.bool false)).heap[j]? = W.heap[j]? := fun j hj hn => (hf7.block j (HP7.out.xlt j hj) hn).trans ((HK7.out j hj).trans (HK2.out j hj))
  obtain ⟨w8, hw8⟩ : ∃ w8, w8 = w7.setCell ⟨bb, 5, none⟩ (.bool false) := ⟨_, rfl⟩
  rw [← hw8]
  rw [← hw8] at hp8 hbk8 hkk8
  have HP8 := hid hp8
  have HBK8 := hid hbk8
  have HK8 := hid hkk8
  have hR := HR.out
  clear hw8 hp8 hbk8 hkk8 hf7 hk7 f5 z5 z0
  have AN := hid (banew_any HP8.out HX.out Hge.out HBK8.out k)
  obtain ⟨Ba, hBa⟩ : ∃ Ba, Ba = bkAnew a.p a.g Bo k := ⟨_, rfl⟩
  have AN := AN.out
  rw [← hBa] at AN hR
  replace AN := hid AN
  have hrsa : Ba.restarts = B.restarts := by rw [hBa, HBo.out]; rfl
  have hw9 : IntKind.i64.wrap (B.restarts + 1) = B.restarts + 1 := IntWalk.i64_in _ (by omega)
  rw [hw9] at hR
  have hoa : BkIn { Ba with restarts := B.restarts + 1 } := by
   have h1 := HP.out
   have h2 := HPr.out
   rw [hBa]
   refine ⟨⟨h1, h2⟩, .inr ?_⟩
   unfold bkAnew
   dsimp only
   split
   ·exact ⟨by omega, by omega⟩
   ·exact ⟨by omega, by omega⟩
  replace HR := hid hR
  have HOA := hid hoa
  have Hrsa := hid hrsa
  clear hR hrsa hoa hBa
  go_upto_region 15 with (first
   | (go_at_call 46; refine (AN.out).mono ?_; rintro e w5 ⟨rfl, hp, hb, hkk⟩; have HP5 := hid hp; have HB5 := hid hb; have HK5 := hid hkk; clear hp hb hkk)
   | go_in)
  have z6 := (bk_cells HB5.out).c6
  have f6 := bk_free HB5.out 6
  rw [Hrsa.out] at z6
  go_upto_region 16 with fail
  have hk8 := HB5.out
  unfold bkObj at hk8
  have hf8 := (Frm.refl (fun j => j = bb) w5).setCell (p := ⟨bb, 6, none⟩) (.inl rfl) (.int .i64 (B.restarts + 1))
  have hp8 := HP5.out.law hf8 (fun k hk => by rw [hk]; exact ⟨HX.out, Hge.out⟩)
  have hbk8 : (w5.setCell ⟨bb, 6, none⟩ (.int .i64 (B.restarts + 1))).heap[bb]? = some (bkObj a.pb db { Ba with restarts := B.restarts + 1 }) := (zd hk8 6 (.int .i64 (B.restarts + 1))).trans rfl
  have hkk8 : ∀ j, X j → j ≠ bb → (w5.setCell ⟨bb, 6, none⟩ (.int .i64 (B.restarts + 1))).heap[j]? = W.heap[j]? := fun j hj hn => (hf8.block j (HP5.out.xlt j hj) hn).trans ((HK5.out j hj hn).trans (HK8.out j hj hn))
  obtain ⟨w3, hw3⟩ : ∃ w3, w3 = w5.setCell ⟨bb, 6, none⟩ (.int .i64 (B.restarts + 1)) := ⟨_, rfl⟩
  obtain ⟨B3, hB3⟩ : ∃ B3 : Bk, B3 = { Ba with restarts := B.restarts + 1 } := ⟨_, rfl⟩
  rw [← hw3]
  rw [← hw3] at hp8 hbk8 hkk8
  have hR := HR.out
  have hO := HOA.out
  rw [← hB3] at hR hbk8 hO
  replace HR := hid hR
  have HP3 := hid hp8
  have HBK3 := hid hbk8
  have HK3 := hid hkk8
  have HO3 := hid hO
  clear hR hw3 hp8 hbk8 hkk8 hO hf8 hk8 z6 f6 hB3 HOA Hrsa AN hw9 HP5 HB5 HK5
  obtain ⟨d3, hd3⟩ : ∃ d3, d3 = Z.2 := ⟨_, rfl⟩
  obtain ⟨N3, hN3e⟩ : ∃ N3, N3 = N + 65536 := ⟨_, rfl⟩
  have hR9 := HR.out
  rw [← hd3] at hR9
  replace HR := hid hR9
  have hP9 := HP3.out
  rw [← hd3] at hP9
  replace HP3 := hid hP9
  clear hP9
  have HS3 := hid (show d3.Small N3 by rw [hd3, hN3e]; exact HZS.out)
  have hN3 : N3 + 33554432 ≤ 1099511527776 := by omega
  clear hR9 hd3 hN3e b3
 all_goals
  clear hb1 hb2 b0 b1 b2 h0 hrs
  go_wp2_with fail
  go_loopw [8] (fun v8 wr => ∃ (i : Nat) (Bi : Bk) (di : Dsk), v8 = .int .i64 (i : Int) ∧ BkIn Bi ∧ (i : Int) + bleftM Bi ≤ 256 ∧ bcopiesM a.p a.g a.d n.toNat B3 d3 = bcopiesM a.p a.g a.d (n.toNat - i) Bi di ∧ di.Small (N3 + 65536 * i) ∧ PD w wr a db di X ∧ wr.heap[bb]? = some (bkObj a.pb db Bi) ∧ ∀ j, X j → j ≠ bb → wr.heap[j]? = W.heap[j]?) (fun v8 _ => 300 - (intOf v8).toNat)
  case atStart => exact ⟨0, B3, d3, rfl, HO3.out, by have := (bleft_in HO3.out).2; omega, rfl, HS3.out, HP3.out, HBK3.out, HK3.out⟩
  case round =>
   obtain ⟨i, Bi, di, rfl, hok, hl, heq, hsi, hpi, hbi, hki⟩ := hrel
   have hlr := bleft_in hok
   have x4 := (bk_cells hbi).c4
   have hin : -9223372036854775808 ≤ n ∧ n ≤ 9223372036854775807 := hn
   by_cases hlt : (i : Int) < n
   ·have d1 : decide ((i : Int) < n) = true := by simpa using hlt
    by_cases hpos : 0 < Bi.next
    ·have d2 : decide (0 < Bi.next) = true := by simpa using hpos
     obtain ⟨hc1, hc2⟩ := hok.next.resolve_left (by omega)
     have CP := bcopy_any (N := N3 + 65536 * i) hpi HX.out Hge.out hbi ⟨by omega, by have := hok.pages; omega⟩ ⟨by have := hok.pages; omega, hok.pages.2⟩ hsi (by omega)
     have hcs := bcopy_small (B := Bi) (p := a.p) (g := a.g) (ds := a.d) hsi
     have hco := bcopy_in (p := a.p) (g := a.g) (ds := a.d) (d := di) hok (by omega)
     have hex : n.toNat - i = (n.toNat - (i + 1)) + 1 := by omega
     have heq2 : bcopiesM a.p a.g a.d n.toNat B3 d3 = if (bcopyM a.p a.g a.d Bi di).1 ≠ 0 then bcopyM a.p a.g a.d Bi di else bcopiesM a.p a.g a.d (n.toNat - (i + 1)) (bcopyM a.p a.g a.d Bi di).2.1 (bcopyM a.p a.g a.d Bi di).2.2 := by
      rw [heq, hex]
      show (if Bi.next ≤ 0 then _ else _) = _
      rw [if_neg (by omega)]
     obtain ⟨Z, hZ⟩ : ∃ Z, Z = bcopyM a.p a.g a.d Bi di := ⟨_, rfl⟩
     rw [← hZ] at CP hcs hco heq2
     have CP := hid CP
     have HCS := hid hcs
     have HCO := hid hco
     have HEQ := hid heq2
     have HKI := hid hki
     have Hok := hid hok
     have e3 : ((i + 1 : Nat) : Int) = (i : Int) + 1 := by omega
     have hwi : IntKind.i64.wrap ((i : Int) + 1) = (i : Int) + 1 := IntWalk.i64_in _ (by omega)
     clear hcs hco heq2 heq hZ hki hpi hbi hc1 hc2 hok hsi hex hin
     go_upto_region 20 with (first
      | (go_at_call 55; refine (CP.out).mono ?_; rintro e w6 ⟨rfl, hp, hb, hkk⟩; have HP6 := hid hp; have HB6 := hid hb; have HK6 := hid hkk; clear hp hb hkk)
      | go_in)
     by_cases hz : Z.1 = 0
     ·have b3 : (Z.1 != 0) = false := by simp [hz]
      obtain ⟨o1, o2, -⟩ := HCO.out hz
      have hEQ := HEQ.out
      rw [if_neg (by simpa using hz)] at hEQ
      replace HEQ := hid hEQ
      have O1 := hid o1
      have O2 := hid o2
      clear o1 o2 hEQ hz x4
      go_wp2_with fail
      go_roundw
      case rel => exact ⟨i + 1, Z.2.1, Z.2.2, by simp, O1.out, by have := O2.out; omega, HEQ.out, by have := HCS.out; rwa [show N3 + 65536 * (i + 1) = N3 + 65536 * i + 65536 by omega], HP6.out, HB6.out, fun j hj hne => (HK6.out j hj hne).trans (HKI.out j hj hne)⟩
      case measure => (simp [intOf]) <;> omega
     ·have b3 : (Z.1 != 0) = true := by simp [hz]
      have hEQ := HEQ.out
      rw [if_pos hz] at hEQ
      replace HEQ := hid hEQ
      clear hEQ hz x4
      go_wp2_with fail
      go_ret
      rw [HR.out, HEQ.out]
      exact ⟨rfl, HP6.out, HB6.out, fun j hj hne => (HK6.out j hj hne).trans (HKI.out j hj hne)⟩
    ·have d2 : decide (0 < Bi.next) = false := by simpa using hpos
     have hfin : bcopiesM a.p a.g a.d n.toNat B3 d3 = (0, Bi, di) := by
      rw [heq]
      cases n.toNat - i with
      | zero => rfl
      | succ m =>
       show (if Bi.next ≤ 0 then _ else _) = _
       rw [if_pos (by omega)]
     have HPI := hid hpi
     have HBI := hid hbi
     have HKI := hid hki
     have HFI := hid hfin
     have hle : Bi.next ≤ 0 := by omega
     clear hfin heq hpi hbi hki hsi hok hin
     go_wp2_with fail
     go_ret
     rw [HR.out, HFI.out]
     exact ⟨rfl, HPI.out, HBI.out, HKI.out⟩
   ·have d1 : decide ((i : Int) < n) = false := by simpa using hlt
    have hfin : bcopiesM a.p a.g a.d n.toNat B3 d3 = (0, Bi, di) := by
     rw [heq, show n.toNat - i = 0 by omega]
     rfl
    have HPI := hid hpi
    have HBI := hid hbi
    have HKI := hid hki
    have HFI := hid hfin
    have hle : n ≤ (i : Int) := by omega
    clear hfin heq hpi hbi hki hsi hok hin
    go_wp2_with fail
    go_ret
    rw [HR.out, HFI.out]
    exact ⟨rfl, HPI.out, HBI.out, HKI.out⟩
theorem bstep_any {N : Nat} (h : PD w W a db d X) (hX : X bb) (hge : w.heap.size ≤ bb) (hbk : W.heap[bb]? = some (bkObj a.pb db B)) (hB : BkOk B) (hrs : 0 ≤ B.restarts ∧ B.restarts ≤ 1000000) (hP : 1 ≤ ppagesM a.p a.g) (n : Int) (hn : in64 n) (hsm : d.Small N) (hN : N + 67108864 ≤ 1099511527776) :
  Calls Tryz.prog 14 #[.pointer (some ⟨bb, 0, none⟩), .int .i64 n] W fun e w' => e = .returned (.int .i64 (bstepM a.p a.g a.d n B d).1) ∧ PD w w' a db (bstepM a.p a.g a.d n B d).2.2 X ∧ w'.heap[bb]? = some (bkObj a.pb db (bstepM a.p a.g a.d n B d).2.1) ∧ ∀ j, X j → j ≠ bb → w'.heap[j]? = W.heap[j]? := bstep_in h hX hge hbk hB.toIn hrs hP n hn hsm hN
end
end Go.Proofs.YtfkcmgbpgefnnaaGreat
