/- Pages of trees (node): the bytes of any node that may be; Put. -/
import Derived.Test.YtlkkclooihjpiaaGreatNdB
import Derived.Test.YtlkkclooihjpiaaGreatHeld
set_option linter.unusedVariables false
set_option linter.unusedSimpArgs false
namespace Go.Proofs.YtlkkclooihjpiaaGreat
open Go.RowKit Go.Maps
set_option maxRecDepth 20000
structure NbSt (w W : World) (nv : Array Value) (acc : List UInt8) : Prop where
 box : W.heap[w.heap.size]? = some (.cells nv 93 (0, 0))
 bld : BldF (w.heap.size + 1) (w.heap.size + 1) acc W
 bel : Below w.heap.size w W
 sz : w.heap.size + 1 < W.heap.size
section
variable {w W W' : World} {nv : Array Value} {acc m : List UInt8} {bx : Nat} {cs : Array Value}
theorem byt_int (n : Int) (h0 : 0 ≤ n) (h1 : n < 256) : ((byt n).toNat : Int) = n := by simp [byt]; omega
theorem NbSt.below (h : NbSt w W nv acc) (hb : Below W.heap.size W W') : NbSt w W' nv acc :=
 ⟨(hb.block _ (lt_of_block h.box)).trans h.box, bld_kept h.bld hb, h.bel.trans (hb.mono h.bel.size), Nat.lt_of_lt_of_le h.sz hb.size⟩
theorem NbSt.step (h : NbSt w W nv acc) (hd : BldF (w.heap.size + 1) (w.heap.size + 1) m W') (hf : Frm (WS 5 (w.heap.size + 1) (w.heap.size + 1) W) W W') : NbSt w W' nv m ∧ (∀ bx cs, bx ≠ w.heap.size + 1 → W.heap[bx]? = some (.cells cs 133 (0, 0)) → W'.heap[bx]? = some (.cells cs 133 (0, 0))) := by
 have hb := ws_below hf (Nat.le_of_lt h.sz)
 exact ⟨⟨(hb.block _ (Nat.lt_succ_self _)).trans h.box, hd, ⟨hb.os.trans h.bel.os, hb.tape.trans h.bel.tape, hb.output.trans h.bel.output, Nat.le_trans h.bel.size hb.size, fun k hk => (hb.block k (Nat.lt_succ_of_lt hk)).trans (h.bel.block k hk)⟩, Nat.lt_of_lt_of_le h.sz hb.size⟩, fun bx cs hne hc => ws_keeps hf hc (by decide) hne⟩
theorem nb_byte (h : NbSt w W nv acc) (c : UInt8) (n : Int) (hn : n = (c.toNat : Int)) (hl : acc.length ≤ 70368744177664) : Calls Tryz.prog 93 #[.pointer (some ⟨w.heap.size + 1, 0, none⟩), .int .u8 n] W fun e w' => e = .returned .nilIface ∧ NbSt w w' nv (acc ++ [c]) ∧ (∀ bx cs, bx ≠ w.heap.size + 1 → W.heap[bx]? = some (.cells cs 133 (0, 0)) → w'.heap[bx]? = some (.cells cs 133 (0, 0))) := by
 rw [hn]
 refine (writeByte_any _ _ _ c _ h.bld (by omega) (Nat.le_of_lt h.sz)).mono ?_
 rintro e w' ⟨rfl, h1, h2⟩
 exact ⟨rfl, h.step h1 h2⟩
theorem nb_str (h : NbSt w W nv acc) (s : List UInt8) (hl : acc.length ≤ 70368744177664) (hs : s.length ≤ 1099511627800) : Calls Tryz.prog 88 #[.pointer (some ⟨w.heap.size + 1, 0, none⟩), .string (bs s)] W fun e w' => e = .returned (.tuple #[.int .i64 s.length, .nilIface]) ∧ NbSt w w' nv (acc ++ s) ∧ (∀ bx cs, bx ≠ w.heap.size + 1 → W.heap[bx]? = some (.cells cs 133 (0, 0)) → w'.heap[bx]? = some (.cells cs 133 (0, 0))) := by
 refine (writeString_any _ _ _ s _ h.bld (by omega) (Nat.le_of_lt h.sz)).mono ?_
 rintro e w' ⟨rfl, h1, h2⟩
 exact ⟨rfl, h.step h1 h2⟩
theorem nb_end (h : NbSt w W nv acc) : Calls Tryz.prog 90 #[.pointer (some ⟨w.heap.size + 1, 0, none⟩)] W fun e w' => e = .returned (.string (bs acc)) ∧ Below w.heap.size w w' := by
 refine (string_any _ _ _ _ h.bld (Nat.le_of_lt h.sz)).mono ?_
 rintro e w' ⟨rfl, hb⟩
 exact ⟨rfl, ⟨hb.os.trans h.bel.os, hb.tape.trans h.bel.tape, hb.output.trans h.bel.output, Nat.le_trans h.bel.size hb.size, fun k hk => (hb.block k (Nat.lt_succ_of_lt hk)).trans (h.bel.block k hk)⟩⟩
theorem nb_new (w : World) (nv : Array Value) : NbSt w ((w.alloc (.cells nv 93)).alloc (.cells #[.pointer none, .slice none 0 0] 163)) nv [] := by
 have h1 := fresh_bld (w.alloc (.cells nv 93))
 have hs : (w.alloc (.cells nv 93)).heap.size = w.heap.size + 1 := by simp
 rw [hs] at h1
 exact ⟨heap_alloc_old (heap_alloc_new _ _), h1, ((Below.refl _ w).alloc (Nat.le_refl _) _).alloc (by simp) _, by simp⟩
structure NcOk (kind : Int) (c : NCell) : Prop where
 key : c.key.length ≤ 100
 size : kind = 1 → (0 ≤ c.size ∧ c.size ≤ 4000) ∧ c.loc.length ≤ 100
 page : 0 ≤ c.page ∧ c.page ≤ 256
theorem ncok_of {kind : Int} {c : NCell} (h : ncellB kind c = true) (hk : kind = 1 ∨ kind = 2) : NcOk kind c := by
 unfold ncellB at h
 by_cases h1 : 100 < (c.key.length : Int)
 ·rw [if_pos h1] at h; cases h
 rw [if_neg h1] at h
 rcases hk with rfl | rfl
 ·rw [if_neg (by decide)] at h
  by_cases h2 : c.size < 0 ∨ 4000 < c.size ∨ (c.loc.length : Int) ≠ min c.size 100
  ·rw [if_pos h2] at h; cases h
  rw [if_neg h2] at h
  refine ⟨by omega, fun _ => ⟨by omega, by omega⟩, ?_⟩
  by_cases h3 : 100 < c.size
  ·rw [if_pos h3] at h
   unfold pgB at h
   simp at h
   omega
  ·rw [if_neg h3] at h
   have : c.page = 0 := by simpa using h
   omega
 ·rw [if_pos rfl] at h
  refine ⟨by omega, fun e => absurd e (by decide), ?_⟩
  unfold pgB at h
  simp at h
  omega
theorem ncells_all {kind : Int} (hk : kind = 1 ∨ kind = 2) : ∀ (l : List NCell) (p : Option (List UInt8)), ncellsB kind p l = true → ∀ c ∈ l, NcOk kind c
 | [], _, _, c, hc => by cases hc
 | x :: r, p, h, c, hc => by
  have hx : ncellB kind x = true := by
   cases e : ncellB kind x with
   | true => rfl
   | false => rw [ncellsB_bad e] at h; cases h
  have hr : ncellsB kind (some x.key) r = true := by
   cases p with
   | none => rwa [ncellsB_first hx] at h
   | some k =>
    cases e : keyLe x.key k with
    | false => rwa [ncellsB_next hx e] at h
    | true => rw [ncellsB_low e] at h; cases h
  rcases List.mem_cons.1 hc with e | e
  ·rw [e]; exact ncok_of hx hk
  ·exact ncells_all hk r _ hr c e
structure NdOk (n : Nd) : Prop where
 kind : 1 ≤ n.kind ∧ n.kind ≤ 4
 first : 0 ≤ n.first ∧ n.first ≤ 256
 data : n.data.length ≤ 505
 cells : ∀ c ∈ n.cells, NcOk n.kind c
theorem ndok_of {n : Nd} (h : nmayB n = true) : NdOk n := by
 unfold nmayB at h
 by_cases h1 : n.kind = 1
 ·rw [if_pos h1] at h
  simp only [Bool.and_eq_true] at h
  obtain ⟨⟨a, b⟩, c⟩ := h
  have a : n.first = 0 := by simpa using a
  have b : n.data = [] := by simpa using b
  refine ⟨by omega, by omega, by rw [b]; decide, ?_⟩
  rw [h1]
  exact ncells_all (.inl rfl) _ _ c
 rw [if_neg h1] at h
 by_cases h2 : n.kind = 2
 ·rw [if_pos h2] at h
  simp only [Bool.and_eq_true] at h
  obtain ⟨⟨a, b, -⟩, c⟩ := h
  unfold pgB at a
  simp at a
  have b : n.data = [] := by simpa using b
  refine ⟨by omega, by omega, by rw [b]; decide, ?_⟩
  rw [h2]
  exact ncells_all (.inr rfl) _ _ c
 rw [if_neg h2] at h
 by_cases h3 : n.kind = 3
 ·rw [if_pos h3] at h
  simp only [Bool.and_eq_true] at h
  obtain ⟨a, b, c, d⟩ := h
  unfold pgB at a
  simp at a b c d
  refine ⟨by omega, by omega, by omega, fun c hc => ?_⟩
  have : n.cells = [] := by simpa using d
  rw [this] at hc; cases hc
 rw [if_neg h3] at h
 by_cases h4 : n.kind = 4
 ·rw [if_pos h4] at h
  simp only [Bool.and_eq_true] at h
  obtain ⟨a, b, c⟩ := h
  unfold pgB at a
  simp at a c
  have b : n.data = [] := by simpa using b
  refine ⟨by omega, by omega, by rw [b]; decide, fun x hx => ?_⟩
  have : n.cells = [] := by simpa using c
  rw [this] at hx; cases hx
 ·rw [if_neg h4] at h; cases h
theorem ncellL_len {kind : Int} {c : NCell} (h : NcOk kind c) : (ncellL kind c).length ≤ 300 := by
 unfold ncellL
 have h1 := h.key
 by_cases hk : kind = 1
 ·have h2 := (h.size hk).2
  rw [if_pos hk]
  split <;> simp [two, four_length] <;> omega
 ·rw [if_neg hk]
  split <;> simp [four_length] <;> omega
theorem ncsL_len {kind : Int} : ∀ (l : List NCell), (∀ c ∈ l, NcOk kind c) → (l.flatMap (ncellL kind)).length ≤ 300 * l.length
 | [], _ => by simp
 | c :: r, h => by
  have h1 := ncellL_len (h c List.mem_cons_self)
  have h2 := ncsL_len r (fun x hx => h x (List.mem_cons_of_mem _ hx))
  rw [List.flatMap_cons, List.length_append, List.length_cons]
  omega
set_option maxHeartbeats 16000000 in
set_option maxRecDepth 20000 in
theorem nbytes_any {n : Nd} {v : Value} (h : NdIn w n v) (hok : NdOk n) : Calls Tryz.prog 67 #[ndV n v] w fun e w' => e = .returned (.string (bs (nbytesL n))) ∧ Below w.heap.size w w' := by
 obtain ⟨kind, F0, L, D⟩ := n
 obtain ⟨ao, cap, rfl, hc⟩ := h.at'
 have hmany := h.many
 obtain ⟨hkd, hfi, hda, hce⟩ := hok
 dsimp only at hc hmany hkd hfi hda hce
 obtain ⟨z, hz⟩ : ∃ z, z = L.length := ⟨_, rfl⟩
 unfold ndV
 dsimp only
 rw [← hz] at hmany ⊢
 obtain ⟨kb, hkb⟩ : ∃ kb : UInt8, kb = byt kind := ⟨_, rfl⟩
 have hkb2 : kind = (kb.toNat : Int) := by rw [hkb]; exact (byt_int kind (by omega) (by omega)).symm
 have H0 := hid (nb_new w #[.int .u8 kind, .int .i64 F0, .slice ao z cap, .string (bs D)])
 obtain ⟨mx, hmx⟩ : ∃ mx : Int, mx = max (z : Int) (D.length : Int) := ⟨_, rfl⟩
 have hmx2 : max (z : Int) (D.length : Int) = mx := hmx.symm
 have hmx3 : (if (z : Int) < (D.length : Int) then (D.length : Int) else (z : Int)) = mx := by rw [hmx]; split <;> omega
 have N2 := hid (fun W => number2_any mx (by omega) (by omega) W)
 have N4 := hid (fun W => number4_any F0 hfi.1 (by omega) W)
 have Hkb := hid hkb2
 have Hkb1 := hid hkb
 have HC := hid hc
 have HCe := hid hce
 have HZ := hid hz
 have Hda := hid hda
 have Hmx := hid hmx
 clear h hc hce hz hfi hkb hkb2 hmx
 by_cases hk1 : kind = 1
 ·have b1 : (kind != 1) = false := by simp [hk1]
  have b2 : (kind == 1) = true := by simp [hk1]
  have Hk1 := hid hk1
  clear hk1 hkd
  go_enter Tryz.func67, Tryz.ntmps67
  go_upto_region 2 with fail
  have HS := H0
  have k0 := (cell_of_block H0.out.box 0).trans rfl
  go_upto_region 3 with (first
   | (go_at_call 93; refine (nb_byte HS.out kb _ Hkb.out (by simp)).mono ?_; rintro e wq ⟨rfl, hs, -⟩; have HS := hid hs; clear hs)
   | go_in)
  obtain ⟨c0, c1, c2, c3⟩ := cells4' HS.out.box
  clear k0
  go_upto_region 4 with (first
   | (go_at_call 94; refine (N2.out _).mono ?_; rintro e wq ⟨rfl, hb⟩; have HS := hid (HS.out.below hb); clear hb)
   | (go_at_call 88; refine (nb_str HS.out _ (by simp) (by simp)).mono ?_; rintro e wq ⟨rfl, hs, -⟩; have HS := hid hs; clear hs)
   | go_in)
  clear c0 c1 c2 c3
  obtain ⟨c0, c1, c2, c3⟩ := cells4' HS.out.box
  obtain ⟨P0, hP0⟩ : ∃ P0, P0 = ([] ++ [kb] ++ [byt (mx / 256), byt (mx % 256)]) := ⟨_, rfl⟩
  have HS0 := HS.out
  rw [← hP0] at HS0
  have hPl : P0.length ≤ 7 := by rw [hP0]; simp [four_length]
  have HPl := hid hPl
  have HP0 := hid hP0
  have HS := hid HS0
  clear HS0 hP0 hPl
  go_wp2_with fail
  clear c0 c1 c2 c3
  go_loopw [28] (fun v28 wr => ∃ j : Nat, j ≤ z ∧ v28 = .int .i64 (j : Int) ∧ NbSt w wr #[.int .u8 kind, .int .i64 F0, .slice ao z cap, .string (bs D)] (P0 ++ (L.take j).flatMap (ncellL kind))) (fun v28 _ => z - (intOf v28).toNat)
  case atStart => exact ⟨0, Nat.zero_le _, rfl, by simpa using HS.out⟩
  case round =>
   obtain ⟨j, hj, rfl, hst⟩ := hrel
   by_cases hjz : j < z
   ·have hjl : j < L.length := by have := HZ.out; omega
    obtain ⟨q, o, hao, hq, d0, d1, d2, d3⟩ := HC.out j hjl
    subst hao
    have e0 := (hst.bel.cell (p := ⟨q, o + j * 4, none⟩) hq).trans d0
    have e1 := (hst.bel.cell (p := ⟨q, o + j * 4 + 1, none⟩) hq).trans d1
    have e2 := (hst.bel.cell (p := ⟨q, o + j * 4 + 2, none⟩) hq).trans d2
    have e3 := (hst.bel.cell (p := ⟨q, o + j * 4 + 3, none⟩) hq).trans d3
    have hck := HCe.out _ (List.getElem_mem hjl)
    have htk : P0 ++ (L.take (j + 1)).flatMap (ncellL kind) = (P0 ++ (L.take j).flatMap (ncellL kind)) ++ ncellL kind L[j] := by
     rw [List.take_succ_eq_append_getElem hjl, List.flatMap_append, List.append_assoc]
     simp
    have hAl : (P0 ++ (L.take j).flatMap (ncellL kind)).length ≤ 20000000 := by
     have h1 := ncsL_len (L.take j) (fun c hc => HCe.out c (List.mem_of_mem_take hc))
     have h2 : (L.take j).length ≤ 65535 := by rw [List.length_take]; omega
     have h3 := HPl.out
     rw [List.length_append]
     omega
    obtain ⟨A, hA⟩ : ∃ A, A = P0 ++ (L.take j).flatMap (ncellL kind) := ⟨_, rfl⟩
    rw [← hA] at hst htk hAl
    obtain ⟨c, hc⟩ : ∃ c, c = L[j] := ⟨_, rfl⟩
    rw [← hc] at e0 e1 e2 e3 hck htk
    obtain ⟨K, S, Lc, P⟩ := c
    dsimp only at e0 e1 e2 e3
    have HTk := hid htk
    have Hck := hid hck
    have HAl := hid hAl
    have hKl := hck.key
    have hPg := hck.page
    dsimp only at hKl hPg
    obtain ⟨hsz, hlc⟩ := hck.size Hk1.out
    dsimp only at hsz hlc
    have hwk : IntKind.u8.wrap (K.length : Int) = (K.length : Int) := by rw [IntWalk.u8_in _ (by omega)]
    have hj9 : (j : Int) < 9223372036854775807 := by omega
    have hjN : (j : Int) < (z : Int) := by omega
    have hwj : IntKind.i64.wrap ((j : Int) + 1) = (j : Int) + 1 := IntWalk.i64_in _ (by omega)
    have Hjz := hid hjz
    have HKb := hid (show (K.length : Int) = ((byt (K.length : Int)).toNat : Int) from (byt_int _ (by omega) (by omega)).symm)
    have HL0 := hid (show A.length ≤ 70368744177664 by omega)
    have HL1 := hid (show (A ++ [byt (K.length : Int)]).length ≤ 70368744177664 by simp; omega)
    have HL2 := hid (show (A ++ [byt (K.length : Int)] ++ K).length ≤ 70368744177664 by simp; omega)
    have HL3 := hid (show (A ++ [byt (K.length : Int)] ++ K ++ (byt (S / 256) :: byt (S % 256) :: Lc)).length ≤ 70368744177664 by simp [two]; omega)
    have HKl := hid (show K.length ≤ 1099511627800 by omega)
    have HP4 := hid (fun W => number4_any P hPg.1 (by omega) W)
    have N2S := hid (fun W => number2_any S (by omega) (by omega) W)
    have HLs := hid (show (byt (S / 256) :: byt (S % 256) :: Lc).length ≤ 1099511627800 by simp [two]; omega)
    have hcat : ¬ (9223372036854775807 < 2 + Lc.length) := by omega
    have Hqs := hid (Nat.lt_of_lt_of_le hq hst.bel.size)
    have HSr := hid hst
    clear hst hq d0 d1 d2 d3 hck htk hAl hA hc hjl hj hjz hKl hsz hlc
    go_upto_region 9 with fail
    have hbx := heap_alloc_new wr (.cells #[.string (bs K), .int .i64 S, .string (bs Lc), .int .i64 P] 133)
    have hbl := (Below.refl wr.heap.size wr).alloc (Nat.le_refl _) (.cells #[.string (bs K), .int .i64 S, .string (bs Lc), .int .i64 P] 133)
    obtain ⟨wx, hwx⟩ : ∃ wx, wx = wr.alloc (.cells #[.string (bs K), .int .i64 S, .string (bs Lc), .int .i64 P] 133) := ⟨_, rfl⟩
    obtain ⟨bx, hbxe⟩ : ∃ bx, bx = wr.heap.size := ⟨_, rfl⟩
    have hb1 : bx ≠ w.heap.size + 1 := by rw [hbxe]; exact Nat.ne_of_gt HSr.out.sz
    rw [← hwx, ← hbxe] at hbx
    rw [← hwx] at hbl
    rw [← hwx, ← hbxe]
    have HS := hid (HSr.out.below hbl)
    have HBx := hid hbx
    have Hbx1 := hid hb1
    obtain ⟨y0, y1, y2, y3⟩ := cells4' hbx
    clear hwx hbxe hbx hbl hb1 e0 e1 e2 e3
    go_upto_region 10 with (first
     | (go_at_call 93; refine (nb_byte HS.out (byt (K.length : Int)) _ HKb.out HL0.out).mono ?_; rintro e wq ⟨rfl, hs, hkp⟩; have HS := hid hs; have HBx := hid (hkp bx _ Hbx1.out HBx.out); clear hs hkp)
     | go_in)
    clear y0 y1 y2 y3
    obtain ⟨y0, y1, y2, y3⟩ := cells4' HBx.out
    go_upto_region 11 with (first
     | (go_at_call 88; refine (nb_str HS.out K HL1.out HKl.out).mono ?_; rintro e wy ⟨rfl, hs, hkp⟩; have HS := hid hs; have HBx := hid (hkp bx _ Hbx1.out HBx.out); clear hs hkp)
     | go_in)
    clear y0 y1 y2 y3
    obtain ⟨y0, y1, y2, y3⟩ := cells4' HBx.out
    obtain ⟨c0, c1, c2, c3⟩ := cells4' HS.out.box
    go_upto_region 12 with fail
    refine wp_region_held_drew (S := fun W2 => W2.cell? ⟨bx, 1, none⟩ = some (.int .i64 S) ∧ W2.cell? ⟨bx, 2, none⟩ = some (.string (bs Lc))) (by kernel_rfl) ⟨y1, y2⟩ (fun hHeld => ?_)
    clear y0 y1 y2 y3 c0 c1 c2 c3
    refine held_take (v := ?av0) 0 rfl (by kernel_rfl) (by kernel_rfl) (by kernel_rfl) (fun _ _ _ h => h) (by rfl) hHeld ?ay0 ?ar0
    case ay0 => (intro W hSw; obtain ⟨y0, y1⟩ := hSw; go_simp; with_reducible rfl)
    simp only [Act.put, List.setIfInBounds_toArray, List.set_cons_zero, List.set_cons_succ]
    refine held_take (v := ?av1) 1 rfl (by kernel_rfl) (by kernel_rfl) (by kernel_rfl) (fun _ _ _ h => h) (by rfl) hHeld ?ay1 ?ar1
    case ay1 => (intro W hSw; obtain ⟨y0, y1⟩ := hSw; go_simp; with_reducible rfl)
    simp only [Act.put, List.setIfInBounds_toArray, List.set_cons_zero, List.set_cons_succ]
    refine held_take (v := ?av3) 3 rfl (by kernel_rfl) (by kernel_rfl) (by kernel_rfl) (fun _ _ _ h => h) (by rfl) hHeld ?ay3 ?ar3
    case ay3 => (intro W hSw; obtain ⟨y0, y1⟩ := hSw; go_simp; with_reducible rfl)
    simp only [Act.put, List.setIfInBounds_toArray, List.set_cons_zero, List.set_cons_succ]
    refine held_take (v := ?av4) 4 rfl (by kernel_rfl) (by kernel_rfl) (by kernel_rfl) (fun _ _ _ h => h) (by rfl) hHeld ?ay4 ?ar4
    case ay4 => (intro W hSw; obtain ⟨y0, y1⟩ := hSw; go_simp; with_reducible rfl)
    simp only [Act.put, List.setIfInBounds_toArray, List.set_cons_zero, List.set_cons_succ]
    refine held_one 2 (by kernel_rfl) rfl (fun K hK => ?_)
    go_simp
    refine (N2S.out _).mono ?_
    rintro e wq ⟨rfl, hb⟩
    have hbq : Below wy.heap.size wy wq := (Below.refl wy.heap.size wy).drew.trans hb
    have HS := hid (HS.out.below hbq)
    have HBx := hid ((hbq.block bx (lt_of_block HBx.out)).trans HBx.out)
    clear hb hbq
    try dsimp only
    refine hK.out _ _ (⟨(cell_of_block HBx.out 1).trans rfl, (cell_of_block HBx.out 2).trans rfl⟩) (fun hHeld => ?_)
    clear hK K
    try simp only [Act.put, List.setIfInBounds_toArray, List.set_cons_zero, List.set_cons_succ]
    refine held_take (v := ?aqv5) 5 rfl (by kernel_rfl) (by kernel_rfl) (by kernel_rfl) (fun _ _ _ h => h) (by rfl) hHeld ?aqy5 ?aqr5
    case aqy5 => (intro W hSw; obtain ⟨y0, y1⟩ := hSw; go_simp; with_reducible rfl)
    simp only [Act.put, List.setIfInBounds_toArray, List.set_cons_zero, List.set_cons_succ]
    refine held_one 6 (by kernel_rfl) rfl (fun K hK => ?_)
    go_simp
    refine (nb_str HS.out (byt (S / 256) :: byt (S % 256) :: Lc) HL2.out HLs.out).mono ?_
    rintro e wq2 ⟨rfl, hs, hkp⟩
    have HS := hid hs
    have HBx := hid (hkp bx _ Hbx1.out HBx.out)
    clear hs hkp
    try dsimp only
    refine hK.out _ _ (⟨(cell_of_block HBx.out 1).trans rfl, (cell_of_block HBx.out 2).trans rfl⟩) (fun hHeld => ?_)
    clear hK K
    try simp only [Act.put, List.setIfInBounds_toArray, List.set_cons_zero, List.set_cons_succ]
    clear hHeld
    refine wpAnyH_done (by kernel_rfl) ?_ _
    obtain ⟨y0, y1, y2, y3⟩ := cells4' HBx.out
    obtain ⟨c0, c1, c2, c3⟩ := cells4' HS.out.box
    by_cases hp0 : 0 < P
    ·have bp : decide (0 < P) = true := by simpa using hp0
     have HFin := hid (show A ++ ncellL kind ⟨K, S, Lc, P⟩ = A ++ [byt (K.length : Int)] ++ K ++ (byt (S / 256) :: byt (S % 256) :: Lc) ++ four P by unfold ncellL two; dsimp only; rw [if_pos hp0, if_pos Hk1.out]; simp)
     clear hp0 hPg
     go_wp2_with (first
      | (go_at_call 94; refine (HP4.out _).mono ?_; rintro e wz ⟨rfl, hb⟩; have HS := hid (HS.out.below hb); clear hb)
      | (go_at_call 88; refine (nb_str HS.out (four P) HL3.out (by simp [four_length])).mono ?_; rintro e wz2 ⟨rfl, hs, -⟩; have HS := hid hs; clear hs)
      | go_in)
     go_roundw
     case rel => exact ⟨j + 1, Hjz.out, by simp, by rw [HTk.out, HFin.out]; exact HS.out⟩
     case measure => (have := Hjz.out; (simp [intOf]) <;> omega)
    ·have bp : decide (0 < P) = false := by simpa using hp0
     have HFin := hid (show A ++ ncellL kind ⟨K, S, Lc, P⟩ = A ++ [byt (K.length : Int)] ++ K ++ (byt (S / 256) :: byt (S % 256) :: Lc) by unfold ncellL two; dsimp only; rw [if_neg hp0, if_pos Hk1.out]; simp)
     clear hp0 hPg
     go_wp2_with fail
     go_roundw
     case rel => exact ⟨j + 1, Hjz.out, by simp, by rw [HTk.out, HFin.out]; exact HS.out⟩
     case measure => (have := Hjz.out; (simp [intOf]) <;> omega)
   ·obtain rfl : z = j := by omega
    have hgo : ¬ z < z := Nat.lt_irrefl z
    have HLz := hid (show (P0 ++ (L.take z).flatMap (ncellL kind)).length ≤ 70368744177664 by
     have h1 := ncsL_len (L.take z) (fun c hc => HCe.out c (List.mem_of_mem_take hc))
     have h2 : (L.take z).length ≤ 65535 := by rw [List.length_take]; omega
     have h3 := HPl.out
     rw [List.length_append]
     omega)
    have HS := hid hst
    have HDl := hid (show D.length ≤ 1099511627800 by have := Hda.out; omega)
    have HTz := hid (show L.take z = L from List.take_of_length_le (by rw [HZ.out]; exact Nat.le_refl _))
    obtain ⟨c0, c1, c2, c3⟩ := cells4' HS.out.box
    clear hst hjz hj
    go_wp2_with (first
     | (go_at_call 88; refine (nb_str HS.out D HLz.out HDl.out).mono ?_; rintro e wz ⟨rfl, hs, -⟩; have HS := hid hs; clear hs)
     | (go_at_call 90; refine (nb_end HS.out).mono ?_; rintro e wz2 ⟨rfl, hb⟩; have HE := hid hb; clear hb)
     | go_in)
    go_ret
    refine ⟨?_, HE.out⟩
    rw [HTz.out, HP0.out, Hkb1.out]
    unfold nbytesL two
    dsimp only
    rw [if_pos Hk1.out, ← HZ.out, ← Hmx.out]
    simp
 ·have b1 : (kind != 1) = true := by simp [hk1]
  have b2 : (kind == 1) = false := by simp [hk1]
  have Hk1 := hid hk1
  clear hk1 hkd
  go_enter Tryz.func67, Tryz.ntmps67
  go_upto_region 2 with fail
  have HS := H0
  have k0 := (cell_of_block H0.out.box 0).trans rfl
  go_upto_region 3 with (first
   | (go_at_call 93; refine (nb_byte HS.out kb _ Hkb.out (by simp)).mono ?_; rintro e wq ⟨rfl, hs, -⟩; have HS := hid hs; clear hs)
   | go_in)
  obtain ⟨c0, c1, c2, c3⟩ := cells4' HS.out.box
  clear k0
  go_upto_region 4 with (first
   | (go_at_call 94; refine (N2.out _).mono ?_; rintro e wq ⟨rfl, hb⟩; have HS := hid (HS.out.below hb); clear hb)
   | (go_at_call 88; refine (nb_str HS.out _ (by simp) (by simp)).mono ?_; rintro e wq ⟨rfl, hs, -⟩; have HS := hid hs; clear hs)
   | go_in)
  clear c0 c1 c2 c3
  obtain ⟨c0, c1, c2, c3⟩ := cells4' HS.out.box
  go_upto_region 6 with (first
   | (go_at_call 94; refine (N4.out _).mono ?_; rintro e wq ⟨rfl, hb⟩; have HS := hid (HS.out.below hb); clear hb)
   | (go_at_call 88; refine (nb_str HS.out _ (by simp) (by simp [four_length])).mono ?_; rintro e wq ⟨rfl, hs, -⟩; have HS := hid hs; clear hs)
   | go_in)
  clear c0 c1 c2 c3
  obtain ⟨c0, c1, c2, c3⟩ := cells4' HS.out.box
  obtain ⟨P0, hP0⟩ : ∃ P0, P0 = ([] ++ [kb] ++ [byt (mx / 256), byt (mx % 256)] ++ four F0) := ⟨_, rfl⟩
  have HS0 := HS.out
  rw [← hP0] at HS0
  have hPl : P0.length ≤ 7 := by rw [hP0]; simp [four_length]
  have HPl := hid hPl
  have HP0 := hid hP0
  have HS := hid HS0
  clear HS0 hP0 hPl
  go_wp2_with fail
  clear c0 c1 c2 c3
  go_loopw [28] (fun v28 wr => ∃ j : Nat, j ≤ z ∧ v28 = .int .i64 (j : Int) ∧ NbSt w wr #[.int .u8 kind, .int .i64 F0, .slice ao z cap, .string (bs D)] (P0 ++ (L.take j).flatMap (ncellL kind))) (fun v28 _ => z - (intOf v28).toNat)
  case atStart => exact ⟨0, Nat.zero_le _, rfl, by simpa using HS.out⟩
  case round =>
   obtain ⟨j, hj, rfl, hst⟩ := hrel
   by_cases hjz : j < z
   ·have hjl : j < L.length := by have := HZ.out; omega
    obtain ⟨q, o, hao, hq, d0, d1, d2, d3⟩ := HC.out j hjl
    subst hao
    have e0 := (hst.bel.cell (p := ⟨q, o + j * 4, none⟩) hq).trans d0
    have e1 := (hst.bel.cell (p := ⟨q, o + j * 4 + 1, none⟩) hq).trans d1
    have e2 := (hst.bel.cell (p := ⟨q, o + j * 4 + 2, none⟩) hq).trans d2
    have e3 := (hst.bel.cell (p := ⟨q, o + j * 4 + 3, none⟩) hq).trans d3
    have hck := HCe.out _ (List.getElem_mem hjl)
    have htk : P0 ++ (L.take (j + 1)).flatMap (ncellL kind) = (P0 ++ (L.take j).flatMap (ncellL kind)) ++ ncellL kind L[j] := by
     rw [List.take_succ_eq_append_getElem hjl, List.flatMap_append, List.append_assoc]
     simp
    have hAl : (P0 ++ (L.take j).flatMap (ncellL kind)).length ≤ 20000000 := by
     have h1 := ncsL_len (L.take j) (fun c hc => HCe.out c (List.mem_of_mem_take hc))
     have h2 : (L.take j).length ≤ 65535 := by rw [List.length_take]; omega
     have h3 := HPl.out
     rw [List.length_append]
     omega
    obtain ⟨A, hA⟩ : ∃ A, A = P0 ++ (L.take j).flatMap (ncellL kind) := ⟨_, rfl⟩
    rw [← hA] at hst htk hAl
    obtain ⟨c, hc⟩ : ∃ c, c = L[j] := ⟨_, rfl⟩
    rw [← hc] at e0 e1 e2 e3 hck htk
    obtain ⟨K, S, Lc, P⟩ := c
    dsimp only at e0 e1 e2 e3
    have HTk := hid htk
    have Hck := hid hck
    have HAl := hid hAl
    have hKl := hck.key
    have hPg := hck.page
    dsimp only at hKl hPg
    have hwk : IntKind.u8.wrap (K.length : Int) = (K.length : Int) := by rw [IntWalk.u8_in _ (by omega)]
    have hj9 : (j : Int) < 9223372036854775807 := by omega
    have hjN : (j : Int) < (z : Int) := by omega
    have hwj : IntKind.i64.wrap ((j : Int) + 1) = (j : Int) + 1 := IntWalk.i64_in _ (by omega)
    have Hjz := hid hjz
    have HKb := hid (show (K.length : Int) = ((byt (K.length : Int)).toNat : Int) from (byt_int _ (by omega) (by omega)).symm)
    have HL0 := hid (show A.length ≤ 70368744177664 by omega)
    have HL1 := hid (show (A ++ [byt (K.length : Int)]).length ≤ 70368744177664 by simp; omega)
    have HL2 := hid (show (A ++ [byt (K.length : Int)] ++ K).length ≤ 70368744177664 by simp; omega)
    have HL3 := hid (show (A ++ [byt (K.length : Int)] ++ K).length ≤ 70368744177664 by simp [two]; omega)
    have HKl := hid (show K.length ≤ 1099511627800 by omega)
    have HP4 := hid (fun W => number4_any P hPg.1 (by omega) W)
    have Hqs := hid (Nat.lt_of_lt_of_le hq hst.bel.size)
    have HSr := hid hst
    clear hst hq d0 d1 d2 d3 hck htk hAl hA hc hjl hj hjz hKl
    go_upto_region 9 with fail
    have hbx := heap_alloc_new wr (.cells #[.string (bs K), .int .i64 S, .string (bs Lc), .int .i64 P] 133)
    have hbl := (Below.refl wr.heap.size wr).alloc (Nat.le_refl _) (.cells #[.string (bs K), .int .i64 S, .string (bs Lc), .int .i64 P] 133)
    obtain ⟨wx, hwx⟩ : ∃ wx, wx = wr.alloc (.cells #[.string (bs K), .int .i64 S, .string (bs Lc), .int .i64 P] 133) := ⟨_, rfl⟩
    obtain ⟨bx, hbxe⟩ : ∃ bx, bx = wr.heap.size := ⟨_, rfl⟩
    have hb1 : bx ≠ w.heap.size + 1 := by rw [hbxe]; exact Nat.ne_of_gt HSr.out.sz
    rw [← hwx, ← hbxe] at hbx
    rw [← hwx] at hbl
    rw [← hwx, ← hbxe]
    have HS := hid (HSr.out.below hbl)
    have HBx := hid hbx
    have Hbx1 := hid hb1
    obtain ⟨y0, y1, y2, y3⟩ := cells4' hbx
    clear hwx hbxe hbx hbl hb1 e0 e1 e2 e3
    go_upto_region 10 with (first
     | (go_at_call 93; refine (nb_byte HS.out (byt (K.length : Int)) _ HKb.out HL0.out).mono ?_; rintro e wq ⟨rfl, hs, hkp⟩; have HS := hid hs; have HBx := hid (hkp bx _ Hbx1.out HBx.out); clear hs hkp)
     | go_in)
    clear y0 y1 y2 y3
    obtain ⟨y0, y1, y2, y3⟩ := cells4' HBx.out
    go_upto_region 11 with (first
     | (go_at_call 88; refine (nb_str HS.out K HL1.out HKl.out).mono ?_; rintro e wy ⟨rfl, hs, hkp⟩; have HS := hid hs; have HBx := hid (hkp bx _ Hbx1.out HBx.out); clear hs hkp)
     | go_in)
    clear y0 y1 y2 y3
    obtain ⟨y0, y1, y2, y3⟩ := cells4' HBx.out
    obtain ⟨c0, c1, c2, c3⟩ := cells4' HS.out.box
    by_cases hp0 : 0 < P
    ·have bp : decide (0 < P) = true := by simpa using hp0
     have HFin := hid (show A ++ ncellL kind ⟨K, S, Lc, P⟩ = A ++ [byt (K.length : Int)] ++ K ++ four P by unfold ncellL two; dsimp only; rw [if_pos hp0, if_neg Hk1.out]; simp)
     clear hp0 hPg
     go_wp2_with (first
      | (go_at_call 94; refine (HP4.out _).mono ?_; rintro e wz ⟨rfl, hb⟩; have HS := hid (HS.out.below hb); clear hb)
      | (go_at_call 88; refine (nb_str HS.out (four P) HL3.out (by simp [four_length])).mono ?_; rintro e wz2 ⟨rfl, hs, -⟩; have HS := hid hs; clear hs)
      | go_in)
     go_roundw
     case rel => exact ⟨j + 1, Hjz.out, by simp, by rw [HTk.out, HFin.out]; exact HS.out⟩
     case measure => (have := Hjz.out; (simp [intOf]) <;> omega)
    ·have bp : decide (0 < P) = false := by simpa using hp0
     have HFin := hid (show A ++ ncellL kind ⟨K, S, Lc, P⟩ = A ++ [byt (K.length : Int)] ++ K by unfold ncellL two; dsimp only; rw [if_neg hp0, if_neg Hk1.out]; simp)
     clear hp0 hPg
     go_wp2_with fail
     go_roundw
     case rel => exact ⟨j + 1, Hjz.out, by simp, by rw [HTk.out, HFin.out]; exact HS.out⟩
     case measure => (have := Hjz.out; (simp [intOf]) <;> omega)
   ·obtain rfl : z = j := by omega
    have hgo : ¬ z < z := Nat.lt_irrefl z
    have HLz := hid (show (P0 ++ (L.take z).flatMap (ncellL kind)).length ≤ 70368744177664 by
     have h1 := ncsL_len (L.take z) (fun c hc => HCe.out c (List.mem_of_mem_take hc))
     have h2 : (L.take z).length ≤ 65535 := by rw [List.length_take]; omega
     have h3 := HPl.out
     rw [List.length_append]
     omega)
    have HS := hid hst
    have HDl := hid (show D.length ≤ 1099511627800 by have := Hda.out; omega)
    have HTz := hid (show L.take z = L from List.take_of_length_le (by rw [HZ.out]; exact Nat.le_refl _))
    obtain ⟨c0, c1, c2, c3⟩ := cells4' HS.out.box
    clear hst hjz hj
    go_wp2_with (first
     | (go_at_call 88; refine (nb_str HS.out D HLz.out HDl.out).mono ?_; rintro e wz ⟨rfl, hs, -⟩; have HS := hid hs; clear hs)
     | (go_at_call 90; refine (nb_end HS.out).mono ?_; rintro e wz2 ⟨rfl, hb⟩; have HE := hid hb; clear hb)
     | go_in)
    go_ret
    refine ⟨?_, HE.out⟩
    rw [HTz.out, HP0.out, Hkb1.out]
    unfold nbytesL two
    dsimp only
    rw [if_neg Hk1.out, ← HZ.out, ← Hmx.out]
    simp
end
end Go.Proofs.YtlkkclooihjpiaaGreat
