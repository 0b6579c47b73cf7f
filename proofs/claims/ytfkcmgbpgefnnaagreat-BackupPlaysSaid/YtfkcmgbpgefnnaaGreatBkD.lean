import Derived.Test.YtfkcmgbpgefnnaaGreatBld
import Derived.Test.YtfkcmgbpgefnnaaGreatDkM
set_option linter.unusedVariables false
set_option linter.unusedSimpArgs false
namespace Go.Proofs.YtfkcmgbpgefnnaaGreat
open Go.RowKit Go.Maps
set_option maxRecDepth 20000
def lidL : List UInt8 := [117, 110, 102, 105, 110, 105, 115, 104, 101, 100] ++ zeros 502
def sizeM (d : Dsk) (f : Int) : Int := if 0 ≤ f ∧ f < 8 then ((d.now f.toNat).length : Int) else 0
def bcutM (f n : Int) (d : Dsk) : Int × Dsk := if sizeM d f ≤ n then (0, d) else cutM d f n
def bseqM : List (Dsk → Int × Dsk) → Dsk → Int × Dsk
 | [], d => (0, d)
 | m :: r, d => if (m d).1 ≠ 0 then m d else bseqM r (m d).2
def emptyLogM (d : Dsk) : Int × Dsk := if sizeM d 1 = 0 then (0, d) else bseqM [bcutM 1 0, fun d => syncM d 1] d
def bstepsM : List (Dsk → Int × Dsk) := [fun d => writeM d 0 0 lidL, bcutM 0 8, fun d => syncM d 0, emptyLogM]
set_option maxHeartbeats 1000000 in
theorem bsteps_gen {W : World} (vs : List Value) (hn : vs.length ≤ 1000) (q cap : Nat) (P : Nat → World → Prop) (Q : Int → World → Prop)
  (hrow : ∀ i Wi, P i Wi → ∀ j v, vs[j]? = some v → Wi.cell? ⟨q, j, none⟩ = some v)
  (hdo : ∀ i v, vs[i]? = some v → ∃ k a c, v = .func (.func k) a c ∧ (∀ args w, (callFunc k args).run Tryz.prog w = .ok (.enter k args) w) ∧ ∀ Wi, P i Wi → Calls Tryz.prog k (a ++ c) Wi fun e W' => ∃ r : Int, e = .returned (.int .i64 r) ∧ (r = 0 → P (i + 1) W') ∧ (r ≠ 0 → Q r W'))
  (h0 : P 0 W) : Calls Tryz.prog 40 #[.slice (some ⟨q, 0, none⟩) vs.length cap] W fun e w' => ∃ r : Int, e = .returned (.int .i64 r) ∧ (r = 0 → P vs.length w') ∧ (r ≠ 0 → Q r w') := by
 obtain ⟨z, hz⟩ : ∃ z, z = vs.length := ⟨_, rfl⟩
 rw [← hz] at hn ⊢
 have Hz := hid hz
 have Hrow := hid hrow
 have Hdo := hid hdo
 have H0 := hid h0
 clear hz hrow hdo h0
 go_enter Tryz.func40, Tryz.ntmps40
 go_wp2_with fail
 go_loopw [8] (fun v8 wr => ∃ i : Nat, i ≤ z ∧ v8 = .int .i64 (i : Int) ∧ P i wr) (fun v8 _ => z - (intOf v8).toNat)
 case atStart => exact ⟨0, Nat.zero_le _, rfl, H0.out⟩
 case round =>
  obtain ⟨i, hi, rfl, hp⟩ := hrel
  have Hp := hid hp
  clear hp
  by_cases hlt : i < z
  ·have hi2 : i < vs.length := by have := Hz.out; omega
   obtain ⟨k, a, c, hv, hen, hcall⟩ := Hdo.out i _ (List.getElem?_eq_getElem hi2)
   have hci : wr.cell? ⟨q, i, none⟩ = some (.func (.func k) a c) := by
    rw [← hv]
    exact Hrow.out i _ Hp.out i _ (List.getElem?_eq_getElem hi2)
   have HC := hid hcall
   clear hcall hv hi2
   go_upto_region 5 with (first
    | (refine (HC.out _ Hp.out).mono ?_; rintro e1 w1 ⟨r, rfl, h1, h2⟩; have H1 := hid h1; have H2 := hid h2; clear h1 h2)
    | go_in)
   by_cases he : r = 0
   ·have he0 : (r != 0) = false := by simp [he]
    have e3 : ((i + 1 : Nat) : Int) = (i : Int) + 1 := by omega
    have H3 := hid (H1.out he)
    clear he
    go_wp2_with fail
    go_roundw
    case rel => exact ⟨i + 1, by omega, by simp, H3.out⟩
    case measure => (simp [intOf]) <;> omega
   ·have he0 : (r != 0) = true := by simp [he]
    have H3 := hid (H2.out he)
    have He := hid he
    clear he
    go_wp2_with fail
    go_ret
    exact ⟨r, rfl, fun e => absurd e He.out, fun _ => H3.out⟩
  ·obtain rfl : i = z := by omega
   go_wp2_with fail
   go_ret
   exact ⟨0, rfl, fun _ => Hp.out, fun e => absurd rfl e⟩
def DDoes (B : Nat) (W : World) (db : Nat) (v : Value) (m : Dsk → Int × Dsk) (Bx : List Nat) : Prop :=
 ∃ k a c, v = .func (.func k) a c ∧ (∀ args w, (callFunc k args).run Tryz.prog w = .ok (.enter k args) w) ∧ (∀ x ∈ Bx, x < W.heap.size) ∧
  ∀ W' F d N, (∀ x ∈ Bx, W'.heap[x]? = W.heap[x]?) → (∀ x ∈ Bx, ¬ F.own x) → DiskAt W' db F d → d.Small N → N + B ≤ 1099511527776 →
   (m d).2.Small (N + 32768) ∧ Calls Tryz.prog k (a ++ c) W' fun e w' => e = .returned (.int .i64 (m d).1) ∧ Did W' db F (m d).2 w'
theorem DDoes.up {B B' : Nat} {W : World} {db : Nat} {v : Value} {m : Dsk → Int × Dsk} {Bx : List Nat} (h : DDoes B W db v m Bx) (hb : B ≤ B') : DDoes B' W db v m Bx := by
 obtain ⟨k, a, c, h1, h2, h3, h4⟩ := h
 exact ⟨k, a, c, h1, h2, h3, fun W2 F d N hk ho hd hs hN => h4 W2 F d N hk ho hd hs (by omega)⟩
theorem DDoes.below {B : Nat} {W W' : World} {db : Nat} {v : Value} {m : Dsk → Int × Dsk} {Bx : List Nat} (h : DDoes B W db v m Bx) (hb : Below W.heap.size W W') : DDoes B W' db v m Bx := by
 obtain ⟨k, a, c, h1, h2, h3, h4⟩ := h
 exact ⟨k, a, c, h1, h2, fun x hx => Nat.lt_of_lt_of_le (h3 x hx) hb.size, fun W2 F d N hk => h4 W2 F d N fun x hx => (hk x hx).trans (hb.block x (h3 x hx))⟩
theorem Did.then {W W' W2 : World} {db : Nat} {F F' : Foot} {d2 : Dsk} (hs : FootStep F F' W W') (h : Did W' db F' d2 W2) : Did W db F d2 W2 := by
 obtain ⟨F2, h1, h2⟩ := h
 exact ⟨F2, h1, hs.trans h2⟩
set_option maxHeartbeats 1000000 in
theorem bseq_any {B : Nat} {W : World} {db : Nat} {F : Foot} {d : Dsk} (vs : List Value) (ms : List (Dsk → Int × Dsk)) (Bs : List Nat) (hlen : vs.length = ms.length) (hn : vs.length ≤ 4) (q cap N : Nat) (hd : DiskAt W db F d) (hs : d.Small N) (hN : N + 131072 + B ≤ 1099511527776)
  (hrow : ∀ j v, vs[j]? = some v → W.cell? ⟨q, j, none⟩ = some v) (hq : q < W.heap.size) (hqo : ¬ F.own q) (hBo : ∀ x ∈ Bs, ¬ F.own x)
  (hdo : ∀ (i : Nat) v m, vs[i]? = some v → ms[i]? = some m → DDoes B W db v m Bs) :
  Calls Tryz.prog 40 #[.slice (some ⟨q, 0, none⟩) vs.length cap] W fun e w' => e = .returned (.int .i64 (bseqM ms d).1) ∧ Did W db F (bseqM ms d).2 w' := by
 refine (bsteps_gen vs (by omega) q cap (fun i Wi => ∃ F' d', i ≤ vs.length ∧ DiskAt Wi db F' d' ∧ FootStep F F' W Wi ∧ bseqM ms d = bseqM (ms.drop i) d' ∧ d'.Small (N + 32768 * i)) (fun r Wi => r = (bseqM ms d).1 ∧ Did W db F (bseqM ms d).2 Wi) ?_ ?_ ⟨F, d, Nat.zero_le _, hd, FootStep.refl _ _, rfl, hs⟩).mono ?_
 ·rintro i Wi ⟨F', d', hi, h1, h2, -⟩ j v hv
  rw [← hrow j v hv]
  unfold World.cell?
  rw [h2.frm.block q hq hqo]
 ·intro i v hv
  have hi2 : i < vs.length := (List.getElem?_eq_some_iff.1 hv).1
  have hi3 : i < ms.length := by omega
  obtain ⟨k, a, c, e1, e2, e3, e4⟩ := hdo i v ms[i] hv (List.getElem?_eq_getElem hi3)
  refine ⟨k, a, c, e1, e2, ?_⟩
  rintro Wi ⟨F', d', hi, h1, h2, h3, h4⟩
  have hx : ∀ x ∈ Bs, Wi.heap[x]? = W.heap[x]? := fun x hx => h2.frm.block x (e3 x hx) (hBo x hx)
  have ho : ∀ x ∈ Bs, ¬ F'.own x := fun x hx e => (h2.own x e).elim (hBo x hx) (fun e5 => by have := e3 x hx; omega)
  obtain ⟨s1, s2⟩ := e4 Wi F' d' (N + 32768 * i) hx ho h1 h4 (by omega)
  have hdrop : ms.drop i = ms[i] :: ms.drop (i + 1) := List.drop_eq_getElem_cons hi3
  rw [hdrop] at h3
  refine s2.mono ?_
  rintro e W2 ⟨rfl, hd2⟩
  refine ⟨_, rfl, fun hr => ?_, fun hr => ?_⟩
  ·obtain ⟨F2, g1, g2⟩ := hd2
   refine ⟨F2, _, by omega, g1, h2.trans g2, ?_, by rw [show N + 32768 * (i + 1) = N + 32768 * i + 32768 by omega]; exact s1⟩
   rw [h3]
   show (if _ then _ else _) = _
   rw [if_neg (by simpa using hr)]
  ·have h5 : bseqM ms d = ms[i] d' := by
    rw [h3]
    show (if _ then _ else _) = _
    rw [if_pos hr]
   rw [h5]
   exact ⟨rfl, Did.then h2 hd2⟩
 ·rintro e w' ⟨r, rfl, h1, h2⟩
  by_cases hr : r = 0
  ·obtain ⟨F', d', -, g1, g2, g3, -⟩ := h1 hr
   rw [hlen, List.drop_length] at g3
   rw [g3, hr]
   exact ⟨rfl, F', g1, g2⟩
  ·obtain ⟨g1, g2⟩ := h2 hr
   rw [g1]
   exact ⟨rfl, g2⟩
section
variable {W W' : World} {db : Nat} {F : Foot} {d : Dsk}
theorem DDoes.wider {B : Nat} {W : World} {db : Nat} {v : Value} {m : Dsk → Int × Dsk} {Bx By : List Nat} (h : DDoes B W db v m Bx) (hs : ∀ x ∈ Bx, x ∈ By) (hl : ∀ x ∈ By, x < W.heap.size) : DDoes B W db v m By := by
 obtain ⟨k, a, c, h1, h2, h3, h4⟩ := h
 exact ⟨k, a, c, h1, h2, hl, fun W2 F d N hk ho => h4 W2 F d N (fun x hx => hk x (hs x hx)) (fun x hx => ho x (hs x hx))⟩
theorem DDoes.lt {B : Nat} {W : World} {db : Nat} {v : Value} {m : Dsk → Int × Dsk} {Bx : List Nat} (h : DDoes B W db v m Bx) : ∀ x ∈ Bx, x < W.heap.size := by
 obtain ⟨k, a, c, h1, h2, h3, h4⟩ := h
 exact h3
def boxD (W : World) (x db : Nat) : Prop := W.heap[x]? = some (.cells #[.pointer (some ⟨db, 0, none⟩)] 30 (0, 0))
def boxI (W : World) (x : Nat) (n : Int) : Prop := W.heap[x]? = some (.cells #[.int .i64 n] 3 (0, 0))
theorem ddid_drew {d' : Dsk} (h : Did W.drew db F d' W') : Did W db F d' W' := by
 obtain ⟨F', h1, h2⟩ := h
 exact ⟨F', h1, ⟨⟨h2.frm.os, h2.frm.tape, h2.frm.output, h2.frm.size, h2.frm.block⟩, h2.own, h2.sh⟩⟩
theorem foot_below {W W' : World} (F : Foot) (hb : Below W.heap.size W W') : FootStep F F W W' := ⟨⟨hb.os, hb.tape, hb.output, hb.size, fun k hk _ => hb.block k hk⟩, fun _ h => .inl h, fun _ h => .inl h⟩
set_option maxHeartbeats 1000000 in
theorem cutc_any {x y z : Nat} {f n : Int} (hx : boxD W x db) (hy : boxI W y f) (hz : boxI W z n) (h : DiskAt W db F d) (hs : d.Small 1099511627776) :
  Calls Tryz.prog 75 #[.pointer (some ⟨x, 0, none⟩), .pointer (some ⟨y, 0, none⟩), .pointer (some ⟨z, 0, none⟩)] W fun e w' => e = .returned (.int .i64 (bcutM f n d).1) ∧ Did W db F (bcutM f n d).2 w' := by
 have c0 : W.cell? ⟨x, 0, none⟩ = some (.pointer (some ⟨db, 0, none⟩)) := (za hx 0).trans rfl
 have c1 : W.cell? ⟨y, 0, none⟩ = some (.int .i64 f) := (za hy 0).trans rfl
 have c2 : W.cell? ⟨z, 0, none⟩ = some (.int .i64 n) := (za hz 0).trans rfl
 have hD : DiskAt W.drew db F d := h.below ((Below.refl _ _).drew)
 have SZ := size_any hD f
 have CT := hid (cut_any hD f n hs)
 have DS := hid (Did.same hD)
 obtain ⟨R, hR⟩ : ∃ R, R = bcutM f n d := ⟨_, rfl⟩
 rw [← hR]
 unfold bcutM at hR
 obtain ⟨q, hq⟩ : ∃ q, q = sizeM d f := ⟨_, rfl⟩
 have hq2 : (if 0 ≤ f ∧ f < 8 then ((d.now f.toNat).length : Int) else 0) = q := hq.symm
 rw [hq2] at SZ
 rw [← hq] at hR
 have HR := hid hR
 replace SZ := hid SZ
 clear hx hy hz h hs hq hq2 hD hR
 have C0 := hid c0
 have C1 := hid c1
 have C2 := hid c2
 go_enter Tryz.func75, Tryz.ntmps75
 go_upto_region 1 with fail
 refine wp_region_held_drew (S := fun W2 => W2.cell? ⟨x, 0, none⟩ = some (.pointer (some ⟨db, 0, none⟩)) ∧ W2.cell? ⟨y, 0, none⟩ = some (.int .i64 f) ∧ W2.cell? ⟨z, 0, none⟩ = some (.int .i64 n)) (by kernel_rfl) ⟨c0, c1, c2⟩ (fun hHeld => ?_)
 clear c0 c1 c2
 refine ht 0 hHeld ?_
 refine ht 1 hHeld ?_
 refine ht 3 hHeld ?_
 refine held_one 2 (by kernel_rfl) rfl (fun K hK => ?_)
 go_simp
 refine (SZ.out).mono ?_
 rintro e w1 ⟨rfl, hw⟩
 obtain rfl := hw.symm
 try dsimp only
 refine hK.out _ _ (⟨C0.out, C1.out, C2.out⟩) (fun hHeld => ?_)
 clear hK K
 try simp only [Act.put, zl0, zl1, zl2]
 refine ht 4 hHeld ?_
 clear hHeld
 refine wpAnyH_done (by kernel_rfl) ?_ _
 have c0 : W.drew.cell? ⟨x, 0, none⟩ = some (.pointer (some ⟨db, 0, none⟩)) := C0.out
 have c1 : W.drew.cell? ⟨y, 0, none⟩ = some (.int .i64 f) := C1.out
 have c2 : W.drew.cell? ⟨z, 0, none⟩ = some (.int .i64 n) := C2.out
 by_cases hle : q ≤ n
 ·have b1 : decide (q ≤ n) = true := by simpa using hle
  have hR := HR.out
  rw [if_pos hle] at hR
  replace HR := hid hR
  have hnl : ¬ n < q := by omega
  clear hR hw
  go_wp2_with fail
  go_ret
  rw [HR.out]
  exact ⟨rfl, ddid_drew DS.out⟩
 ·have b1 : decide (q ≤ n) = false := by simpa using hle
  have hR := HR.out
  rw [if_neg hle] at hR
  replace HR := hid hR
  have hnl : n < q := by omega
  clear hR hw
  go_wp2_with (first
   | (go_at_call 76; refine (CT.out).mono ?_; rintro e w1 ⟨rfl, hd⟩; have HD := hid hd; clear hd)
   | go_in)
  go_ret
  rw [HR.out]
  exact ⟨rfl, ddid_drew HD.out⟩
theorem syncc_any {x y : Nat} {f : Int} (hx : boxD W x db) (hy : boxI W y f) (h : DiskAt W db F d) (hs : d.Small 1099511527776) :
  Calls Tryz.prog 77 #[.pointer (some ⟨x, 0, none⟩), .pointer (some ⟨y, 0, none⟩)] W fun e w' => e = .returned (.int .i64 (syncM d f).1) ∧ Did W db F (syncM d f).2 w' := by
 have c0 : W.cell? ⟨x, 0, none⟩ = some (.pointer (some ⟨db, 0, none⟩)) := (za hx 0).trans rfl
 have c1 : W.cell? ⟨y, 0, none⟩ = some (.int .i64 f) := (za hy 0).trans rfl
 have SY := hid (sync_any h f hs)
 clear hx hy h hs
 go_enter Tryz.func77, Tryz.ntmps77
 go_wp2_with (first
  | (go_at_call 78; refine (SY.out).mono ?_; rintro e w1 ⟨rfl, hd⟩; have HD := hid hd; clear hd)
  | go_in)
 go_ret
 exact ⟨rfl, HD.out⟩
theorem lid_any (W : World) : Calls Tryz.prog 74 #[] W fun e w' => e = .returned (.string (bs lidL)) ∧ Below W.heap.size W w' := by
 have RP := fun W => Tryz.strings_Repeat (bs [0]) 502 W (by omega) (by simp [bs_size])
 rw [show (bs [0]).data.toList = [0] from rfl, repeat_one] at RP
 have RP := hid RP
 have hfin : (⟨#[117, 110, 102, 105, 110, 105, 115, 104, 101, 100]⟩ : ByteArray) = bs [117, 110, 102, 105, 110, 105, 115, 104, 101, 100] := rfl
 have Hfin := hid (show lidL = [117, 110, 102, 105, 110, 105, 115, 104, 101, 100] ++ List.replicate 502 0 from rfl)
 go_enter Tryz.func74, Tryz.ntmps74
 go_wp2_with (first
  | (go_at_call 68; refine (RP.out _).mono ?_; rintro e w1 ⟨rfl, hb⟩; have HB := hid hb; clear hb)
  | go_in)
 go_ret
 refine ⟨?_, HB.out⟩
 rw [Hfin.out]
 rfl
set_option maxHeartbeats 1000000 in
theorem laysc_any {x : Nat} (hx : boxD W x db) (hxo : ¬ F.own x) (h : DiskAt W db F d) (hs : d.Small 1099511527776) :
  Calls Tryz.prog 72 #[.pointer (some ⟨x, 0, none⟩)] W fun e w' => e = .returned (.int .i64 (writeM d 0 0 lidL).1) ∧ Did W db F (writeM d 0 0 lidL).2 w' := by
 have c0 : W.cell? ⟨x, 0, none⟩ = some (.pointer (some ⟨db, 0, none⟩)) := (za hx 0).trans rfl
 have hD : DiskAt W.drew db F d := h.below ((Below.refl _ _).drew)
 have WR := hid (fun (W1 : World) (hb : Below W.drew.heap.size W.drew W1) => write_any (hD.below hb) 0 0 lidL hs (by decide))
 have HX := hid hx
 have hle : lidL.length ≤ 9223372036854775807 := by decide
 clear hx h hs hD
 obtain ⟨s, hsl⟩ : ∃ s, s = lidL := ⟨_, rfl⟩
 rw [← hsl] at WR hle ⊢
 have LD := fun W => lid_any W
 rw [← hsl] at LD
 have LD := hid LD
 clear hsl
 go_enter Tryz.func72, Tryz.ntmps72
 go_upto_region 1 with fail
 refine wp_region_held_drew (S := fun W2 => W2.cell? ⟨x, 0, none⟩ = some (.pointer (some ⟨db, 0, none⟩))) (by kernel_rfl) c0 (fun hHeld => ?_)
 clear c0
 refine ht 0 hHeld ?_
 refine held_one 1 (by kernel_rfl) rfl (fun K hK => ?_)
 go_simp
 refine (LD.out _).mono ?_
 rintro e w1 ⟨rfl, hb⟩
 have c1 : w1.cell? ⟨x, 0, none⟩ = some (.pointer (some ⟨db, 0, none⟩)) := (za ((hb.block x (zc HX.out)).trans HX.out) 0).trans rfl
 have WR1 := hid (WR.out _ hb)
 have HB := hid hb
 try dsimp only
 refine hK.out _ _ (c1) (fun hHeld => ?_)
 clear hK K
 try simp only [Act.put, zl0, zl1, zl2]
 clear hb
 refine held_one 2 (by kernel_rfl) rfl (fun K hK => ?_)
 go_simp
 refine (WR1.out).mono ?_
 rintro e w2 ⟨rfl, hd⟩
 have HD := hid hd
 have c2 : w2.cell? ⟨x, 0, none⟩ = some (.pointer (some ⟨db, 0, none⟩)) := by
  obtain ⟨F', -, hst⟩ := hd
  have hx1 := (HB.out.block x (zc HX.out)).trans HX.out
  exact (za ((hst.frm.block x (zc hx1) hxo).trans hx1) 0).trans rfl
 clear hd
 try dsimp only
 refine hK.out _ _ (c2) (fun hHeld => ?_)
 clear hK K
 try simp only [Act.put, zl0, zl1, zl2]
 refine ht 3 hHeld ?_
 clear hHeld
 refine wpAnyH_done (by kernel_rfl) ?_ _
 go_wp2_with fail
 go_ret
 exact ⟨rfl, ddid_drew (Did.then (foot_below F HB.out) HD.out)⟩
theorem bcut_small {f n : Int} {N : Nat} (h : d.Small N) : (bcutM f n d).2.Small (N + 32768) := by
 unfold bcutM
 split
 ·exact h.mono (by omega)
 ·exact (cut_small h).mono (by omega)
theorem boxD_kept {x : Nat} (h : boxD W x db) (hk : W'.heap[x]? = W.heap[x]?) : boxD W' x db := hk.trans h
theorem boxI_kept {x : Nat} {n : Int} (h : boxI W x n) (hk : W'.heap[x]? = W.heap[x]?) : boxI W' x n := hk.trans h
theorem cut_mk (db : Nat) (f n : Int) (W : World) : Calls Tryz.prog 42 #[.pointer (some ⟨db, 0, none⟩), .int .i64 f, .int .i64 n] W fun e w' => ∃ v Bx, e = .returned v ∧ DDoes 0 w' db v (bcutM f n) Bx ∧ (∀ x ∈ Bx, W.heap.size ≤ x) ∧ Below W.heap.size W w' := by
 have hb1 := (Below.refl W.heap.size W).alloc (Nat.le_refl _) (.cells #[.pointer (some ⟨db, 0, none⟩)] 30)
 have hx1 := ze W (.cells #[.pointer (some ⟨db, 0, none⟩)] 30)
 obtain ⟨W1, hW1⟩ : ∃ W1, W1 = W.alloc (.cells #[.pointer (some ⟨db, 0, none⟩)] 30) := ⟨_, rfl⟩
 have hs1 : W1.heap.size = W.heap.size + 1 := by rw [hW1]; simp
 rw [← hW1] at hb1 hx1
 have hb2 := hb1.alloc hb1.size (.cells #[.int .i64 f] 3)
 have hy1 := ze W1 (.cells #[.int .i64 f] 3)
 have hx2 : (W1.alloc (.cells #[.int .i64 f] 3)).heap[W.heap.size]? = _ := zh hx1
 obtain ⟨W2, hW2⟩ : ∃ W2, W2 = W1.alloc (.cells #[.int .i64 f] 3) := ⟨_, rfl⟩
 have hs2 : W2.heap.size = W.heap.size + 1 + 1 := by rw [hW2]; simp [hs1]
 rw [← hW2] at hb2 hy1 hx2
 have hb3 := hb2.alloc hb2.size (.cells #[.int .i64 n] 3)
 have hz1 := ze W2 (.cells #[.int .i64 n] 3)
 have hx3 : (W2.alloc (.cells #[.int .i64 n] 3)).heap[W.heap.size]? = _ := zh hx2
 have hy3 : (W2.alloc (.cells #[.int .i64 n] 3)).heap[W1.heap.size]? = _ := zh hy1
 rw [hs1] at hy3
 rw [hs2] at hz1
 have hW3 : W2.alloc (.cells #[.int .i64 n] 3) = ((W.alloc (.cells #[.pointer (some ⟨db, 0, none⟩)] 30)).alloc (.cells #[.int .i64 f] 3)).alloc (.cells #[.int .i64 n] 3) := by rw [hW2, hW1]
 rw [hW3] at hb3 hz1 hx3 hy3
 have HF := hid (And.intro hb3 (And.intro hx3 (And.intro hy3 hz1)))
 clear hb1 hx1 hb2 hy1 hx2 hb3 hz1 hx3 hy3 hW3 hs1 hs2 hW2 hW1
 go_enter Tryz.func42, Tryz.ntmps42
 go_wp2_with fail
 go_ret
 obtain ⟨hb, hx, hy, hz⟩ := HF.out
 refine ⟨_, [W.heap.size, W.heap.size + 1, W.heap.size + 1 + 1], rfl, ⟨75, _, _, rfl, fun args w => run_enter Tryz.func75 (by kernel_rfl) rfl args w, ?_, fun W' F d N hk ho hd hs hN => ⟨bcut_small hs, ?_⟩⟩, ?_, hb⟩
 ·intro x hx1
  simp only [List.mem_cons, List.not_mem_nil, or_false] at hx1
  rcases hx1 with rfl | rfl | rfl
  ·exact zc hx
  ·exact zc hy
  ·exact zc hz
 ·exact cutc_any (boxD_kept hx (hk _ (by simp))) (boxI_kept hy (hk _ (by simp))) (boxI_kept hz (hk _ (by simp))) hd (hs.mono (by omega))
 ·intro x hx1
  simp only [List.mem_cons, List.not_mem_nil, or_false] at hx1
  omega
theorem sync_mk (db : Nat) (f : Int) (W : World) : Calls Tryz.prog 43 #[.pointer (some ⟨db, 0, none⟩), .int .i64 f] W fun e w' => ∃ v Bx, e = .returned v ∧ DDoes 0 w' db v (fun d => syncM d f) Bx ∧ (∀ x ∈ Bx, W.heap.size ≤ x) ∧ Below W.heap.size W w' := by
 have hb1 := (Below.refl W.heap.size W).alloc (Nat.le_refl _) (.cells #[.pointer (some ⟨db, 0, none⟩)] 30)
 have hx1 := ze W (.cells #[.pointer (some ⟨db, 0, none⟩)] 30)
 obtain ⟨W1, hW1⟩ : ∃ W1, W1 = W.alloc (.cells #[.pointer (some ⟨db, 0, none⟩)] 30) := ⟨_, rfl⟩
 have hs1 : W1.heap.size = W.heap.size + 1 := by rw [hW1]; simp
 rw [← hW1] at hb1 hx1
 have hb2 := hb1.alloc hb1.size (.cells #[.int .i64 f] 3)
 have hy1 := ze W1 (.cells #[.int .i64 f] 3)
 have hx2 : (W1.alloc (.cells #[.int .i64 f] 3)).heap[W.heap.size]? = _ := zh hx1
 rw [hs1] at hy1
 rw [hW1] at hb2 hy1 hx2
 have HF := hid (And.intro hb2 (And.intro hx2 hy1))
 clear hb1 hx1 hb2 hy1 hx2 hs1 hW1
 go_enter Tryz.func43, Tryz.ntmps43
 go_wp2_with fail
 go_ret
 obtain ⟨hb, hx, hy⟩ := HF.out
 refine ⟨_, [W.heap.size, W.heap.size + 1], rfl, ⟨77, _, _, rfl, fun args w => run_enter Tryz.func77 (by kernel_rfl) rfl args w, ?_, fun W' F d N hk ho hd hs hN => ⟨(sync_small hs).mono (by omega), ?_⟩⟩, ?_, hb⟩
 ·intro x hx1
  simp only [List.mem_cons, List.not_mem_nil, or_false] at hx1
  rcases hx1 with rfl | rfl
  ·exact zc hx
  ·exact zc hy
 ·exact syncc_any (boxD_kept hx (hk _ (by simp))) (boxI_kept hy (hk _ (by simp))) hd (hs.mono (by omega))
 ·intro x hx1
  simp only [List.mem_cons, List.not_mem_nil, or_false] at hx1
  omega
theorem lays_mk (db : Nat) (W : World) : Calls Tryz.prog 41 #[.pointer (some ⟨db, 0, none⟩)] W fun e w' => ∃ v Bx, e = .returned v ∧ DDoes 0 w' db v (fun d => writeM d 0 0 lidL) Bx ∧ (∀ x ∈ Bx, W.heap.size ≤ x) ∧ Below W.heap.size W w' := by
 have hb1 := (Below.refl W.heap.size W).alloc (Nat.le_refl _) (.cells #[.pointer (some ⟨db, 0, none⟩)] 30)
 have hx1 := ze W (.cells #[.pointer (some ⟨db, 0, none⟩)] 30)
 have HF := hid (And.intro hb1 hx1)
 clear hb1 hx1
 go_enter Tryz.func41, Tryz.ntmps41
 go_wp2_with fail
 go_ret
 obtain ⟨hb, hx⟩ := HF.out
 refine ⟨_, [W.heap.size], rfl, ⟨72, _, _, rfl, fun args w => run_enter Tryz.func72 (by kernel_rfl) rfl args w, ?_, fun W' F d N hk ho hd hs hN => ⟨(write_small hs).mono (by omega), ?_⟩⟩, ?_, hb⟩
 ·intro x hx1
  rw [List.mem_singleton.1 hx1]
  exact zc hx
 ·exact laysc_any (boxD_kept hx (hk _ (by simp))) (ho _ (by simp)) hd (hs.mono (by omega))
 ·intro x hx1
  rw [List.mem_singleton.1 hx1]
  exact Nat.le_refl _
set_option maxHeartbeats 2000000 in
theorem startc_any {x : Nat} {N : Nat} (hx : boxD W x db) (hxo : ¬ F.own x) (h : DiskAt W db F d) (hs : d.Small N) (hN : N + 131072 ≤ 1099511527776) :
  Calls Tryz.prog 44 #[.pointer (some ⟨x, 0, none⟩)] W fun e w' => e = .returned (.int .i64 (emptyLogM d).1) ∧ Did W db F (emptyLogM d).2 w' := by
 have c0 : W.cell? ⟨x, 0, none⟩ = some (.pointer (some ⟨db, 0, none⟩)) := (za hx 0).trans rfl
 have SZ := size_any h 1
 have DS := hid (Did.same h)
 obtain ⟨R, hR⟩ : ∃ R, R = emptyLogM d := ⟨_, rfl⟩
 rw [← hR]
 unfold emptyLogM at hR
 obtain ⟨q, hq⟩ : ∃ q, q = sizeM d 1 := ⟨_, rfl⟩
 have hq2 : (if 0 ≤ (1 : Int) ∧ (1 : Int) < 8 then ((d.now (1 : Int).toNat).length : Int) else 0) = q := hq.symm
 rw [hq2] at SZ
 rw [← hq] at hR
 have HR := hid hR
 replace SZ := hid SZ
 have H := hid h
 have HX := hid hx
 have HXO := hid hxo
 have HS := hid hs
 clear hx h hs hq hq2 hR hxo
 by_cases hz : q = 0
 ·have b0 : (q == 0) = true := by simp [hz]
  have hR := HR.out
  rw [if_pos hz] at hR
  replace HR := hid hR
  clear hR hz
  go_enter Tryz.func44, Tryz.ntmps44
  go_wp2_with (first
   | (go_at_call 45; refine (SZ.out).mono ?_; rintro e w1 ⟨rfl, hw⟩; obtain rfl := hw.symm)
   | go_in)
  go_ret
  rw [HR.out]
  exact ⟨rfl, DS.out⟩
 ·have b0 : (q == 0) = false := by simp [hz]
  have hR := HR.out
  rw [if_neg hz] at hR
  replace HR := hid hR
  clear hR hz
  go_enter Tryz.func44, Tryz.ntmps44
  go_upto_region 3 with (first
   | (go_at_call 45; refine (SZ.out).mono ?_; rintro e w1 ⟨rfl, hw⟩; obtain rfl := hw.symm)
   | go_in)
  refine wp_region_held_drew (S := fun W2 => W2.cell? ⟨x, 0, none⟩ = some (.pointer (some ⟨db, 0, none⟩))) (by kernel_rfl) c0 (fun hHeld => ?_)
  clear c0
  refine ht 0 hHeld ?_
  refine ht 2 hHeld ?_
  refine held_one 1 (by kernel_rfl) rfl (fun K hK => ?_)
  go_simp
  refine (cut_mk db 1 0 _).mono ?_
  rintro e w1 ⟨v1, B1, rfl, hd1, hg1, hb1⟩
  obtain ⟨k1, a1, c1, rfl, -⟩ := id hd1
  have hx1 := (hb1.block x (zc HX.out)).trans HX.out
  have hx1c : w1.cell? ⟨x, 0, none⟩ = some (.pointer (some ⟨db, 0, none⟩)) := (za hx1 0).trans rfl
  have HD1 := hid hd1
  have HG1 := hid hg1
  have HB1 := hid hb1
  have HX1 := hid hx1
  try dsimp only
  refine hK.out _ _ (hx1c) (fun hHeld => ?_)
  clear hK K
  try simp only [Act.put, zl0, zl1, zl2]
  clear hd1 hg1 hb1 hx1
  refine held_one 3 (by kernel_rfl) rfl (fun K hK => ?_)
  go_simp
  refine (sync_mk db 1 _).mono ?_
  rintro e w2 ⟨v2, B2, rfl, hd2, hg2, hb2⟩
  obtain ⟨k2, a2, c2, rfl, -⟩ := id hd2
  have hx2 := (hb2.block x (zc HX1.out)).trans HX1.out
  have hx2c : w2.cell? ⟨x, 0, none⟩ = some (.pointer (some ⟨db, 0, none⟩)) := (za hx2 0).trans rfl
  have HD2 := hid hd2
  have HG2 := hid hg2
  have HB2 := hid hb2
  have HX2 := hid hx2
  try dsimp only
  refine hK.out _ _ (hx2c) (fun hHeld => ?_)
  clear hK K
  try simp only [Act.put, zl0, zl1, zl2]
  clear hd2 hg2 hb2 hx2 hx1c
  refine held_one 4 (by kernel_rfl) rfl (fun K hK => ?_)
  go_simp
  obtain ⟨w3, hw3⟩ : ∃ w3, w3 = w2.alloc (.cells #[.func (.func k1) a1 c1, .func (.func k2) a2 c2] 56) := ⟨_, rfl⟩
  rw [← hw3]
  have hb3 : Below w2.heap.size w2 w3 := by rw [hw3]; exact (Below.refl _ _).alloc (Nat.le_refl _) _
  have hblk := ze w2 (.cells #[.func (.func k1) a1 c1, .func (.func k2) a2 c2] 56)
  rw [← hw3] at hblk
  have hx3 := (hb3.block x (zc HX2.out)).trans HX2.out
  have hx3c : w3.cell? ⟨x, 0, none⟩ = some (.pointer (some ⟨db, 0, none⟩)) := (za hx3 0).trans rfl
  try dsimp only
  refine hK.out _ _ (hx3c) (fun hHeld => ?_)
  clear hK K
  try simp only [Act.put, zl0, zl1, zl2]
  have hs1 := HB1.out.size
  have hs2 := HB2.out.size
  have hW3 : Below W.heap.size W w3 := by
   have h1 : Below W.heap.size W w1 := below_undrew HB1.out
   exact (h1.trans (HB2.out.mono h1.size)).trans (hb3.mono (Nat.le_trans h1.size hs2))
  have hD3 := H.out.below hW3
  have hlt : ∀ y ∈ B1 ++ B2, y < w3.heap.size := fun y hy => by
   rcases List.mem_append.1 hy with h | h
   ·exact ((HD1.out.below HB2.out).below hb3).lt y h
   ·exact (HD2.out.below hb3).lt y h
  have ST := bseq_any [.func (.func k1) a1 c1, .func (.func k2) a2 c2] [bcutM 1 0, fun d => syncM d 1] (B1 ++ B2) rfl (by simp) w2.heap.size 2 N hD3 HS.out hN
   (fun j v hv => by rw [za hblk]; simpa using hv) (zc hblk) (fun e => by have := H.out.olt _ e; have h1 : W.drew.heap.size = W.heap.size := rfl; omega)
   (fun y hy e => by
    have := H.out.olt _ e
    have h1 : W.drew.heap.size = W.heap.size := rfl
    rcases List.mem_append.1 hy with h | h
    ·have := HG1.out y h; omega
    ·have := HG2.out y h; omega)
   (fun i v m hv hm => by
    match i, hv, hm with
    | 0, hv, hm =>
     simp only [List.getElem?_cons_zero, Option.some.injEq] at hv hm
     subst hv hm
     exact ((HD1.out.below HB2.out).below hb3).wider (fun y hy => List.mem_append.2 (.inl hy)) hlt
    | 1, hv, hm =>
     simp only [List.getElem?_cons_zero, List.getElem?_cons_succ, Option.some.injEq] at hv hm
     subst hv hm
     exact (HD2.out.below hb3).wider (fun y hy => List.mem_append.2 (.inr hy)) hlt)
  have ST := hid ST
  have HW3 := hid hW3
  have HX3 := hid hx3
  clear hW3 hx3 hblk hb3 hw3 hD3 hlt hs1 hs2 hx2c
  refine held_one 5 (by kernel_rfl) rfl (fun K hK => ?_)
  go_simp
  refine (ST.out).mono ?_
  rintro e w4 ⟨rfl, hd4⟩
  have hx4c : w4.cell? ⟨x, 0, none⟩ = some (.pointer (some ⟨db, 0, none⟩)) := by
   obtain ⟨F', -, hst⟩ := hd4
   exact (za ((hst.frm.block x (zc HX3.out) HXO.out).trans HX3.out) 0).trans rfl
  have HD4 := hid hd4
  clear hd4
  try dsimp only
  refine hK.out _ _ (hx4c) (fun hHeld => ?_)
  clear hK K
  try simp only [Act.put, zl0, zl1, zl2]
  clear hx3c hx4c
  refine ht 6 hHeld ?_
  clear hHeld
  refine wpAnyH_done (by kernel_rfl) ?_ _
  go_wp2_with fail
  go_ret
  rw [HR.out]
  exact ⟨rfl, Did.then (foot_below F HW3.out) HD4.out⟩
theorem bseq_small : ∀ (ms : List (Dsk → Int × Dsk)) (d : Dsk) (N : Nat), (∀ m ∈ ms, ∀ d N, d.Small N → (m d).2.Small (N + 8193)) → d.Small N → (bseqM ms d).2.Small (N + 8193 * ms.length)
 | [], d, N, _, h => h.mono (by omega)
 | m :: r, d, N, hm, h => by
  have h1 := hm m (by simp) d N h
  show (if _ then _ else _ : Int × Dsk).2.Small _
  split
  ·exact h1.mono (by simp; omega)
  ·exact (bseq_small r _ _ (fun m hm1 => hm m (by simp [hm1])) h1).mono (by simp; omega)
theorem bcut_sm8 {f n : Int} {N : Nat} (h : d.Small N) : (bcutM f n d).2.Small (N + 8193) := by
 unfold bcutM
 split
 ·exact h.mono (by omega)
 ·exact (cut_small h).mono (by omega)
theorem emptyLog_small {N : Nat} (h : d.Small N) : (emptyLogM d).2.Small (N + 32768) := by
 unfold emptyLogM
 split
 ·exact h.mono (by omega)
 ·refine (bseq_small _ d N ?_ h).mono (by simp)
  intro m hm d N hs
  simp only [List.mem_cons, List.not_mem_nil, or_false] at hm
  rcases hm with rfl | rfl
  ·exact bcut_sm8 hs
  ·exact (sync_small hs).mono (by omega)
theorem ddoes_start {x : Nat} (hx : boxD W x db) : DDoes 131072 W db (.func (.func 44) #[] #[.pointer (some ⟨x, 0, none⟩)]) emptyLogM [x] := by
 refine ⟨44, _, _, rfl, fun args w => run_enter Tryz.func44 (by kernel_rfl) rfl args w, ?_, fun W' F d N hk ho hd hs hN => ⟨emptyLog_small hs, ?_⟩⟩
 ·intro y hy
  rw [List.mem_singleton.1 hy]
  exact zc hx
 ·exact startc_any (boxD_kept hx (hk _ (by simp))) (ho _ (by simp)) hd hs hN
end
end Go.Proofs.YtfkcmgbpgefnnaaGreat
