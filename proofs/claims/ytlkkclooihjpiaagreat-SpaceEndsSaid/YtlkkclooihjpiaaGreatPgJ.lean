import Derived.Test.YtlkkclooihjpiaaGreatPgG
import Derived.Test.YtlkkclooihjpiaaGreatIter
set_option linter.unusedVariables false
set_option linter.unusedSimpArgs false
namespace Go.Proofs.YtlkkclooihjpiaaGreat
open Go.RowKit Go.Maps Go.Sort Go.Shelf
set_option maxRecDepth 20000
theorem sorts_int (m : Nat) : AnyZI.SortsIn Tryz.prog Tryz.sortedA_ren Fence.wide m :=
 ⟨fun blk off cap ss W hH hblk hsz => callsIn_wide.2 (AnyM.slices_Sort_int Tryz.sortA blk off cap ss W hH hblk hsz),
  fun p cap W => callsIn_wide.2 (AnyM.slices_Sort_int_none Tryz.sortA p cap W)⟩
theorem keys_any (mb : Nat) (w : World) : Calls Tryz.prog 71 #[.map (some mb)] w fun e w' => e = .returned (.func (.func 98) #[] #[.pointer (some ⟨w.heap.size, 0, none⟩)]) ∧ w' = w.alloc (.cells #[.map (some mb)] 84) :=
 (callsIn_wide (n := 5)).1 (AnyZI.keys_in Tryz.keysA Fence.wide 5 trivial rfl (some mb) w)
set_option maxHeartbeats 1000000 in
theorem sorted_any (mb nn : Nat) (D : DataW Unit) (w : World) (hown : w.ownsMap Tryz.prog 3 (plainElem Tryz.prog 9) mb nn D) (hsz : Maps.size D ≤ 256) :
  Calls Tryz.prog 70 #[.func (.func 98) #[] #[.pointer (some ⟨w.heap.size, 0, none⟩)]] (w.alloc (.cells #[.map (some mb)] 84)) fun e w' => ∃ (v : Value) (ss : List Int), e = .returned v ∧ ss.Perm (intKeys D) ∧
   w'.ownsRow w.heap.size 3 1 v ss.length ((ss.mergeSort (fun x y => decide (x ≤ y))).map encZ) ∧ Below w.heap.size w w' := by
 refine (callsIn_wide (n := 5)).1 ?_
 have hbl := hown.lt
 have hmax : Maps.size D ≤ maxLen := by unfold maxLen; omega
 have hbytes : Maps.size D * 8 ≤ 140737488355328 := by omega
 have hseq : SeqGives Fence.wide 2 Tryz.prog 98 #[.pointer (some ⟨w.heap.size, 0, none⟩)] encZ (fun ss => ss.Perm (intKeys D)) (Maps.size D) (w.alloc (.cells #[.map (some mb)] 84)) :=
  AnyZI.keys_gives (ρ := Tryz.keysA_ren) { Tryz.keysA with } Fence.wide _ trivial rfl (by omega) w.heap.size mb nn D _ (by simp) (by simp) (by
   obtain ⟨es, clock, hb, Ft, hs, hD⟩ := hown
   exact ⟨es, clock, (Below.heap_alloc _ _ mb hbl).trans hb, Ft, hs, hD⟩)
 have cS := AnyZI.sorted_in Tryz.sortedA Fence.wide 5 trivial trivial trivial trivial rfl (by omega) (sorts_int _) (enters_of Tryz.func97 (by kernel_rfl) rfl) 98 #[.pointer (some ⟨w.heap.size, 0, none⟩)] trivial (enters_of Tryz.func98 (by kernel_rfl) rfl) _ _ hmax hbytes _ hseq
 refine cS.mono ?_
 rintro e w' ⟨v, ss, rfl, hS, hrow, hnil, hb⟩
 exact ⟨v, ss, rfl, hS, ownsRow_base_a hrow (by simp), ((Below.refl _ w).alloc (Nat.le_refl _) _).trans (hb.mono (by simp))⟩
end Go.Proofs.YtlkkclooihjpiaaGreat
namespace Go.Proofs.YtlkkclooihjpiaaGreat
open Go.RowKit Go.Maps
set_option maxRecDepth 20000
def keysOf (f : Int → Option (List UInt8)) : List Int := ((List.range 256).map fun (i : Nat) => (i : Int) + 1).filter fun q => (f q).isSome
theorem keysOf_mem {f : Int → Option (List UInt8)} {q : Int} : q ∈ keysOf f ↔ (1 ≤ q ∧ q ≤ 256) ∧ (f q).isSome = true := by
 unfold keysOf
 rw [List.mem_filter, List.mem_map]
 constructor
 ·rintro ⟨⟨i, hi, rfl⟩, h⟩
  have := List.mem_range.1 hi
  exact ⟨by omega, h⟩
 ·rintro ⟨h1, h2⟩
  exact ⟨⟨(q - 1).toNat, List.mem_range.2 (by omega), by omega⟩, h2⟩
theorem keysOf_lt (f : Int → Option (List UInt8)) : (keysOf f).Pairwise (· < ·) := by
 unfold keysOf
 refine List.Pairwise.filter _ (List.pairwise_map.2 ?_)
 exact List.pairwise_lt_range.imp (fun {a b} h => by omega)
theorem keysOf_length (f : Int → Option (List UInt8)) : (keysOf f).length ≤ 256 := by
 unfold keysOf
 refine Nat.le_trans (List.length_filter_le _ _) ?_
 rw [List.length_map, List.length_range]
 exact Nat.le_refl _
theorem says_keys {D : DataW Unit} {f : Int → Option (List UInt8)} (h : MapSays D f) (hf : ∀ p s, f p = some s → 1 ≤ p ∧ p ≤ 256) (ht : Canon D) : (keysOf f).Perm (intKeys D) := by
 obtain ⟨es, rfl, hp0, hkey⟩ := ht
 have hp := apart_of_rising hp0
 refine perm_intKeys hp (fun p hp' => ?_) ((keysOf_lt f).imp fun {a b} h => Int.ne_of_lt h) fun q => ?_
 ·have hh : Maps.has (.map es) p.1 = true := List.any_eq_true.2 ⟨p, hp', WideAt.sameKey_self (hkey p hp')⟩
  obtain ⟨x, hx⟩ := h.1 p.1 hh
  exact ⟨x, hx⟩
 ·rw [keysOf_mem]
  have h2 := h.2 q
  cases hfq : f q with
  | some s =>
   rw [hfq] at h2
   exact ⟨fun _ => h2.1, fun _ => ⟨hf q s hfq, rfl⟩⟩
  | none =>
   rw [hfq] at h2
   have h2 : Maps.has (.map es) (ik q) = false := h2
   constructor
   ·rintro ⟨-, e⟩
    cases e
   ·intro e
    rw [show Maps.has (.map es) (.int .i64 q) = false from h2] at e
    cases e
theorem keys_sorted {D : DataW Unit} {f : Int → Option (List UInt8)} (h : MapSays D f) (hf : ∀ p s, f p = some s → 1 ≤ p ∧ p ≤ 256) (ht : Canon D) {ss : List Int} (hs : ss.Perm (intKeys D)) : ss.mergeSort (fun x y => decide (x ≤ y)) = keysOf f := by
 refine List.Perm.eq_of_pairwise (le := fun a b : Int => a ≤ b) (fun a b _ _ h1 h2 => Int.le_antisymm h1 h2) ?_ ((keysOf_lt f).imp fun {a b} h => Int.le_of_lt h) (((List.mergeSort_perm ss _).trans hs).trans (says_keys h hf ht).symm)
 have := List.pairwise_mergeSort (le := fun x y : Int => decide (x ≤ y)) (fun a b c h1 h2 => by simp only [decide_eq_true_eq] at h1 h2 ⊢; omega) (fun a b => by simp only [Bool.or_eq_true, decide_eq_true_eq]; omega) ss
 exact this.imp fun {a b} h => by simpa using h
section
variable {w w1 w2 w3 w' : World} {pb l b : Nat} {F K : Foot} {G : Nat → Prop} {p : Pg} {g : Lg} {d : Dsk} {nv sv : Value}
def preadM (p : Pg) (g : Lg) (d : Dsk) (n : Int) : List UInt8 × Int :=
 if n < 1 ∨ ppagesM p g < n then ([], 5) else match (match p.now with | some t => t.wr n | none => none) with
  | some s => (s, 0)
  | none => pageM g d n g.list.length
set_option maxHeartbeats 2000000 in
theorem pread_any (hl : LgAt w l b F G g d) (h : PgMem w pb l K p nv sv) (n : Int) (hn : -9223372036854775808 ≤ n ∧ n ≤ 9223372036854775807) : Calls Tryz.prog 28 #[.pointer (some ⟨pb, 0, none⟩), .int .i64 n] w fun e w' => e = .returned (.tuple #[.string (bs (preadM p g d n).1), .int .i64 (preadM p g d n).2]) ∧ Below w.heap.size w w' := by
 obtain ⟨c0, c1, c2, -⟩ := h.cell
 have PP := ppages_any hl h
 have HB := hid (Below.refl w.heap.size w)
 have hnow := h.now
 unfold preadM
 obtain ⟨P, hP⟩ : ∃ P, P = ppagesM p g := ⟨_, rfl⟩
 rw [← hP] at PP ⊢
 have PP := hid PP
 clear hP
 by_cases h1 : n < 1
 ·have b1 : decide (n < 1) = true := by simpa using h1
  simp only [h1, true_or, if_true]
  clear h1 h hl hnow
  go_enter Tryz.func28, Tryz.ntmps28
  go_wp2_with (first
   | (go_at_call 9; refine (PP.out).mono ?_; rintro e w1 ⟨rfl, hw⟩; obtain rfl := hw.symm)
   | go_in)
  go_ret2
  exact ⟨rfl, HB.out⟩
 by_cases h2 : P < n
 ·have b1 : decide (n < 1) = false := by simpa using h1
  have b2 : decide (P < n) = true := by simpa using h2
  simp only [h2, or_true, if_true]
  clear h1 h2 h hl hnow
  go_enter Tryz.func28, Tryz.ntmps28
  go_wp2_with (first
   | (go_at_call 9; refine (PP.out).mono ?_; rintro e w1 ⟨rfl, hw⟩; obtain rfl := hw.symm)
   | go_in)
  go_ret2
  exact ⟨rfl, HB.out⟩
 rw [if_neg (by omega)]
 have b1 : decide (n < 1) = false := by simpa using h1
 have b2 : decide (P < n) = false := by simpa using h2
 clear h1 h2
 have MA := hid (fun (W : World) (hb : Below w.heap.size w W) => mark_any (hl.below hb))
 have PA := hid (fun (W : World) (hb : Below w.heap.size w W) => page_any (hl.below hb) n g.list.length)
 obtain ⟨z, hz⟩ : ∃ z, z = g.list.length := ⟨_, rfl⟩
 rw [← hz] at PA MA ⊢
 obtain ⟨pgm, hpg⟩ : ∃ x, x = pageM g d n (z : Int) := ⟨_, rfl⟩
 rw [← hpg] at PA ⊢
 have C0 := hid c0
 have Hpl := hid (h.olt pb h.pown)
 clear hz hpg
 cases hp : p.now with
 | none =>
  rw [hp] at hnow
  have hnv : nv = .pointer none := hnow
  subst hnv
  clear h hl hnow hp
  go_enter Tryz.func28, Tryz.ntmps28
  go_upto_region 9 with (first
   | (go_at_call 9; refine (PP.out).mono ?_; rintro e w1 ⟨rfl, hw⟩; obtain rfl := hw.symm)
   | go_in)
  have p0 := C0.out
  refine wp_region_held_drew (S := fun W => W.cell? ⟨pb, 0, none⟩ = some (.pointer (some ⟨l, 0, none⟩))) (by kernel_rfl) p0 (fun hHeld => ?_)
  clear p0
  refine held_take (v := ?xv0) 0 rfl (by kernel_rfl) (by kernel_rfl) (by kernel_rfl) (fun _ _ _ h => h) (by rfl) hHeld ?xy0 ?xr0
  case xy0 => (intro W hSw; go_simp; with_reducible rfl)
  simp only [Act.put, List.setIfInBounds_toArray, List.set_cons_zero, List.set_cons_succ]
  refine held_take (v := ?xv1) 1 rfl (by kernel_rfl) (by kernel_rfl) (by kernel_rfl) (fun _ _ _ h => h) (by rfl) hHeld ?xy1 ?xr1
  case xy1 => (intro W hSw; go_simp; with_reducible rfl)
  simp only [Act.put, List.setIfInBounds_toArray, List.set_cons_zero, List.set_cons_succ]
  refine held_take (v := ?xv2) 2 rfl (by kernel_rfl) (by kernel_rfl) (by kernel_rfl) (fun _ _ _ h => h) (by rfl) hHeld ?xy2 ?xr2
  case xy2 => (intro W hSw; go_simp; with_reducible rfl)
  simp only [Act.put, List.setIfInBounds_toArray, List.set_cons_zero, List.set_cons_succ]
  refine held_take (v := ?xv3) 3 rfl (by kernel_rfl) (by kernel_rfl) (by kernel_rfl) (fun _ _ _ h => h) (by rfl) hHeld ?xy3 ?xr3
  case xy3 => (intro W hSw; go_simp; with_reducible rfl)
  simp only [Act.put, List.setIfInBounds_toArray, List.set_cons_zero, List.set_cons_succ]
  refine held_take (v := ?xv4) 4 rfl (by kernel_rfl) (by kernel_rfl) (by kernel_rfl) (fun _ _ _ h => h) (by rfl) hHeld ?xy4 ?xr4
  case xy4 => (intro W hSw; go_simp; with_reducible rfl)
  simp only [Act.put, List.setIfInBounds_toArray, List.set_cons_zero, List.set_cons_succ]
  refine held_take (v := ?xv5) 5 rfl (by kernel_rfl) (by kernel_rfl) (by kernel_rfl) (fun _ _ _ h => h) (by rfl) hHeld ?xy5 ?xr5
  case xy5 => (intro W hSw; go_simp; with_reducible rfl)
  simp only [Act.put, List.setIfInBounds_toArray, List.set_cons_zero, List.set_cons_succ]
  refine held_take (v := ?xv6) 6 rfl (by kernel_rfl) (by kernel_rfl) (by kernel_rfl) (fun _ _ _ h => h) (by rfl) hHeld ?xy6 ?xr6
  case xy6 => (intro W hSw; go_simp; with_reducible rfl)
  simp only [Act.put, List.setIfInBounds_toArray, List.set_cons_zero, List.set_cons_succ]
  refine held_take (v := ?xv7) 7 rfl (by kernel_rfl) (by kernel_rfl) (by kernel_rfl) (fun _ _ _ h => h) (by rfl) hHeld ?xy7 ?xr7
  case xy7 => (intro W hSw; go_simp; with_reducible rfl)
  simp only [Act.put, List.setIfInBounds_toArray, List.set_cons_zero, List.set_cons_succ]
  refine held_take (v := ?xv8) 8 rfl (by kernel_rfl) (by kernel_rfl) (by kernel_rfl) (fun _ _ _ h => h) (by rfl) hHeld ?xy8 ?xr8
  case xy8 => (intro W hSw; go_simp; with_reducible rfl)
  simp only [Act.put, List.setIfInBounds_toArray, List.set_cons_zero, List.set_cons_succ]
  refine held_one 9 (by kernel_rfl) rfl (fun K hK => ?_)
  go_simp
  refine (MA.out _ HB.out.drew).mono ?_
  rintro e w1 ⟨rfl, hw⟩
  obtain rfl := hw.symm
  try dsimp only
  refine hK.out _ _ (C0.out) (fun hHeld => ?_)
  clear hK K
  try simp only [Act.put, List.setIfInBounds_toArray, List.set_cons_zero, List.set_cons_succ]
  refine held_one 10 (by kernel_rfl) rfl (fun K hK => ?_)
  go_simp
  refine (PA.out _ HB.out.drew).mono ?_
  rintro e w1 ⟨rfl, hb1⟩
  have Hb1 := hid (below_undrew hb1)
  have hc1 := (Hb1.out.cell (p := ⟨pb, 0, none⟩) Hpl.out).trans C0.out
  clear hb1
  try dsimp only
  refine hK.out _ _ (hc1) (fun hHeld => ?_)
  clear hK K
  try simp only [Act.put, List.setIfInBounds_toArray, List.set_cons_zero, List.set_cons_succ]
  refine held_take (v := ?xbv11) 11 rfl (by kernel_rfl) (by kernel_rfl) (by kernel_rfl) (fun _ _ _ h => h) (by rfl) hHeld ?xby11 ?xbr11
  case xby11 => (intro W hSw; go_simp; with_reducible rfl)
  simp only [Act.put, List.setIfInBounds_toArray, List.set_cons_zero, List.set_cons_succ]
  refine held_take (v := ?xbv12) 12 rfl (by kernel_rfl) (by kernel_rfl) (by kernel_rfl) (fun _ _ _ h => h) (by rfl) hHeld ?xby12 ?xbr12
  case xby12 => (intro W hSw; go_simp; with_reducible rfl)
  simp only [Act.put, List.setIfInBounds_toArray, List.set_cons_zero, List.set_cons_succ]
  refine held_take (v := ?xbv13) 13 rfl (by kernel_rfl) (by kernel_rfl) (by kernel_rfl) (fun _ _ _ h => h) (by rfl) hHeld ?xby13 ?xbr13
  case xby13 => (intro W hSw; go_simp; with_reducible rfl)
  simp only [Act.put, List.setIfInBounds_toArray, List.set_cons_zero, List.set_cons_succ]
  refine held_take (v := ?xbv14) 14 rfl (by kernel_rfl) (by kernel_rfl) (by kernel_rfl) (fun _ _ _ h => h) (by rfl) hHeld ?xby14 ?xbr14
  case xby14 => (intro W hSw; go_simp; with_reducible rfl)
  simp only [Act.put, List.setIfInBounds_toArray, List.set_cons_zero, List.set_cons_succ]
  clear hHeld hc1
  refine wpAnyH_done (by kernel_rfl) ?_ _
  go_wp2_with fail
  go_ret2
  exact ⟨rfl, Hb1.out⟩
 | some t =>
  rw [hp] at hnow
  obtain ⟨nb, mb, hnv, hnb, hwr, -, -⟩ := hnow
  subst hnv
  have d1 : w.cell? ⟨nb, 1, none⟩ = some (.map (some mb)) := (cell_of_block hnb 1).trans rfl
  have LK := says_look hwr (p := n) (by omega)
  obtain ⟨o, ho⟩ : ∃ o, o = t.wr n := ⟨_, rfl⟩
  rw [← ho] at LK
  dsimp only
  rw [← ho]
  clear h hl hnb hwr hp ho
  cases o with
  | some s =>
   simp only [Option.getD_some, Option.isSome_some] at LK
   go_enter Tryz.func28, Tryz.ntmps28
   go_wp2_with (first
    | (go_at_call 9; refine (PP.out).mono ?_; rintro e w1 ⟨rfl, hw⟩; obtain rfl := hw.symm)
    | go_in)
   go_ret2
   exact ⟨rfl, HB.out⟩
  | none =>
   simp only [Option.getD_none, Option.isSome_none] at LK
   go_enter Tryz.func28, Tryz.ntmps28
   go_upto_region 9 with (first
    | (go_at_call 9; refine (PP.out).mono ?_; rintro e w1 ⟨rfl, hw⟩; obtain rfl := hw.symm)
    | go_in)
   have p0 := C0.out
   refine wp_region_held_drew (S := fun W => W.cell? ⟨pb, 0, none⟩ = some (.pointer (some ⟨l, 0, none⟩))) (by kernel_rfl) p0 (fun hHeld => ?_)
   clear p0
   refine held_take (v := ?zv0) 0 rfl (by kernel_rfl) (by kernel_rfl) (by kernel_rfl) (fun _ _ _ h => h) (by rfl) hHeld ?zy0 ?zr0
   case zy0 => (intro W hSw; go_simp; with_reducible rfl)
   simp only [Act.put, List.setIfInBounds_toArray, List.set_cons_zero, List.set_cons_succ]
   refine held_take (v := ?zv1) 1 rfl (by kernel_rfl) (by kernel_rfl) (by kernel_rfl) (fun _ _ _ h => h) (by rfl) hHeld ?zy1 ?zr1
   case zy1 => (intro W hSw; go_simp; with_reducible rfl)
   simp only [Act.put, List.setIfInBounds_toArray, List.set_cons_zero, List.set_cons_succ]
   refine held_take (v := ?zv2) 2 rfl (by kernel_rfl) (by kernel_rfl) (by kernel_rfl) (fun _ _ _ h => h) (by rfl) hHeld ?zy2 ?zr2
   case zy2 => (intro W hSw; go_simp; with_reducible rfl)
   simp only [Act.put, List.setIfInBounds_toArray, List.set_cons_zero, List.set_cons_succ]
   refine held_take (v := ?zv3) 3 rfl (by kernel_rfl) (by kernel_rfl) (by kernel_rfl) (fun _ _ _ h => h) (by rfl) hHeld ?zy3 ?zr3
   case zy3 => (intro W hSw; go_simp; with_reducible rfl)
   simp only [Act.put, List.setIfInBounds_toArray, List.set_cons_zero, List.set_cons_succ]
   refine held_take (v := ?zv4) 4 rfl (by kernel_rfl) (by kernel_rfl) (by kernel_rfl) (fun _ _ _ h => h) (by rfl) hHeld ?zy4 ?zr4
   case zy4 => (intro W hSw; go_simp; with_reducible rfl)
   simp only [Act.put, List.setIfInBounds_toArray, List.set_cons_zero, List.set_cons_succ]
   refine held_take (v := ?zv5) 5 rfl (by kernel_rfl) (by kernel_rfl) (by kernel_rfl) (fun _ _ _ h => h) (by rfl) hHeld ?zy5 ?zr5
   case zy5 => (intro W hSw; go_simp; with_reducible rfl)
   simp only [Act.put, List.setIfInBounds_toArray, List.set_cons_zero, List.set_cons_succ]
   refine held_take (v := ?zv6) 6 rfl (by kernel_rfl) (by kernel_rfl) (by kernel_rfl) (fun _ _ _ h => h) (by rfl) hHeld ?zy6 ?zr6
   case zy6 => (intro W hSw; go_simp; with_reducible rfl)
   simp only [Act.put, List.setIfInBounds_toArray, List.set_cons_zero, List.set_cons_succ]
   refine held_take (v := ?zv7) 7 rfl (by kernel_rfl) (by kernel_rfl) (by kernel_rfl) (fun _ _ _ h => h) (by rfl) hHeld ?zy7 ?zr7
   case zy7 => (intro W hSw; go_simp; with_reducible rfl)
   simp only [Act.put, List.setIfInBounds_toArray, List.set_cons_zero, List.set_cons_succ]
   refine held_take (v := ?zv8) 8 rfl (by kernel_rfl) (by kernel_rfl) (by kernel_rfl) (fun _ _ _ h => h) (by rfl) hHeld ?zy8 ?zr8
   case zy8 => (intro W hSw; go_simp; with_reducible rfl)
   simp only [Act.put, List.setIfInBounds_toArray, List.set_cons_zero, List.set_cons_succ]
   refine held_one 9 (by kernel_rfl) rfl (fun K hK => ?_)
   go_simp
   refine (MA.out _ HB.out.drew).mono ?_
   rintro e w1 ⟨rfl, hw⟩
   obtain rfl := hw.symm
   try dsimp only
   refine hK.out _ _ (C0.out) (fun hHeld => ?_)
   clear hK K
   try simp only [Act.put, List.setIfInBounds_toArray, List.set_cons_zero, List.set_cons_succ]
   refine held_one 10 (by kernel_rfl) rfl (fun K hK => ?_)
   go_simp
   refine (PA.out _ HB.out.drew).mono ?_
   rintro e w1 ⟨rfl, hb1⟩
   have Hb1 := hid (below_undrew hb1)
   have hc1 := (Hb1.out.cell (p := ⟨pb, 0, none⟩) Hpl.out).trans C0.out
   clear hb1
   try dsimp only
   refine hK.out _ _ (hc1) (fun hHeld => ?_)
   clear hK K
   try simp only [Act.put, List.setIfInBounds_toArray, List.set_cons_zero, List.set_cons_succ]
   refine held_take (v := ?zbv11) 11 rfl (by kernel_rfl) (by kernel_rfl) (by kernel_rfl) (fun _ _ _ h => h) (by rfl) hHeld ?zby11 ?zbr11
   case zby11 => (intro W hSw; go_simp; with_reducible rfl)
   simp only [Act.put, List.setIfInBounds_toArray, List.set_cons_zero, List.set_cons_succ]
   refine held_take (v := ?zbv12) 12 rfl (by kernel_rfl) (by kernel_rfl) (by kernel_rfl) (fun _ _ _ h => h) (by rfl) hHeld ?zby12 ?zbr12
   case zby12 => (intro W hSw; go_simp; with_reducible rfl)
   simp only [Act.put, List.setIfInBounds_toArray, List.set_cons_zero, List.set_cons_succ]
   refine held_take (v := ?zbv13) 13 rfl (by kernel_rfl) (by kernel_rfl) (by kernel_rfl) (fun _ _ _ h => h) (by rfl) hHeld ?zby13 ?zbr13
   case zby13 => (intro W hSw; go_simp; with_reducible rfl)
   simp only [Act.put, List.setIfInBounds_toArray, List.set_cons_zero, List.set_cons_succ]
   refine held_take (v := ?zbv14) 14 rfl (by kernel_rfl) (by kernel_rfl) (by kernel_rfl) (fun _ _ _ h => h) (by rfl) hHeld ?zby14 ?zbr14
   case zby14 => (intro W hSw; go_simp; with_reducible rfl)
   simp only [Act.put, List.setIfInBounds_toArray, List.set_cons_zero, List.set_cons_succ]
   clear hHeld hc1
   refine wpAnyH_done (by kernel_rfl) ?_ _
   go_wp2_with fail
   go_ret2
   exact ⟨rfl, Hb1.out⟩
end
end Go.Proofs.YtlkkclooihjpiaaGreat
