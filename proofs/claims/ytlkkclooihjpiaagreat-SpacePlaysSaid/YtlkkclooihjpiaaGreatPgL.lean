import Derived.Test.YtlkkclooihjpiaaGreatPgG
import Derived.Test.YtlkkclooihjpiaaGreatIter
set_option linter.unusedVariables false
set_option linter.unusedSimpArgs false
namespace Go.Proofs.YtlkkclooihjpiaaGreat
open Go.RowKit Go.Maps Go.Sort Go.Shelf
set_option maxRecDepth 20000
theorem sorts_int (m : Nat) : AnyZI.SortsIn Tryz.prog Tryz.sortedA_ren Fence.wide m :=
 ⟨fun blk off cap ss W hH hblk hsz => callsIn_wide.2 (AnyM.slices_Sort_int Tryz.sortA blk off cap ss W hH hblk hsz),
  fun p cap W => callsIn_wide.2 (AnyM.slices_Sort_int_none Tryz.sortA p cap W)⟩
theorem keys_any (mb : Nat) (w : World) : Calls Tryz.prog 71 #[.map (some mb)] w fun e w' => e = .returned (.func (.func 98) #[] #[.pointer (some ⟨w.heap.size, 0, none⟩)]) ∧ w' = w.alloc (.cells #[.map (some mb)] 84) :=
 (callsIn_wide (n := 5)).1 (AnyZI.keys_in Tryz.keysA Fence.wide 5 trivial rfl (some mb) w)
set_option maxHeartbeats 1000000 in
theorem sorted_any (mb nn : Nat) (D : DataW Unit) (w : World) (hown : w.ownsMap Tryz.prog 3 (plainElem Tryz.prog 9) mb nn D) (hsz : Maps.size D ≤ 256) :
  Calls Tryz.prog 70 #[.func (.func 98) #[] #[.pointer (some ⟨w.heap.size, 0, none⟩)]] (w.alloc (.cells #[.map (some mb)] 84)) fun e w' => ∃ (v : Value) (ss : List Int), e = .returned v ∧ ss.Perm (intKeys D) ∧
   w'.ownsRow w.heap.size 3 1 v ss.length ((ss.mergeSort (fun x y => decide (x ≤ y))).map encZ) ∧ Below w.heap.size w w' := by
 refine (callsIn_wide (n := 5)).1 ?_
 have hbl := hown.lt
 have hmax : Maps.size D ≤ maxLen := by unfold maxLen; omega
 have hbytes : Maps.size D * 8 ≤ 140737488355328 := by omega
 have hseq : SeqGives Fence.wide 2 Tryz.prog 98 #[.pointer (some ⟨w.heap.size, 0, none⟩)] encZ (fun ss => ss.Perm (intKeys D)) (Maps.size D) (w.alloc (.cells #[.map (some mb)] 84)) :=
  AnyZI.keys_gives (ρ := Tryz.keysA_ren) { Tryz.keysA with } Fence.wide _ trivial rfl (by omega) w.heap.size mb nn D _ (by simp) (by simp) (by
   obtain ⟨es, clock, hb, Ft, hs, hD⟩ := hown
   exact ⟨es, clock, (Below.heap_alloc _ _ mb hbl).trans hb, Ft, hs, hD⟩)
 have cS := AnyZI.sorted_in Tryz.sortedA Fence.wide 5 trivial trivial trivial trivial rfl (by omega) (sorts_int _) (enters_of Tryz.func97 (by kernel_rfl) rfl) 98 #[.pointer (some ⟨w.heap.size, 0, none⟩)] trivial (enters_of Tryz.func98 (by kernel_rfl) rfl) _ _ hmax hbytes _ hseq
 refine cS.mono ?_
 rintro e w' ⟨v, ss, rfl, hS, hrow, hnil, hb⟩
 exact ⟨v, ss, rfl, hS, ownsRow_base_a hrow (by simp), ((Below.refl _ w).alloc (Nat.le_refl _) _).trans (hb.mono (by simp))⟩
end Go.Proofs.YtlkkclooihjpiaaGreat
namespace Go.Proofs.YtlkkclooihjpiaaGreat
open Go.RowKit Go.Maps
set_option maxRecDepth 20000
def keysOf (f : Int → Option (List UInt8)) : List Int := ((List.range 256).map fun (i : Nat) => (i : Int) + 1).filter fun q => (f q).isSome
theorem keysOf_mem {f : Int → Option (List UInt8)} {q : Int} : q ∈ keysOf f ↔ (1 ≤ q ∧ q ≤ 256) ∧ (f q).isSome = true := by
 unfold keysOf
 rw [List.mem_filter, List.mem_map]
 constructor
 ·rintro ⟨⟨i, hi, rfl⟩, h⟩
  have := List.mem_range.1 hi
  exact ⟨by omega, h⟩
 ·rintro ⟨h1, h2⟩
  exact ⟨⟨(q - 1).toNat, List.mem_range.2 (by omega), by omega⟩, h2⟩
theorem keysOf_lt (f : Int → Option (List UInt8)) : (keysOf f).Pairwise (· < ·) := by
 unfold keysOf
 refine List.Pairwise.filter _ (List.pairwise_map.2 ?_)
 exact List.pairwise_lt_range.imp (fun {a b} h => by omega)
theorem keysOf_length (f : Int → Option (List UInt8)) : (keysOf f).length ≤ 256 := by
 unfold keysOf
 refine Nat.le_trans (List.length_filter_le _ _) ?_
 rw [List.length_map, List.length_range]
 exact Nat.le_refl _
theorem says_keys {D : DataW Unit} {f : Int → Option (List UInt8)} (h : MapSays D f) (hf : ∀ p s, f p = some s → 1 ≤ p ∧ p ≤ 256) (ht : Canon D) : (keysOf f).Perm (intKeys D) := by
 obtain ⟨es, rfl, hp0, hkey⟩ := ht
 have hp := apart_of_rising hp0
 refine perm_intKeys hp (fun p hp' => ?_) ((keysOf_lt f).imp fun {a b} h => Int.ne_of_lt h) fun q => ?_
 ·have hh : Maps.has (.map es) p.1 = true := List.any_eq_true.2 ⟨p, hp', WideAt.sameKey_self (hkey p hp')⟩
  obtain ⟨x, hx⟩ := h.1 p.1 hh
  exact ⟨x, hx⟩
 ·rw [keysOf_mem]
  have h2 := h.2 q
  cases hfq : f q with
  | some s =>
   rw [hfq] at h2
   exact ⟨fun _ => h2.1, fun _ => ⟨hf q s hfq, rfl⟩⟩
  | none =>
   rw [hfq] at h2
   have h2 : Maps.has (.map es) (ik q) = false := h2
   constructor
   ·rintro ⟨-, e⟩
    cases e
   ·intro e
    rw [show Maps.has (.map es) (.int .i64 q) = false from h2] at e
    cases e
theorem keys_sorted {D : DataW Unit} {f : Int → Option (List UInt8)} (h : MapSays D f) (hf : ∀ p s, f p = some s → 1 ≤ p ∧ p ≤ 256) (ht : Canon D) {ss : List Int} (hs : ss.Perm (intKeys D)) : ss.mergeSort (fun x y => decide (x ≤ y)) = keysOf f := by
 refine List.Perm.eq_of_pairwise (le := fun a b : Int => a ≤ b) (fun a b _ _ h1 h2 => Int.le_antisymm h1 h2) ?_ ((keysOf_lt f).imp fun {a b} h => Int.le_of_lt h) (((List.mergeSort_perm ss _).trans hs).trans (says_keys h hf ht).symm)
 have := List.pairwise_mergeSort (le := fun x y : Int => decide (x ≤ y)) (fun a b c h1 h2 => by simp only [decide_eq_true_eq] at h1 h2 ⊢; omega) (fun a b => by simp only [Bool.or_eq_true, decide_eq_true_eq]; omega) ss
 exact this.imp fun {a b} h => by simpa using h
section
variable {w w1 w2 w3 w' : World} {pb l b : Nat} {F K : Foot} {G : Nat → Prop} {p : Pg} {g : Lg} {d : Dsk} {nv sv : Value}
def preadM (p : Pg) (g : Lg) (d : Dsk) (n : Int) : List UInt8 × Int :=
 if n < 1 ∨ ppagesM p g < n then ([], 5) else match (match p.now with | some t => t.wr n | none => none) with
  | some s => (s, 0)
  | none => pageM g d n g.list.length
set_option maxHeartbeats 2000000 in
theorem pread_any (hl : LgAt w l b F G g d) (h : PgMem w pb l K p nv sv) (n : Int) (hn : -9223372036854775808 ≤ n ∧ n ≤ 9223372036854775807) : Calls Tryz.prog 28 #[.pointer (some ⟨pb, 0, none⟩), .int .i64 n] w fun e w' => e = .returned (.tuple #[.string (bs (preadM p g d n).1), .int .i64 (preadM p g d n).2]) ∧ Below w.heap.size w w' := by
 obtain ⟨c0, c1, c2, -⟩ := h.cell
 have PP := ppages_any hl h
 have HB := hid (Below.refl w.heap.size w)
 have hnow := h.now
 unfold preadM
 obtain ⟨P, hP⟩ : ∃ P, P = ppagesM p g := ⟨_, rfl⟩
 rw [← hP] at PP ⊢
 have PP := hid PP
 clear hP
 by_cases h1 : n < 1
 ·have b1 : decide (n < 1) = true := by simpa using h1
  simp only [h1, true_or, if_true]
  clear h1 h hl hnow
  go_enter Tryz.func28, Tryz.ntmps28
  go_wp2_with (first
   | (go_at_call 9; refine (PP.out).mono ?_; rintro e w1 ⟨rfl, hw⟩; obtain rfl := hw.symm)
   | go_in)
  go_ret2
  exact ⟨rfl, HB.out⟩
 by_cases h2 : P < n
 ·have b1 : decide (n < 1) = false := by simpa using h1
  have b2 : decide (P < n) = true := by simpa using h2
  simp only [h2, or_true, if_true]
  clear h1 h2 h hl hnow
  go_enter Tryz.func28, Tryz.ntmps28
  go_wp2_with (first
   | (go_at_call 9; refine (PP.out).mono ?_; rintro e w1 ⟨rfl, hw⟩; obtain rfl := hw.symm)
   | go_in)
  go_ret2
  exact ⟨rfl, HB.out⟩
 rw [if_neg (by omega)]
 have b1 : decide (n < 1) = false := by simpa using h1
 have b2 : decide (P < n) = false := by simpa using h2
 clear h1 h2
 have MA := hid (fun (W : World) (hb : Below w.heap.size w W) => mark_any (hl.below hb))
 have PA := hid (fun (W : World) (hb : Below w.heap.size w W) => page_any (hl.below hb) n g.list.length)
 obtain ⟨z, hz⟩ : ∃ z, z = g.list.length := ⟨_, rfl⟩
 rw [← hz] at PA MA ⊢
 obtain ⟨pgm, hpg⟩ : ∃ x, x = pageM g d n (z : Int) := ⟨_, rfl⟩
 rw [← hpg] at PA ⊢
 have C0 := hid c0
 have Hpl := hid (h.olt pb h.pown)
 clear hz hpg
 cases hp : p.now with
 | none =>
  rw [hp] at hnow
  have hnv : nv = .pointer none := hnow
  subst hnv
  clear h hl hnow hp
  go_enter Tryz.func28, Tryz.ntmps28
  go_upto_region 9 with (first
   | (go_at_call 9; refine (PP.out).mono ?_; rintro e w1 ⟨rfl, hw⟩; obtain rfl := hw.symm)
   | go_in)
  have p0 := C0.out
  refine wp_region_held_drew (S := fun W => W.cell? ⟨pb, 0, none⟩ = some (.pointer (some ⟨l, 0, none⟩))) (by kernel_rfl) p0 (fun hHeld => ?_)
  clear p0
  refine held_take (v := ?xv0) 0 rfl (by kernel_rfl) (by kernel_rfl) (by kernel_rfl) (fun _ _ _ h => h) (by rfl) hHeld ?xy0 ?xr0
  case xy0 => (intro W hSw; go_simp; with_reducible rfl)
  simp only [Act.put, List.setIfInBounds_toArray, List.set_cons_zero, List.set_cons_succ]
  refine held_take (v := ?xv1) 1 rfl (by kernel_rfl) (by kernel_rfl) (by kernel_rfl) (fun _ _ _ h => h) (by rfl) hHeld ?xy1 ?xr1
  case xy1 => (intro W hSw; go_simp; with_reducible rfl)
  simp only [Act.put, List.setIfInBounds_toArray, List.set_cons_zero, List.set_cons_succ]
  refine held_take (v := ?xv2) 2 rfl (by kernel_rfl) (by kernel_rfl) (by kernel_rfl) (fun _ _ _ h => h) (by rfl) hHeld ?xy2 ?xr2
  case xy2 => (intro W hSw; go_simp; with_reducible rfl)
  simp only [Act.put, List.setIfInBounds_toArray, List.set_cons_zero, List.set_cons_succ]
  refine held_take (v := ?xv3) 3 rfl (by kernel_rfl) (by kernel_rfl) (by kernel_rfl) (fun _ _ _ h => h) (by rfl) hHeld ?xy3 ?xr3
  case xy3 => (intro W hSw; go_simp; with_reducible rfl)
  simp only [Act.put, List.setIfInBounds_toArray, List.set_cons_zero, List.set_cons_succ]
  refine held_take (v := ?xv4) 4 rfl (by kernel_rfl) (by kernel_rfl) (by kernel_rfl) (fun _ _ _ h => h) (by rfl) hHeld ?xy4 ?xr4
  case xy4 => (intro W hSw; go_simp; with_reducible rfl)
  simp only [Act.put, List.setIfInBounds_toArray, List.set_cons_zero, List.set_cons_succ]
  refine held_take (v := ?xv5) 5 rfl (by kernel_rfl) (by kernel_rfl) (by kernel_rfl) (fun _ _ _ h => h) (by rfl) hHeld ?xy5 ?xr5
  case xy5 => (intro W hSw; go_simp; with_reducible rfl)
  simp only [Act.put, List.setIfInBounds_toArray, List.set_cons_zero, List.set_cons_succ]
  refine held_take (v := ?xv6) 6 rfl (by kernel_rfl) (by kernel_rfl) (by kernel_rfl) (fun _ _ _ h => h) (by rfl) hHeld ?xy6 ?xr6
  case xy6 => (intro W hSw; go_simp; with_reducible rfl)
  simp only [Act.put, List.setIfInBounds_toArray, List.set_cons_zero, List.set_cons_succ]
  refine held_take (v := ?xv7) 7 rfl (by kernel_rfl) (by kernel_rfl) (by kernel_rfl) (fun _ _ _ h => h) (by rfl) hHeld ?xy7 ?xr7
  case xy7 => (intro W hSw; go_simp; with_reducible rfl)
  simp only [Act.put, List.setIfInBounds_toArray, List.set_cons_zero, List.set_cons_succ]
  refine held_take (v := ?xv8) 8 rfl (by kernel_rfl) (by kernel_rfl) (by kernel_rfl) (fun _ _ _ h => h) (by rfl) hHeld ?xy8 ?xr8
  case xy8 => (intro W hSw; go_simp; with_reducible rfl)
  simp only [Act.put, List.setIfInBounds_toArray, List.set_cons_zero, List.set_cons_succ]
  refine held_one 9 (by kernel_rfl) rfl (fun K hK => ?_)
  go_simp
  refine (MA.out _ HB.out.drew).mono ?_
  rintro e w1 ⟨rfl, hw⟩
  obtain rfl := hw.symm
  try dsimp only
  refine hK.out _ _ (C0.out) (fun hHeld => ?_)
  clear hK K
  try simp only [Act.put, List.setIfInBounds_toArray, List.set_cons_zero, List.set_cons_succ]
  refine held_one 10 (by kernel_rfl) rfl (fun K hK => ?_)
  go_simp
  refine (PA.out _ HB.out.drew).mono ?_
  rintro e w1 ⟨rfl, hb1⟩
  have Hb1 := hid (below_undrew hb1)
  have hc1 := (Hb1.out.cell (p := ⟨pb, 0, none⟩) Hpl.out).trans C0.out
  clear hb1
  try dsimp only
  refine hK.out _ _ (hc1) (fun hHeld => ?_)
  clear hK K
  try simp only [Act.put, List.setIfInBounds_toArray, List.set_cons_zero, List.set_cons_succ]
  refine held_take (v := ?xbv11) 11 rfl (by kernel_rfl) (by kernel_rfl) (by kernel_rfl) (fun _ _ _ h => h) (by rfl) hHeld ?xby11 ?xbr11
  case xby11 => (intro W hSw; go_simp; with_reducible rfl)
  simp only [Act.put, List.setIfInBounds_toArray, List.set_cons_zero, List.set_cons_succ]
  refine held_take (v := ?xbv12) 12 rfl (by kernel_rfl) (by kernel_rfl) (by kernel_rfl) (fun _ _ _ h => h) (by rfl) hHeld ?xby12 ?xbr12
  case xby12 => (intro W hSw; go_simp; with_reducible rfl)
  simp only [Act.put, List.setIfInBounds_toArray, List.set_cons_zero, List.set_cons_succ]
  refine held_take (v := ?xbv13) 13 rfl (by kernel_rfl) (by kernel_rfl) (by kernel_rfl) (fun _ _ _ h => h) (by rfl) hHeld ?xby13 ?xbr13
  case xby13 => (intro W hSw; go_simp; with_reducible rfl)
  simp only [Act.put, List.setIfInBounds_toArray, List.set_cons_zero, List.set_cons_succ]
  refine held_take (v := ?xbv14) 14 rfl (by kernel_rfl) (by kernel_rfl) (by kernel_rfl) (fun _ _ _ h => h) (by rfl) hHeld ?xby14 ?xbr14
  case xby14 => (intro W hSw; go_simp; with_reducible rfl)
  simp only [Act.put, List.setIfInBounds_toArray, List.set_cons_zero, List.set_cons_succ]
  clear hHeld hc1
  refine wpAnyH_done (by kernel_rfl) ?_ _
  go_wp2_with fail
  go_ret2
  exact ⟨rfl, Hb1.out⟩
 | some t =>
  rw [hp] at hnow
  obtain ⟨nb, mb, hnv, hnb, hwr, -, -⟩ := hnow
  subst hnv
  have d1 : w.cell? ⟨nb, 1, none⟩ = some (.map (some mb)) := (cell_of_block hnb 1).trans rfl
  have LK := says_look hwr (p := n) (by omega)
  obtain ⟨o, ho⟩ : ∃ o, o = t.wr n := ⟨_, rfl⟩
  rw [← ho] at LK
  dsimp only
  rw [← ho]
  clear h hl hnb hwr hp ho
  cases o with
  | some s =>
   simp only [Option.getD_some, Option.isSome_some] at LK
   go_enter Tryz.func28, Tryz.ntmps28
   go_wp2_with (first
    | (go_at_call 9; refine (PP.out).mono ?_; rintro e w1 ⟨rfl, hw⟩; obtain rfl := hw.symm)
    | go_in)
   go_ret2
   exact ⟨rfl, HB.out⟩
  | none =>
   simp only [Option.getD_none, Option.isSome_none] at LK
   go_enter Tryz.func28, Tryz.ntmps28
   go_upto_region 9 with (first
    | (go_at_call 9; refine (PP.out).mono ?_; rintro e w1 ⟨rfl, hw⟩; obtain rfl := hw.symm)
    | go_in)
   have p0 := C0.out
   refine wp_region_held_drew (S := fun W => W.cell? ⟨pb, 0, none⟩ = some (.pointer (some ⟨l, 0, none⟩))) (by kernel_rfl) p0 (fun hHeld => ?_)
   clear p0
   refine held_take (v := ?zv0) 0 rfl (by kernel_rfl) (by kernel_rfl) (by kernel_rfl) (fun _ _ _ h => h) (by rfl) hHeld ?zy0 ?zr0
   case zy0 => (intro W hSw; go_simp; with_reducible rfl)
   simp only [Act.put, List.setIfInBounds_toArray, List.set_cons_zero, List.set_cons_succ]
   refine held_take (v := ?zv1) 1 rfl (by kernel_rfl) (by kernel_rfl) (by kernel_rfl) (fun _ _ _ h => h) (by rfl) hHeld ?zy1 ?zr1
   case zy1 => (intro W hSw; go_simp; with_reducible rfl)
   simp only [Act.put, List.setIfInBounds_toArray, List.set_cons_zero, List.set_cons_succ]
   refine held_take (v := ?zv2) 2 rfl (by kernel_rfl) (by kernel_rfl) (by kernel_rfl) (fun _ _ _ h => h) (by rfl) hHeld ?zy2 ?zr2
   case zy2 => (intro W hSw; go_simp; with_reducible rfl)
   simp only [Act.put, List.setIfInBounds_toArray, List.set_cons_zero, List.set_cons_succ]
   refine held_take (v := ?zv3) 3 rfl (by kernel_rfl) (by kernel_rfl) (by kernel_rfl) (fun _ _ _ h => h) (by rfl) hHeld ?zy3 ?zr3
   case zy3 => (intro W hSw; go_simp; with_reducible rfl)
   simp only [Act.put, List.setIfInBounds_toArray, List.set_cons_zero, List.set_cons_succ]
   refine held_take (v := ?zv4) 4 rfl (by kernel_rfl) (by kernel_rfl) (by kernel_rfl) (fun _ _ _ h => h) (by rfl) hHeld ?zy4 ?zr4
   case zy4 => (intro W hSw; go_simp; with_reducible rfl)
   simp only [Act.put, List.setIfInBounds_toArray, List.set_cons_zero, List.set_cons_succ]
   refine held_take (v := ?zv5) 5 rfl (by kernel_rfl) (by kernel_rfl) (by kernel_rfl) (fun _ _ _ h => h) (by rfl) hHeld ?zy5 ?zr5
   case zy5 => (intro W hSw; go_simp; with_reducible rfl)
   simp only [Act.put, List.setIfInBounds_toArray, List.set_cons_zero, List.set_cons_succ]
   refine held_take (v := ?zv6) 6 rfl (by kernel_rfl) (by kernel_rfl) (by kernel_rfl) (fun _ _ _ h => h) (by rfl) hHeld ?zy6 ?zr6
   case zy6 => (intro W hSw; go_simp; with_reducible rfl)
   simp only [Act.put, List.setIfInBounds_toArray, List.set_cons_zero, List.set_cons_succ]
   refine held_take (v := ?zv7) 7 rfl (by kernel_rfl) (by kernel_rfl) (by kernel_rfl) (fun _ _ _ h => h) (by rfl) hHeld ?zy7 ?zr7
   case zy7 => (intro W hSw; go_simp; with_reducible rfl)
   simp only [Act.put, List.setIfInBounds_toArray, List.set_cons_zero, List.set_cons_succ]
   refine held_take (v := ?zv8) 8 rfl (by kernel_rfl) (by kernel_rfl) (by kernel_rfl) (fun _ _ _ h => h) (by rfl) hHeld ?zy8 ?zr8
   case zy8 => (intro W hSw; go_simp; with_reducible rfl)
   simp only [Act.put, List.setIfInBounds_toArray, List.set_cons_zero, List.set_cons_succ]
   refine held_one 9 (by kernel_rfl) rfl (fun K hK => ?_)
   go_simp
   refine (MA.out _ HB.out.drew).mono ?_
   rintro e w1 ⟨rfl, hw⟩
   obtain rfl := hw.symm
   try dsimp only
   refine hK.out _ _ (C0.out) (fun hHeld => ?_)
   clear hK K
   try simp only [Act.put, List.setIfInBounds_toArray, List.set_cons_zero, List.set_cons_succ]
   refine held_one 10 (by kernel_rfl) rfl (fun K hK => ?_)
   go_simp
   refine (PA.out _ HB.out.drew).mono ?_
   rintro e w1 ⟨rfl, hb1⟩
   have Hb1 := hid (below_undrew hb1)
   have hc1 := (Hb1.out.cell (p := ⟨pb, 0, none⟩) Hpl.out).trans C0.out
   clear hb1
   try dsimp only
   refine hK.out _ _ (hc1) (fun hHeld => ?_)
   clear hK K
   try simp only [Act.put, List.setIfInBounds_toArray, List.set_cons_zero, List.set_cons_succ]
   refine held_take (v := ?zbv11) 11 rfl (by kernel_rfl) (by kernel_rfl) (by kernel_rfl) (fun _ _ _ h => h) (by rfl) hHeld ?zby11 ?zbr11
   case zby11 => (intro W hSw; go_simp; with_reducible rfl)
   simp only [Act.put, List.setIfInBounds_toArray, List.set_cons_zero, List.set_cons_succ]
   refine held_take (v := ?zbv12) 12 rfl (by kernel_rfl) (by kernel_rfl) (by kernel_rfl) (fun _ _ _ h => h) (by rfl) hHeld ?zby12 ?zbr12
   case zby12 => (intro W hSw; go_simp; with_reducible rfl)
   simp only [Act.put, List.setIfInBounds_toArray, List.set_cons_zero, List.set_cons_succ]
   refine held_take (v := ?zbv13) 13 rfl (by kernel_rfl) (by kernel_rfl) (by kernel_rfl) (fun _ _ _ h => h) (by rfl) hHeld ?zby13 ?zbr13
   case zby13 => (intro W hSw; go_simp; with_reducible rfl)
   simp only [Act.put, List.setIfInBounds_toArray, List.set_cons_zero, List.set_cons_succ]
   refine held_take (v := ?zbv14) 14 rfl (by kernel_rfl) (by kernel_rfl) (by kernel_rfl) (fun _ _ _ h => h) (by rfl) hHeld ?zby14 ?zbr14
   case zby14 => (intro W hSw; go_simp; with_reducible rfl)
   simp only [Act.put, List.setIfInBounds_toArray, List.set_cons_zero, List.set_cons_succ]
   clear hHeld hc1
   refine wpAnyH_done (by kernel_rfl) ?_ _
   go_wp2_with fail
   go_ret2
   exact ⟨rfl, Hb1.out⟩
end
end Go.Proofs.YtlkkclooihjpiaaGreat
namespace Go.Proofs.YtlkkclooihjpiaaGreat
open Go.RowKit Go.Maps
set_option maxRecDepth 20000
section
variable {w W W' : World} {pb l b : Nat} {p p' : Pg} {g g' : Lg} {d d' : Dsk} {X X' : Nat → Prop}
theorem px_pages (h : PgX w W pb l b p g d X) : Calls Tryz.prog 9 #[.pointer (some ⟨pb, 0, none⟩)] W fun e w' => e = .returned (.int .i64 (ppagesM p g)) ∧ w' = W := by
 obtain ⟨⟨F, G, K, nv, sv, h1, h2, h3, h4⟩, hb, hx⟩ := h
 exact ppages_any h1 h2
theorem px_read (h : PgX w W pb l b p g d X) (n : Int) (hn : -9223372036854775808 ≤ n ∧ n ≤ 9223372036854775807) : Calls Tryz.prog 28 #[.pointer (some ⟨pb, 0, none⟩), .int .i64 n] W fun e w' => e = .returned (.tuple #[.string (bs (preadM p g d n).1), .int .i64 (preadM p g d n).2]) ∧ Below W.heap.size W w' := by
 obtain ⟨⟨F, G, K, nv, sv, h1, h2, h3, h4⟩, hb, hx⟩ := h
 exact pread_any h1 h2 n hn
theorem px_begin (h : PgX w W pb l b p g d X) : Calls Tryz.prog 30 #[.pointer (some ⟨pb, 0, none⟩)] W fun e w' => e = .returned (.int .i64 (beginM p g).1) ∧ PgX w w' pb l b (beginM p g).2 g d X ∧ ∀ k, X k → w'.heap[k]? = W.heap[k]? := by
 obtain ⟨⟨F, G, K, nv, sv, h1, h2, h3, h4⟩, hb, hx⟩ := h
 exact (begin_any h1 h2).mono fun e w' ⟨he, hd⟩ => ⟨he, pgx_did h1 h2 h3 h4 hb hx hd⟩
theorem px_write (h : PgX w W pb l b p g d X) (n : Int) (s : List UInt8) (hn : -9223372036854775808 ≤ n ∧ n ≤ 9223372036854775807) (hsl : s.length ≤ 9223372036854775807) : Calls Tryz.prog 36 #[.pointer (some ⟨pb, 0, none⟩), .int .i64 n, .string (bs s)] W fun e w' => e = .returned (.int .i64 (pwriteM p n s).1) ∧ PgX w w' pb l b (pwriteM p n s).2 g d X ∧ ∀ k, X k → w'.heap[k]? = W.heap[k]? := by
 obtain ⟨⟨F, G, K, nv, sv, h1, h2, h3, h4⟩, hb, hx⟩ := h
 exact (pwrite_any h2 n s hn hsl).mono fun e w' ⟨he, hd⟩ => ⟨he, pgx_did h1 h2 h3 h4 hb hx hd⟩
theorem px_resize (h : PgX w W pb l b p g d X) (n : Int) (hn : -9223372036854775808 ≤ n ∧ n ≤ 9223372036854775807) : Calls Tryz.prog 31 #[.pointer (some ⟨pb, 0, none⟩), .int .i64 n] W fun e w' => e = .returned (.int .i64 (presizeM p n).1) ∧ PgX w w' pb l b (presizeM p n).2 g d X ∧ ∀ k, X k → w'.heap[k]? = W.heap[k]? := by
 obtain ⟨⟨F, G, K, nv, sv, h1, h2, h3, h4⟩, hb, hx⟩ := h
 exact (resize_any h2 n hn).mono fun e w' ⟨he, hd⟩ => ⟨he, pgx_did h1 h2 h3 h4 hb hx hd⟩
theorem px_save (h : PgX w W pb l b p g d X) : Calls Tryz.prog 43 #[.pointer (some ⟨pb, 0, none⟩)] W fun e w' => e = .returned (.tuple #[.int .i64 (psaveM p).1, .int .i64 (psaveM p).2.1]) ∧ PgX w w' pb l b (psaveM p).2.2 g d X ∧ ∀ k, X k → w'.heap[k]? = W.heap[k]? := by
 obtain ⟨⟨F, G, K, nv, sv, h1, h2, h3, h4⟩, hb, hx⟩ := h
 exact (save_any h2).mono fun e w' ⟨he, hd⟩ => ⟨he, pgx_did h1 h2 h3 h4 hb hx hd⟩
theorem px_back (h : PgX w W pb l b p g d X) (n : Int) (hn : -9223372036854775808 ≤ n ∧ n ≤ 9223372036854775807) : Calls Tryz.prog 45 #[.pointer (some ⟨pb, 0, none⟩), .int .i64 n] W fun e w' => e = .returned (.int .i64 (pbackM p n).1) ∧ PgX w w' pb l b (pbackM p n).2 g d X ∧ ∀ k, X k → w'.heap[k]? = W.heap[k]? := by
 obtain ⟨⟨F, G, K, nv, sv, h1, h2, h3, h4⟩, hb, hx⟩ := h
 exact (back_any h2 n hn).mono fun e w' ⟨he, hd⟩ => ⟨he, pgx_did h1 h2 h3 h4 hb hx hd⟩
theorem px_roll (h : PgX w W pb l b p g d X) : Calls Tryz.prog 15 #[.pointer (some ⟨pb, 0, none⟩)] W fun e w' => e = .returned (.int .i64 (prollM p).1) ∧ PgX w w' pb l b (prollM p).2 g d X ∧ ∀ k, X k → w'.heap[k]? = W.heap[k]? := by
 obtain ⟨⟨F, G, K, nv, sv, h1, h2, h3, h4⟩, hb, hx⟩ := h
 exact (roll_any h2).mono fun e w' ⟨he, hd⟩ => ⟨he, pgx_did h1 h2 h3 h4 hb hx hd⟩
theorem px_open (h : MkD w W b d) (ho : lopenM d = (some g, 0)) : Calls Tryz.prog 8 #[.pointer (some ⟨b, 0, none⟩)] W fun e w' => ∃ pb l, e = .returned (.tuple #[.pointer (some ⟨pb, 0, none⟩), .int .i64 0]) ∧ PgX w w' pb l b ⟨none, [], 0⟩ g d (fun k => k < w.heap.size) := by
 have OP := hid (mk_open h ho)
 clear h ho
 go_enter Tryz.func8, Tryz.ntmps8
 go_wp2_with (first
  | (go_at_call 26; refine (OP.out).mono ?_; rintro e w1 ⟨l, rfl, hm⟩; have HM := hid hm; clear hm)
  | go_in)
 go_ret2
 obtain ⟨⟨F, G, h1, h2⟩, hb⟩ := HM.out
 have hb1 : Below w1.heap.size w1 (w1.alloc (.cells #[.pointer (some ⟨l, 0, none⟩), .pointer none, .slice none 0 0, .int .i64 0] 83)) := (Below.refl _ w1).alloc (Nat.le_refl _) _
 have hn1 := heap_alloc_new w1 (.cells #[.pointer (some ⟨l, 0, none⟩), .pointer none, .slice none 0 0, .int .i64 0] 83)
 refine ⟨w1.heap.size, l, rfl, ⟨F, G, ⟨fun k => k = w1.heap.size, fun _ => False⟩, .pointer none, .slice none 0 0, h1.below hb1, ⟨hn1, rfl, ⟨[], rfl, World.ownsRow_nil _ _ _ _, (fun k hk => by cases hk), (fun x hx => by cases hx)⟩, (fun nb e => by cases e), rfl, (fun k hk => by rw [hk]; exact lt_of_block hn1), (fun k hk => hk.elim), (fun k _ hk => hk), ⟨(fun t ht => by cases ht), (fun t ht => by cases ht), by simp, fun _ => rfl⟩⟩, fun k hk => ?_, fun k hk => ?_⟩, hb.trans (hb1.mono hb.size), fun k hk => ?_⟩
 ·rcases hk with hk | hk
  ·subst hk
   refine ⟨fun f => ?_, fun f => ?_, fun f => ?_⟩
   ·have := h1.flt (k := w1.heap.size) (.inl f); omega
   ·have := h1.flt (k := w1.heap.size) (.inr (.inl f)); omega
   ·have := h1.flt (k := w1.heap.size) (.inr (.inr f)); omega
  ·exact hk.elim
 ·rcases hk with hk | hk | hk
  ·have := h2 k hk
   exact ⟨this, by omega⟩
  ·have := hb.size
   have hk : k = w1.heap.size := hk
   exact ⟨by omega, by omega⟩
  ·exact hk.elim
 ·have := hb.size
  have := hb1.size
  omega
end
end Go.Proofs.YtlkkclooihjpiaaGreat
namespace Go.Proofs.YtlkkclooihjpiaaGreat
open Go.RowKit Go.Maps
set_option maxRecDepth 20000
section
variable {w W W' : World} {pb l b vb : Nat} {p p' : Pg} {g g' : Lg} {d d' : Dsk} {X X' : Nat → Prop} {F K : Foot} {G : Nat → Prop} {nv sv : Value}
theorem PgX.cell (h : PgX w W pb l b p g d X) : (∃ nv sv, W.heap[pb]? = some (.cells #[.pointer (some ⟨l, 0, none⟩), nv, sv, .int .i64 p.opn] 83 (0, 0))) ∧ ¬ X pb := by
 obtain ⟨⟨F, G, K, nv, sv, h1, h2, h3, h4⟩, hb, hx⟩ := h
 exact ⟨⟨nv, sv, h2.blk⟩, (h4 pb (.inr (.inl h2.pown))).2⟩
theorem px_law (h : PgX w W pb l b p g d X) (hf : Frm X W W') (hX : ∀ k, X k → w.heap.size ≤ k ∨ W'.heap[k]? = W.heap[k]?) : PgX w W' pb l b p g d X := by
 obtain ⟨⟨F, G, K, nv, sv, h1, h2, h3, h4⟩, hb, hx⟩ := h
 have hst : LgStep ⟨X, fun _ => False⟩ ⟨X, fun _ => False⟩ (fun _ => False) (fun _ => False) W W' :=
  ⟨⟨hf.os, hf.tape, hf.output, hf.size, fun k hk hn => hf.block k hk (fun e => hn (.inl e))⟩, fun k hk => .inl hk, fun k hk => .inl hk, fun k hk => .inl hk⟩
 refine ⟨⟨F, G, K, nv, sv, h1.other (b2 := 0) hst (fun k hk => ⟨(h4 k (.inl hk)).2, id⟩), h2.keep (fun k hk => hf.block k (h2.klt hk) (h4 k (.inr hk)).2) hf.size, h3, h4⟩, ⟨hf.os.trans hb.os, hf.tape.trans hb.tape, hf.output.trans hb.output, Nat.le_trans hb.size hf.size, fun k hk => ?_⟩, fun k hk => Nat.lt_of_lt_of_le (hx k hk) hf.size⟩
 have hkW : k < W.heap.size := Nat.lt_of_lt_of_le hk hb.size
 rcases Classical.em (X k) with e | e
 ·exact ((hX k e).resolve_left (by omega)).trans (hb.block k hk)
 ·exact (hf.block k hkW e).trans (hb.block k hk)
theorem px_add (h : PgX w W pb l b p g d X) (hb : Below W.heap.size W W') (hx : ∀ k, X' k → X k ∨ W.heap.size ≤ k) (hlt : ∀ k, X' k → k < W'.heap.size) : PgX w W' pb l b p g d X' := by
 obtain ⟨⟨F, G, K, nv, sv, h1, h2, h3, h4⟩, hb1, hx1⟩ := h
 refine ⟨⟨F, G, K, nv, sv, h1.below hb, h2.below hb, h3, fun k hk => ⟨(h4 k hk).1, fun e => ?_⟩⟩, hb1.trans (hb.mono hb1.size), hlt⟩
 rcases hx k e with e | e
 ·exact (h4 k hk).2 e
 ·rcases hk with hk | hk
  ·have := h1.flt hk; omega
  ·have := h2.klt hk; omega
end
end Go.Proofs.YtlkkclooihjpiaaGreat
