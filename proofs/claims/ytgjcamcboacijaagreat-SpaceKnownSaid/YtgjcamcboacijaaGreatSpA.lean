/- A database's header: its bytes; plain laws. -/
import Derived.Test.YtgjcamcboacijaaGreatPcA
namespace Go.Proofs.YtgjcamcboacijaaGreat
open Go.RowKit Go.Maps
set_option linter.unusedVariables false
set_option linter.unusedSimpArgs false
set_option maxRecDepth 20000

structure Hdr where
  free : Int
  count : Int
  commits : Int
  roots : List Int
structure Hdr.Wf (h : Hdr) : Prop where
  free : in64 h.free
  count : in64 h.count
  commits : 0 ≤ h.commits ∧ h.commits < 18446744073709551616
  len : h.roots.length = 8
  roots : ∀ n ∈ h.roots, in64 n
def hdrCells (h : Hdr) : List Value := .int .i64 h.free :: .int .i64 h.count :: .int .u64 h.commits :: h.roots.map (.int .i64 ·)
def hdrV (h : Hdr) : Value := .agg (hdrCells h).toArray
def wordP : List UInt8 := [99, 102, 45, 112, 97, 103, 101, 115]
def pageB (n : Int) : Bool := decide (0 ≤ n) && decide (n ≤ 256)
theorem pageB_true {n : Int} : pageB n = true ↔ 0 ≤ n ∧ n ≤ 256 := by unfold pageB; simp
def hdrMayB (h : Hdr) : Bool := h.roots.all pageB && (pageB h.free && h.free != 1 && pageB h.count)
def hdrText (h : Hdr) : List UInt8 := wordP ++ four h.free ++ four h.count ++ eight h.commits ++ h.roots.flatMap four
def hdrPg (h : Hdr) : List UInt8 := hdrText h ++ zeros 456
def putH (h : Hdr) : List UInt8 × Int := if hdrMayB h then (hdrPg h, 0) else ([], 2)
def hdr0 : Hdr := ⟨0, 0, 0, [0, 0, 0, 0, 0, 0, 0, 0]⟩
def at4 (s : List UInt8) (o : Nat) : Int := num ((s.drop o).take 4)
def hdrOf (s : List UInt8) : Hdr := ⟨at4 s 8, at4 s 12, num ((s.drop 16).take 8), (List.range 8).map fun i => at4 s (24 + 4 * i)⟩
def takeH (s : List UInt8) : Hdr × Int := if s.length ≠ 512 then (hdr0, 7) else if putH (hdrOf s) = (s, 0) then (hdrOf s, 0) else (hdr0, 7)
theorem fours_length : ∀ l : List Int, (l.flatMap four).length = 4 * l.length
  | [] => rfl
  | x :: r => by
    have := fours_length r
    simp only [List.flatMap_cons, List.length_append, List.length_cons, this]
    show 4 + _ = _
    omega
theorem hdrText_length (h : Hdr) (hl : h.roots.length = 8) : (hdrText h).length = 56 := by
  unfold hdrText
  simp only [List.length_append, fours_length, hl]
  rfl
theorem hdrPg_length (h : Hdr) (hl : h.roots.length = 8) : (hdrPg h).length = 512 := by
  unfold hdrPg
  rw [List.length_append, hdrText_length h hl, zeros_length]
theorem at4_mid (a t : List UInt8) (n : Int) (h0 : 0 ≤ n) (h1 : n < 4294967296) {o : Nat} (ho : a.length = o) : at4 (a ++ four n ++ t) o = n := by
  unfold at4
  rw [List.append_assoc, ← ho, List.drop_left]
  have e : (four n ++ t).take 4 = four n := List.take_left' rfl
  rw [e, num_four n h0 h1]
theorem at4_roots (a t : List UInt8) : ∀ (l : List Int) (i : Nat) (h : i < l.length) (o : Nat), a.length = o → (∀ n ∈ l, 0 ≤ n ∧ n < 4294967296) → at4 (a ++ l.flatMap four ++ t) (o + 4 * i) = l[i]
  | x :: r, 0, _, o, ho, hb => by
    have hx := hb x (by simp)
    show at4 (a ++ (four x ++ r.flatMap four) ++ t) (o + 0) = x
    rw [Nat.add_zero, show a ++ (four x ++ r.flatMap four) ++ t = a ++ four x ++ (r.flatMap four ++ t) by simp]
    exact at4_mid a _ x hx.1 hx.2 ho
  | x :: r, i + 1, h, o, ho, hb => by
    have := at4_roots (a ++ four x) t r i (by simpa using h) (o + 4) (by rw [List.length_append, ho]; rfl) (fun n hn => hb n (by simp [hn]))
    have e : a ++ (x :: r).flatMap four ++ t = a ++ four x ++ r.flatMap four ++ t := by simp
    rw [e, show o + 4 * (i + 1) = o + 4 + 4 * i by omega, this]
    rfl
theorem hdrMay_all {h : Hdr} (hm : hdrMayB h = true) : (∀ n ∈ h.roots, 0 ≤ n ∧ n ≤ 256) ∧ (0 ≤ h.free ∧ h.free ≤ 256 ∧ h.free ≠ 1) ∧ 0 ≤ h.count ∧ h.count ≤ 256 := by
  unfold hdrMayB at hm
  simp only [Bool.and_eq_true, List.all_eq_true, pageB_true, bne_iff_ne, ne_eq] at hm
  exact ⟨hm.1, ⟨hm.2.1.1.1, hm.2.1.1.2, hm.2.1.2⟩, hm.2.2⟩
theorem hdr_ext {a b : Hdr} (h1 : a.free = b.free) (h2 : a.count = b.count) (h3 : a.commits = b.commits) (h4 : a.roots = b.roots) : a = b := by
  cases a
  cases b
  simp_all
/-- What was put is taken. -/
theorem hdrOf_put {h : Hdr} (hm : hdrMayB h = true) (hw : h.Wf) : hdrOf (hdrPg h) = h := by
  obtain ⟨hr, hf, hc⟩ := hdrMay_all hm
  have hk := hw.commits
  have hl := hw.len
  unfold hdrPg hdrText
  refine hdr_ext ?_ ?_ ?_ ?_
  · show at4 _ 8 = h.free
    rw [show wordP ++ four h.free ++ four h.count ++ eight h.commits ++ h.roots.flatMap four ++ zeros 456 = wordP ++ four h.free ++ (four h.count ++ eight h.commits ++ h.roots.flatMap four ++ zeros 456) by simp]
    exact at4_mid _ _ _ hf.1 (by omega) rfl
  · show at4 _ 12 = h.count
    rw [show wordP ++ four h.free ++ four h.count ++ eight h.commits ++ h.roots.flatMap four ++ zeros 456 = (wordP ++ four h.free) ++ four h.count ++ (eight h.commits ++ h.roots.flatMap four ++ zeros 456) by simp]
    exact at4_mid _ _ _ hc.1 (by omega) rfl
  · show num (List.take 8 (List.drop 16 _)) = h.commits
    rw [show wordP ++ four h.free ++ four h.count ++ eight h.commits ++ h.roots.flatMap four ++ zeros 456 = (wordP ++ four h.free ++ four h.count) ++ (eight h.commits ++ (h.roots.flatMap four ++ zeros 456)) by simp]
    have e1 : (wordP ++ four h.free ++ four h.count).length = 16 := rfl
    rw [← e1, List.drop_left]
    have e2 : (eight h.commits ++ (h.roots.flatMap four ++ zeros 456)).take 8 = eight h.commits := List.take_left' rfl
    rw [e2, num_eight _ hk.1 hk.2]
  · show (List.range 8).map (fun i => at4 _ (24 + 4 * i)) = h.roots
    apply List.ext_getElem
    · simp [hl]
    · intro i h1 h2
      simp only [List.getElem_map, List.getElem_range]
      exact at4_roots (wordP ++ four h.free ++ four h.count ++ eight h.commits) (zeros 456) h.roots i h2 24 rfl (fun n hn => by have := hr n hn; omega)
theorem takeH_put {h : Hdr} (hm : hdrMayB h = true) (hw : h.Wf) : takeH (hdrPg h) = (h, 0) := by
  unfold takeH
  rw [hdrOf_put hm hw, if_neg (by rw [hdrPg_length h hw.len]; simp)]
  unfold putH
  rw [if_pos hm, if_pos rfl]
theorem at4_range (s : List UInt8) (o : Nat) : 0 ≤ at4 s o ∧ at4 s o < 4294967296 := by
  unfold at4
  refine ⟨num_lo _, ?_⟩
  have h := num_hi ((s.drop o).take 4)
  have hl : ((s.drop o).take 4).length ≤ 4 := by rw [List.length_take]; omega
  have : (256 : Int) ^ ((s.drop o).take 4).length ≤ 256 ^ 4 := by
    match ((s.drop o).take 4).length, hl with
    | 0, _ => decide
    | 1, _ => decide
    | 2, _ => decide
    | 3, _ => decide
    | 4, _ => decide
  omega
theorem hdrOf_wf (s : List UInt8) : (hdrOf s).Wf := by
  refine ⟨?_, ?_, num8_lt _, by simp [hdrOf], ?_⟩
  · have := at4_range s 8; exact ⟨by show _ ≤ at4 s 8; omega, by show at4 s 8 ≤ _; omega⟩
  · have := at4_range s 12; exact ⟨by show _ ≤ at4 s 12; omega, by show at4 s 12 ≤ _; omega⟩
  · intro n hn
    obtain ⟨i, -, rfl⟩ := List.mem_map.1 hn
    have := at4_range s (24 + 4 * i)
    exact ⟨by omega, by omega⟩
theorem hdr0_wf : hdr0.Wf := ⟨by unfold in64; decide, by unfold in64; decide, by decide, rfl, by intro n hn; simp [hdr0] at hn; subst hn; unfold in64; decide⟩
theorem takeH_wf (s : List UInt8) : (takeH s).1.Wf := by
  unfold takeH
  split
  · exact hdr0_wf
  split
  · exact hdrOf_wf s
  · exact hdr0_wf
/-- What is taken may be put. -/
theorem takeH_may {s : List UInt8} (h : (takeH s).2 = 0) : s.length = 512 ∧ hdrMayB (takeH s).1 = true ∧ s = hdrPg (takeH s).1 ∧ (takeH s).1 = hdrOf s := by
  unfold takeH at h ⊢
  by_cases hl : s.length ≠ 512
  · rw [if_pos hl] at h
    cases h
  rw [if_neg hl] at h ⊢
  by_cases hp : putH (hdrOf s) = (s, 0)
  · rw [if_pos hp]
    have hp2 := hp
    unfold putH at hp2
    by_cases hm : hdrMayB (hdrOf s) = true
    · rw [if_pos hm] at hp2
      exact ⟨by simpa using hl, hm, (Prod.mk.inj hp2).1.symm, rfl⟩
    · rw [if_neg hm] at hp2
      cases hp2
  · rw [if_neg hp] at h
    cases h
end Go.Proofs.YtgjcamcboacijaaGreat
