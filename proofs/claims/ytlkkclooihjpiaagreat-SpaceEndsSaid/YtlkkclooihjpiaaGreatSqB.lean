import Derived.Test.YtlkkclooihjpiaaGreatPcA
import Derived.Test.YtlkkclooihjpiaaGreatSpE
set_option linter.unusedVariables false
set_option linter.unusedSimpArgs false
namespace Go.Proofs.YtlkkclooihjpiaaGreat
open Go.RowKit Go.Maps
set_option maxRecDepth 20000
section
variable {g : Lg} {d : Dsk} {p : Pg}
end
end Go.Proofs.YtlkkclooihjpiaaGreat
namespace Go.Proofs.YtlkkclooihjpiaaGreat
open Go.RowKit Go.Maps
set_option maxRecDepth 20000
structure DbW (g : Lg) (d : Dsk) (L : List (List UInt8)) : Prop where
 pages : g.head.pages = (L.length : Int)
 many : L.length ≤ 256
 page : ∀ n : Nat, 1 ≤ n → n ≤ L.length → pageM g d n g.list.length = (L.getD (n - 1) [], 0)
 len : ∀ s ∈ L, s.length = 512
structure Db (g : Lg) (d : Dsk) (L : List (List UInt8)) : Prop where
 calm : LgCalm g d
 pages : g.head.pages = (L.length : Int)
 many : L.length ≤ 256
 page : ∀ n : Nat, 1 ≤ n → n ≤ L.length → pageM g d n g.list.length = (L.getD (n - 1) [], 0)
 len : ∀ s ∈ L, s.length = 512
theorem Db.w {g : Lg} {d : Dsk} {L : List (List UInt8)} (h : Db g d L) : DbW g d L := ⟨h.pages, h.many, h.page, h.len⟩
structure Tx (p : Pg) (g : Lg) (d : Dsk) (t : Tr) (M : List (List UInt8)) : Prop where
 now : p.now = some t
 opn : p.opn = 0
 ok : t.Ok
 pages : t.pages = (M.length : Int)
 page : ∀ n : Nat, 1 ≤ n → n ≤ M.length → t.wr n = some (M.getD (n - 1) []) ∨ (t.wr n = none ∧ (n : Int) ≤ g.head.pages ∧ pageM g d n g.list.length = (M.getD (n - 1) [], 0))
section
variable {g : Lg} {d : Dsk} {p : Pg} {t : Tr} {L M : List (List UInt8)}
theorem Tx.len (h : Tx p g d t M) (hd : g.off = false) (hl : ∀ n : Nat, 1 ≤ n → (n : Int) ≤ g.head.pages → (pageM g d n g.list.length).1.length = 512) : ∀ s ∈ M, s.length = 512 := by
 intro s hs
 obtain ⟨i, hi, rfl⟩ := List.getElem_of_mem hs
 have e : M.getD (i + 1 - 1) [] = M[i] := by rw [Nat.add_sub_cancel, List.getD_eq_getElem?_getD, List.getElem?_eq_getElem hi]; rfl
 rcases h.page (i + 1) (by omega) (by omega) with h1 | ⟨-, h2, h3⟩
 ·rw [e] at h1
  exact (h.ok.dom _ _ h1).2.2
 ·have := hl (i + 1) (by omega) h2
  rw [h3, e] at this
  exact this
end
structure HdOk (h : Hdr) : Prop where
 may : hdrMayB h = true
 wf : h.Wf
theorem hd0_ok : HdOk hdr0 := ⟨by decide, hdr0_wf⟩
theorem writeHM_ok {p : Pg} {h : Hdr} (hh : HdOk h) : writeHM p h = pwriteM p 1 (hdrPg h) := by
 unfold writeHM putH
 rw [if_pos hh.may]
 simp
section
variable {g : Lg} {d : Dsk} {p : Pg} {t : Tr} {L M : List (List UInt8)} {h h' : Hdr}
end
end Go.Proofs.YtlkkclooihjpiaaGreat
/- Plain laws: what a crash may leave of a disk's files; a log that is sound whatever a crash keeps. -/
namespace Go.Proofs.YtlkkclooihjpiaaGreat
open Go.RowKit Go.Maps
set_option maxRecDepth 20000
def May (d : Dsk) (k i : Nat) (s : Sec) : Prop := s = (d.sure k).getD i nought ∨ s = (d.now k).getD i nought ∨ ∃ c ∈ d.loose, c.file = k ∧ c.cut = false ∧ c.at_ = i ∧ c.bytes = s
structure Alike (d d' : Dsk) : Prop where
 now : d'.now = d.now
 sure : d'.sure = d.sure
 loose : d'.loose = d.loose
theorem Alike.may {d d' : Dsk} (h : Alike d d') {k i : Nat} {s : Sec} (hm : May d' k i s) : May d k i s := by
 unfold May at hm ⊢
 rwa [h.now, h.sure, h.loose] at hm
theorem alike_meets (d : Dsk) : Alike d (meetsM d).2 := ⟨rfl, rfl, rfl⟩
section
variable {d : Dsk} {keep : List Bool}
end
section
variable {d d' : Dsk} {k a n : Nat} {s : List UInt8}
theorem wrN_sure : ∀ n, (wrN d k a s n).sure = d.sure
 | 0 => rfl
 | n + 1 => wrN_sure n
theorem wrN_loose_eq : ∀ n, (wrN d k a s n).loose = d.loose ++ (List.range n).map (wrChg k a s)
 | 0 => by simp [wrN]
 | n + 1 => by
  show (wrN d k a s n).loose ++ [_] = _
  rw [wrN_loose_eq n, List.range_succ, List.map_append, List.append_assoc]
  rfl
theorem wrN_mem {c : Chg} (h : c ∈ (wrN d k a s n).loose) : c ∈ d.loose ∨ ∃ i < n, c = wrChg k a s i := by
 rw [wrN_loose_eq] at h
 rcases List.mem_append.1 h with h | h
 ·exact .inl h
 ·obtain ⟨i, hi, rfl⟩ := List.mem_map.1 h
  exact .inr ⟨i, List.mem_range.1 hi, rfl⟩
theorem may_wr {k' i : Nat} {t : Sec} (h : May (wrN d k a s n) k' i t) : May d k' i t ∨ (k' = k ∧ a ≤ i ∧ i < a + n ∧ t = secOf s (i - a)) := by
 rcases h with h | h | ⟨c, hc, h1, h2, h3, h4⟩
 ·rw [wrN_sure] at h
  exact .inl (.inl h)
 ·by_cases hk : k' = k
  ·subst hk
   rw [wr_getD] at h
   split at h
   ·rename_i hi
    exact .inr ⟨rfl, hi.1, hi.2, h⟩
   ·exact .inl (.inr (.inl h))
  ·rw [wrN_now a s hk d n] at h
   exact .inl (.inr (.inl h))
 ·rcases wrN_mem hc with hc | ⟨j, hj, rfl⟩
  ·exact .inl (.inr (.inr ⟨c, hc, h1, h2, h3, h4⟩))
  ·have h1 : k = k' := h1
   have h3 : a + j = i := h3
   have h4 : secOf s j = t := h4
   refine .inr ⟨h1.symm, by omega, by omega, ?_⟩
   rw [← h4]
   congr 1
   omega
end
structure Cand where
 has : Bool
 head : Hd
 list : List Fr
def headS (has : Bool) (h : Hd) : List UInt8 := if has then hdL h else zeros 64
def candOf (g : Lg) : Cand := ⟨g.has, g.head, g.list⟩
def candTx (c : Cand) : List UInt8 × (Int × Int) := putsN c.head.number c.list (startP c.head.number)
structure MainOk (d : Dsk) (n : Nat) : Prop where
 sure : 8 * n ≤ (d.sure 0).length
 now : 8 * n ≤ (d.now 0).length
 cut : ∀ x ∈ d.loose, x.file = 0 → x.cut = true → 8 * n ≤ x.at_
 one : ∀ j < 8, ∀ s, May d 0 (8 * (n - 1) + j) s → s = (d.now 0).getD (8 * (n - 1) + j) nought
structure CandOk (d : Dsk) (c : Cand) : Prop where
 may : hdMay c.head = true
 wf : HdWf c.head
 frames : c.head.frames = (c.list.length : Int)
 ok : ∀ f ∈ c.list, frOk f = true
 last : c.list ≠ [] → lastCommit c.list = c.head.pages
 text : ∀ j, j < 9 * c.list.length → ∀ s, May d 1 (1 + j) s → s = secOf (candTx c).1 j
 len : c.list ≠ [] → 1 + 9 * c.list.length ≤ (d.sure 1).length ∧ 1 + 9 * c.list.length ≤ (d.now 1).length
 bare : c.has = false → c.list = [] ∧ c.head.number = 0 ∧ d.now 0 = d.sure 0 ∧ ((d.sure 0).length : Int) = 8 * c.head.pages ∧ ∀ x ∈ d.loose, x.file ≠ 0
 main : ∀ n : Nat, 1 ≤ n → (n : Int) ≤ c.head.pages → lastAt c.list n c.list.length = none → MainOk d n
def cpage (d : Dsk) (c : Cand) (n : Nat) : List UInt8 := (lastAt c.list n c.list.length).getD (pg (d.now 0) n)
structure CandSt (d : Dsk) (c : Cand) (L : List (List UInt8)) : Prop where
 pages : c.head.pages = (L.length : Int)
 page : ∀ n : Nat, 1 ≤ n → n ≤ L.length → cpage d c n = L.getD (n - 1) []
 len : ∀ s ∈ L, s.length = 512
structure LgInv (g : Lg) (d : Dsk) (L : List (List UInt8)) (S : List (List UInt8) → Prop) : Prop where
 cut1 : ∀ x ∈ d.loose, x.file = 1 → x.cut = false
 ok : CandOk d (candOf g)
 st : CandSt d (candOf g) L
 pair : g.pair = (candTx (candOf g)).2
 head : ∀ s, May d 1 0 s → s = headS g.has g.head ∨ (g.torn = true ∧ ∃ c, s = headS c.has c.head ∧ CandOk d c ∧ ∃ L', CandSt d c L' ∧ S L')
section
variable {g g' : Lg} {d d' : Dsk} {c : Cand} {L L' M : List (List UInt8)} {S S' : List (List UInt8) → Prop} {k a n : Nat} {s : List UInt8}
theorem LgInv.off (h : LgInv g d L S) (x : Bool) : LgInv { g with off := x } d L S := ⟨h.cut1, h.ok, h.st, h.pair, h.head⟩
theorem MainOk.file1 (h : MainOk d n) {m : Nat} : MainOk (wrN (meetsM d).2 1 a s m) n := by
 have e0 : (wrN (meetsM d).2 1 a s m).now 0 = d.now 0 := wrN_now a s (by decide) _ m
 refine ⟨by rw [wrN_sure]; exact h.sure, by rw [e0]; exact h.now, fun x hx hf hc => ?_, fun j hj s' hs => ?_⟩
 ·rcases wrN_mem hx with hx | ⟨i, hi, rfl⟩
  ·exact h.cut x hx hf hc
  ·cases hc
 ·rw [e0]
  rcases may_wr hs with hs | ⟨e, -⟩
  ·exact h.one j hj s' ((alike_meets d).may hs)
  ·cases e
theorem CandOk.write1 (h : CandOk d c) {m : Nat} (ha : 1 + 9 * c.list.length ≤ a ∨ a + m ≤ 1) : CandOk (wrN (meetsM d).2 1 a s m) c := by
 have e0 : (wrN (meetsM d).2 1 a s m).now 0 = d.now 0 := wrN_now a s (by decide) _ m
 refine ⟨h.may, h.wf, h.frames, h.ok, h.last, fun j hj s' hs => ?_, fun hne => ?_, fun hb => ?_, fun n n1 n2 e => (h.main n n1 n2 e).file1⟩
 ·rcases may_wr hs with hs | ⟨-, h1, h2, -⟩
  ·exact h.text j hj s' ((alike_meets d).may hs)
  ·omega
 ·have := h.len hne
  rw [wrN_sure, wr_len]
  refine ⟨this.1, ?_⟩
  have e : (meetsM d).2.now 1 = d.now 1 := rfl
  rw [e]
  split <;> omega
 ·obtain ⟨h1, h2, h3, h4, h5⟩ := h.bare hb
  rw [e0, wrN_sure]
  refine ⟨h1, h2, h3, h4, fun x hx => ?_⟩
  rcases wrN_mem hx with hx | ⟨i, hi, rfl⟩
  ·exact h5 x hx
  ·show (1 : Nat) ≠ 0
   decide
theorem CandSt.write1 (h : CandSt d c L) {m : Nat} : CandSt (wrN (meetsM d).2 1 a s m) c L := by
 have e0 : (wrN (meetsM d).2 1 a s m).now 0 = d.now 0 := wrN_now a s (by decide) _ m
 exact ⟨h.pages, fun n n1 n2 => by rw [← h.page n n1 n2]; unfold cpage; rw [e0], h.len⟩
structure Kin (g g' : Lg) : Prop where
 head : g'.head = g.head
 has : g'.has = g.has
 list : g'.list = g.list
 pair : g'.pair = g.pair
theorem Kin.trans {g1 g2 g3 : Lg} (h : Kin g1 g2) (k : Kin g2 g3) : Kin g1 g3 := ⟨k.head.trans h.head, k.has.trans h.has, k.list.trans h.list, k.pair.trans h.pair⟩
end
end Go.Proofs.YtlkkclooihjpiaaGreat
