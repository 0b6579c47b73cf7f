/- ReplicaTrails in memory: all that stands, each call. -/
import Derived.Test.YtcpejlmnplkbaaaGreatRnI
import Derived.Test.YtcpejlmnplkbaaaGreatRnM
namespace Go.Proofs.YtcpejlmnplkbaaaGreat
open Go.RowKit Go.Maps
set_option linter.unusedVariables false
set_option linter.unusedSimpArgs false
set_option maxRecDepth 20000

section
variable {w W W' : World} {g g' : Lg} {d d' : Dsk} {L M : List (List UInt8)} {m : Sh} {v : Value} {pb l b : Nat} {p : Pg}
theorem st_db (hD : DbW g d L) : stOk p0 g d ∧ stL p0 g d = L := by
  have hP := db_pages (p := p0) hD rfl
  have hrd := fun n h1 h2 => db_read (p := p0) hD rfl n h1 h2
  refine ⟨fun k hk => ?_, ?_⟩
  · rw [hP] at hk
    have := hrd (k + 1) (by omega) (by omega)
    rw [show (((k + 1 : Nat) : Int)) = (k : Int) + 1 by omega] at this
    rw [this]
  · unfold stL pgsR
    rw [hP, Int.toNat_natCast]
    apply List.ext_getElem
    · simp
    · intro i h1 h2
      have := hrd (i + 1) (by omega) (by omega)
      rw [show (((i + 1 : Nat) : Int)) = (i : Int) + 1 by omega] at this
      simp only [List.getElem_map, List.getElem_range]
      rw [this]
      simp only [Nat.add_sub_cancel]
      rw [List.getD_eq_getElem?_getD, List.getElem?_eq_getElem h2]
      rfl
theorem have_db (hD : DbW g d L) (hL : Good L) : haveM p0 g d = (commL L, 0) := by
  obtain ⟨h, e1, e2⟩ := uready_db (p := p0) hD hL rfl
  unfold haveM
  rw [e1, if_neg (by simp), e2]
theorem follow_small {N : Nat} (hg : g.head.pages ≤ 256) (h : d.Small N) (p : Pg) : (followM p g d m).2.2.2.Small (N + 8519680) := by
  have hm := h.mono (M := N + 8519680) (by omega)
  unfold followM
  split
  · exact hm
  split
  · exact hm
  split
  · exact hm
  split
  · exact hm
  split
  · exact hm
  split
  · exact hm
  split
  · exact hm
  · exact commit_small N hg h _
theorem db0 : Db exG0 newM [] := ⟨exG0_calm, rfl, by decide, fun n a b => by simp at b; omega, fun s hs => by cases hs⟩
theorem strRow_nil (w : World) (base : Nat) : StrRow w base (.slice none 0 0) [] := World.ownsRow_nil _ _ _ _
end
/-- All that stands. -/
structure RS (w W : World) (T R : Nat) (c : PgD) (L : List (List UInt8)) (ep : Int) (vs : Value) (N : Nat) (X : Nat → Prop) : Prop where
  px : PgAtX w W c X
  np : c.p = p0
  db : Db c.g c.d L
  gd : Good L
  ht : W.heap[T]? = some (tlObj c.pb ep)
  hr : W.heap[R]? = some (rtObj vs ep)
  row : StrRow W w.heap.size vs L
  xt : X T
  xr : X R
  xo : ∀ k, vs.ownBlock = some k → X k
  wt : w.heap.size ≤ T
  wr : w.heap.size ≤ R
  ne : T ≠ R
  ept : 0 ≤ ep ∧ ep < 18446744073709551616
  sm : c.d.Small N
/-- What Get tells. -/
def outR (R : RtR) : List (Int × List UInt8) := if R.is then [(0, putL (ackSh R.ep (commL R.L)))] else []
section
variable {w W W' : World} {T R : Nat} {c : PgD} {L : List (List UInt8)} {ep : Int} {vs : Value} {N : Nat} {X : Nat → Prop}
theorem RS.below (h : RS w W T R c L ep vs N X) (hb : Below W.heap.size W W') : RS w W' T R c L ep vs N X :=
  ⟨h.px.below hb, h.np, h.db, h.gd, (hb.block T (lt_of_block h.ht)).trans h.ht, (hb.block R (lt_of_block h.hr)).trans h.hr, row_keep h.row (fun y hy => hb.block y (row_base h.row hy).2), h.xt, h.xr, h.xo, h.wt, h.wr, h.ne, h.ept, h.sm⟩
theorem ackL_db {c : PgD} {L : List (List UInt8)} (hp : c.p = p0) (hd : Db c.g c.d L) (hg : Good L) (ep : Int) : ackL ep c = [(0, putL (ackSh ep (commL L)))] := by
  unfold ackL
  rw [hp, have_db hd.w hg]
  rfl
theorem tget_rt (h : RS w W T R c L ep vs N X) (s : List UInt8) : (tgetM ep c s).out = outR (rtgetM ep L s) ∧ (tgetM ep c s).err = (rtgetM ep L s).err ∧ (tgetM ep c s).ep = (rtgetM ep L s).ep ∧ (tgetM ep c s).c.p = p0 ∧ (tgetM ep c s).c.pb = c.pb ∧ Db (tgetM ep c s).c.g (tgetM ep c s).c.d (rtgetM ep L s).L ∧ Good (rtgetM ep L s).L ∧ (tgetM ep c s).c.d.Small (N + 8519680) ∧ 0 ≤ (rtgetM ep L s).ep ∧ (rtgetM ep L s).ep < 18446744073709551616 := by
  have hN := h.sm.mono (M := N + 8519680) (by omega)
  unfold tgetM rtgetM outR
  by_cases h0 : (Rf.takeM s).2 ≠ 0
  · rw [if_pos h0, if_pos h0]
    exact ⟨rfl, rfl, rfl, h.np, rfl, h.db, h.gd, hN, h.ept⟩
  rw [if_neg h0, if_neg h0]
  by_cases h1 : (Rf.takeM s).1.kind ≠ 1
  · rw [if_pos h1, if_pos h1]
    exact ⟨rfl, rfl, rfl, h.np, rfl, h.db, h.gd, hN, h.ept⟩
  rw [if_neg h1, if_neg h1]
  by_cases h2 : (Rf.takeM s).1.epoch < ep
  · rw [if_pos h2, if_pos h2]
    exact ⟨rfl, rfl, rfl, h.np, rfl, h.db, h.gd, hN, h.ept⟩
  rw [if_neg h2, if_neg h2]
  obtain ⟨m, hm⟩ : ∃ m, m = (Rf.takeM s).1 := ⟨_, rfl⟩
  have hwf := take_wf s
  rw [← hm] at hwf ⊢
  obtain ⟨g', d', e1, e2, e3⟩ := follow_db h.db h.gd h.px.oks.1 m
  have hs := follow_small (g := c.g) (d := c.d) (m := m) (by have := h.db.pages; have := h.db.many; omega) h.sm c.p
  have ec : gFollowed c m = ⟨c.pb, c.l, c.b, p0, g', d'⟩ := by unfold gFollowed; rw [h.np, e1]
  rw [h.np, e1] at hs
  dsimp only
  rw [ec, ackL_db (c := ⟨c.pb, c.l, c.b, p0, g', d'⟩) rfl e2 e3, h.np, e1]
  exact ⟨rfl, rfl, rfl, rfl, rfl, e2, e3, hs, hwf.2.1⟩
/-- A letter comes to both. -/
theorem RS.get (h : RS w W T R c L ep vs N X) (s : List UInt8) (hs : s.length ≤ 1099511627776) (hN : N + 33554432 ≤ 1099511527776) :
    Calls Tryz.prog 18 #[.pointer (some ⟨T, 0, none⟩), .string (bs s)] W fun e w1 => ∃ pv, e = .returned (.tuple #[pv, .int .i64 (rtgetM ep L s).err]) ∧ PostRow w1 w.heap.size pv (outR (rtgetM ep L s)) ∧
    Calls Tryz.prog 21 #[.pointer (some ⟨R, 0, none⟩), .string (bs s)] w1 fun e w2 => e = .returned (.tuple #[.bool (rtgetM ep L s).is, .int .i64 (rtgetM ep L s).err]) ∧
    ∃ c' vs' X', RS w w2 T R c' (rtgetM ep L s).L (rtgetM ep L s).ep vs' (N + 8519680) X' ∧ PostRow w2 w.heap.size pv (outR (rtgetM ep L s)) ∧ c'.pb = c.pb := by
  obtain ⟨q1, q2, q3, q4, q5, q6, q7, q8, q9⟩ := tget_rt h s
  refine (tget1_any h.px h.ht h.xt h.wt h.ept s hs N h.sm hN).mono ?_
  rintro e w1 ⟨pv, rfl, hg⟩
  have hrow := hg.row
  rw [q1] at hrow
  refine ⟨pv, by rw [q2], hrow, ?_⟩
  have hr1 := (hg.keep R h.xr (fun e => h.ne e.symm)).trans h.hr
  have hvt : ∀ y, vs.ownBlock = some y → y ≠ T := fun y hy e => row_type h.row h.ht (by decide) (e ▸ hy)
  have hvr : ∀ y, vs.ownBlock = some y → y ≠ R := fun y hy e => row_type h.row h.hr (by decide) (e ▸ hy)
  have hrow1 := row_keep h.row (fun y hy => hg.keep y (h.xo y hy) (hvt y hy))
  have hlt := hg.two.xlt
  have hbel := hg.two.bel
  refine (rtget_any hr1 hrow1 h.gd h.db.many h.db.len hbel.size s hs).mono ?_
  rintro e w2 ⟨rfl, vs', h1, h2, h3, h4⟩
  have hb1 := hg.blk
  rw [q3, q5] at hb1
  have hpR : ∀ y, pv.ownBlock = some y → y ≠ R := fun y hy e => hg.apart y hy (e ▸ h.xr)
  refine ⟨rfl, (tgetM ep c s).c, vs', fun k => (X k ∨ pv.ownBlock = some k) ∨ vs'.ownBlock = some k, ⟨?_, q4, q6, q7, ?_, h1, h2, .inl (.inl h.xt), .inl (.inl h.xr), fun k hk => .inr hk, h.wt, h.wr, h.ne, q9, q8⟩, row_keep hrow (fun y hy => h4.block y (hlt y (.inr hy)) (hpR y hy)), q5⟩
  · refine PgX.grow (row := some R) hg.two ⟨h4.os, h4.tape, h4.output, h4.size, fun k hk hne => h4.block k hk (fun e => hne (by rw [e]))⟩ (fun k e => by cases e; exact .inl h.xr) (fun k e => by cases e; exact h.wr) (fun k hk => ?_) (fun k hk => ?_)
    · rcases hk with hk | hk
      · exact .inl hk
      · rcases h3 with e | e
        · exact .inl (.inl (h.xo k (e ▸ hk)))
        · exact .inr (e k hk)
    · rcases hk with hk | hk
      · exact Nat.lt_of_lt_of_le (hlt k hk) h4.size
      · exact (row_base h2 hk).2
  · rw [q5]
    exact (h4.block T (lt_of_block hb1) h.ne).trans hb1
theorem RS.ack (h : RS w W T R c L ep vs N X) : Calls Tryz.prog 22 #[.pointer (some ⟨R, 0, none⟩)] W fun e w' => e = .returned (.string (bs (putL (ackSh ep (commL L))))) ∧ Below W.heap.size W w' := rack_any h.hr h.row h.gd h.db.many h.ept
theorem RS.state (h : RS w W T R c L ep vs N X) : Calls Tryz.prog 23 #[.pointer (some ⟨c.pb, 0, none⟩)] W fun e w' => ∃ v, e = .returned (.tuple #[v, .bool true]) ∧ StrRow w' W.heap.size v L ∧ Below W.heap.size W w' := by
  have hst := st_db h.db.w
  have A := state_any h.px (by rw [h.np]; exact hst.1)
  rw [h.np, hst.2] at A
  exact A
theorem RS.tick (h : RS w W T R c L ep vs N X) : Calls Tryz.prog 16 #[.pointer (some ⟨T, 0, none⟩)] W fun e w' => ∃ pv, e = .returned pv ∧ PostRow w' w.heap.size pv [(0, putL (ackSh ep (commL L)))] ∧ ∃ X', RS w w' T R c L ep vs N X' := by
  have A := ttick1_any h.px h.ht h.xt h.ept
  rw [ackL_db h.np h.db h.gd] at A
  refine A.mono ?_
  rintro e w' ⟨pv, rfl, h1, h2, h3, h4⟩
  exact ⟨pv, rfl, h1, _, ⟨h2, h.np, h.db, h.gd, (h3 T h.xt).trans h.ht, (h3 R h.xr).trans h.hr, row_keep h.row (fun y hy => h3 y (h.xo y hy)), .inl h.xt, .inl h.xr, fun k hk => .inl (h.xo k hk), h.wt, h.wr, h.ne, h.ept, h.sm⟩⟩
theorem RS.epoch (h : RS w W T R c L ep vs N X) : Calls Tryz.prog 20 #[.pointer (some ⟨T, 0, none⟩)] W fun e w' => e = .returned (.int .u64 ep) ∧ w' = W := epoch_any h.ht
end
end Go.Proofs.YtcpejlmnplkbaaaGreat
