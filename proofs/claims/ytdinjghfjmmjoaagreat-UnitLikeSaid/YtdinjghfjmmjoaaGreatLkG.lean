/- UnitLike: what stands at any time: the two pagers, the states and the ships kept; every call on them. -/
import Derived.Test.YtdinjghfjmmjoaaGreatLkE
set_option linter.unusedVariables false
set_option linter.unusedSimpArgs false
namespace Go.Proofs.YtdinjghfjmmjoaaGreat
open Go.RowKit Go.Maps
set_option maxRecDepth 20000
structure LkSt (w W : World) (pa la ba : Nat) (ga : Lg) (da : Dsk) (pc lc db : Nat) (gc : Lg) (dc : Dsk) (v10 v11 : Value) (T TS : List (List (List UInt8))) (K : List (Sh × Value)) (j N : Nat) (X : Nat → Prop) : Prop where
 tw : Two w W ⟨pa, la, ba, p0, ga, da⟩ ⟨pc, lc, db, p0, gc, dc⟩ X
 tl : ∃ L, Teller ga da L T
 tr : Trail T gc dc j
 st : StatesAt W w.heap.size v10 TS X
 kp : KeptAt W w.heap.size v11 K X
 says : ∀ x ∈ K, (∃ k, Says T x.1 k) ∧ x.1.epoch = 1
 sa : da.Small N
 sc : dc.Small N
section
variable {w W W' : World} {pa la ba pc lc db : Nat} {ga ga' gc gc' : Lg} {da da' dc dc' : Dsk} {v10 v11 v10' v11' : Value} {T T' TS TS' : List (List (List UInt8))} {K : List (Sh × Value)} {j j' N M : Nat} {X X' : Nat → Prop}
theorem LkSt.told (h : LkSt w W pa la ba ga da pc lc db gc dc v10 v11 T TS K j N X) : Told T := by obtain ⟨L, h1⟩ := h.tl; exact h1.told
theorem LkSt.jT (h : LkSt w W pa la ba ga da pc lc db gc dc v10 v11 T TS K j N X) : j < T.length := h.tr.jT
theorem LkSt.bel (h : LkSt w W pa la ba ga da pc lc db gc dc v10 v11 T TS K j N X) : Below w.heap.size w W := h.tw.bel
theorem LkSt.mono (h : LkSt w W pa la ba ga da pc lc db gc dc v10 v11 T TS K j N X) (hM : N ≤ M) : LkSt w W pa la ba ga da pc lc db gc dc v10 v11 T TS K j M X :=
 ⟨h.tw, h.tl, h.tr, h.st, h.kp, h.says, h.sa.mono hM, h.sc.mono hM⟩
theorem LkSt.below (h : LkSt w W pa la ba ga da pc lc db gc dc v10 v11 T TS K j N X) (hb : Below W.heap.size W W') : LkSt w W' pa la ba ga da pc lc db gc dc v10 v11 T TS K j N X :=
 ⟨h.tw.below hb, h.tl, h.tr, h.st.keep (fun k hk => hb.block k (h.tw.xlt k hk)), h.kp.keep (fun k hk => hb.block k (h.tw.xlt k hk)), h.says, h.sa, h.sc⟩
theorem teller_resize {g : Lg} {d : Dsk} {L : List (List UInt8)} (h : Teller g d L T) {n : Nat} (hn : 2 ≤ n ∧ n ≤ 21) : ppagesM (spBeginM p0 g d).2 g < n → (presizeM (spBeginM p0 g d).2 n).1 = 0 := by
 intro _
 obtain ⟨h0, hL0, hh0⟩ : ∃ h0, ((L = [] ∧ h0 = hdr0) ∨ ∃ M, L = hdrPg h0 :: M) ∧ HdOk h0 := by
  rcases h.good with rfl | ⟨h0, M, rfl, hh⟩
  ·exact ⟨hdr0, .inl ⟨rfl, rfl⟩, hd0_ok⟩
  ·exact ⟨h0, .inr ⟨M, rfl⟩, hh⟩
 obtain ⟨t0, M0, s1, T0, -, -⟩ := sp_begin2 (p := p0) h.db.w hL0 hh0 rfl rfl
 obtain ⟨t1, r1, -, -⟩ := tx_resize T0 (n := n) (by omega) (by omega)
 rw [s1]
 exact congrArg (fun x => x.1) r1
theorem LkSt.turn (h : LkSt w W pa la ba ga da pc lc db gc dc v10 v11 T TS K j N X) (hT : T.length ≤ 999) {n : Nat} (hn : 2 ≤ n ∧ n ≤ 21) (c : UInt8) (hN : N + 33554432 ≤ 1099511527776) :
  Calls Tryz.prog 9 #[.pointer (some ⟨pa, 0, none⟩), .int .i64 n, .int .u8 (c.toNat : Int)] W fun e w' => ∃ ga' da' L', e = .returned (.int .i64 0) ∧ LkSt w w' pa la ba ga' da' pc lc db gc dc v10 v11 (T ++ [L']) TS K j (N + 8519680) X := by
 obtain ⟨L, hL⟩ := h.tl
 have hok := h.tw.fst.oks.1
 obtain ⟨g', d', L', e1, e2⟩ := teller_turn hL hok hT hn c
 have hsm := turn_small (n := (n : Int)) (c := c) (by rw [hL.db.pages]; have := hL.db.many; omega) h.sa p0
 have A := tw_turn h.tw n c (by omega) (teller_resize hL hn) N h.sa hN
 unfold gTurned at A
 dsimp only at A
 rw [e1] at A hsm
 refine A.mono ?_
 rintro e w' ⟨rfl, h1, h2⟩
 exact ⟨g', d', L', rfl, ⟨h1, ⟨L', e2⟩, h.tr.more L', h.st.keep h2, h.kp.keep h2, fun x hx => ⟨(h.says x hx).1.imp fun k hk => hk.more L', (h.says x hx).2⟩, hsm, h.sc.mono (by omega)⟩⟩
theorem LkSt.stateA (h : LkSt w W pa la ba ga da pc lc db gc dc v10 v11 T TS K j N X) : Calls Tryz.prog 20 #[.pointer (some ⟨pa, 0, none⟩)] W fun e w' => ∃ v, e = .returned (.tuple #[v, .bool true]) ∧ StrRow w' W.heap.size v (T.getD (T.length - 1) []) ∧ Below W.heap.size W w' := by
 obtain ⟨L, hL⟩ := h.tl
 have hst := st_db hL.db.w
 have := state_any h.tw.fst hst.1
 dsimp only at this
 rw [hst.2] at this
 rw [hL.last]
 exact this
theorem LkSt.stateC (h : LkSt w W pa la ba ga da pc lc db gc dc v10 v11 T TS K j N X) : Calls Tryz.prog 20 #[.pointer (some ⟨pc, 0, none⟩)] W fun e w' => ∃ v, e = .returned (.tuple #[v, .bool true]) ∧ StrRow w' W.heap.size v (T.getD j []) ∧ Below W.heap.size W w' := by
 have hst := st_db h.tr.db
 have := state_any h.tw.snd hst.1
 dsimp only at this
 rw [hst.2] at this
 exact this
theorem LkSt.have' (h : LkSt w W pa la ba ga da pc lc db gc dc v10 v11 T TS K j N X) : Calls Tryz.prog 14 #[.pointer (some ⟨pc, 0, none⟩)] W fun e w' => e = .returned (.tuple #[.int .u64 (j : Int), .int .i64 0]) ∧ LkSt w w' pa la ba ga da pc lc db gc dc v10 v11 T TS K j N X := by
 have A := tw_have h.tw
 dsimp only at A
 rw [have_db h.tr.db (h.told.good j h.jT), h.told.comm j h.jT] at A
 exact A.mono fun e w' ⟨he, h1, h2⟩ => ⟨he, ⟨h1, h.tl, h.tr, h.st.keep h2, h.kp.keep h2, h.says, h.sa, h.sc⟩⟩
theorem LkSt.more (h : LkSt w W pa la ba ga da pc lc db gc dc v10 v11 T TS K j N X) (ht : Two w W' ⟨pa, la, ba, p0, ga, da⟩ ⟨pc, lc, db, p0, gc, dc⟩ X') (hx : ∀ k, X k → X' k) (hk : ∀ k, X k → W'.heap[k]? = W.heap[k]?) : LkSt w W' pa la ba ga da pc lc db gc dc v10 v11 T TS K j N X' :=
 ⟨ht, h.tl, h.tr, (h.st.keep hk).mono hx, (h.kp.keep hk).mono hx, h.says, h.sa, h.sc⟩
theorem LkSt.next_no (h : LkSt w W pa la ba ga da pc lc db gc dc v10 v11 T TS K j N X) {k : Nat} (hk : T.length ≤ k + 1) : Calls Tryz.prog 10 #[.pointer (some ⟨pa, 0, none⟩), .int .u64 1, .int .u64 (k : Int)] W fun e w' => ∃ ao cap, e = .returned (.tuple #[.agg #[.int .u8 0, .int .u64 0, .int .u64 0, .bool false, .int .i64 0, .slice ao 0 cap], .int .i64 4]) ∧ LkSt w w' pa la ba ga da pc lc db gc dc v10 v11 T TS K j N X := by
 obtain ⟨L, hL⟩ := h.tl
 have A := tw_next h.tw (st_db hL.db.w).1 1 k
 dsimp only at A
 rcases teller_next hL 1 k with ⟨-, e⟩ | ⟨e, -⟩
 ·rw [e] at A
  refine A.mono ?_
  rintro e w' ⟨v, rfl, h1, h2, h3⟩
  obtain ⟨ao, cap, rfl, -⟩ := h1.get
  exact ⟨ao, cap, rfl, h.more (h2.add (Below.refl _ _) (fun k hk => .inl (.inl hk)) (fun k hk => h2.xlt k (.inl hk))) (fun k hk => hk) h3⟩
 ·omega
structure ShipHere (w W W' : World) (T : List (List (List UInt8))) (ao : Option Addr) (cap : Nat) (m : Sh) (q : Nat) : Prop where
 row : ImgRow W' W.heap.size (.slice ao m.imgs.length cap) m.imgs
 says : Says T m q
 ep : m.epoch = 1
theorem LkSt.next_yes (h : LkSt w W pa la ba ga da pc lc db gc dc v10 v11 T TS K j N X) {k : Nat} (hk : k + 1 < T.length) : Calls Tryz.prog 10 #[.pointer (some ⟨pa, 0, none⟩), .int .u64 1, .int .u64 (k : Int)] W fun e w' => ∃ kind ep kk full pages imgs ao cap q, e = .returned (.tuple #[.agg #[.int .u8 kind, .int .u64 ep, .int .u64 kk, .bool full, .int .i64 pages, .slice ao (List.length imgs) cap], .int .i64 0]) ∧
  ShipHere w W w' T ao cap ⟨kind, ep, kk, full, pages, imgs⟩ q ∧ k < q ∧ (full = true ∨ q = k + 1) ∧ LkSt w w' pa la ba ga da pc lc db gc dc v10 v11 T TS K j N (fun k => X k ∨ (Value.slice ao imgs.length cap).ownBlock = some k) := by
 obtain ⟨L, hL⟩ := h.tl
 have A := tw_next h.tw (st_db hL.db.w).1 1 k
 dsimp only at A
 rcases teller_next hL 1 k with ⟨e, -⟩ | ⟨-, m, q, e, hs, hep, hq, hf⟩
 ·omega
 ·rw [e] at A
  refine A.mono ?_
  rintro e w' ⟨v, rfl, h1, h2, h3⟩
  obtain ⟨kind, ep, kk, full, pages, imgs⟩ := m
  obtain ⟨ao, cap, rfl, -⟩ := h1.get
  exact ⟨kind, ep, kk, full, pages, imgs, ao, cap, q, rfl, ⟨h1, hs, hep⟩, hq, hf, h.more h2 (fun k hk => .inl hk) h3⟩
theorem LkSt.snap_no (h : LkSt w W pa la ba ga da pc lc db gc dc v10 v11 T TS K j N X) (h1 : T.length = 1) : Calls Tryz.prog 15 #[.pointer (some ⟨pa, 0, none⟩), .int .u64 1] W fun e w' => ∃ ao cap, e = .returned (.tuple #[.agg #[.int .u8 0, .int .u64 0, .int .u64 0, .bool false, .int .i64 0, .slice ao 0 cap], .int .i64 4]) ∧ LkSt w w' pa la ba ga da pc lc db gc dc v10 v11 T TS K j N X := by
 obtain ⟨L, hL⟩ := h.tl
 have A := tw_snap h.tw (st_db hL.db.w).1 1
 dsimp only at A
 rw [teller_snap hL, if_pos h1] at A
 refine A.mono ?_
 rintro e w' ⟨v, rfl, h1, h2, h3⟩
 obtain ⟨ao, cap, rfl, -⟩ := h1.get
 exact ⟨ao, cap, rfl, h.more (h2.add (Below.refl _ _) (fun k hk => .inl (.inl hk)) (fun k hk => h2.xlt k (.inl hk))) (fun k hk => hk) h3⟩
theorem LkSt.snap_yes (h : LkSt w W pa la ba ga da pc lc db gc dc v10 v11 T TS K j N X) (h1 : ¬ T.length = 1) : Calls Tryz.prog 15 #[.pointer (some ⟨pa, 0, none⟩), .int .u64 1] W fun e w' => ∃ kind ep kk full pages imgs ao cap q, e = .returned (.tuple #[.agg #[.int .u8 kind, .int .u64 ep, .int .u64 kk, .bool full, .int .i64 pages, .slice ao (List.length imgs) cap], .int .i64 0]) ∧
  ShipHere w W w' T ao cap ⟨kind, ep, kk, full, pages, imgs⟩ q ∧ LkSt w w' pa la ba ga da pc lc db gc dc v10 v11 T TS K j N (fun k => X k ∨ (Value.slice ao imgs.length cap).ownBlock = some k) := by
 obtain ⟨L, hL⟩ := h.tl
 have A := tw_snap h.tw (st_db hL.db.w).1 1
 dsimp only at A
 rw [teller_snap hL, if_neg h1] at A
 have hs := says_full hL (by have := hL.told.some; omega) 1
 refine A.mono ?_
 rintro e w' ⟨v, rfl, h1, h2, h3⟩
 obtain ⟨ao, cap, rfl, -⟩ := h1.get
 exact ⟨_, _, _, _, _, _, ao, cap, _, rfl, ⟨h1, hs, rfl⟩, h.more h2 (fun k hk => .inl hk) h3⟩
theorem says_ok {base : Nat} {m : Sh} {v : Value} {q : Nat} (hT : Told T) (hs : Says T m q) (hep : m.epoch = 1) (hr : ImgRow W base v m.imgs) (hX : ∀ k, v.ownBlock = some k → X k) : ShOk w W X m v := by
 have hf := may_facts m (hs.may hT)
 have hmany := hT.many
 have hkT := hs.kT
 refine ShOk.made hr hX (by have := hf.2.1; omega) (fun x hx => by have := (hf.2.2 x hx).1; have e : x.2 = x.data := rfl; omega) ⟨by rw [hs.kind]; decide, by rw [hep]; decide, by rw [hs.num]; omega⟩
theorem LkSt.follow (h : LkSt w W pa la ba ga da pc lc db gc dc v10 v11 T TS K j N X) {base : Nat} {m : Sh} {v : Value} {q : Nat} (hs : Says T m q) (hep : m.epoch = 1) (hr : ImgRow W base v m.imgs) (hX : ∀ k, v.ownBlock = some k → X k) (hN : N + 33554432 ≤ 1099511527776) :
  Calls Tryz.prog 12 #[.pointer (some ⟨pc, 0, none⟩), shipV m v] W fun e w' => ∃ e0 gc' dc' j', e = .returned (.int .i64 e0) ∧ j ≤ j' ∧ LkSt w w' pa la ba ga da pc lc db gc' dc' v10 v11 T TS K j' (N + 8519680) X := by
 obtain ⟨e0, g', d', j', e1, e2, e3⟩ := trail_follow h.told h.tr hs
 have hsm := follow_small (m := m) (by rw [h.tr.db.pages]; have := h.tr.db.many; omega) h.sc p0
 have A := tw_follow h.tw (says_ok h.told hs hep hr hX) N h.sc hN
 unfold gFollowed at A
 dsimp only at A
 rw [e1] at A hsm
 refine A.mono ?_
 rintro e w' ⟨rfl, h1, h2⟩
 exact ⟨e0, g', d', j', rfl, e3, ⟨h1, h.tl, e2, h.st.keep h2, h.kp.keep h2, h.says, h.sa.mono (by omega), hsm⟩⟩
theorem LkSt.follow_go (h : LkSt w W pa la ba ga da pc lc db gc dc v10 v11 T TS K j N X) {base : Nat} {m : Sh} {v : Value} {q : Nat} (hs : Says T m q) (hep : m.epoch = 1) (hr : ImgRow W base v m.imgs) (hX : ∀ k, v.ownBlock = some k → X k) (hN : N + 33554432 ≤ 1099511527776) (hq : j < q) (hf : m.full = true ∨ q = j + 1) (hc : Calm dc) (ho : gc.off = false) :
  Calls Tryz.prog 12 #[.pointer (some ⟨pc, 0, none⟩), shipV m v] W fun e w' => ∃ gc' dc', e = .returned (.int .i64 0) ∧ Calm dc' ∧ gc'.off = false ∧ LkSt w w' pa la ba ga da pc lc db gc' dc' v10 v11 T TS K q (N + 8519680) X := by
 have hok := h.tw.snd.oks.1
 obtain ⟨g', d', e1, e2, e3, e4⟩ := trail_goes h.told h.tr hs hq hf hc ho hok
 have hsm := follow_small (m := m) (by rw [h.tr.db.pages]; have := h.tr.db.many; omega) h.sc p0
 have A := tw_follow h.tw (says_ok h.told hs hep hr hX) N h.sc hN
 unfold gFollowed at A
 dsimp only at A
 rw [e1] at A hsm
 refine A.mono ?_
 rintro e w' ⟨rfl, h1, h2⟩
 exact ⟨g', d', rfl, e3, e4, ⟨h1, h.tl, e2, h.st.keep h2, h.kp.keep h2, h.says, h.sa.mono (by omega), hsm⟩⟩
theorem pcheck0 (g : Lg) (d : Dsk) : pcheckM p0 g d = lcheckM g d := by unfold pcheckM; rw [if_neg (by decide)]
theorem LkSt.checkA (h : LkSt w W pa la ba ga da pc lc db gc dc v10 v11 T TS K j N X) (hN : N + 16777216 ≤ 1099511527776) : Calls Tryz.prog 11 #[.pointer (some ⟨pa, 0, none⟩)] W fun e w' => ∃ ga' da', e = .returned (.int .i64 0) ∧ LkSt w w' pa la ba ga' da' pc lc db gc dc v10 v11 T TS K j (N + 8519680) X := by
 obtain ⟨L, hL⟩ := h.tl
 obtain ⟨g', d', e1, e2⟩ := teller_check hL h.tw.fst.oks.1
 have hsm := check_small2 (g := ga) (d := da) (N := N) (by rw [hL.db.pages]; have := hL.db.many; omega) h.sa
 have A := tw_check h.tw N h.sa hN
 unfold gChecked at A
 dsimp only at A
 rw [pcheck0, e1] at A
 rw [e1] at hsm
 refine A.mono ?_
 rintro e w' ⟨rfl, h1, h2⟩
 exact ⟨g', d', rfl, ⟨h1, ⟨L, e2⟩, h.tr, h.st.keep h2, h.kp.keep h2, h.says, hsm, h.sc.mono (by omega)⟩⟩
theorem LkSt.checkC (h : LkSt w W pa la ba ga da pc lc db gc dc v10 v11 T TS K j N X) (hN : N + 16777216 ≤ 1099511527776) : Calls Tryz.prog 11 #[.pointer (some ⟨pc, 0, none⟩)] W fun e w' => ∃ e0 gc' dc', e = .returned (.int .i64 e0) ∧ LkSt w w' pa la ba ga da pc lc db gc' dc' v10 v11 T TS K j (N + 8519680) X := by
 have hsm := check_small2 (g := gc) (d := dc) (N := N) (by rw [h.tr.db.pages]; have := h.tr.db.many; omega) h.sc
 have A := tw_check2 h.tw N h.sc hN
 unfold gChecked at A
 dsimp only at A
 rw [pcheck0] at A
 refine A.mono ?_
 rintro e w' ⟨rfl, h1, h2⟩
 exact ⟨_, _, _, rfl, ⟨h1, h.tl, trail_check h.tr, h.st.keep h2, h.kp.keep h2, h.says, h.sa.mono (by omega), hsm⟩⟩
theorem LkSt.arm (h : LkSt w W pa la ba ga da pc lc db gc dc v10 v11 T TS K j N X) (n : Int) (hN : N + 16777216 ≤ 1099511527776) : Calls Tryz.prog 30 #[.pointer (some ⟨db, 0, none⟩), .int .i64 n, .int .i64 31] W fun e w' => ∃ e0 dc', e = .returned (.int .i64 e0) ∧ LkSt w w' pa la ba ga da pc lc db gc dc' v10 v11 T TS K j (N + 8519680) X := by
 refine (tw_arm h.tw n 31 (h.sc.mono (by omega))).mono ?_
 rintro e w' ⟨rfl, h1, h2⟩
 refine ⟨_, _, rfl, ⟨h1, h.tl, trail_arm h.tr n 31, h.st.keep h2, h.kp.keep h2, h.says, h.sa.mono (by omega), ?_⟩⟩
 have hs := h.sc
 show (armM dc n 31).2.Small _
 unfold armM
 split
 ·exact ⟨Int.le_trans hs.ops (by omega), by have := hs.arm; show dc.narm + 1 ≤ _; omega, Nat.le_trans hs.loose (by omega)⟩
 ·exact hs.mono (by omega)
theorem LkSt.crash (h : LkSt w W pa la ba ga da pc lc db gc dc v10 v11 T TS K j N X) {kv : Value} {keep : List Bool} (hk : KeepAt W kv keep) (hkb : ∀ q, keepBlk kv keep = some q → q < w.heap.size) (hkl : keep.length ≤ 1099511627776) (hN : N + 16777216 ≤ 1099511527776) :
  Calls Tryz.prog 31 #[.pointer (some ⟨db, 0, none⟩), kv] W fun e w' => e = .returned (.int .i64 0) ∧ ∃ j', j ≤ j' ∧ Calls Tryz.prog 29 #[.pointer (some ⟨db, 0, none⟩)] w' fun e w2 => ∃ pc2 lc2 gc' dc', e = .returned (.tuple #[.pointer (some ⟨pc2, 0, none⟩), .int .i64 0]) ∧ Calm dc' ∧ gc'.off = false ∧ LkSt w w2 pa la ba ga da pc2 lc2 db gc' dc' v10 v11 T TS K j' N X := by
 refine (tw_crash h.tw kv keep hk hkb (h.sc.mono (by omega)) hkl).mono ?_
 rintro e w' ⟨rfl, h1, h2⟩
 obtain ⟨g', j', c1, c2, c3, c4⟩ := trail_crash h.tr keep
 refine ⟨rfl, j', c3, (tw_again h1 c1).mono ?_⟩
 rintro e w2 ⟨pb2, l2, rfl, h3, h4⟩
 have h5 : ∀ k, X k → w2.heap[k]? = W.heap[k]? := fun k hk => (h4 k hk).trans (h2 k hk)
 exact ⟨pb2, l2, g', _, rfl, crash_calm h.tr.stays keep, c4, ⟨h3, h.tl, c2, h.st.keep h5, h.kp.keep h5, h.says, h.sa, ⟨h.sc.ops, Nat.zero_le _, Nat.zero_le _⟩⟩⟩
end
end Go.Proofs.YtdinjghfjmmjoaaGreat
/- UnitLike: a state more, a ship more in the rows; the two compared; what stands at the start. -/
namespace Go.Proofs.YtdinjghfjmmjoaaGreat
open Go.RowKit Go.Maps
set_option maxRecDepth 20000
section
variable {w W W1 W2 W4 : World} {pa la ba pc lc db : Nat} {ga ga' gc gc' : Lg} {da da' dc dc' : Dsk} {v10 v11 v10' v11' vm : Value} {T T' TS TS' : List (List (List UInt8))} {K : List (Sh × Value)} {j j' N : Nat} {M : List (List UInt8)} {X X' : Nat → Prop} {m : Sh}
theorem LkSt.pushS (h : LkSt w W pa la ba ga da pc lc db gc dc v10 v11 T TS K j N X) (hb : Below W.heap.size W W1) (hm : StrRow W1 W.heap.size vm M) {sv : List Value} (s1 : sv.length = TS.length) (s3 : W1.ownsRow w.heap.size 52 1 v10 TS.length sv)
  (s5 : ∀ i (h1 : i < sv.length) (h2 : i < TS.length), StrRow W1 w.heap.size sv[i] TS[i] ∧ ∀ k, sv[i].ownBlock = some k → X k) (hg : (W1.alloc (.cells #[vm] 52)).grownBy W2 v10.ownBlock) (ho : W2.ownsRow w.heap.size 52 1 v10' (TS.length + 1) (sv ++ [vm]))
  (hat : v10'.ownBlock = v10.ownBlock ∨ v10'.ownBlock = some (W1.alloc (.cells #[vm] 52)).heap.size) :
  LkSt w W2 pa la ba ga da pc lc db gc dc v10' v11 T (TS ++ [M]) K j N (XW X W.heap.size W2.heap.size) := by
 have bA := (Below.refl W1.heap.size W1).alloc (Nat.le_refl _) (.cells #[vm] 52)
 have zA : (W1.alloc (.cells #[vm] 52)).heap.size = W1.heap.size + 1 := by simp
 have z2 := hg.size
 have zb := hb.size
 have zw := h.bel.size
 have ht := tw_moreg (tw_more (tw_start h.tw hb) bA) hg h.st.own (fun k e => (row_base s3 e).1)
 have hX8 : ∀ k, X k → k < W1.heap.size := fun k hk => Nat.lt_of_lt_of_le (h.tw.xlt k hk) zb
 have rK : W1.ownsRow w.heap.size 31 6 v11 K.length (K.flatMap fun x => (shCells x.1 x.2).toList) := (h.kp.keep (fun k hk => hb.block k (h.tw.xlt k hk))).row
 have hk2 : ∀ k, k < W1.heap.size → v10.ownBlock ≠ some k → W2.heap[k]? = W1.heap[k]? := fun k hk hne => (hg.block k (by omega) (fun e => hne e.symm)).trans (bA.block k hk)
 have hkp : KeptAt W2 w.heap.size v11 K X := by
  have h1 := h.kp.keep (W' := W1) (fun k hk => hb.block k (h.tw.xlt k hk))
  refine ⟨row_keep h1.row (fun k e => hk2 k (row_base h1.row e).2 (fun e2 => rows_apart2 s3 h1.row (by decide) e2 e)), h1.own, fun x hx => ⟨?_, (h1.each x hx).2⟩⟩
  exact row_keep (h1.each x hx).1 (fun k e => hk2 k (row_base (h1.each x hx).1 e).2 (fun e2 => rows_apart2 s3 (h1.each x hx).1 (by decide) e2 e))
 refine ⟨ht, h.tl, h.tr, ?_, hkp.mono (fun k hk => .inl hk), h.says, h.sa, h.sc⟩
 refine states_push s1 s3 s5 (row_lower hm zw) (fun k hk => .inr ?_) ho (fun k hk => ?_) (fun k hk => .inl hk) hk2
 ·have := row_base hm hk; omega
 ·rcases hat with e | e
  ·exact .inl (h.st.own k (e ▸ hk))
  ·rw [hk] at e
   injection e with e
   have := (row_base ho hk).2
   exact .inr (by omega)
theorem LkSt.pushK (h : LkSt w W pa la ba ga da pc lc db gc dc v10 v11 T TS K j N X) (hb : Below W.heap.size W W2) (hs : ∃ k, Says T m k) (hep : m.epoch = 1) {base : Nat} (hm : ImgRow W base vm m.imgs) (hbase : w.heap.size ≤ base) (hmx : ∀ k, vm.ownBlock = some k → X k)
  (hg : (W2.alloc (.cells (shCells m vm) 31)).grownBy W4 v11.ownBlock) (ho : W4.ownsRow w.heap.size 31 6 v11' (K.length + 1) ((K.flatMap fun x => (shCells x.1 x.2).toList) ++ (shCells m vm).toList))
  (hat : v11'.ownBlock = v11.ownBlock ∨ v11'.ownBlock = some (W2.alloc (.cells (shCells m vm) 31)).heap.size) :
  LkSt w W4 pa la ba ga da pc lc db gc dc v10 v11' T TS (K ++ [(m, vm)]) j N (XW X W.heap.size W4.heap.size) := by
 have bA := (Below.refl W2.heap.size W2).alloc (Nat.le_refl _) (.cells (shCells m vm) 31)
 have zA : (W2.alloc (.cells (shCells m vm) 31)).heap.size = W2.heap.size + 1 := by simp
 have z2 := hg.size
 have zb := hb.size
 have zw := h.bel.size
 have k1 := h.kp.keep (W' := W2) (fun k hk => hb.block k (h.tw.xlt k hk))
 have ht := tw_moreg (tw_more (tw_start h.tw hb) bA) hg h.kp.own (fun k e => (row_base k1.row e).1)
 have hk2 : ∀ k, k < W2.heap.size → v11.ownBlock ≠ some k → W4.heap[k]? = W2.heap[k]? := fun k hk hne => (hg.block k (by omega) (fun e => hne e.symm)).trans (bA.block k hk)
 have hst : StatesAt W4 w.heap.size v10 TS X := by
  obtain ⟨⟨sv, s1, s3, s5⟩, s6⟩ := h.st.keep (W' := W2) (fun k hk => hb.block k (h.tw.xlt k hk))
  refine ⟨⟨sv, s1, row_keep s3 (fun k e => hk2 k (row_base s3 e).2 (fun e2 => rows_apart2 k1.row s3 (by decide) e2 e)), fun i a b => ⟨?_, (s5 i a b).2⟩⟩, s6⟩
  exact row_keep (s5 i a b).1 (fun k e => hk2 k (row_base (s5 i a b).1 e).2 (fun e2 => rows_apart2 k1.row (s5 i a b).1 (by decide) e2 e))
 refine ⟨ht, h.tl, h.tr, hst.mono (fun k hk => .inl hk), ?_, fun x hx => ?_, h.sa, h.sc⟩
 ·refine kept_push k1 (row_keep (row_lower hm hbase) (fun k e => hb.block k (row_base hm e).2)) (fun k hk => .inl (hmx k hk)) ho (fun k hk => ?_) (fun k hk => .inl hk) hk2
  rcases hat with e | e
  ·exact .inl (h.kp.own k (e ▸ hk))
  ·rw [hk] at e
   injection e with e
   have := (row_base ho hk).2
   exact .inr (by omega)
 ·rcases List.mem_append.1 hx with e | e
  ·exact h.says x e
  ·rw [List.mem_singleton.1 e]
   exact ⟨hs, hep⟩
theorem LkSt.like (h : LkSt w W pa la ba ga da pc lc db gc dc v10 v11 T TS K j N X) (hj : T.length ≤ j + 1) : Calls Tryz.prog 13 #[.pointer (some ⟨pa, 0, none⟩), .pointer (some ⟨pc, 0, none⟩)] W fun e w' => e = .returned (.bool true) ∧ Below W.heap.size W w' := by
 obtain ⟨L, hL⟩ := h.tl
 have hjT := h.jT
 have e1 := st_db hL.db.w
 have e2 := st_db h.tr.db
 have ej : T.getD j [] = L := by rw [← hL.last, show T.length - 1 = j by omega]
 rw [ej] at e2
 exact tw_like (a := ⟨pa, la, ba, p0, ga, da⟩) (c := ⟨pc, lc, db, p0, gc, dc⟩) h.tw.fst h.tw.snd e1.1 e2.1 (by show stL p0 ga da = stL p0 gc dc; rw [e1.2, e2.2]) (by show (stL p0 ga da).length ≤ 1000; rw [e1.2]; have := hL.few; omega)
theorem lkst_start (hp : Two w W ⟨pa, la, ba, p0, exG0, newM⟩ ⟨pc, lc, db, p0, exG0, newM⟩ (fun _ => False)) :
  LkSt w (W.alloc (.cells #[.slice none 0 0] 52)) pa la ba exG0 newM pc lc db exG0 newM (.slice (some ⟨W.heap.size, 0, none⟩) 1 1) (.slice none 0 0) [[]] [[]] [] 0 100 (fun k => k = W.heap.size) := by
 have hb := (Below.refl W.heap.size W).alloc (Nat.le_refl _) (.cells #[.slice none 0 0] 52)
 have hn := heap_alloc_new W (.cells #[.slice none 0 0] 52)
 refine ⟨hp.add hb (fun k hk => .inr (Nat.le_of_eq hk.symm)) (fun k hk => by rw [hk]; exact lt_of_block hn), ⟨[], teller_new⟩, trail_new, ⟨⟨[.slice none 0 0], rfl, ⟨rfl, .inr ⟨W.heap.size, 1, #[.slice none 0 0], rfl, hp.bel.size, hn, Nat.le_refl _, by decide, rfl, rfl⟩⟩, fun i h1 h2 => ?_⟩, fun k hk => by injection hk with hk; exact hk.symm⟩, kept_nil _ _ _, (fun x hx => by cases hx), new_small, new_small⟩
 have h2 : i < 1 := h2
 obtain rfl : i = 0 := by omega
 exact ⟨strRow_nil _ _, fun k hk => by cases hk⟩
end
end Go.Proofs.YtdinjghfjmmjoaaGreat
