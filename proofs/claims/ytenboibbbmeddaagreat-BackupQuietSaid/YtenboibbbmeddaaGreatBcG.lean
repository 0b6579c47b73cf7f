import Derived.Test.YtenboibbbmeddaaGreatBcD
import Derived.BigQuiet
/- The law BackupQuiet: a pager alone, and two backups of it side by side. -/
namespace Go.Proofs.YtenboibbbmeddaaGreat
open Go.RowKit Go.Maps
set_option linter.unusedVariables false
set_option linter.unusedSimpArgs false
set_option maxRecDepth 20000

/-- A pager, behind m commits of the law's. -/
structure PS (w W : World) (pb l b m : Nat) (X : Nat → Prop) (g : Lg) (ds : Dsk) (h : Hdr) (M : List (List UInt8)) : Prop where
  pg : PgAtX w W ⟨pb, l, b, p0, g, ds⟩ X
  src : Db g ds (hdrPg h :: M)
  hd : HdOk h
  com : 1 ≤ h.commits ∧ h.commits ≤ m + 1
  ss : ds.Small (100 + 8519680 * (m + 1))
section
variable {w W W' : World} {pb l b m : Nat} {X X' : Nat → Prop} {g : Lg} {ds : Dsk} {h : Hdr} {M : List (List UInt8)} {a : PgD} {db db2 : Nat} {d d2 d' : Dsk} {Z Z' Y T : Nat → Prop}
theorem PS.add (hs : PS w W pb l b m X g ds h M) (hb : Below W.heap.size W W') (hx : ∀ k, X' k → X k ∨ W.heap.size ≤ k) (hlt : ∀ k, X' k → k < W'.heap.size) : PS w W' pb l b m X' g ds h M :=
  ⟨px_add hs.pg hb hx hlt, hs.src, hs.hd, hs.com, hs.ss⟩
theorem PS.more (hs : PS w W pb l b m X g ds h M) {m' : Nat} (hm : m ≤ m') : PS w W pb l b m' X g ds h M :=
  ⟨hs.pg, hs.src, hs.hd, ⟨hs.com.1, by have := hs.com.2; omega⟩, hs.ss.mono (by omega)⟩
theorem ps_turn (hs : PS w W pb l b m X g ds h M) (hm : m ≤ 1000) (r : Nat) (hr : r < 9) (n : Int) (hn : in64 n) (c : UInt8) :
    Calls Tryz.prog 11 #[.pointer (some ⟨pb, 0, none⟩), .int .i64 (1 + (r : Int)), .int .i64 n, .int .u8 (c.toNat : Int)] W fun e w' => e = .returned (.int .i64 0) ∧ (∃ g' ds' h' M', PS w w' pb l b (m + 1) X g' ds' h' M') ∧ ∀ k, X k → w'.heap[k]? = W.heap[k]? := by
  have hg : g.Ok := hs.pg.oks.1
  have e1 : (1 + (r : Int)) = ((1 + r : Nat) : Int) := by omega
  obtain ⟨g', d', M', t1, t2, t3⟩ := turn_db hs.src (.inr ⟨M, rfl⟩) hs.hd hg (P := 1 + r) (by omega) (by omega) n c
  have A := turn_any hs.pg (1 + (r : Int)) n c (by unfold in64; omega) hn (100 + 8519680 * (m + 1)) hs.ss (by omega)
  have hsm := turn_small (p := p0) hg.pages.2 hs.ss (1 + (r : Int)) n c
  dsimp only at A
  rw [e1, t1] at A
  rw [e1, t1] at hsm
  rw [e1]
  have hcm : (bumped h).commits = h.commits + 1 := by
    show IntKind.u64.wrap (h.commits + 1) = _
    have := hs.com
    simp only [IntKind.wrap, IntKind.bits, IntKind.signed]
    simp
    omega
  refine A.mono fun e w' hh => ⟨hh.1, ⟨g', d', bumped h, M', hh.2.1, t2, bumped_ok hs.hd, ?_, ?_⟩, hh.2.2⟩
  · have := hs.com; omega
  · exact Dsk.Small.mono hsm (by omega)
/-- A pager, two disks, and the law's own blocks Z. -/
def PD2 (w W : World) (a : PgD) (db : Nat) (d : Dsk) (db2 : Nat) (d2 : Dsk) (Z : Nat → Prop) : Prop :=
  ∃ T : Nat → Prop, PD w W a db d (fun k => Z k ∨ T k) ∧ DkS w W db2 d2 T ∧ ∀ k, T k → ¬ Z k
theorem PD2.swap (h : PD2 w W a db d db2 d2 Z) : PD2 w W a db2 d2 db d Z := by
  obtain ⟨T, ⟨⟨S, T1, h1, h2, h3, h4⟩, hb, hx⟩, h5, h6⟩ := h
  exact ⟨T1, ⟨⟨S, T, h1, h5, fun k hk => ⟨fun e => (h3 k hk).2 (.inr e), fun e => e.elim (fun e => (h3 k hk).2 (.inl e)) (h3 k hk).1⟩, fun k hk e => e.elim (h6 k hk) (fun e => h4 k e (.inr hk))⟩, hb, fun k hk => hk.elim (fun e => hx k (.inl e)) (h2.lt k)⟩, h2, fun k hk e => h4 k hk (.inl e)⟩
theorem PD2.left (h : PD2 w W a db d db2 d2 Z) : ∃ T : Nat → Prop, PD w W a db d (fun k => Z k ∨ T k) ∧ (∀ k, T k → k < W.heap.size ∧ ¬ Z k) ∧ ∀ w' a' d' Z' Y, PD w w' a' db d' Y → (∀ k, Z' k ∨ T k → Y k) → (∀ k, T k → w'.heap[k]? = W.heap[k]?) → (∀ k, T k → ¬ Z' k) → PD2 w w' a' db d' db2 d2 Z' := by
  obtain ⟨T, h1, h2, h3⟩ := h
  exact ⟨T, h1, fun k hk => ⟨h2.lt k hk, h3 k hk⟩, fun w' a' d' Z' Y hp hY hk hn => ⟨T, hp.to hY, h2.keep hk, hn⟩⟩
theorem PD2.below (h : PD2 w W a db d db2 d2 Z) (hb : Below W.heap.size W W') : PD2 w W' a db d db2 d2 Z := by
  obtain ⟨T, h1, h2, h3⟩ := h
  exact ⟨T, h1.below hb, h2.keep (fun k hk => hb.block k (h2.lt k hk)), h3⟩
theorem PD2.bel (h : PD2 w W a db d db2 d2 Z) : Below w.heap.size w W := by
  obtain ⟨T, h1, h2, h3⟩ := h
  exact h1.bel
theorem PD2.dsk (h : PD2 w W a db d db2 d2 Z) : MkD w W db d := by
  obtain ⟨T, h1, h2, h3⟩ := h
  exact h1.dsk
/-- A second disk, made since. -/
theorem PD.two (h : PD w W a db d (fun _ => False)) (hd : MkD W W' db2 d2) : PD2 w W' a db d db2 d2 (fun _ => False) := by
  obtain ⟨⟨F, hF, hge⟩, hb⟩ := hd
  have hsz := h.bel.size
  exact ⟨fun k => F.own k ∨ F.sh k, h.add hb (fun k hk => hk.elim False.elim (fun e => .inr (hge k e))) (fun k hk => hk.elim False.elim (fun e => e.elim (hF.olt k) (hF.slt k))), ⟨⟨F, hF, fun k hk => hk⟩, fun k hk => Nat.le_trans hsz (hge k hk), fun k hk => hk.elim (hF.olt k) (hF.slt k)⟩, fun k hk e => e⟩
/-- A backup of what is there now, nothing failing. -/
structure Bq (W : World) (pb db bb : Nat) (h : Hdr) (M : List (List UInt8)) (B : Bk) (d : Dsk) (w : World) (m : Nat) : Prop where
  bk : W.heap[bb]? = some (bkObj pb db B)
  ge : w.heap.size ≤ bb
  up : Bup h (hdrPg h :: M) B d
  k : B.k = h.commits
  rs : B.restarts = 0
  sd : d.Small (200000 + 16777216 * m)
theorem Bq.keep {bb : Nat} {B : Bk} {w : World} (hs : Bq W pb db bb h M B d w m) (hk : W'.heap[bb]? = W.heap[bb]?) : Bq W' pb db bb h M B d w m :=
  ⟨hk.trans hs.bk, hs.ge, hs.up, hs.k, hs.rs, hs.sd⟩
theorem Bq.more {bb m' : Nat} {B : Bk} {w : World} (hs : Bq W pb db bb h M B d w m) (hm : m ≤ m') : Bq W pb db bb h M B d w m' :=
  ⟨hs.bk, hs.ge, hs.up, hs.k, hs.rs, hs.sd.mono (by omega)⟩
end
/-- Two backups of one pager. -/
structure Q2 (w W : World) (pb l b : Nat) (g : Lg) (ds : Dsk) (h : Hdr) (M : List (List UInt8)) (c bc : Nat) (B : Bk) (dc : Dsk) (d bd : Nat) (D : Bk) (dd : Dsk) (m : Nat) : Prop where
  pd : PD2 w W ⟨pb, l, b, p0, g, ds⟩ c dc d dd (fun k => k = bc ∨ k = bd)
  ne : bc ≠ bd
  one : Bq W pb c bc h M B dc w m
  two : Bq W pb d bd h M D dd w m
  src : Db g ds (hdrPg h :: M)
  hd : HdOk h
  com : 1 ≤ h.commits ∧ h.commits ≤ 1000
section
variable {w W W' : World} {pb l b m : Nat} {g : Lg} {ds : Dsk} {h : Hdr} {M : List (List UInt8)} {c bc d bd : Nat} {B D : Bk} {dc dd : Dsk}
theorem Q2.swap (hs : Q2 w W pb l b g ds h M c bc B dc d bd D dd m) : Q2 w W pb l b g ds h M d bd D dd c bc B dc m := by
  obtain ⟨h1, h2, h3, h4, h5, h6, h7⟩ := hs
  have h8 := h1.swap
  rw [show (fun k => k = bc ∨ k = bd) = (fun k => k = bd ∨ k = bc) from funext fun k => propext or_comm] at h8
  exact ⟨h8, h2.symm, h4, h3, h5, h6, h7⟩
theorem Q2.below (hs : Q2 w W pb l b g ds h M c bc B dc d bd D dd m) (hb : Below W.heap.size W W') : Q2 w W' pb l b g ds h M c bc B dc d bd D dd m :=
  ⟨hs.pd.below hb, hs.ne, hs.one.keep (hb.block bc (lt_of_block hs.one.bk)), hs.two.keep (hb.block bd (lt_of_block hs.two.bk)), hs.src, hs.hd, hs.com⟩
theorem Q2.pages (hs : Q2 w W pb l b g ds h M c bc B dc d bd D dd m) : 1 ≤ ppagesM p0 g ∧ ppagesM p0 g ≤ 256 := by
  have h1 := db_pages (p := p0) hs.src rfl
  have h2 := hs.src.many
  rw [h1]
  simp at h2 ⊢
  omega
theorem q2_step (hs : Q2 w W pb l b g ds h M c bc B dc d bd D dd m) (hm : m ≤ 1000) (n : Int) (hn : in64 n) :
    Calls Tryz.prog 15 #[.pointer (some ⟨bc, 0, none⟩), .int .i64 n] W fun e w' => e = .returned (.int .i64 0) ∧ ∃ B' d', Q2 w w' pb l b g ds h M c bc B' d' d bd D dd (m + 1) ∧ bleftM B' = max (bleftM B - max n 0) 0 := by
  have hr := hs.one.rs
  obtain ⟨B', d', e1, u1, k1, l1, r1, r2⟩ := step_db hs.src hs.hd hs.one.up n ⟨by omega, by omega⟩
  obtain ⟨T, hp, hT, hcl⟩ := hs.pd.left
  have A := bstep_any hp (.inl (.inl rfl)) hs.one.ge hs.one.bk hs.one.up.ok ⟨by omega, by omega⟩ hs.pages.1 n hn hs.one.sd (by omega)
  have hsm := bstep_small (p := p0) (g := g) (ds := ds) hs.one.up.ok hs.pages hs.one.sd n
  dsimp only at A
  rw [e1] at A hsm
  obtain ⟨l2, l3, l4⟩ := l1 hs.one.k
  have hne := hs.ne
  refine A.mono fun e w' hh => ⟨hh.1, B', d', ⟨hcl w' _ d' _ _ hh.2.1 (fun k hk => hk) (fun k hk => hh.2.2.2 k (.inr hk) (fun e => (hT k hk).2 (.inl e))) (fun k hk => (hT k hk).2), hne, ⟨hh.2.2.1, hs.one.ge, u1, l3.trans hs.one.k, l4.trans hr, Dsk.Small.mono hsm (by omega)⟩, (hs.two.keep (hh.2.2.2 bd (.inl (.inr rfl)) (Ne.symm hne))).more (by omega), hs.src, hs.hd, hs.com⟩, l2⟩
theorem q2_left (hs : Q2 w W pb l b g ds h M c bc B dc d bd D dd m) : Calls Tryz.prog 12 #[.pointer (some ⟨bc, 0, none⟩)] W fun e w' => e = .returned (.int .i64 (bleftM B)) ∧ Q2 w w' pb l b g ds h M c bc B dc d bd D dd m := by
  have hk := hs.one.up.ok
  refine (bleft_any hs.one.bk (by rcases hk.next with e | ⟨e1, e2, -⟩ <;> (have := hk.pages; omega)) (by have := hk.pages; omega)).mono fun e w' hh => ⟨hh.1, hs.below hh.2⟩
/-- The first of two. -/
theorem q2_start1 (hp : PD2 w W ⟨pb, l, b, p0, g, ds⟩ c newM d newM (fun _ => False)) (hD : Db g ds (hdrPg h :: M)) (hh : HdOk h) (hc : 1 ≤ h.commits ∧ h.commits ≤ 1000) :
    Calls Tryz.prog 10 #[.pointer (some ⟨pb, 0, none⟩), .pointer (some ⟨c, 0, none⟩)] W fun e w' => ∃ bc B dc, e = .returned (.tuple #[.pointer (some ⟨bc, 0, none⟩), .int .i64 0]) ∧ PD2 w w' ⟨pb, l, b, p0, g, ds⟩ c dc d newM (fun k => k = bc) ∧ Bq w' pb c bc h M B dc w 0 := by
  obtain ⟨B, d1, e1, u1, k1, r1⟩ := start_db hD hh (by omega)
  have hsd : d1.Small 200000 := by
    have := bstart_small (p := p0) (g := g) (ds := ds) new_small
    rw [e1] at this
    exact Dsk.Small.mono this (by omega)
  obtain ⟨T, h1, hT, hcl⟩ := hp.left
  refine (bstart_any h1 (N := 100) new_small (by decide)).mono fun e w' hg => ?_
  unfold StartGave at hg
  dsimp only at hg
  rw [e1] at hg
  obtain ⟨bb, h1, h2, h3, h4, h5⟩ := hg
  exact ⟨bb, B, d1, h1, hcl w' _ d1 _ _ h2 (fun k hk => hk.elim .inr (fun e => .inl (.inr e))) (fun k hk => h5 k (.inr hk)) (fun k hk e => by have := (hT k hk).1; omega), ⟨h3, Nat.le_trans hp.bel.size h4, u1, k1, r1, hsd⟩⟩
/-- The second of two. -/
theorem q2_start2 (hp : PD2 w W ⟨pb, l, b, p0, g, ds⟩ c dc d newM (fun k => k = bc)) (hone : Bq W pb c bc h M B dc w 0) (hD : Db g ds (hdrPg h :: M)) (hh : HdOk h) (hc : 1 ≤ h.commits ∧ h.commits ≤ 1000) :
    Calls Tryz.prog 10 #[.pointer (some ⟨pb, 0, none⟩), .pointer (some ⟨d, 0, none⟩)] W fun e w' => ∃ bd D dd, e = .returned (.tuple #[.pointer (some ⟨bd, 0, none⟩), .int .i64 0]) ∧ Q2 w w' pb l b g ds h M c bc B dc d bd D dd 0 := by
  obtain ⟨D, d1, e1, u1, k1, r1⟩ := start_db hD hh (by omega)
  have hsd : d1.Small 200000 := by
    have := bstart_small (p := p0) (g := g) (ds := ds) new_small
    rw [e1] at this
    exact Dsk.Small.mono this (by omega)
  obtain ⟨T, h1, hT, hcl⟩ := hp.swap.left
  have hlt := lt_of_block hone.bk
  refine (bstart_any h1 (N := 100) new_small (by decide)).mono fun e w' hg => ?_
  unfold StartGave at hg
  dsimp only at hg
  rw [e1] at hg
  obtain ⟨bb, h1, h2, h3, h4, h5⟩ := hg
  have hne : bb ≠ bc := by omega
  have hq := hcl w' _ d1 (fun k => k = bc ∨ k = bb) _ h2 (fun k hk => hk.elim (fun e => e.elim (fun e => .inl (.inl e)) .inr) (fun e => .inl (.inr e))) (fun k hk => h5 k (.inr hk)) (fun k hk e => e.elim (hT k hk).2 (fun e => by have := (hT k hk).1; omega))
  exact ⟨bb, D, d1, h1, ⟨hq.swap, Ne.symm hne, hone.keep (h5 bc (.inl rfl)), ⟨h3, Nat.le_trans hp.bel.size h4, u1, k1, r1, hsd⟩, hD, hh, hc⟩⟩
/-- What a backup that is done has written. -/
theorem q2_opened (hs : Q2 w W pb l b g ds h M c bc B dc d bd D dd m) (hn : B.next = 0) : Calls Tryz.prog 22 #[.pointer (some ⟨c, 0, none⟩)] W fun e w' => Below W.heap.size W w' ∧ ∃ v, e = .returned (.tuple #[v, .bool true]) ∧ StrRow w' W.heap.size v (hdrPg h :: M) := by
  have hM255 : M.length ≤ 255 := by have := hs.src.many; simp at this; omega
  obtain ⟨g9, o9, k9⟩ := cop_done (hs.one.up.cop hs.one.k) hn hs.one.up.dst hs.hd hM255
  have OP := opened_any hs.pd.dsk (fun g L e => by rw [o9] at e; cases e; exact k9)
  rw [o9] at OP
  exact OP
end
end Go.Proofs.YtenboibbbmeddaaGreat
/- The law BackupQuiet, walked. -/
namespace Go.Proofs.YtenboibbbmeddaaGreat
open Go.RowKit Go.Maps
set_option linter.unusedVariables false
set_option linter.unusedSimpArgs false
set_option maxRecDepth 20000

set_option maxHeartbeats 8000000 in
set_option maxRecDepth 20000 in
theorem backupQuiet_any (w : World) (v1 v2 : Value) (acts : List AOp) (sizes : List Int) (h1 : ActsIn w v1 acts) (h2 : IntsIn w v2 sizes) : Calls Tryz.prog 5 #[v1, v2] w fun e w' => e = .returned (.bool true) ∧ Below w.heap.size w w' := by
  obtain ⟨ao1, cap1, rfl, -⟩ := id h1.at'
  obtain ⟨ao2, cap2, rfl, -⟩ := id h2.at'
  have WK := hid (fun W => bkworks_any W)
  have FR := hid (fun W => fresh_px W)
  have NW := hid (fun W => mk_new W)
  obtain ⟨n, hn⟩ : ∃ n, n = acts.length := ⟨_, rfl⟩
  obtain ⟨ns, hns⟩ : ∃ ns, ns = sizes.length := ⟨_, rfl⟩
  have hl1 := h1.len
  have hl2 := h2.len
  have HA := hid h1
  have HI := hid h2
  have HN := hid hn
  have HNS := hid hns
  have HV := hid (fun (W : World) (hb : Below w.heap.size w W) => aheavy_any W _ acts (h1.at'.keep hb) hl1)
  rw [← hn] at HV hl1 ⊢
  rw [← hns] at hl2 ⊢
  clear h1 h2 hn hns
  go_enter Tryz.func5, Tryz.ntmps5
  go_upto_region 3 with (first
    | (go_at_call 9; refine (WK.out _).mono ?_; rintro e w1 ⟨rfl, hb1⟩; have HB1 := hid hb1; clear hb1)
    | go_in)
  have HV1 := hid (HV.out w1 HB1.out)
  by_cases hbig : 60 < ns
  · have d0 : decide (60 < ns) = true := by simpa using hbig
    go_upto_region 4 with (first
      | (go_at_call 19; refine (HV1.out).mono ?_; rintro e w2 ⟨r, rfl, hr, hb2⟩; have HB2 := hid (then_below HB1.out hb2); clear hb2)
      | go_in)
    all_goals
      go_wp2_with fail
      go_ret
      exact ⟨rfl, HB2.out⟩
  have d0 : decide (60 < ns) = false := by simpa using hbig
  go_upto_region 5 with (first
    | (go_at_call 19; refine (HV1.out).mono ?_; rintro e w2 ⟨r, rfl, hr, hb2⟩; have HB2 := hid (then_below HB1.out hb2); have HR := hid hr; clear hb2 hr)
    | go_in)
  · go_ret
    exact ⟨rfl, HB2.out⟩
  have HL := hid (HR.out (by first | assumption | exact Bool.eq_false_iff.2 (by assumption)))
  clear HR HV HV1 hbig d0 WK
  go_upto_region 8 with (first
    | (go_at_call 7; refine (FR.out _).mono ?_; rintro e w3 ⟨pb, l, b, rfl, hp⟩; have HP3 := hid hp; clear hp FR)
    | (go_at_call 11; refine (first_turn HP3.out).mono ?_; rintro e w4 ⟨rfl, g0, ds0, h0, M0, hp, hD, hh, hc, hss⟩; have HP4 := hid (show PS w2 w4 pb l b 0 (fun _ => False) g0 ds0 h0 M0 from ⟨hp, hD, hh, (by omega), hss⟩); clear hp hD hh hc hss HP3)
    | go_in)
  go_wp2_with fail
  have h1 : 0 ≤ n := Nat.zero_le _
  go_loopw [42] (fun v42 wr => ∃ (i : Nat), i ≤ n ∧ v42 = .int .i64 (i : Int) ∧ ∃ g ds h M, PS w2 wr pb l b i (fun _ => False) g ds h M) (fun v42 _ => n - (intOf v42).toNat)
  case atStart => exact ⟨0, Nat.zero_le _, rfl, _, _, _, _, HP4.out⟩
  case round =>
    obtain ⟨i, hi, rfl, g, ds, h, M, hbs⟩ := hrel
    have HBS := hid hbs
    by_cases hlt : i < n
    · have hil : i < acts.length := by have := HN.out; omega
      obtain ⟨ao, cap, e1, hc⟩ := (HA.out.at'.keep HB2.out).keep (hbs.pg.bel.mono HB2.out.size)
      obtain ⟨q, o, e2, hq, hs, hcell⟩ := hc i hil
      injection e1 with e1a e1b e1c
      subst e1a
      subst e1c
      clear e1b
      subst e2
      obtain ⟨y, hy⟩ : ∃ y, y = acts[i] := ⟨_, rfl⟩
      have hyn : in64 y.n := HA.out.n64 y (by rw [hy]; exact List.getElem_mem hil)
      have hyp : in64 y.pages := HA.out.p64 y (by rw [hy]; exact List.getElem_mem hil)
      rw [← hy] at hcell
      have c0 := hcell 0 _ rfl
      have c1 := hcell 1 _ rfl
      have c2 := hcell 2 _ rfl
      have c3 := hcell 3 _ rfl
      have c4 := hcell 4 _ rfl
      rw [Nat.add_zero] at c0
      have hw : IntKind.i64.wrap ((i : Int) + 1) = (i : Int) + 1 := IntWalk.i64_in _ (by omega)
      have hn100 : n ≤ 100 := by have := HN.out; have := HL.out; omega
      have HYN := hid hyn
      have HYP := hid hyp
      clear hy hcell hc hbs hyn hyp
      go_upto_region 11 with fail
      have hxb := heap_alloc_new wr (.cells #[.int .i64 y.kind, .int .i64 y.n, .int .i64 y.pages, .int .u8 (y.x.toNat : Int), .slice y.ka y.keep.length y.kcap] 49)
      have hba := (Below.refl wr.heap.size wr).alloc (Nat.le_refl _) (.cells #[.int .i64 y.kind, .int .i64 y.n, .int .i64 y.pages, .int .u8 (y.x.toNat : Int), .slice y.ka y.keep.length y.kcap] 49)
      obtain ⟨X, hX⟩ : ∃ X, X = wr.heap.size := ⟨_, rfl⟩
      obtain ⟨wa, hwa⟩ : ∃ wa, wa = wr.alloc (.cells #[.int .i64 y.kind, .int .i64 y.n, .int .i64 y.pages, .int .u8 (y.x.toNat : Int), .slice y.ka y.keep.length y.kcap] 49) := ⟨_, rfl⟩
      rw [← hwa, ← hX] at hxb
      rw [← hwa] at hba
      rw [← hwa, ← hX]
      have HBA := hid (HBS.out.add (X' := fun k => k = X) hba (fun k hk => .inr (by omega)) (fun k hk => by rw [hk]; exact lt_of_block hxb))
      have hcl : ∀ W2 : World, W2.heap[X]? = wa.heap[X]? → W2.cell? ⟨X, 0, none⟩ = some (.int .i64 y.kind) ∧ W2.cell? ⟨X, 1, none⟩ = some (.int .i64 y.n) ∧ W2.cell? ⟨X, 2, none⟩ = some (.int .i64 y.pages) ∧ W2.cell? ⟨X, 3, none⟩ = some (.int .u8 (y.x.toNat : Int)) := fun W2 e =>
        ⟨(cell_of_block (e.trans hxb) 0).trans rfl, (cell_of_block (e.trans hxb) 1).trans rfl, (cell_of_block (e.trans hxb) 2).trans rfl, (cell_of_block (e.trans hxb) 3).trans rfl⟩
      have HCL := hid hcl
      have HXL := hid (lt_of_block hxb)
      obtain ⟨x0, x1, x2, x3⟩ := hcl wa rfl
      clear hxb hba hwa hX hcl c0 c1 c2 c3 c4
      by_cases k0 : y.kind = 0
      · rw [k0] at x0
        have hcl2 : ∀ W2 : World, W2.heap[X]? = wa.heap[X]? → W2.cell? ⟨X, 0, none⟩ = some (.int .i64 0) ∧ W2.cell? ⟨X, 1, none⟩ = some (.int .i64 y.n) ∧ W2.cell? ⟨X, 2, none⟩ = some (.int .i64 y.pages) ∧ W2.cell? ⟨X, 3, none⟩ = some (.int .u8 (y.x.toNat : Int)) := fun W2 e => by
          have := HCL.out W2 e
          rw [k0] at this
          exact this
        have HCL2 := hid hcl2
        clear k0 hcl2
        refine wp_region_held_drew (S := fun W2 => W2.cell? ⟨X, 0, none⟩ = some (.int .i64 0) ∧ W2.cell? ⟨X, 1, none⟩ = some (.int .i64 y.n) ∧ W2.cell? ⟨X, 2, none⟩ = some (.int .i64 y.pages) ∧ W2.cell? ⟨X, 3, none⟩ = some (.int .u8 (y.x.toNat : Int))) (by kernel_rfl) ⟨x0, x1, x2, x3⟩ (fun hHeld => ?_)
        refine held_take (v := ?gv0) 0 rfl (by kernel_rfl) (by kernel_rfl) (by kernel_rfl) (fun _ _ _ h => h) (by rfl) hHeld ?gy0 ?gr0
        case gy0 => (intro W hSw; obtain ⟨y0, y1, y2, y3⟩ := hSw; go_simp; with_reducible rfl)
        simp only [Act.put, List.setIfInBounds_toArray, List.set_cons_zero, List.set_cons_succ]
        refine held_take (v := ?gv1) 1 rfl (by kernel_rfl) (by kernel_rfl) (by kernel_rfl) (fun _ _ _ h => h) (by rfl) hHeld ?gy1 ?gr1
        case gy1 => (intro W hSw; obtain ⟨y0, y1, y2, y3⟩ := hSw; go_simp; with_reducible rfl)
        simp only [Act.put, List.setIfInBounds_toArray, List.set_cons_zero, List.set_cons_succ]
        refine held_take (v := ?gv2) 2 rfl (by kernel_rfl) (by kernel_rfl) (by kernel_rfl) (fun _ _ _ h => h) (by rfl) hHeld ?gy2 ?gr2
        case gy2 => (intro W hSw; obtain ⟨y0, y1, y2, y3⟩ := hSw; go_simp; with_reducible rfl)
        simp only [Act.put, List.setIfInBounds_toArray, List.set_cons_zero, List.set_cons_succ]
        refine held_take (v := ?gv3) 3 rfl (by kernel_rfl) (by kernel_rfl) (by kernel_rfl) (fun _ _ _ h => h) (by rfl) hHeld ?gy3 ?gr3
        case gy3 => (intro W hSw; obtain ⟨y0, y1, y2, y3⟩ := hSw; go_simp; with_reducible rfl)
        simp only [Act.put, List.setIfInBounds_toArray, List.set_cons_zero, List.set_cons_succ]
        refine held_take (v := ?gv4) 4 rfl (by kernel_rfl) (by kernel_rfl) (by kernel_rfl) (fun _ _ _ h => h) (by rfl) hHeld ?gy4 ?gr4
        case gy4 => (intro W hSw; obtain ⟨y0, y1, y2, y3⟩ := hSw; go_simp; with_reducible rfl)
        simp only [Act.put, List.setIfInBounds_toArray, List.set_cons_zero, List.set_cons_succ]
        refine held_take (v := ?gv5) 5 rfl (by kernel_rfl) (by kernel_rfl) (by kernel_rfl) (fun _ _ _ h => h) (by rfl) hHeld ?gy5 ?gr5
        case gy5 => (intro W hSw; obtain ⟨y0, y1, y2, y3⟩ := hSw; go_simp; with_reducible rfl)
        simp only [Act.put, List.setIfInBounds_toArray, List.set_cons_zero, List.set_cons_succ]
        refine held_take (v := ?gv6) 6 rfl (by kernel_rfl) (by kernel_rfl) (by kernel_rfl) (fun _ _ _ h => h) (by rfl) hHeld ?gy6 ?gr6
        case gy6 => (intro W hSw; obtain ⟨y0, y1, y2, y3⟩ := hSw; go_simp; with_reducible rfl)
        simp only [Act.put, List.setIfInBounds_toArray, List.set_cons_zero, List.set_cons_succ]
        refine held_take (v := ?gv9) 9 rfl (by kernel_rfl) (by kernel_rfl) (by kernel_rfl) (fun _ _ _ h => h) (by rfl) hHeld ?gy9 ?gr9
        case gy9 => (intro W hSw; obtain ⟨y0, y1, y2, y3⟩ := hSw; go_simp; with_reducible rfl)
        simp only [Act.put, List.setIfInBounds_toArray, List.set_cons_zero, List.set_cons_succ]
        refine held_take (v := ?gv10) 10 rfl (by kernel_rfl) (by kernel_rfl) (by kernel_rfl) (fun _ _ _ h => h) (by rfl) hHeld ?gy10 ?gr10
        case gy10 => (intro W hSw; obtain ⟨y0, y1, y2, y3⟩ := hSw; go_simp; with_reducible rfl)
        simp only [Act.put, List.setIfInBounds_toArray, List.set_cons_zero, List.set_cons_succ]
        refine held_take (v := ?gv11) 11 rfl (by kernel_rfl) (by kernel_rfl) (by kernel_rfl) (fun _ _ _ h => h) (by rfl) hHeld ?gy11 ?gr11
        case gy11 => (intro W hSw; obtain ⟨y0, y1, y2, y3⟩ := hSw; go_simp; with_reducible rfl)
        simp only [Act.put, List.setIfInBounds_toArray, List.set_cons_zero, List.set_cons_succ]
        refine held_take (v := ?gv12) 12 rfl (by kernel_rfl) (by kernel_rfl) (by kernel_rfl) (fun _ _ _ h => h) (by rfl) hHeld ?gy12 ?gr12
        case gy12 => (intro W hSw; obtain ⟨y0, y1, y2, y3⟩ := hSw; go_simp; with_reducible rfl)
        simp only [Act.put, List.setIfInBounds_toArray, List.set_cons_zero, List.set_cons_succ]
        refine held_one 7 (by kernel_rfl) rfl (fun K hK => ?_)
        go_simp
        refine (around_any y.pages HYP.out _).mono ?_
        rintro e w7 ⟨r9, rfl, hr9, hw7⟩
        obtain rfl := hw7.symm
        have hwr : IntKind.i64.wrap (1 + (r9 : Int)) = 1 + (r9 : Int) := IntWalk.i64_in _ (by omega)
        try dsimp only
        refine hK.out _ _ (⟨x0, x1, x2, x3⟩) (fun hHeld => ?_)
        clear hK K
        try simp only [Act.put, List.setIfInBounds_toArray, List.set_cons_zero, List.set_cons_succ]
        refine held_take (v := ?hv8) 8 rfl (by kernel_rfl) (by kernel_rfl) (by kernel_rfl) (fun _ _ _ h => h) (by rfl) hHeld ?hy8 ?hr8
        case hy8 => (intro W hSw; obtain ⟨y0, y1, y2, y3⟩ := hSw; go_simp; with_reducible rfl)
        simp only [Act.put, List.setIfInBounds_toArray, List.set_cons_zero, List.set_cons_succ]
        have TN := hid (ps_turn (HBA.out.add (X' := fun k => k = X) ((Below.refl _ wa).drew) (fun k hk => .inl hk) (fun k hk => HBA.out.pg.xlt k hk)) (by omega) r9 hr9 y.n HYN.out y.x)
        refine held_one 13 (by kernel_rfl) rfl (fun K hK => ?_)
        go_simp
        refine (TN.out).mono ?_
        rintro e w8 ⟨rfl, ⟨g', ds', h', M', hb8⟩, hk8⟩
        have hs8 := HCL2.out w8 (hk8 X rfl)
        have HB8 := hid hb8
        clear hb8 hk8
        try dsimp only
        refine hK.out _ _ (hs8) (fun hHeld => ?_)
        clear hK K
        try simp only [Act.put, List.setIfInBounds_toArray, List.set_cons_zero, List.set_cons_succ]
        clear hs8
        refine held_take (v := ?vv14) 14 rfl (by kernel_rfl) (by kernel_rfl) (by kernel_rfl) (fun _ _ _ h => h) (by rfl) hHeld ?vy14 ?vr14
        case vy14 => (intro W hSw; obtain ⟨y0, y1, y2, y3⟩ := hSw; go_simp; with_reducible rfl)
        simp only [Act.put, List.setIfInBounds_toArray, List.set_cons_zero, List.set_cons_succ]
        refine held_take (v := ?vv15) 15 rfl (by kernel_rfl) (by kernel_rfl) (by kernel_rfl) (fun _ _ _ h => h) (by rfl) hHeld ?vy15 ?vr15
        case vy15 => (intro W hSw; obtain ⟨y0, y1, y2, y3⟩ := hSw; go_simp; with_reducible rfl)
        simp only [Act.put, List.setIfInBounds_toArray, List.set_cons_zero, List.set_cons_succ]
        clear hHeld
        refine wpAnyH_done (by kernel_rfl) ?_ _
        go_wp2_with fail
        go_roundw
        case rel => exact ⟨i + 1, by omega, by simp, _, _, _, _, HB8.out.add (Below.refl _ _) (fun k hk => False.elim hk) (fun k hk => False.elim hk)⟩
        case measure => (simp [intOf]) <;> omega
      have e0 : (y.kind == 0) = false := by simp [k0]
      clear k0
      go_quiet (fail)
      go_wp2_with fail
      go_roundw
      case rel => exact ⟨i + 1, by omega, by simp, _, _, _, _, (HBA.out.more (by omega)).add (below_drewN (Below.refl _ wa) _) (fun k hk => False.elim hk) (fun k hk => False.elim hk)⟩
      case measure => (simp [intOf]) <;> omega
    · obtain rfl : n = i := by omega
      have hn100 : n ≤ 100 := by have := HN.out; have := HL.out; omega
      have HPG := hid hbs.pg
      have HSRC := hid hbs.src
      have HHD := hid hbs.hd
      have hcm : 1 ≤ h.commits ∧ h.commits ≤ 1000 := by have := hbs.com; omega
      have HCM := hid hcm
      clear hbs hlt h1 hcm HBS
      go_upto_region 17 with (first
        | (go_at_call 8; have hq := HPG.out; refine (NW.out _).mono ?_; rintro e w5 ⟨cb, rfl, hd⟩; have HP5 := hid (PgX.pd hq hd); clear hd hq HPG)
        | (go_at_call 8; have hq := HP5.out; refine (NW.out _).mono ?_; rintro e w6 ⟨db, rfl, hd⟩; have HP6 := hid (PD.two hq hd); clear hd hq HP5)
        | (go_at_call 10; refine (q2_start1 HP6.out HSRC.out HHD.out HCM.out).mono ?_; rintro e w7 ⟨bc, B, dc, rfl, hp, hb⟩; have HP7 := hid hp; have HB7 := hid hb; clear hp hb HP6)
        | (go_at_call 10; refine (q2_start2 HP7.out HB7.out HSRC.out HHD.out HCM.out).mono ?_; rintro e w8 ⟨bd, D, dd, rfl, hq⟩; have HQ := hid hq; clear hq HP7 HB7)
        | go_in)
      have hlr := bleft_range HQ.out.one.up.ok
      have LF := q2_left HQ.out
      obtain ⟨lf, hlf⟩ : ∃ lf, lf = bleftM B := ⟨_, rfl⟩
      rw [← hlf] at LF hlr
      have LF := hid LF
      have HLF := hid hlf
      have hl64 : in64 lf := by unfold in64; omega
      clear hlf hlr
      go_upto_region 19 with (first
        | (go_at_call 12; refine (LF.out).mono ?_; rintro e w11 ⟨rfl, hb⟩; have ST := hid (q2_step hb (by decide) lf hl64); clear hb LF)
        | (go_at_call 15; refine (ST.out).mono ?_; rintro e w12 ⟨rfl, B2, dc2, hb, hl⟩; rw [← HLF.out, show max (lf - max lf 0) 0 = 0 by omega] at hl; have hn2 := left_zero hb.one.up.ok hl; have DN := bdone_any hb.one.bk; rw [hn2] at DN; have DN := hid DN; have HQ2 := hid hb.swap; have HN2 := hid hn2; clear hb hl hn2 ST)
        | (go_at_call 14; refine (DN.out).mono ?_; rintro e w13 ⟨rfl, hw⟩; obtain rfl := hw.symm; clear DN)
        | go_in)
      go_wp2_with fail
      clear hl64 HLF HQ
      have h1 : 0 ≤ ns := Nat.zero_le _
      go_loopw [97] (fun v97 wr => ∃ (i : Nat), i ≤ ns ∧ v97 = .int .i64 (i : Int) ∧ ∃ D dd, Q2 w2 wr pb l b g ds h M db bd D dd cb bc B2 dc2 (1 + i)) (fun v97 _ => ns - (intOf v97).toNat)
      case atStart => exact ⟨0, Nat.zero_le _, rfl, _, _, HQ2.out⟩
      case round =>
        obtain ⟨i, hi, rfl, D5, d5, hb5⟩ := hrel
        have HB5 := hid hb5
        by_cases hlt : i < ns
        · have hil : i < sizes.length := by have := HNS.out; omega
          obtain ⟨ao, cap, e1, hc⟩ := (HI.out.at'.keep HB2.out).keep (hb5.pd.bel.mono HB2.out.size)
          obtain ⟨q, o, e2, hq, hs, hcell⟩ := hc i hil
          injection e1 with e1a e1b e1c
          subst e1a
          subst e1c
          subst e2
          clear e1b
          obtain ⟨z, hz⟩ : ∃ z, z = sizes[i] := ⟨_, rfl⟩
          have hz64 : in64 z := HI.out.wf z (by rw [hz]; exact List.getElem_mem hil)
          rw [← hz] at hcell
          have hw : IntKind.i64.wrap ((i : Int) + 1) = (i : Int) + 1 := IntWalk.i64_in _ (by omega)
          have hn60 : ns ≤ 60 := by omega
          have hmn : 1 + i ≤ 1000 := by omega
          have ST := hid (q2_step hb5 hmn z hz64)
          clear hz hc hb5 hz64
          go_wp2_with (first
            | (go_at_call 15; refine (ST.out).mono ?_; rintro e w12 ⟨rfl, B6, d6, hb, -⟩; have HB12 := hid hb; clear hb ST)
            | go_in)
          go_roundw
          case rel => exact ⟨i + 1, by omega, by simp, B6, d6, HB12.out⟩
          case measure => (simp [intOf]) <;> omega
        · obtain rfl : ns = i := by omega
          have hn60 : ns ≤ 60 := by omega
          have hlr := bleft_range hb5.one.up.ok
          have LF := q2_left hb5
          obtain ⟨lf, hlf⟩ : ∃ lf, lf = bleftM D5 := ⟨_, rfl⟩
          rw [← hlf] at LF hlr
          have LF := hid LF
          have HLF := hid hlf
          have hmn : 1 + ns ≤ 1000 := by omega
          have hl64 : in64 lf := by unfold in64; omega
          have HHC := hid hb5.com
          obtain ⟨kc, hkc⟩ : ∃ kc, kc = h.commits := ⟨_, rfl⟩
          have HKC := hid hkc
          clear hb5 hlf hkc HQ2
          go_upto_region 27 with (first
            | (go_at_call 12; refine (LF.out).mono ?_; rintro e w11 ⟨rfl, hb⟩; have ST := hid (q2_step hb hmn lf hl64); clear hb LF)
            | (go_at_call 15; refine (ST.out).mono ?_; rintro e w12 ⟨rfl, D6, d6, hb, hl⟩; rw [← HLF.out, show max (lf - max lf 0) 0 = 0 by omega] at hl; have hn6 := left_zero hb.one.up.ok hl; have DN6 := bdone_any hb.one.bk; rw [hn6] at DN6; have DN6 := hid DN6; have ra := brestarts_any hb.two.bk; rw [hb.two.rs] at ra; have RA := hid ra; have rb := brestarts_any hb.one.bk; rw [hb.one.rs] at rb; have RB := hid rb; have ca := bcommits_any hb.two.bk; rw [hb.two.k, ← HKC.out] at ca; have CA := hid ca; have cb2 := bcommits_any hb.one.bk; rw [hb.one.k, ← HKC.out] at cb2; have CB := hid cb2; have HB6 := hid hb; have HN6 := hid hn6; clear hb hl hn6 ra rb ca cb2 ST)
            | (go_at_call 14; refine (DN6.out).mono ?_; rintro e w13 ⟨rfl, hw⟩; obtain rfl := hw.symm; clear DN6)
            | (go_at_call 18; refine (RA.out).mono ?_; rintro e w14 ⟨rfl, hw⟩; obtain rfl := hw.symm; clear RA)
            | (go_at_call 18; refine (RB.out).mono ?_; rintro e w15 ⟨rfl, hw⟩; obtain rfl := hw.symm; clear RB)
            | (go_at_call 13; refine (CA.out).mono ?_; rintro e w16 ⟨rfl, hw⟩; obtain rfl := hw.symm; clear CA)
            | (go_at_call 13; refine (CB.out).mono ?_; rintro e w17 ⟨rfl, hw⟩; obtain rfl := hw.symm; clear CB)
            | go_in)
          have hlen : (hdrPg h :: M).length ≤ 1000 := by have := HB6.out.src.many; omega
          have HLN := hid hlen
          have OC := q2_opened HB6.out.swap HN2.out
          have OD := fun W1 hb => q2_opened (Q2.below (W' := W1) HB6.out hb) HN6.out
          clear hlen
          obtain ⟨L, hL⟩ : ∃ L, L = hdrPg h :: M := ⟨_, rfl⟩
          rw [← hL] at OC OD HLN
          have OC := hid OC
          have OD := hid OD
          clear hL
          go_wp2_with (first
            | (go_at_call 22; refine (OC.out).mono ?_; rintro e w18 ⟨hb, v18, rfl, hr⟩; have HR18 := hid hr; have HBB := hid hb; clear hr hb OC)
            | (go_at_call 22; refine (OD.out _ HBB.out).mono ?_; rintro e w19 ⟨hb, v19, rfl, hr⟩; have HR19 := hid hr; have HR18' := hid (HR18.out.keep (fun k hk => hb.block k (row_base HR18.out hk).2)); have HB19 := hid (HBB.out.trans (hb.mono HBB.out.size)); clear hr hb OD)
            | (go_at_call 23; refine (same_eq HR18'.out HR19.out HLN.out).mono ?_; rintro e w20 ⟨rfl, hb⟩; have HB20 := hid (HB19.out.trans (hb.mono HB19.out.size)); clear hb)
            | go_in)
          go_ret
          exact ⟨rfl, HB2.out.trans ((HB6.out.pd.bel.trans (HB20.out.mono HB6.out.pd.bel.size)).mono HB2.out.size)⟩
end Go.Proofs.YtenboibbbmeddaaGreat
