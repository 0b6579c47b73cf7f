/- The law UnitKnown: its walk. -/
import Derived.Test.YtdinjghfjmmjoaaGreatUkB
namespace Go.Proofs.YtdinjghfjmmjoaaGreat
open Go.RowKit Go.Maps
set_option linter.unusedVariables false
set_option linter.unusedSimpArgs false
set_option maxRecDepth 20000

theorem stOk0 : stOk p0 exG0 newM := by
  intro k hk
  have h : (ppagesM p0 exG0).toNat = 0 := by decide +kernel
  omega
attribute [local irreducible] kT1 kT2 kN1 kN2 kN3 kC kM1 kM2 kM3 kF2 kF3 exG0
section
variable {w W W' : World} {A C A' C' : PgD} {b1 b2 cap1 cap2 : Nat} {ao1 ao2 : Option Addr}
def kX (b1 b2 : Nat) (ao1 ao2 : Option Addr) (cap1 cap2 : Nat) : Nat → Prop := fun k => (((Value.slice ao1 3 cap1).ownBlock = some k ∨ k = b1) ∨ (Value.slice ao2 2 cap2).ownBlock = some k) ∨ k = b2
/-- The two pagers, and the two ships told. -/
structure KSt (w W : World) (A C : PgD) (b1 b2 : Nat) (ao1 ao2 : Option Addr) (cap1 cap2 : Nat) : Prop where
  tw : Two w W A C (kX b1 b2 ao1 ao2 cap1 cap2)
  z1 : W.heap[b1]? = some (.cells #[.int .u8 kN1.1.kind, .int .u64 kN1.1.epoch, .int .u64 1, .bool false, .int .i64 kN1.1.pages, .slice ao1 3 cap1] 31 (0, 0))
  z2 : W.heap[b2]? = some (.cells #[.int .u8 kN2.1.kind, .int .u64 kN2.1.epoch, .int .u64 2, .bool false, .int .i64 kN2.1.pages, .slice ao2 2 cap2] 31 (0, 0))
  r1 : ImgRow W 0 (.slice ao1 3 cap1) kN1.1.imgs
  r2 : ImgRow W 0 (.slice ao2 2 cap2) kN2.1.imgs
theorem KSt.go (h : KSt w W A C b1 b2 ao1 ao2 cap1 cap2) (ht : Two w W' A' C' (kX b1 b2 ao1 ao2 cap1 cap2)) (hk : ∀ k, kX b1 b2 ao1 ao2 cap1 cap2 k → W'.heap[k]? = W.heap[k]?) : KSt w W' A' C' b1 b2 ao1 ao2 cap1 cap2 :=
  ⟨ht, (hk _ (.inl (.inl (.inr rfl)))).trans h.z1, (hk _ (.inr rfl)).trans h.z2, row_keep h.r1 (fun k e => hk k (.inl (.inl (.inl e)))), row_keep h.r2 (fun k e => hk k (.inl (.inr e)))⟩
theorem KSt.below (h : KSt w W A C b1 b2 ao1 ao2 cap1 cap2) (hb : Below W.heap.size W W') : KSt w W' A C b1 b2 ao1 ao2 cap1 cap2 :=
  h.go (h.tw.below hb) (fun k hk => hb.block k (h.tw.xlt k hk))
theorem KSt.next {R : Sh × Int} {e0 k0 : Int} {f0 : Bool} {n0 : Nat} (h : KSt w W A C b1 b2 ao1 ao2 cap1 cap2) (hok : stOk A.p A.g A.d) (ep k : Int) (hR : nextM A.p A.g A.d ep k = R) (h0 : R.2 = e0) (hk : R.1.k = k0) (hf : R.1.full = f0) (hn : R.1.imgs.length = n0) :
    Calls Tryz.prog 10 #[.pointer (some ⟨A.pb, 0, none⟩), .int .u64 ep, .int .u64 k] W fun e w' => ∃ ao cap, e = .returned (.tuple #[.agg #[.int .u8 R.1.kind, .int .u64 R.1.epoch, .int .u64 k0, .bool f0, .int .i64 R.1.pages, .slice ao n0 cap], .int .i64 e0]) ∧ KSt w w' A C b1 b2 ao1 ao2 cap1 cap2 :=
  (kw_next h.tw hok ep k hR h0 hk hf hn).mono fun e w' ⟨ao, cap, he, h1, h2, h3⟩ => ⟨ao, cap, he, h.go (h2.add (Below.refl _ _) (fun k hk => .inl (.inl hk)) (fun k hk => h2.xlt k (.inl hk))) h3⟩
theorem KSt.f1 {F : Int × Pg × Lg × Dsk} {e0 : Int} (h : KSt w W A C b1 b2 ao1 ao2 cap1 cap2) (hF : followM C.p C.g C.d kN1.1 = F) (h0 : F.1 = e0) (N : Nat) (hsm : C.d.Small N) (hN : N + 33554432 ≤ 1099511527776) :
    Calls Tryz.prog 12 #[.pointer (some ⟨C.pb, 0, none⟩), .agg #[.int .u8 kN1.1.kind, .int .u64 kN1.1.epoch, .int .u64 1, .bool false, .int .i64 kN1.1.pages, .slice ao1 3 cap1]] W fun e w' => e = .returned (.int .i64 e0) ∧ KSt w w' A ⟨C.pb, C.l, C.b, F.2.1, F.2.2.1, F.2.2.2⟩ b1 b2 ao1 ao2 cap1 cap2 :=
  (kw_follow h.tw h.r1 (fun k hk => .inl (.inl (.inl hk))) k_n1.2.2.1 k_n1.2.1 k_n1.2.2.2 (by decide) k_n1b k_n1w hF h0 N hsm hN).mono fun e w' ⟨he, h1, h2⟩ => ⟨he, h.go h1 h2⟩
theorem KSt.f2 {F : Int × Pg × Lg × Dsk} {e0 : Int} (h : KSt w W A C b1 b2 ao1 ao2 cap1 cap2) (hF : followM C.p C.g C.d kN2.1 = F) (h0 : F.1 = e0) (N : Nat) (hsm : C.d.Small N) (hN : N + 33554432 ≤ 1099511527776) :
    Calls Tryz.prog 12 #[.pointer (some ⟨C.pb, 0, none⟩), .agg #[.int .u8 kN2.1.kind, .int .u64 kN2.1.epoch, .int .u64 2, .bool false, .int .i64 kN2.1.pages, .slice ao2 2 cap2]] W fun e w' => e = .returned (.int .i64 e0) ∧ KSt w w' A ⟨C.pb, C.l, C.b, F.2.1, F.2.2.1, F.2.2.2⟩ b1 b2 ao1 ao2 cap1 cap2 :=
  (kw_follow h.tw h.r2 (fun k hk => .inl (.inr hk)) k_n2.2.2.1 k_n2.2.1 k_n2.2.2.2.1 (by decide) k_n2b k_n2w hF h0 N hsm hN).mono fun e w' ⟨he, h1, h2⟩ => ⟨he, h.go h1 h2⟩
theorem KSt.fa (h : KSt w W A C b1 b2 ao1 ao2 cap1 cap2) (N : Nat) (hsm : C.d.Small N) (hN : N + 33554432 ≤ 1099511527776) :
    Calls Tryz.prog 12 #[.pointer (some ⟨C.pb, 0, none⟩), .agg #[.int .u8 2, .int .u64 0, .int .u64 0, .bool false, .int .i64 0, .slice none 0 0]] W fun e w' => e = .returned (.int .i64 2) ∧ KSt w w' A C b1 b2 ao1 ao2 cap1 cap2 :=
  (kw_follow (m := kAck) (ao := none) (cap := 0) (base := 0) h.tw (imgRow_nil _ _) (fun k hk => by cases hk) rfl rfl rfl (by decide) (fun x hx => by cases hx) (by unfold ShWf kAck; decide) (k_f5 C.p C.g C.d) rfl N hsm hN).mono fun e w' ⟨he, h1, h2⟩ => ⟨he, h.go h1 h2⟩
/-- The ships' first ones are there. -/
theorem KSt.begin {w8 : World} {base1 : Nat} (h7 : Two w w8 A C (fun k => ((Value.slice ao1 3 cap1).ownBlock = some k ∨ k = b1) ∨ (Value.slice ao2 2 cap2).ownBlock = some k)) {base2 : Nat} (hz1 : w8.heap[b1]? = some (.cells #[.int .u8 kN1.1.kind, .int .u64 kN1.1.epoch, .int .u64 1, .bool false, .int .i64 kN1.1.pages, .slice ao1 3 cap1] 31 (0, 0))) (hr1 : ImgRow w8 base1 (.slice ao1 3 cap1) kN1.1.imgs) (hr2 : ImgRow w8 base2 (.slice ao2 2 cap2) kN2.1.imgs) :
    KSt w (w8.alloc (.cells #[.int .u8 kN2.1.kind, .int .u64 kN2.1.epoch, .int .u64 2, .bool false, .int .i64 kN2.1.pages, .slice ao2 2 cap2] 31)) A C b1 w8.heap.size ao1 ao2 cap1 cap2 := by
  have hb := (Below.refl w8.heap.size w8).alloc (Nat.le_refl _) (.cells #[.int .u8 kN2.1.kind, .int .u64 kN2.1.epoch, .int .u64 2, .bool false, .int .i64 kN2.1.pages, .slice ao2 2 cap2] 31)
  exact ⟨h7.add hb (fun k hk => hk.imp id (fun e => by omega)) (fun k hk => hk.elim (fun e => Nat.lt_of_lt_of_le (h7.xlt k e) hb.size) (fun e => by rw [e]; simp)), heap_alloc_old hz1, heap_alloc_new _ _, row_lower (row_keep hr1 (fun k hk => hb.block k (row_base hr1 hk).2)) (Nat.zero_le _), row_lower (row_keep hr2 (fun k hk => hb.block k (row_base hr2 hk).2)) (Nat.zero_le _)⟩
theorem KSt.page (h : KSt w W A C b1 b2 ao1 ao2 cap1 cap2) : ∃ q, ao2 = some ⟨q, 0, none⟩ ∧ W.cell? ⟨q, 2, none⟩ = some (.int .i64 2) := by
  obtain ⟨ao, cap, e, hc⟩ := h.r2.get
  have hl := k_n2.2.2.2.1
  have h1 : 1 < kN2.1.imgs.length := by rw [hl]; decide
  obtain ⟨q, e1, -, -, c1, -⟩ := hc 1 h1
  injection e with e2 e3 e4
  refine ⟨q, e2.trans e1, ?_⟩
  have h5 : (kN2.1.imgs.map fun x => x.1)[1]? = some 2 := by rw [k_n2.2.2.2.2]; rfl
  rw [List.getElem?_map, List.getElem?_eq_getElem h1] at h5
  injection h5 with h5
  have h6 : kN2.1.imgs[1].page = 2 := h5
  rw [h6] at c1
  exact c1
variable {pa la ba pb l b : Nat}
def kA (pa la ba : Nat) : PgD := ⟨pa, la, ba, kT2.2.1, kC.2.1, kC.2.2⟩
def kC2 (pb l b : Nat) : PgD := ⟨pb, l, b, kF2.2.1, kF2.2.2.1, kF2.2.2.2⟩
def kC3 (pb l b : Nat) : PgD := ⟨pb, l, b, kF3.2.1, kF3.2.2.1, kF3.2.2.2⟩
theorem K_f1 (h : KSt w W (kA pa la ba) (uC0 pb l b) b1 b2 ao1 ao2 cap1 cap2) : Calls Tryz.prog 12 #[.pointer (some ⟨pb, 0, none⟩), .agg #[.int .u8 kN2.1.kind, .int .u64 kN2.1.epoch, .int .u64 2, .bool false, .int .i64 kN2.1.pages, .slice ao2 2 cap2]] W fun e w' => e = .returned (.int .i64 5) ∧ KSt w w' (kA pa la ba) (uC0 pb l b) b1 b2 ao1 ao2 cap1 cap2 :=
  h.f2 (F := (5, p0, exG0, newM)) k_f1 rfl 100 new_small (by decide)
theorem K_f2 (h : KSt w W (kA pa la ba) (uC0 pb l b) b1 b2 ao1 ao2 cap1 cap2) : Calls Tryz.prog 12 #[.pointer (some ⟨pb, 0, none⟩), .agg #[.int .u8 kN1.1.kind, .int .u64 kN1.1.epoch, .int .u64 1, .bool false, .int .i64 kN1.1.pages, .slice ao1 3 cap1]] W fun e w' => e = .returned (.int .i64 0) ∧ KSt w w' (kA pa la ba) (kC2 pb l b) b1 b2 ao1 ao2 cap1 cap2 :=
  h.f1 (F := kF2) (by unfold kF2; rfl) k_f2 100 new_small (by decide)
theorem K_f3 (h : KSt w W (kA pa la ba) (kC2 pb l b) b1 b2 ao1 ao2 cap1 cap2) : Calls Tryz.prog 12 #[.pointer (some ⟨pb, 0, none⟩), .agg #[.int .u8 kN2.1.kind, .int .u64 kN2.1.epoch, .int .u64 2, .bool false, .int .i64 kN2.1.pages, .slice ao2 2 cap2]] W fun e w' => e = .returned (.int .i64 0) ∧ KSt w w' (kA pa la ba) (kC3 pb l b) b1 b2 ao1 ao2 cap1 cap2 :=
  h.f2 (F := kF3) (by unfold kF3; rfl) k_f3 10000 k_f2s (by decide)
theorem K_f4 (h : KSt w W (kA pa la ba) (kC3 pb l b) b1 b2 ao1 ao2 cap1 cap2) : Calls Tryz.prog 12 #[.pointer (some ⟨pb, 0, none⟩), .agg #[.int .u8 kN1.1.kind, .int .u64 kN1.1.epoch, .int .u64 1, .bool false, .int .i64 kN1.1.pages, .slice ao1 3 cap1]] W fun e w' => e = .returned (.int .i64 4) ∧ KSt w w' (kA pa la ba) (kC3 pb l b) b1 b2 ao1 ao2 cap1 cap2 :=
  h.f1 (F := (4, kF3.2.1, kF3.2.2.1, kF3.2.2.2)) k_f4 rfl 10000 k_f3s (by decide)
theorem K_f5 (h : KSt w W (kA pa la ba) (kC3 pb l b) b1 b2 ao1 ao2 cap1 cap2) : Calls Tryz.prog 12 #[.pointer (some ⟨pb, 0, none⟩), .agg #[.int .u8 2, .int .u64 0, .int .u64 0, .bool false, .int .i64 0, .slice none 0 0]] W fun e w' => e = .returned (.int .i64 2) ∧ KSt w w' (kA pa la ba) (kC3 pb l b) b1 b2 ao1 ao2 cap1 cap2 :=
  h.fa 10000 k_f3s (by decide)
theorem K_m1 (h : KSt w W (kA pa la ba) C b1 b2 ao1 ao2 cap1 cap2) : Calls Tryz.prog 10 #[.pointer (some ⟨pa, 0, none⟩), .int .u64 1, .int .u64 0] W fun e w' => ∃ ao cap, e = .returned (.tuple #[.agg #[.int .u8 kM1.1.kind, .int .u64 kM1.1.epoch, .int .u64 2, .bool true, .int .i64 kM1.1.pages, .slice ao 3 cap], .int .i64 0]) ∧ KSt w w' (kA pa la ba) C b1 b2 ao1 ao2 cap1 cap2 :=
  h.next (R := kM1) k_pc 1 0 (by unfold kM1; rfl) k_m1.1 k_m1.2.2.1 k_m1.2.1 k_m1.2.2.2
theorem K_m2 (h : KSt w W (kA pa la ba) C b1 b2 ao1 ao2 cap1 cap2) : Calls Tryz.prog 10 #[.pointer (some ⟨pa, 0, none⟩), .int .u64 1, .int .u64 1] W fun e w' => ∃ ao cap, e = .returned (.tuple #[.agg #[.int .u8 kM2.1.kind, .int .u64 kM2.1.epoch, .int .u64 2, .bool true, .int .i64 kM2.1.pages, .slice ao 3 cap], .int .i64 0]) ∧ KSt w w' (kA pa la ba) C b1 b2 ao1 ao2 cap1 cap2 :=
  h.next (R := kM2) k_pc 1 1 (by unfold kM2; rfl) k_m2.1 k_m2.2.2.1 k_m2.2.1 k_m2.2.2.2
theorem K_m3 (h : KSt w W (kA pa la ba) C b1 b2 ao1 ao2 cap1 cap2) : Calls Tryz.prog 10 #[.pointer (some ⟨pa, 0, none⟩), .int .u64 1, .int .u64 2] W fun e w' => ∃ ao cap, e = .returned (.tuple #[.agg #[.int .u8 kM3.1.kind, .int .u64 kM3.1.epoch, .int .u64 kM3.1.k, .bool kM3.1.full, .int .i64 kM3.1.pages, .slice ao kM3.1.imgs.length cap], .int .i64 4]) ∧ KSt w w' (kA pa la ba) C b1 b2 ao1 ao2 cap1 cap2 :=
  h.next (R := kM3) k_pc 1 2 (by unfold kM3; rfl) k_m3 rfl rfl rfl
theorem K_like (h : KSt w W (kA pa la ba) (kC3 pb l b) b1 b2 ao1 ao2 cap1 cap2) : Calls Tryz.prog 13 #[.pointer (some ⟨pa, 0, none⟩), .pointer (some ⟨pb, 0, none⟩)] W fun e w' => e = .returned (.bool true) ∧ KSt w w' (kA pa la ba) (kC3 pb l b) b1 b2 ao1 ao2 cap1 cap2 :=
  (tw_like h.tw.fst h.tw.snd k_pc k_q3 k_same k_len).mono fun e w' ⟨he, hb⟩ => ⟨he, h.below hb⟩
theorem K_snap {W0 : World} {X : Nat → Prop} (h : PgX W0 W pb l b p0 exG0 newM X) : Calls Tryz.prog 15 #[.pointer (some ⟨pb, 0, none⟩), .int .u64 0] W fun e w' => ∃ ao cap, e = .returned (.tuple #[.agg #[.int .u8 0, .int .u64 0, .int .u64 0, .bool false, .int .i64 0, .slice ao 0 cap], .int .i64 4]) ∧ PgX W0 w' pb l b p0 exG0 newM X ∧ ∀ k, X k → w'.heap[k]? = W.heap[k]? := by
  have := snap_any h stOk0 0
  unfold ShGave at this
  rw [k_snap] at this
  refine this.mono ?_
  rintro e w' ⟨v, rfl, hr, hp, hk⟩
  obtain ⟨ao, cap, rfl, -⟩ := hr.get
  exact ⟨ao, cap, rfl, hp.to (fun k hk => .inl hk), hk⟩
theorem K_begin {W0 : World} {X : Nat → Prop} (h : PgX W0 W pb l b p0 exG0 newM X) : Calls Tryz.prog 16 #[.pointer (some ⟨pb, 0, none⟩)] W fun e w' => e = .returned (.int .i64 0) ∧ PgX W0 w' pb l b (spBeginM p0 exG0 newM).2 exG0 newM X ∧ ∀ k, X k → w'.heap[k]? = W.heap[k]? := by
  have := sbegin_any h
  rw [k_begin.1] at this
  exact this
theorem K_state {W0 : World} (h : PgX W0 W pb l b (spBeginM p0 exG0 newM).2 exG0 newM (fun k => k < W0.heap.size)) (hr0 : ImgRow W0 0 (.slice ao1 3 cap1) kN1.1.imgs) (hk0 : ∀ k, k < W0.heap.size → W.heap[k]? = W0.heap[k]?) : Calls Tryz.prog 12 #[.pointer (some ⟨pb, 0, none⟩), .agg #[.int .u8 kN1.1.kind, .int .u64 kN1.1.epoch, .int .u64 1, .bool false, .int .i64 kN1.1.pages, .slice ao1 3 cap1]] W fun e w' => e = .returned (.int .i64 9) ∧ Below W0.heap.size W0 w' := by
  have hr : ImgRow W 0 (.slice ao1 3 cap1) kN1.1.imgs := row_keep hr0 (fun k hk => hk0 k (row_base hr0 hk).2)
  have hs : ShOk W0 W (fun k => k < W0.heap.size) kN1.1 (.slice ao1 3 cap1) := ShOk.made hr (fun k hk => (row_base hr0 hk).2) (by rw [k_n1.2.2.2]; decide) k_n1b k_n1w
  have := follow_any h hs 100 new_small (by decide)
  unfold FollowGave shipV at this
  rw [k_state, k_n1.2.2.1, k_n1.2.1] at this
  exact this.mono fun e w' hh => ⟨hh.1, hh.2.1.bel⟩
set_option maxHeartbeats 16000000 in
set_option maxRecDepth 20000 in
theorem known_any (w : World) : Calls Tryz.prog 3 #[] w fun e w' => e = .returned (.bool true) ∧ Below w.heap.size w w' := by
  have FR := hid (fun W => fresh_any W)
  have WK := hid (fun W => works_any W)
  have T1 := hid (fun (W1 : World) (pa la ba pb l b : Nat) (h : Two w W1 ⟨pa, la, ba, p0, exG0, newM⟩ (uC0 pb l b) (fun _ => False)) => (show Calls Tryz.prog 9 #[.pointer (some ⟨pa, 0, none⟩), .int .i64 3, .int .u8 97] W1 fun e w' => e = .returned (.int .i64 0) ∧ Two w w' ⟨pa, la, ba, kT1.2.1, kT1.2.2.1, kT1.2.2.2⟩ (uC0 pb l b) (fun _ => False) from by
    have A := tw_turn h 3 97 (by omega) k_r1 100 new_small (by decide)
    have e := k_t1
    unfold gTurned at A
    unfold kT1 at e ⊢
    rw [e] at A
    exact A.mono fun e w' hh => ⟨hh.1, hh.2.1⟩))
  have T2 := hid (fun (W1 : World) (pa la ba pb l b : Nat) (h : Two w W1 ⟨pa, la, ba, kT1.2.1, kT1.2.2.1, kT1.2.2.2⟩ (uC0 pb l b) (fun _ => False)) => (show Calls Tryz.prog 9 #[.pointer (some ⟨pa, 0, none⟩), .int .i64 2, .int .u8 98] W1 fun e w' => e = .returned (.int .i64 0) ∧ Two w w' ⟨pa, la, ba, kT2.2.1, kT2.2.2.1, kT2.2.2.2⟩ (uC0 pb l b) (fun _ => False) from by
    have A := tw_turn h 2 98 (by omega) k_r2 10000 k_s1 (by decide)
    have e := k_t2
    unfold gTurned at A
    unfold kT2 at e ⊢
    rw [e] at A
    exact A.mono fun e w' hh => ⟨hh.1, hh.2.1⟩))
  have N1 := hid (fun (W1 : World) (pa la ba pb l b : Nat) (X : Nat → Prop) (h : Two w W1 ⟨pa, la, ba, kT2.2.1, kT2.2.2.1, kT2.2.2.2⟩ (uC0 pb l b) X) => kw_next (R := kN1) h k_p2 1 0 (by unfold kN1; rfl) k_n1.1 k_n1.2.2.1 k_n1.2.1 k_n1.2.2.2)
  have N2 := hid (fun (W1 : World) (pa la ba pb l b : Nat) (X : Nat → Prop) (h : Two w W1 ⟨pa, la, ba, kT2.2.1, kT2.2.2.1, kT2.2.2.2⟩ (uC0 pb l b) X) => kw_next (R := kN2) h k_p2 1 1 (by unfold kN2; rfl) k_n2.1 k_n2.2.2.1 k_n2.2.1 k_n2.2.2.2.1)
  go_enter Tryz.func3, Tryz.ntmps3
  go_upto_region 2 with (first
    | (go_at_call 7; refine (FR.out _).mono ?_; rintro e w1 ⟨pa, la, ba, rfl, hp1⟩; have HP1 := hid (hp1.to (X' := fun _ => False) (fun k hk => hk.elim)); clear hp1)
    | go_in)
  go_upto_region 3 with (first
    | (go_at_call 7; refine (FR.out _).mono ?_; rintro e w2 ⟨pb, l, b, rfl, hp2⟩; have HP2 := hid (PgX.two (a := ⟨pa, la, ba, p0, exG0, newM⟩) (c := uC0 pb l b) HP1.out hp2); clear hp2)
    | go_in)
  clear HP1
  go_upto_region 5 with (first
    | (go_at_call 8; with_reducible refine (WK.out _).mono ?_; rintro e w3 ⟨rfl, hb⟩; have HP3 := hid (HP2.out.below hb); clear hb HP2)
    | (go_at_call 9; with_reducible refine (T1.out _ _ _ _ _ _ _ HP3.out).mono ?_; rintro e w4 ⟨rfl, hp4⟩; have HP4 := hid hp4; clear hp4 HP3)
    | (go_at_call 9; with_reducible refine (T2.out _ _ _ _ _ _ _ HP4.out).mono ?_; rintro e w5 ⟨rfl, hp5⟩; have HP5 := hid hp5; clear hp5 HP4)
    | go_in)
  clear T1 T2 WK
  go_upto_region 6 with (first
    | (go_at_call 10; with_reducible refine (N1.out _ _ _ _ _ _ _ _ HP5.out).mono ?_; rintro e w6 ⟨ao1, cap1, rfl, hr6, hp6, -⟩; have HP6 := hid hp6; have HR6 := hid hr6; clear hp6 hr6 HP5)
    | go_in)
  have hb7 := (Below.refl w6.heap.size w6).alloc (Nat.le_refl _) (.cells #[.int .u8 kN1.1.kind, .int .u64 kN1.1.epoch, .int .u64 1, .bool false, .int .i64 kN1.1.pages, .slice ao1 3 cap1] 31)
  have hz7 := heap_alloc_new w6 (.cells #[.int .u8 kN1.1.kind, .int .u64 kN1.1.epoch, .int .u64 1, .bool false, .int .i64 kN1.1.pages, .slice ao1 3 cap1] 31)
  have hr7 := row_keep HR6.out (fun k hk => hb7.block k (row_base HR6.out hk).2)
  have hp7 : Two w (w6.alloc (.cells #[.int .u8 kN1.1.kind, .int .u64 kN1.1.epoch, .int .u64 1, .bool false, .int .i64 kN1.1.pages, .slice ao1 3 cap1] 31)) ⟨pa, la, ba, kT2.2.1, kT2.2.2.1, kT2.2.2.2⟩ (uC0 pb l b) (fun k => (Value.slice ao1 3 cap1).ownBlock = some k ∨ k = w6.heap.size) :=
    HP6.out.add hb7 (fun k hk => hk.elim (fun e => .inl (.inr e)) (fun e => .inr (by omega))) (fun k hk => hk.elim (fun e => Nat.lt_of_lt_of_le (HP6.out.xlt k (.inr e)) hb7.size) (fun e => by rw [e]; simp))
  obtain ⟨b1, hb1⟩ : ∃ b1, b1 = w6.heap.size := ⟨_, rfl⟩
  obtain ⟨w7, hw7⟩ : ∃ w7, w7 = w6.alloc (.cells #[.int .u8 kN1.1.kind, .int .u64 kN1.1.epoch, .int .u64 1, .bool false, .int .i64 kN1.1.pages, .slice ao1 3 cap1] 31) := ⟨_, rfl⟩
  rw [← hw7] at hz7 hr7 hp7 ⊢
  rw [← hb1] at hz7 hp7 ⊢
  have HZ7 := hid hz7
  have HR7 := hid hr7
  have HP7 := hid hp7
  clear hb7 hz7 hr7 hp7 hb1 hw7 HP6 HR6 N1
  go_upto_region 7 with (first
    | (go_at_call 10; with_reducible refine (N2.out _ _ _ _ _ _ _ _ HP7.out).mono ?_; rintro e w8 ⟨ao2, cap2, rfl, hr8, hp8, hk8⟩; have HP8 := hid hp8; have HR8 := hid hr8; have HK8 := hid hk8; clear hp8 hr8 hk8 HP7)
    | go_in)
  have hA := (HK8.out b1 (.inr rfl)).trans HZ7.out
  have hB : ImgRow w8 w5.heap.size (.slice ao1 3 cap1) kN1.1.imgs := row_keep HR7.out (fun k e => HK8.out k (.inl e))
  have hkst := KSt.begin HP8.out hA hB HR8.out
  obtain ⟨b2, hb2⟩ : ∃ b2, b2 = w8.heap.size := ⟨_, rfl⟩
  obtain ⟨w9, hw9⟩ : ∃ w9, w9 = w8.alloc (.cells #[.int .u8 kN2.1.kind, .int .u64 kN2.1.epoch, .int .u64 2, .bool false, .int .i64 kN2.1.pages, .slice ao2 2 cap2] 31) := ⟨_, rfl⟩
  rw [← hw9] at hkst ⊢
  rw [← hb2] at hkst ⊢
  have HK := hid hkst
  clear hA hB hkst hb2 hw9 HP8 HR8 HK8 HR7 HZ7 N2
  have N3 := hid (fun (W1 : World) (h : KSt w W1 ⟨pa, la, ba, kT2.2.1, kT2.2.2.1, kT2.2.2.2⟩ (uC0 pb l b) b1 b2 ao1 ao2 cap1 cap2) => h.next (R := kN3) k_p2 1 2 (by unfold kN3; rfl) k_n3 rfl rfl rfl)
  have CK := hid (fun (W1 : World) (h : KSt w W1 ⟨pa, la, ba, kT2.2.1, kT2.2.2.1, kT2.2.2.2⟩ (uC0 pb l b) b1 b2 ao1 ao2 cap1 cap2) => (show Calls Tryz.prog 11 #[.pointer (some ⟨pa, 0, none⟩)] W1 fun e w' => e = .returned (.int .i64 0) ∧ KSt w w' (kA pa la ba) (uC0 pb l b) b1 b2 ao1 ao2 cap1 cap2 from by
    have A := kw_check h.tw 10000 k_s2 (by decide)
    have e := k_c
    unfold kChecked at A
    unfold kA
    unfold kC at e ⊢
    rw [e] at A
    exact A.mono fun e w' hh => ⟨hh.1, h.go hh.2.1 hh.2.2⟩))
  go_upto_region 8 with (first
    | (go_at_call 10; with_reducible refine (N3.out _ HK.out).mono ?_; rintro e w10 ⟨ao3, cap3, rfl, hk⟩; have HK10 := hid hk; clear hk)
    | go_in)
  have hk11 := HK10.out.below ((Below.refl w10.heap.size w10).alloc (Nat.le_refl _) (.cells #[.int .u8 kN3.1.kind, .int .u64 kN3.1.epoch, .int .u64 kN3.1.k, .bool kN3.1.full, .int .i64 kN3.1.pages, .slice ao3 kN3.1.imgs.length cap3] 31))
  obtain ⟨w11, hw11⟩ : ∃ w11, w11 = w10.alloc (.cells #[.int .u8 kN3.1.kind, .int .u64 kN3.1.epoch, .int .u64 kN3.1.k, .bool kN3.1.full, .int .i64 kN3.1.pages, .slice ao3 kN3.1.imgs.length cap3] 31) := ⟨_, rfl⟩
  rw [← hw11] at hk11 ⊢
  have HK11 := hid hk11
  clear hk11 hw11 HK HK10 N3
  obtain ⟨-, -, y2, y3, -, -, -⟩ := cells6 HK11.out.z1
  obtain ⟨-, -, x2, -, -, x5, -⟩ := cells6 HK11.out.z2
  obtain ⟨q, hao2, hq⟩ := HK11.out.page
  subst hao2
  go_upto_region 10 with (first
    | (go_at_call 11; with_reducible refine (CK.out _ HK11.out).mono ?_; rintro e w12 ⟨rfl, hk⟩; have HK12 := hid hk; clear hk HK11)
    | go_in)
  clear x2 x5 y2 y3 CK hq
  go_wp2_with fail
  go_loopw [104] (fun v104 wr => (v104 = .int .u64 0 ∨ v104 = .int .u64 1 ∨ v104 = .int .u64 2) ∧ KSt w wr (kA pa la ba) (uC0 pb l b) b1 b2 ao1 (some ⟨q, 0, none⟩) cap1 cap2) (fun v104 _ => 2 - (intOf v104).toNat)
  case atStart => exact ⟨.inl rfl, HK12.out⟩
  case round =>
    obtain ⟨rfl | rfl | rfl, hK⟩ := hrel
    · have HK13 := hid hK
      clear hK HK12
      go_wp2_with (first
        | (go_at_call 10; with_reducible refine (K_m1 HK13.out).mono ?_; rintro e w14 ⟨ao4, cap4, rfl, hk⟩; have HK14 := hid (hk.below ((Below.refl w14.heap.size w14).alloc (Nat.le_refl _) (.cells #[.int .u8 kM1.1.kind, .int .u64 kM1.1.epoch, .int .u64 2, .bool true, .int .i64 kM1.1.pages, .slice ao4 3 cap4] 31))); clear hk)
        | go_in)
      go_roundw
      case rel => exact ⟨.inr (.inl rfl), HK14.out⟩
      case measure => simp [intOf]
    · have HK13 := hid hK
      clear hK HK12
      go_wp2_with (first
        | (go_at_call 10; with_reducible refine (K_m2 HK13.out).mono ?_; rintro e w14 ⟨ao4, cap4, rfl, hk⟩; have HK14 := hid (hk.below ((Below.refl w14.heap.size w14).alloc (Nat.le_refl _) (.cells #[.int .u8 kM2.1.kind, .int .u64 kM2.1.epoch, .int .u64 2, .bool true, .int .i64 kM2.1.pages, .slice ao4 3 cap4] 31))); clear hk)
        | go_in)
      go_roundw
      case rel => exact ⟨.inr (.inr rfl), HK14.out⟩
      case measure => simp [intOf]
    · have HK13 := hid hK
      clear hK HK12
      go_upto_region 20 with (first
        | (go_at_call 10; with_reducible refine (K_m3 HK13.out).mono ?_; rintro e w14 ⟨ao4, cap4, rfl, hk⟩; have HK14 := hid (hk.below ((Below.refl w14.heap.size w14).alloc (Nat.le_refl _) (.cells #[.int .u8 kM3.1.kind, .int .u64 kM3.1.epoch, .int .u64 kM3.1.k, .bool kM3.1.full, .int .i64 kM3.1.pages, .slice ao4 kM3.1.imgs.length cap4] 31))); clear hk)
        | go_in)
      obtain ⟨x0, x1, x2, x3, x4, x5, xf⟩ := cells6 HK14.out.z1
      obtain ⟨y0, y1, y2, y3, y4, y5, yf⟩ := cells6 HK14.out.z2
      clear HK13
      go_upto_region 22 with (first
        | (go_at_call 12; with_reducible refine (K_f1 HK14.out).mono ?_; rintro e w15 ⟨rfl, hk⟩; have HK15 := hid hk; clear hk x0 x1 x2 x3 x4 x5 xf y0 y1 y2 y3 y4 y5 yf HK14; obtain ⟨x0, x1, x2, x3, x4, x5, xf⟩ := cells6 HK15.out.z1; obtain ⟨y0, y1, y2, y3, y4, y5, yf⟩ := cells6 HK15.out.z2)
        | (go_at_call 12; with_reducible refine (K_f2 HK15.out).mono ?_; rintro e w16 ⟨rfl, hk⟩; have HK16 := hid hk; clear hk x0 x1 x2 x3 x4 x5 xf y0 y1 y2 y3 y4 y5 yf HK15; obtain ⟨x0, x1, x2, x3, x4, x5, xf⟩ := cells6 HK16.out.z1; obtain ⟨y0, y1, y2, y3, y4, y5, yf⟩ := cells6 HK16.out.z2)
        | (go_at_call 12; with_reducible refine (K_f3 HK16.out).mono ?_; rintro e w17 ⟨rfl, hk⟩; have HK17 := hid hk; clear hk x0 x1 x2 x3 x4 x5 xf y0 y1 y2 y3 y4 y5 yf HK16; obtain ⟨x0, x1, x2, x3, x4, x5, xf⟩ := cells6 HK17.out.z1; obtain ⟨y0, y1, y2, y3, y4, y5, yf⟩ := cells6 HK17.out.z2)
        | (go_at_call 12; with_reducible refine (K_f4 HK17.out).mono ?_; rintro e w18 ⟨rfl, hk⟩; have HK18 := hid hk; clear hk x0 x1 x2 x3 x4 x5 xf y0 y1 y2 y3 y4 y5 yf HK17; obtain ⟨x0, x1, x2, x3, x4, x5, xf⟩ := cells6 HK18.out.z1; obtain ⟨y0, y1, y2, y3, y4, y5, yf⟩ := cells6 HK18.out.z2)
        | (go_at_call 12; with_reducible refine (K_f5 HK18.out).mono ?_; rintro e w19 ⟨rfl, hk⟩; have HK19 := hid hk; clear hk x0 x1 x2 x3 x4 x5 xf y0 y1 y2 y3 y4 y5 yf HK18; obtain ⟨x0, x1, x2, x3, x4, x5, xf⟩ := cells6 HK19.out.z1; obtain ⟨y0, y1, y2, y3, y4, y5, yf⟩ := cells6 HK19.out.z2)
        | (go_at_call 13; with_reducible refine (K_like HK19.out).mono ?_; rintro e w20 ⟨rfl, hk⟩; have HK20 := hid hk; clear hk x0 x1 x2 x3 x4 x5 xf y0 y1 y2 y3 y4 y5 yf HK19; obtain ⟨x0, x1, x2, x3, x4, x5, xf⟩ := cells6 HK20.out.z1; obtain ⟨y0, y1, y2, y3, y4, y5, yf⟩ := cells6 HK20.out.z2)
        | go_in)
      clear x0 x1 x2 x3 x4 x5 xf y0 y1 y2 y3 y4 y5 yf
      go_upto_region 25 with (first
        | (go_at_call 14; refine (have_nil _).mono ?_; rintro e w21 ⟨rfl, hb⟩; have HK21 := hid (HK20.out.below hb); clear hb HK20)
        | (go_at_call 10; refine (next_nil _ _ _).mono ?_; rintro e w22 ⟨rfl, hb⟩; have HK22 := hid (HK21.out.below hb); clear hb HK21)
        | (go_at_call 15; refine (snap_nil _ _).mono ?_; rintro e w23 ⟨rfl, hb⟩; have HK23 := hid (HK22.out.below hb); clear hb HK22)
        | go_in)
      go_upto_region 26 with (first
        | (go_at_call 7; refine (FR.out _).mono ?_; rintro e w24 ⟨p3, l3, b3, rfl, hp⟩; have HP24 := hid hp; clear hp)
        | go_in)
      go_upto_region 27 with (first
        | (go_at_call 15; refine (K_snap HP24.out).mono ?_; rintro e w25 ⟨ao5, cap5, rfl, hp, hk⟩; have HP25 := hid hp; have HK25 := hid hk; clear hp hk)
        | go_in)
      have hb26 := (Below.refl w25.heap.size w25).alloc (Nat.le_refl _) (.cells #[.int .u8 0, .int .u64 0, .int .u64 0, .bool false, .int .i64 0, .slice ao5 0 cap5] 31)
      obtain ⟨w26, hw26⟩ : ∃ w26, w26 = w25.alloc (.cells #[.int .u8 0, .int .u64 0, .int .u64 0, .bool false, .int .i64 0, .slice ao5 0 cap5] 31) := ⟨_, rfl⟩
      rw [← hw26] at hb26 ⊢
      have hp26 := HP25.out.below hb26
      have hk26 : ∀ k, k < w23.heap.size → w26.heap[k]? = w23.heap[k]? := fun k hk => (hb26.block k (HP25.out.xlt k hk)).trans ((HK25.out k hk).trans (HP24.out.bel.block k hk))
      have hl1 := lt_of_block HK23.out.z1
      have HP26 := hid hp26
      have HK26 := hid hk26
      have Hl1 := hid hl1
      obtain ⟨x0, x1, x2, x3, x4, x5, xf⟩ := cells6 ((hk26 b1 hl1).trans HK23.out.z1)
      clear hb26 hw26 hp26 hk26 hl1 HP25 HK25 HP24
      go_wp2_with (first
        | (go_at_call 12; with_reducible refine (follow_nil _ _ _ _ _ _ _ _ _).mono ?_; rintro e w27 ⟨rfl, hb⟩; have HP27 := hid (HP26.out.below hb); have HK27 := hid (fun k (hk : k < w23.heap.size) => (hb.block k (HP26.out.xlt k hk)).trans (HK26.out k hk)); clear hb HP26 HK26)
        | (go_at_call 16; with_reducible refine (K_begin HP27.out).mono ?_; rintro e w28 ⟨rfl, hp, hk⟩; have HP28 := hid hp; have HK28 := hid (fun k (hk2 : k < w23.heap.size) => (hk k hk2).trans (HK27.out k hk2)); clear hp hk x0 x1 x2 x3 x4 x5 xf; obtain ⟨x0, x1, x2, x3, x4, x5, xf⟩ := cells6 ((HK28.out b1 Hl1.out).trans HK23.out.z1))
        | (go_at_call 12; with_reducible refine (K_state HP28.out HK23.out.r1 HK28.out).mono ?_; rintro e w29 ⟨rfl, hb⟩; have HB29 := hid hb; clear hb)
        | go_in)
      go_ret
      exact ⟨rfl, HK23.out.tw.bel.trans (HB29.out.mono HK23.out.tw.bel.size)⟩
end
end Go.Proofs.YtdinjghfjmmjoaaGreat
