/- The law UnitKnown: what the document's examples come to; no pager. -/
import Derived.Test.YtdinjghfjmmjoaaGreatUvC
namespace Go.Proofs.YtdinjghfjmmjoaaGreat
open Go.RowKit Go.Maps
set_option linter.unusedVariables false
set_option linter.unusedSimpArgs false
set_option maxRecDepth 20000
set_option maxRecDepth 20000

section
variable {w W W' : World} {pb l b : Nat} {p : Pg} {g : Lg} {d : Dsk} {X X' : Nat → Prop} {a c : PgD}
def kcheckM (p : Pg) (g : Lg) (d : Dsk) : Int × Lg × Dsk := if p.now.isSome = true ∨ 0 < p.opn then (9, g, d) else lcheckM g d
theorem kx_check (h : PgX w W pb l b p g d X) (N : Nat) (hsm : d.Small N) (hN : N + 16777216 ≤ 1099511527776) : Calls Tryz.prog 11 #[.pointer (some ⟨pb, 0, none⟩)] W fun e w' => e = .returned (.int .i64 (kcheckM p g d).1) ∧ PgX w w' pb l b p (kcheckM p g d).2.1 (kcheckM p g d).2.2 X ∧ ∀ k, X k → w'.heap[k]? = W.heap[k]? := by
  have H := hid h
  obtain ⟨⟨F, G, K, nv, sv, h1, h2, h3, h4⟩, hb, hx⟩ := h
  obtain ⟨c0, c1, -, c3⟩ := h2.cell
  have hnow := h2.now
  unfold kcheckM
  cases hp : p.now with
  | some t =>
    rw [hp] at hnow
    obtain ⟨nb, mb, hnv, -⟩ := hnow
    subst hnv
    simp only [Option.isSome_some, true_or, if_true]
    clear h1 h2 h3 h4 hb hx hp
    go_enter Tryz.func11, Tryz.ntmps11
    go_wp2_with fail
    go_ret
    exact ⟨rfl, H.out, fun _ _ => rfl⟩
  | none =>
    rw [hp] at hnow
    have hnv : nv = .pointer none := hnow
    subst hnv
    by_cases ho : 0 < p.opn
    · have b1 : decide (0 < p.opn) = true := by simpa using ho
      rw [if_pos (.inr ho)]
      clear h1 h2 h3 h4 hb hx hp ho
      go_enter Tryz.func11, Tryz.ntmps11
      go_wp2_with fail
      go_ret
      exact ⟨rfl, H.out, fun _ _ => rfl⟩
    · have b1 : decide (0 < p.opn) = false := by simpa using ho
      rw [if_neg (by simpa using ho)]
      have CK := hid ((lcheck_any h1 N hsm hN).mono fun e w' (hh : e = .returned (.int .i64 (lcheckM g d).1) ∧ LgDid W l b F G (lcheckM g d).2.1 (lcheckM g d).2.2 w') => (⟨hh.1, pgx_log h1 h2 h3 h4 hb hx hh.2⟩ : e = .returned (.int .i64 (lcheckM g d).1) ∧ (PgX w w' pb l b p (lcheckM g d).2.1 (lcheckM g d).2.2 X ∧ ∀ k, X k → w'.heap[k]? = W.heap[k]?)))
      obtain ⟨r, hr⟩ : ∃ r, r = lcheckM g d := ⟨_, rfl⟩
      rw [← hr] at CK ⊢
      clear h1 h2 h3 h4 hb hx hp ho hr
      go_enter Tryz.func11, Tryz.ntmps11
      go_wp2_with (first
        | (go_at_call 38; refine (CK.out).mono ?_; rintro e w1 ⟨rfl, hh⟩; have HH := hid hh; clear hh)
        | go_in)
      go_ret
      exact ⟨rfl, HH.out⟩
def kChecked (a : PgD) : PgD := ⟨a.pb, a.l, a.b, a.p, (kcheckM a.p a.g a.d).2.1, (kcheckM a.p a.g a.d).2.2⟩
theorem kw_check (h : Two w W a c X) (N : Nat) (hsm : a.d.Small N) (hN : N + 16777216 ≤ 1099511527776) : Calls Tryz.prog 11 #[.pointer (some ⟨a.pb, 0, none⟩)] W fun e w' => e = .returned (.int .i64 (kcheckM a.p a.g a.d).1) ∧ Two w w' (kChecked a) c X ∧ ∀ k, X k → w'.heap[k]? = W.heap[k]? := by
  obtain ⟨T, h1, h2⟩ := h.left
  refine (kx_check h1 N hsm hN).mono ?_
  rintro e w' ⟨rfl, h3, h4⟩
  obtain ⟨h5, h6⟩ := h2 w' (kChecked a) h3 h4
  exact ⟨rfl, h5, h6⟩
end
def kT1 : Int × Pg × Lg × Dsk := turnGM p0 exG0 newM 3 97
def kT2 : Int × Pg × Lg × Dsk := turnGM kT1.2.1 kT1.2.2.1 kT1.2.2.2 2 98
def kN1 : Sh × Int := nextM kT2.2.1 kT2.2.2.1 kT2.2.2.2 1 0
def kN2 : Sh × Int := nextM kT2.2.1 kT2.2.2.1 kT2.2.2.2 1 1
def kN3 : Sh × Int := nextM kT2.2.1 kT2.2.2.1 kT2.2.2.2 1 2
def kC : Int × Lg × Dsk := kcheckM kT2.2.1 kT2.2.2.1 kT2.2.2.2
def kM1 : Sh × Int := nextM kT2.2.1 kC.2.1 kC.2.2 1 0
def kM2 : Sh × Int := nextM kT2.2.1 kC.2.1 kC.2.2 1 1
def kM3 : Sh × Int := nextM kT2.2.1 kC.2.1 kC.2.2 1 2
def kAck : Sh := ⟨2, 0, 0, false, 0, []⟩
def kF2 : Int × Pg × Lg × Dsk := followM p0 exG0 newM kN1.1
def kF3 : Int × Pg × Lg × Dsk := followM kF2.2.1 kF2.2.2.1 kF2.2.2.2 kN2.1
theorem k_t1 : kT1.1 = 0 := by decide +kernel
theorem k_r1 : ppagesM (spBeginM p0 exG0 newM).2 exG0 < 3 → (presizeM (spBeginM p0 exG0 newM).2 3).1 = 0 := by decide +kernel
theorem k_t2 : kT2.1 = 0 := by decide +kernel
theorem k_r2 : ppagesM (spBeginM kT1.2.1 kT1.2.2.1 kT1.2.2.2).2 kT1.2.2.1 < 2 → (presizeM (spBeginM kT1.2.1 kT1.2.2.1 kT1.2.2.2).2 2).1 = 0 := by decide +kernel
theorem k_s1 : kT1.2.2.2.Small 10000 := ⟨by decide +kernel, by decide +kernel, by decide +kernel⟩
theorem k_s2 : kT2.2.2.2.Small 10000 := ⟨by decide +kernel, by decide +kernel, by decide +kernel⟩
theorem k_n1 : kN1.2 = 0 ∧ kN1.1.full = false ∧ kN1.1.k = 1 ∧ kN1.1.imgs.length = 3 := by decide +kernel
theorem k_n1w : ShWf kN1.1 := by unfold ShWf; decide +kernel
theorem k_n1b : ∀ x ∈ kN1.1.imgs, x.2.length ≤ 1000 := by decide +kernel
theorem k_n2 : kN2.2 = 0 ∧ kN2.1.full = false ∧ kN2.1.k = 2 ∧ kN2.1.imgs.length = 2 ∧ kN2.1.imgs.map (fun x => x.1) = [1, 2] := by decide +kernel
theorem k_n2w : ShWf kN2.1 := by unfold ShWf; decide +kernel
theorem k_n2b : ∀ x ∈ kN2.1.imgs, x.2.length ≤ 1000 := by decide +kernel
theorem k_n3 : kN3.2 = 4 := by decide +kernel
theorem k_c : kC.1 = 0 := by decide +kernel
theorem k_m1 : kM1.2 = 0 ∧ kM1.1.full = true ∧ kM1.1.k = 2 ∧ kM1.1.imgs.length = 3 := by decide +kernel
theorem k_m2 : kM2.2 = 0 ∧ kM2.1.full = true ∧ kM2.1.k = 2 ∧ kM2.1.imgs.length = 3 := by decide +kernel
theorem k_m3 : kM3.2 = 4 := by decide +kernel
theorem k_f1 : followM p0 exG0 newM kN2.1 = (5, p0, exG0, newM) := by
  have h : mayB kN2.1 = true ∧ kN2.1.kind = 1 ∧ (ureadyM p0 exG0 newM).2 = 0 ∧ (ureadyM p0 exG0 newM).1.commits = 0 := by decide +kernel
  obtain ⟨-, h2, h3, -⟩ := k_n2
  unfold followM
  rw [if_neg (by rw [h.1, h.2.1]; decide), if_neg (by rw [h.2.2.1]; decide), if_neg (by rw [h.2.2.2, h3]; decide), if_pos ⟨h2, by rw [h.2.2.2, h3]; decide⟩]
theorem k_f2 : kF2.1 = 0 := by decide +kernel
theorem k_f2s : kF2.2.2.2.Small 10000 := ⟨by decide +kernel, by decide +kernel, by decide +kernel⟩
theorem k_f3 : kF3.1 = 0 := by decide +kernel
theorem k_f3s : kF3.2.2.2.Small 10000 := ⟨by decide +kernel, by decide +kernel, by decide +kernel⟩
theorem k_f4 : followM kF3.2.1 kF3.2.2.1 kF3.2.2.2 kN1.1 = (4, kF3.2.1, kF3.2.2.1, kF3.2.2.2) := by
  have h : mayB kN1.1 = true ∧ kN1.1.kind = 1 ∧ (ureadyM kF3.2.1 kF3.2.2.1 kF3.2.2.2).2 = 0 ∧ (ureadyM kF3.2.1 kF3.2.2.1 kF3.2.2.2).1.commits = 2 := by decide +kernel
  obtain ⟨-, -, h3, -⟩ := k_n1
  unfold followM
  rw [if_neg (by rw [h.1, h.2.1]; decide), if_neg (by rw [h.2.2.1]; decide), if_pos (by rw [h.2.2.2, h3]; decide)]
theorem k_f5 (p : Pg) (g : Lg) (d : Dsk) : followM p g d kAck = (2, p, g, d) := by
  unfold followM
  rw [if_pos (.inr (by decide))]
theorem k_same : stL kT2.2.1 kC.2.1 kC.2.2 = stL kF3.2.1 kF3.2.2.1 kF3.2.2.2 := by decide +kernel
theorem k_len : (stL kT2.2.1 kC.2.1 kC.2.2).length ≤ 1000 := by decide +kernel
theorem stOk3 {p : Pg} {g : Lg} {d : Dsk} (h : ppagesM p g = 3) (h2 : (preadM p g d 1).2 = 0 ∧ (preadM p g d 2).2 = 0 ∧ (preadM p g d 3).2 = 0) : stOk p g d := by
  intro k hk
  rw [h] at hk
  match k, hk with
  | 0, _ => exact h2.1
  | 1, _ => exact h2.2.1
  | 2, _ => exact h2.2.2
theorem k_p2 : stOk kT2.2.1 kT2.2.2.1 kT2.2.2.2 := stOk3 (by decide +kernel) (by decide +kernel)
theorem k_pc : stOk kT2.2.1 kC.2.1 kC.2.2 := stOk3 (by decide +kernel) (by decide +kernel)
theorem k_q3 : stOk kF3.2.1 kF3.2.2.1 kF3.2.2.2 := stOk3 (by decide +kernel) (by decide +kernel)
theorem k_snap : snapM p0 exG0 newM 0 = (sh0, 4) := by
  have h : (ureadyM p0 exG0 newM).2 = 0 ∧ (ureadyM p0 exG0 newM).1.commits = 0 := by decide +kernel
  unfold snapM
  rw [if_neg (by rw [h.1]; decide), if_pos h.2]
theorem k_begin : (spBeginM p0 exG0 newM).1 = 0 ∧ (spBeginM p0 exG0 newM).2.now ≠ none := by
  refine ⟨by decide +kernel, ?_⟩
  have h : (spBeginM p0 exG0 newM).2.now.isSome = true := by decide +kernel
  intro e
  rw [e] at h
  cases h
theorem k_state : followM (spBeginM p0 exG0 newM).2 exG0 newM kN1.1 = (9, (spBeginM p0 exG0 newM).2, exG0, newM) := by
  have h : mayB kN1.1 = true ∧ kN1.1.kind = 1 := by decide +kernel
  unfold followM
  rw [if_neg (by rw [h.1, h.2]; decide)]
  unfold ureadyM
  rw [if_pos k_begin.2, if_pos (by decide)]
section
variable {w W W' : World} {a c : PgD} {X X' : Nat → Prop}
/-- Next, beside another pager, with what the ship has told. -/
theorem kw_next {R : Sh × Int} {e0 k0 : Int} {f0 : Bool} {n0 : Nat} (h : Two w W a c X) (hok : stOk a.p a.g a.d) (ep k : Int) (hR : nextM a.p a.g a.d ep k = R) (h0 : R.2 = e0) (hk : R.1.k = k0) (hf : R.1.full = f0) (hn : R.1.imgs.length = n0) :
    Calls Tryz.prog 10 #[.pointer (some ⟨a.pb, 0, none⟩), .int .u64 ep, .int .u64 k] W fun e w' => ∃ ao cap, e = .returned (.tuple #[.agg #[.int .u8 R.1.kind, .int .u64 R.1.epoch, .int .u64 k0, .bool f0, .int .i64 R.1.pages, .slice ao n0 cap], .int .i64 e0]) ∧
      ImgRow w' W.heap.size (.slice ao n0 cap) R.1.imgs ∧ Two w w' a c (fun k => X k ∨ (Value.slice ao n0 cap).ownBlock = some k) ∧ ∀ k, X k → w'.heap[k]? = W.heap[k]? := by
  subst h0 hk hf hn
  have := tw_next h hok ep k
  rw [hR] at this
  refine this.mono ?_
  rintro e w' ⟨v, rfl, h1, h2, h3⟩
  obtain ⟨ao, cap, rfl, -⟩ := h1.get
  exact ⟨ao, cap, rfl, h1, h2, h3⟩
/-- Follow, beside another pager. -/
theorem kw_follow {m : Sh} {F : Int × Pg × Lg × Dsk} {e0 k0 : Int} {f0 : Bool} {n0 base : Nat} {ao : Option Addr} {cap : Nat} (h : Two w W a c X) (hr : ImgRow W base (.slice ao n0 cap) m.imgs) (hX : ∀ k, (Value.slice ao n0 cap).ownBlock = some k → X k) (hk : m.k = k0) (hf : m.full = f0) (hn : m.imgs.length = n0) (hl : n0 ≤ 1000) (hb : ∀ x ∈ m.imgs, x.2.length ≤ 1000) (hw : ShWf m) (hF : followM c.p c.g c.d m = F) (h0 : F.1 = e0) (N : Nat) (hsm : c.d.Small N) (hN : N + 33554432 ≤ 1099511527776) :
    Calls Tryz.prog 12 #[.pointer (some ⟨c.pb, 0, none⟩), .agg #[.int .u8 m.kind, .int .u64 m.epoch, .int .u64 k0, .bool f0, .int .i64 m.pages, .slice ao n0 cap]] W fun e w' => e = .returned (.int .i64 e0) ∧ Two w w' a ⟨c.pb, c.l, c.b, F.2.1, F.2.2.1, F.2.2.2⟩ X ∧ ∀ k, X k → w'.heap[k]? = W.heap[k]? := by
  subst h0 hk hf hn
  have hs : ShOk w W X m (.slice ao m.imgs.length cap) := ShOk.made hr hX hl hb hw
  have := tw_follow h hs N hsm hN
  unfold gFollowed at this
  rw [hF] at this
  exact this
section
variable {w W : World}
end
end
end Go.Proofs.YtdinjghfjmmjoaaGreat
