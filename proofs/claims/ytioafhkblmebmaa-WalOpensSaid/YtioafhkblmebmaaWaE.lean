/- A log's steps, whatever they are; mend. -/
import Derived.Test.YtioafhkblmebmaaWaD
namespace Go.Proofs.Ytioafhkblmebmaa
open Go.RowKit Go.Maps
set_option linter.unusedVariables false
set_option linter.unusedSimpArgs false

section
variable {w w' : World} {l b : Nat} {F F' : Foot} {G : Nat → Prop} {g : Lg} {d d' : Dsk} {lv : Value}

/-! ### Steps -/
/-- A function value that does m to the log that was at w. -/
def Does (w : World) (l b : Nat) (F : Foot) (G Go : Nat → Prop) (N : Nat) (v : Value) (m : LgM) : Prop :=
  ∃ k a c, v = .func (.func k) a c ∧ k ∈ [37, 40, 65, 38, 42, 43, 45] ∧
    ∀ g d W, d.Small N → LgDid w l b F G g d W → (m g d).2.2.Small (N + 32768) ∧ Calls Try.prog k (a ++ c) W fun e W' => e = .returned (.int .i64 (m g d).1) ∧ LgDid w l b F Go (m g d).2.1 (m g d).2.2 W'

theorem LgDid.mono {G2 : Nat → Prop} (hG : ∀ k, G k → G2 k) (h : LgDid w l b F G g d w') : LgDid w l b F G2 g d w' := by
  obtain ⟨F1, G1, h1, h2⟩ := h
  exact ⟨F1, G1, h1, h2.frm.mono (fun k hk => hk.imp id (hG k)), h2.own, h2.sh, fun k hk => (h2.gr k hk).imp (hG k) id⟩
theorem run_enter {P : Program} {f : FuncId} {fn : Func} {c : Code} (hf : P.funcs[f]? = some fn) (hname : (fn.name == "runtime.NumGoroutine") = false) (hb : fn.body = some c) (args : Array Value) (w : World) :
    (callFunc f args).run P w = .ok (.enter f args) w := by
  have h1 : fn.name ≠ "runtime.NumGoroutine" := by simpa using hname
  simp [callFunc, hf, h1, hb]
theorem enters_each {k : Nat} (hk : k ∈ [37, 40, 65, 38, 42, 43, 45]) (args : Array Value) (w : World) : (callFunc k args).run Try.prog w = .ok (.enter k args) w := by
  simp only [List.mem_cons, List.not_mem_nil, or_false] at hk
  rcases hk with rfl | rfl | rfl | rfl | rfl | rfl | rfl
  · exact run_enter Try.func37 (by kernel_rfl) rfl args w
  · exact run_enter Try.func40 (by kernel_rfl) rfl args w
  · exact run_enter Try.func65 (by kernel_rfl) rfl args w
  · exact run_enter Try.func38 (by kernel_rfl) rfl args w
  · exact run_enter Try.func42 (by kernel_rfl) rfl args w
  · exact run_enter Try.func43 (by kernel_rfl) rfl args w
  · exact run_enter Try.func45 (by kernel_rfl) rfl args w

set_option maxHeartbeats 1000000 in
set_option maxRecDepth 20000 in
theorem lsteps_any (h : LgAt w l b F G g d) (N : Nat) (hs : d.Small N) (ms : List LgM) (vs : List Value) (hlen : vs.length = ms.length) (hn : ms.length ≤ 1000) (q cap : Nat) (hq : ∀ i v, vs[i]? = some v → w.cell? ⟨q, i, none⟩ = some v) (hq2 : q < w.heap.size) (Gs : Nat → Nat → Prop) (h0 : Gs 0 = G) (hmono : ∀ i, i ≤ ms.length → ∀ k, Gs i k → Gs ms.length k) (hqo : ¬ F.own q ∧ ∀ i, ¬ Gs i q)
    (hdo : ∀ i v m, vs[i]? = some v → ms[i]? = some m → Does w l b F (Gs i) (Gs (i + 1)) (N + 32768 * i) v m) :
    Calls Try.prog 36 #[.pointer (some ⟨l, 0, none⟩), .slice (some ⟨q, 0, none⟩) vs.length cap] w fun e w' => e = .returned (.int .i64 (lstepsM ms g d).1) ∧ LgDid w l b F (Gs ms.length) (lstepsM ms g d).2.1 (lstepsM ms g d).2.2 w' := by
  subst h0
  obtain ⟨y, hy⟩ : ∃ y, y = ms.length := ⟨_, rfl⟩
  rw [← hy] at hmono ⊢
  have Hy := hid hy
  have Hmono := hid hmono
  clear hmono
  obtain ⟨z, hz⟩ : ∃ z, z = vs.length := ⟨_, rfl⟩
  have hz2 : z ≤ 1000 := by omega
  have Hz := hid hz
  have Hlen := hid hlen
  have Hq := hid hq
  have Hdo := hid hdo
  have Hqo := hid hqo
  rw [← hz]
  clear hq hdo hqo hlen hz hn hy
  have H := hid h
  have HS := hid hs
  have Hq2 := hid hq2
  clear h hs hq2
  go_enter Try.func36, Try.ntmps36
  go_wp2_with fail
  go_loopw [10] (fun v10 wr => ∃ (i : Nat) (g1 : Lg) (d1 : Dsk), i ≤ z ∧ v10 = .int .i64 (i : Int) ∧ LgDid w l b F (Gs i) g1 d1 wr ∧ d1.Small (N + 32768 * i) ∧ lstepsM ms g d = lstepsM (ms.drop i) g1 d1) (fun v10 _ => z - (intOf v10).toNat)
  case atStart => exact ⟨0, g, d, Nat.zero_le _, rfl, LgDid.same H.out, HS.out, rfl⟩
  case round =>
    obtain ⟨i, g1, d1, hi, rfl, hd, hsm, heq⟩ := hrel
    obtain ⟨F1, G1, h1, s1⟩ := id hd
    by_cases hlt : i < z
    · have hi2 : i < vs.length := by have := Hz.out; omega
      have hi3 : i < ms.length := by have := Hlen.out; omega
      obtain ⟨k, a, c, hv, hk, hcall0⟩ := Hdo.out i _ _ (List.getElem?_eq_getElem hi2) (List.getElem?_eq_getElem hi3)
      obtain ⟨hsm2, hcall⟩ := hcall0 g1 d1 wr hsm hd
      have hci : wr.cell? ⟨q, i, none⟩ = some (.func (.func k) a c) := by
        rw [← hv, ← Hq.out i _ (List.getElem?_eq_getElem hi2)]
        unfold World.cell?
        rw [s1.frm.block q Hq2.out (fun e => e.elim Hqo.out.1 (Hqo.out.2 i))]
      have hdrop : ms.drop i = ms[i] :: ms.drop (i + 1) := List.drop_eq_getElem_cons hi3
      rw [hdrop] at heq
      obtain ⟨m, hm⟩ : ∃ m, m = ms[i] := ⟨_, rfl⟩
      rw [← hm] at heq hsm2 hcall
      obtain ⟨x, hx⟩ : ∃ x, x = m g1 d1 := ⟨_, rfl⟩
      have heq2 : lstepsM ms g d = if x.1 ≠ 0 then (x.1, { x.2.1 with off := x.2.1.off || x.1 == 32 }, x.2.2) else lstepsM (ms.drop (i + 1)) x.2.1 x.2.2 := by rw [heq, hx]; rfl
      rw [← hx] at hsm2 hcall
      obtain ⟨e, g2, d2⟩ := x
      simp only at hsm2 hcall heq2
      have HC := hid hcall
      have HE := hid heq2
      have HM2 := hid hsm2
      clear hcall0 hcall heq2 hsm2 heq hm hx hdrop hv hd h1 s1 hsm hi2 hi3 g1 d1
      have hen := fun args w => enters_each hk args w
      by_cases he : e = 0
      · have he0 : (e != 0) = false := by simp [he]
        have e3 : ((i + 1 : Nat) : Int) = (i : Int) + 1 := by omega
        go_wp2_with (first
          | (refine (HC.out).mono ?_; rintro e1 w1 ⟨rfl, hd1⟩; have D := hid hd1; clear hd1)
          | go_in)
        have H2 := HE.out
        rw [if_neg (by simpa using he)] at H2
        go_roundw
        case rel => exact ⟨i + 1, g2, d2, by omega, by simp, D.out, by have := HM2.out; rwa [show N + 32768 * (i + 1) = N + 32768 * i + 32768 by omega], H2⟩
        case measure => (simp [intOf]) <;> omega
      · have he0 : (e != 0) = true := by simp [he]
        have H2 := HE.out
        rw [if_pos he] at H2
        have H2 := hid H2
        obtain ⟨f, hf⟩ : ∃ f, f = g2.off := ⟨_, rfl⟩
        have Hf := hid hf
        clear hf HE
        by_cases he32 : e = 32
        all_goals cases f
        all_goals
          have he1 : (e == 32) = decide (e = 32) := by by_cases h : e = 32 <;> simp [h]
          simp only [he32, decide_true, decide_false] at he1
          go_wp2_with (first
            | (refine (HC.out).mono ?_; rintro e1 w1 ⟨rfl, hd1⟩; obtain ⟨lv1, -, -, -, -, -, -, -, -, -, a9, af⟩ := (LgDid.at hd1).choose_spec.choose_spec.1.cells; rw [← Hf.out] at a9; have D := hid hd1; have af9 := af 9; clear af hd1)
            | go_in)
          go_ret
          rw [H2.out]
          refine ⟨by first | rfl | (rw [he32]; rfl), ?_⟩
          refine LgDid.ofSet (LgDid.mono (Hmono.out (i + 1) (by have := Hy.out; have := Hz.out; have := Hlen.out; omega)) D.out) fun F1 G1 h1 => ?_
          simp only [← Hf.out]
          first
            | (rw [show (e == 32) = true from beq_iff_eq.2 he32]; exact h1.set_off _)
            | (rw [show (e == 32) = false from beq_eq_false_iff_ne.2 he32]; exact h1.set_off _)
    · obtain rfl : i = z := by omega
      have : ms.drop i = [] := List.drop_of_length_le (by have := Hz.out; have := Hlen.out; omega)
      rw [this] at heq
      have HQ := hid heq
      have D := hid hd
      clear hd h1 s1 heq this hlt hi hsm
      go_wp2_with fail
      go_ret
      rw [HQ.out]
      exact ⟨rfl, LgDid.mono (Hmono.out i (by have := Hy.out; have := Hz.out; have := Hlen.out; omega)) D.out⟩
end
end Go.Proofs.Ytioafhkblmebmaa
