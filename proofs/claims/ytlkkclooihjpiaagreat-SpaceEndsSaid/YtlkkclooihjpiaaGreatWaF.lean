import Derived.Test.YtlkkclooihjpiaaGreatWaD
import Derived.Test.YtlkkclooihjpiaaGreatHeld
set_option linter.unusedVariables false
set_option linter.unusedSimpArgs false
namespace Go.Proofs.YtlkkclooihjpiaaGreat
open Go.RowKit Go.Maps
set_option maxRecDepth 20000
section
variable {w w' : World} {l b : Nat} {F F' : Foot} {G : Nat → Prop} {g : Lg} {d d' : Dsk} {lv : Value}
def Does (w : World) (l b : Nat) (F : Foot) (G Go : Nat → Prop) (N : Nat) (v : Value) (m : LgM) : Prop :=
 ∃ k a c, v = .func (.func k) a c ∧ k ∈ [100, 107, 122, 110, 101, 102, 104] ∧
  ∀ g d W, d.Small N → LgDid w l b F G g d W → (m g d).2.2.Small (N + 32768) ∧ Calls Tryz.prog k (a ++ c) W fun e W' => e = .returned (.int .i64 (m g d).1) ∧ LgDid w l b F Go (m g d).2.1 (m g d).2.2 W'
theorem LgDid.mono {G2 : Nat → Prop} (hG : ∀ k, G k → G2 k) (h : LgDid w l b F G g d w') : LgDid w l b F G2 g d w' := by
 obtain ⟨F1, G1, h1, h2⟩ := h
 exact ⟨F1, G1, h1, h2.frm.mono (fun k hk => hk.imp id (hG k)), h2.own, h2.sh, fun k hk => (h2.gr k hk).imp (hG k) id⟩
theorem run_enter {P : Program} {f : FuncId} {fn : Func} {c : Code} (hf : P.funcs[f]? = some fn) (hname : (fn.name == "runtime.NumGoroutine") = false) (hb : fn.body = some c) (args : Array Value) (w : World) :
  (callFunc f args).run P w = .ok (.enter f args) w := by
 have h1 : fn.name ≠ "runtime.NumGoroutine" := by simpa using hname
 simp [callFunc, hf, h1, hb]
theorem enters_each {k : Nat} (hk : k ∈ [100, 107, 122, 110, 101, 102, 104]) (args : Array Value) (w : World) : (callFunc k args).run Tryz.prog w = .ok (.enter k args) w := by
 simp only [List.mem_cons, List.not_mem_nil, or_false] at hk
 rcases hk with rfl | rfl | rfl | rfl | rfl | rfl | rfl
 ·exact run_enter Tryz.func100 (by kernel_rfl) rfl args w
 ·exact run_enter Tryz.func107 (by kernel_rfl) rfl args w
 ·exact run_enter Tryz.func122 (by kernel_rfl) rfl args w
 ·exact run_enter Tryz.func110 (by kernel_rfl) rfl args w
 ·exact run_enter Tryz.func101 (by kernel_rfl) rfl args w
 ·exact run_enter Tryz.func102 (by kernel_rfl) rfl args w
 ·exact run_enter Tryz.func104 (by kernel_rfl) rfl args w
set_option maxHeartbeats 1000000 in
set_option maxRecDepth 20000 in
theorem lsteps_any (h : LgAt w l b F G g d) (N : Nat) (hs : d.Small N) (ms : List LgM) (vs : List Value) (hlen : vs.length = ms.length) (hn : ms.length ≤ 1000) (q cap : Nat) (hq : ∀ i v, vs[i]? = some v → w.cell? ⟨q, i, none⟩ = some v) (hq2 : q < w.heap.size) (Gs : Nat → Nat → Prop) (h0 : Gs 0 = G) (hmono : ∀ i, i ≤ ms.length → ∀ k, Gs i k → Gs ms.length k) (hqo : ¬ F.own q ∧ ∀ i, ¬ Gs i q)
  (hdo : ∀ i v m, vs[i]? = some v → ms[i]? = some m → Does w l b F (Gs i) (Gs (i + 1)) (N + 32768 * i) v m) :
  Calls Tryz.prog 108 #[.pointer (some ⟨l, 0, none⟩), .slice (some ⟨q, 0, none⟩) vs.length cap] w fun e w' => e = .returned (.int .i64 (lstepsM ms g d).1) ∧ LgDid w l b F (Gs ms.length) (lstepsM ms g d).2.1 (lstepsM ms g d).2.2 w' := by
 subst h0
 obtain ⟨y, hy⟩ : ∃ y, y = ms.length := ⟨_, rfl⟩
 rw [← hy] at hmono ⊢
 have Hy := hid hy
 have Hmono := hid hmono
 clear hmono
 obtain ⟨z, hz⟩ : ∃ z, z = vs.length := ⟨_, rfl⟩
 have hz2 : z ≤ 1000 := by omega
 have Hz := hid hz
 have Hlen := hid hlen
 have Hq := hid hq
 have Hdo := hid hdo
 have Hqo := hid hqo
 rw [← hz]
 clear hq hdo hqo hlen hz hn hy
 have H := hid h
 have HS := hid hs
 have Hq2 := hid hq2
 clear h hs hq2
 go_enter Tryz.func108, Tryz.ntmps108
 go_wp2_with fail
 go_loopw [10] (fun v10 wr => ∃ (i : Nat) (g1 : Lg) (d1 : Dsk), i ≤ z ∧ v10 = .int .i64 (i : Int) ∧ LgDid w l b F (Gs i) g1 d1 wr ∧ d1.Small (N + 32768 * i) ∧ lstepsM ms g d = lstepsM (ms.drop i) g1 d1) (fun v10 _ => z - (intOf v10).toNat)
 case atStart => exact ⟨0, g, d, Nat.zero_le _, rfl, LgDid.same H.out, HS.out, rfl⟩
 case round =>
  obtain ⟨i, g1, d1, hi, rfl, hd, hsm, heq⟩ := hrel
  obtain ⟨F1, G1, h1, s1⟩ := id hd
  by_cases hlt : i < z
  ·have hi2 : i < vs.length := by have := Hz.out; omega
   have hi3 : i < ms.length := by have := Hlen.out; omega
   obtain ⟨k, a, c, hv, hk, hcall0⟩ := Hdo.out i _ _ (List.getElem?_eq_getElem hi2) (List.getElem?_eq_getElem hi3)
   obtain ⟨hsm2, hcall⟩ := hcall0 g1 d1 wr hsm hd
   have hci : wr.cell? ⟨q, i, none⟩ = some (.func (.func k) a c) := by
    rw [← hv, ← Hq.out i _ (List.getElem?_eq_getElem hi2)]
    unfold World.cell?
    rw [s1.frm.block q Hq2.out (fun e => e.elim Hqo.out.1 (Hqo.out.2 i))]
   have hdrop : ms.drop i = ms[i] :: ms.drop (i + 1) := List.drop_eq_getElem_cons hi3
   rw [hdrop] at heq
   obtain ⟨m, hm⟩ : ∃ m, m = ms[i] := ⟨_, rfl⟩
   rw [← hm] at heq hsm2 hcall
   obtain ⟨x, hx⟩ : ∃ x, x = m g1 d1 := ⟨_, rfl⟩
   have heq2 : lstepsM ms g d = if x.1 ≠ 0 then (x.1, { x.2.1 with off := x.2.1.off || x.1 == 32 }, x.2.2) else lstepsM (ms.drop (i + 1)) x.2.1 x.2.2 := by rw [heq, hx]; rfl
   rw [← hx] at hsm2 hcall
   obtain ⟨e, g2, d2⟩ := x
   simp only at hsm2 hcall heq2
   have HC := hid hcall
   have HE := hid heq2
   have HM2 := hid hsm2
   clear hcall0 hcall heq2 hsm2 heq hm hx hdrop hv hd h1 s1 hsm hi2 hi3 g1 d1
   have hen := fun args w => enters_each hk args w
   by_cases he : e = 0
   ·have he0 : (e != 0) = false := by simp [he]
    have e3 : ((i + 1 : Nat) : Int) = (i : Int) + 1 := by omega
    go_wp2_with (first
     | (refine (HC.out).mono ?_; rintro e1 w1 ⟨rfl, hd1⟩; have D := hid hd1; clear hd1)
     | go_in)
    have H2 := HE.out
    rw [if_neg (by simpa using he)] at H2
    go_roundw
    case rel => exact ⟨i + 1, g2, d2, by omega, by simp, D.out, by have := HM2.out; rwa [show N + 32768 * (i + 1) = N + 32768 * i + 32768 by omega], H2⟩
    case measure => (simp [intOf]) <;> omega
   ·have he0 : (e != 0) = true := by simp [he]
    have H2 := HE.out
    rw [if_pos he] at H2
    have H2 := hid H2
    obtain ⟨f, hf⟩ : ∃ f, f = g2.off := ⟨_, rfl⟩
    have Hf := hid hf
    clear hf HE
    by_cases he32 : e = 32
    all_goals cases f
    all_goals
     have he1 : (e == 32) = decide (e = 32) := by by_cases h : e = 32 <;> simp [h]
     simp only [he32, decide_true, decide_false] at he1
     go_wp2_with (first
      | (refine (HC.out).mono ?_; rintro e1 w1 ⟨rfl, hd1⟩; obtain ⟨lv1, -, -, -, -, -, -, -, -, -, a9, af⟩ := (LgDid.at hd1).choose_spec.choose_spec.1.cells; rw [← Hf.out] at a9; have D := hid hd1; have af9 := af 9; clear af hd1)
      | go_in)
     go_ret
     rw [H2.out]
     refine ⟨by first | rfl | (rw [he32]; rfl), ?_⟩
     refine LgDid.ofSet (LgDid.mono (Hmono.out (i + 1) (by have := Hy.out; have := Hz.out; have := Hlen.out; omega)) D.out) fun F1 G1 h1 => ?_
     simp only [← Hf.out]
     first
      | (rw [show (e == 32) = true from beq_iff_eq.2 he32]; exact h1.set_off _)
      | (rw [show (e == 32) = false from beq_eq_false_iff_ne.2 he32]; exact h1.set_off _)
  ·obtain rfl : i = z := by omega
   have : ms.drop i = [] := List.drop_of_length_le (by have := Hz.out; have := Hlen.out; omega)
   rw [this] at heq
   have HQ := hid heq
   have D := hid hd
   clear hd h1 s1 heq this hlt hi hsm
   go_wp2_with fail
   go_ret
   rw [HQ.out]
   exact ⟨rfl, LgDid.mono (Hmono.out i (by have := Hy.out; have := Hz.out; have := Hlen.out; omega)) D.out⟩
end
end Go.Proofs.YtlkkclooihjpiaaGreat
namespace Go.Proofs.YtlkkclooihjpiaaGreat
open Go.RowKit Go.Maps
set_option maxRecDepth 20000
section
variable {w w' : World} {l b : Nat} {F F' : Foot} {G : Nat → Prop} {g : Lg} {d d' : Dsk} {lv : Value}
theorem meets_small {N : Nat} (h : d.Small N) : (meetsM d).2.Small (N + 1) := ⟨by have := h.ops; show d.ops + 1 ≤ _; omega, by have := h.arm; show d.narm ≤ _; omega, by have := h.loose; show d.loose.length ≤ _; omega⟩
theorem wrN_small {k a : Nat} {s : List UInt8} {N : Nat} (h : d.Small N) (n : Nat) : (wrN d k a s n).Small (N + n) := by
 induction n with
 | zero => exact h
 | succ n ih =>
  refine ⟨by have := ih.ops; show (wrN d k a s n).ops ≤ _; omega, by have := ih.arm; show (wrN d k a s n).narm ≤ _; omega, ?_⟩
  have := h.loose
  rw [wrN_loose]
  omega
theorem write_small {f a : Int} {s : List UInt8} {N : Nat} (h : d.Small N) : (writeM d f a s).2.Small (N + 8193) := by
 unfold writeM
 split
 ·exact h.mono (by omega)
 split
 ·exact h.mono (by omega)
 split
 ·exact h.mono (by omega)
 split
 ·exact (meets_small h).mono (by omega)
 ·exact (wrN_small (meets_small h) _).mono (by omega)
theorem sync_small {f : Int} {N : Nat} (h : d.Small N) : (syncM d f).2.Small (N + 1) := by
 unfold syncM
 split
 ·exact h.mono (by omega)
 split
 ·exact meets_small h
 ·refine ⟨(meets_small h).ops, (meets_small h).arm, ?_⟩
  have h1 := (meets_small h).loose
  have h2 : (keepsOf f.toNat (meetsM d).2.loose).length ≤ (meetsM d).2.loose.length := List.length_filter_le _ _
  show (keepsOf f.toNat (meetsM d).2.loose).length ≤ _
  omega
theorem cut_small {f n : Int} {N : Nat} (h : d.Small N) : (cutM d f n).2.Small (N + 2) := by
 unfold cutM
 split
 ·exact h.mono (by omega)
 split
 ·exact h.mono (by omega)
 split
 ·exact (meets_small h).mono (by omega)
 ·have h1 := meets_small h
  exact ⟨by have := h1.ops; show (meetsM d).2.ops ≤ _; omega, by have := h1.arm; show (meetsM d).2.narm ≤ _; omega, by have := h1.loose; show ((meetsM d).2.loose ++ [_]).length ≤ _; simp; omega⟩
theorem does_of {N : Nat} {k : Nat} {a c : Array Value} {m : LgM} (hk : k ∈ [100, 107, 122, 110, 101, 102, 104])
  (hs : ∀ g d, d.Small N → (m g d).2.2.Small (N + 32768))
  (h : ∀ g d W F1 G1, d.Small N → LgAt W l b F1 G1 g d → LgStep F F1 G G1 w W → Calls Tryz.prog k (a ++ c) W fun e W' => e = .returned (.int .i64 (m g d).1) ∧ LgDid W l b F1 G1 (m g d).2.1 (m g d).2.2 W') : Does w l b F G G N (.func (.func k) a c) m :=
 ⟨k, a, c, rfl, hk, fun g d W h1 h2 => ⟨hs g d h1, by
  obtain ⟨F1, G1, h3, h4⟩ := h2
  refine (h g d W F1 G1 h1 h3 h4).mono ?_
  rintro e W' ⟨he, h5⟩
  exact ⟨he, did_then h4 h5⟩⟩⟩
theorem does_sync (N : Nat) (hN : N ≤ 1099511527776) : Does w l b F G G N (.func (.func 107) #[.pointer (some ⟨l, 0, none⟩)] #[]) lsyncM :=
 does_of (by decide) (fun g d h => (sync_small h).mono (by omega)) fun g d W F1 G1 h1 h2 _ => lsync_any h2 (h1.mono hN)
theorem puts_step {hd : Hd} {has : Bool} {p q r : Nat} {W : World} {F1 : Foot} {G1 : Nat → Prop} (hp : PutsAt w l hd has p q r) (hs : LgStep F F1 G G1 w W) (hout : ∀ k, k = p ∨ k = q ∨ k = r → ¬ F.own k ∧ ¬ F.sh k ∧ ¬ G k) :
  PutsAt W l hd has p q r ∧ ∀ k, k = p ∨ k = q ∨ k = r → ¬ F1.own k ∧ ¬ F1.sh k ∧ ¬ G1 k := by
 obtain ⟨cp, cq, cr⟩ := hp
 have lt : ∀ k, k = p ∨ k = q ∨ k = r → k < w.heap.size := by
  rintro k (rfl | rfl | rfl)
  ·exact lt_of_block cp
  ·exact lt_of_block cq
  ·exact lt_of_block cr
 have same : ∀ k, k = p ∨ k = q ∨ k = r → W.heap[k]? = w.heap[k]? := fun k hk => hs.frm.block k (lt k hk) (fun e => e.elim (hout k hk).1 (hout k hk).2.2)
 refine ⟨⟨(same p (.inl rfl)).trans cp, (same q (.inr (.inl rfl))).trans cq, (same r (.inr (.inr rfl))).trans cr⟩, fun k hk => ⟨fun h => ?_, fun h => ?_, fun h => ?_⟩⟩
 ·exact (hs.own k h).elim (hout k hk).1 (fun h => by have := lt k hk; omega)
 ·exact (hs.sh k h).elim (hout k hk).2.1 (fun h => by have := lt k hk; omega)
 ·exact (hs.gr k h).elim (hout k hk).2.2 (fun h => by have := lt k hk; omega)
theorem does_puts (N : Nat) (hN : N ≤ 1099511527776) {hd : Hd} {has : Bool} (hwf : HdWf hd) {p q r : Nat} (hp : PutsAt w l hd has p q r) (hout : ∀ k, k = p ∨ k = q ∨ k = r → ¬ F.own k ∧ ¬ F.sh k ∧ ¬ G k) : Does w l b F G G N (putsV p q r) (lputsM hd has) :=
 does_of (by decide) (fun g d h => (write_small h).mono (by omega)) fun g d W F1 G1 h1 h2 h3 => by
  obtain ⟨hp1, ho1⟩ := puts_step hp h3 hout
  exact lputs1_any h2 (h1.mono hN) hd has hwf p q r hp1 ho1
theorem LgAt.new {k : Nat} (h : LgAt w l b F G g d) (hk : w.heap.size ≤ k) : ¬ F.own k ∧ ¬ F.sh k ∧ ¬ G k :=
 ⟨fun h1 => by have := h.disk.olt k h1; omega, fun h1 => by have := h.disk.slt k h1; omega, fun h1 => by obtain ⟨_, h2⟩ := h.log; have := h2.glt k h1; omega⟩
theorem mend_head (h : Hd) (has : Bool) (g : Lg) (d : Dsk) : (lstepsM [lputsM h has, lsyncM] g d).2.1.head = g.head ∧ (lstepsM [lputsM h has, lsyncM] g d).2.1.has = g.has := by
 simp only [lstepsM]
 split
 ·exact ⟨rfl, rfl⟩
 split
 ·exact ⟨rfl, rfl⟩
 ·exact ⟨rfl, rfl⟩
set_option maxHeartbeats 1000000 in
set_option maxRecDepth 20000 in
theorem lmend_any (h : LgAt w l b F G g d) (N : Nat) (hs : d.Small N) (hN : N + 65536 ≤ 1099511527776) :
  Calls Tryz.prog 100 #[.pointer (some ⟨l, 0, none⟩)] w fun e w' => e = .returned (.int .i64 (lmendM g d).1) ∧ LgDid w l b F G (lmendM g d).2.1 (lmendM g d).2.2 w' := by
 obtain ⟨lv, -, c1, c2, c3, c4, -, -, -, c8, -⟩ := h.cells
 obtain ⟨t, ht⟩ : ∃ t, t = g.torn := ⟨_, rfl⟩
 have hmf : ∀ (fn : Fn) (first cap : Array Value) (w : World), (Instr.makeFunc fn first cap).run Tryz.prog w = .ok (.func fn first cap) w := fun _ _ _ _ => rfl
 rw [← ht] at c8
 unfold lmendM
 rw [← ht]
 have H := hid h
 have HS := hid hs
 clear h hs ht
 cases t
 ·go_enter Tryz.func100, Tryz.ntmps100
  go_wp2_with fail
  go_ret
  exact ⟨rfl, LgDid.same H.out⟩
 ·have P := fun W => lputs_any l g.head g.has W
  unfold putsV hdV at P
  obtain ⟨x, hx⟩ : ∃ x, x = lstepsM [lputsM g.head g.has, lsyncM] g d := ⟨_, rfl⟩
  have hif : (if true = true then lstepsM [lputsM g.head g.has, lsyncM] g d else (0, g, d)) = x := by rw [hx]; rfl
  rw [hif]
  have HX := hid hx
  clear hif hx
  obtain ⟨e1, g1, d1⟩ := x
  simp only
  go_enter Tryz.func100, Tryz.ntmps100
  go_upto_region 3 with fail
  refine wp_region_held_drew (S := fun W => W.cell? ⟨l, 1, none⟩ = some (.int .u64 g.head.number) ∧ W.cell? ⟨l, 2, none⟩ = some (.int .i64 g.head.frames) ∧ W.cell? ⟨l, 3, none⟩ = some (.int .i64 g.head.pages) ∧ W.cell? ⟨l, 4, none⟩ = some (.bool g.has)) (by kernel_rfl) ⟨c1, c2, c3, c4⟩ (fun hHeld => ?_)
  clear c1 c2 c3 c4 c8
  refine held_take (v := ?pv0) 0 rfl (by kernel_rfl) (by kernel_rfl) (by kernel_rfl) (fun _ _ _ h => h) (by rfl) hHeld ?py0 ?pr0
  case py0 => (intro W hSw; obtain ⟨y0, y1, y2, y3⟩ := hSw; go_simp; with_reducible rfl)
  simp only [Act.put, List.setIfInBounds_toArray, List.set_cons_zero, List.set_cons_succ]
  refine held_take (v := ?pv1) 1 rfl (by kernel_rfl) (by kernel_rfl) (by kernel_rfl) (fun _ _ _ h => h) (by rfl) hHeld ?py1 ?pr1
  case py1 => (intro W hSw; obtain ⟨y0, y1, y2, y3⟩ := hSw; go_simp; with_reducible rfl)
  simp only [Act.put, List.setIfInBounds_toArray, List.set_cons_zero, List.set_cons_succ]
  refine held_take (v := ?pv2) 2 rfl (by kernel_rfl) (by kernel_rfl) (by kernel_rfl) (fun _ _ _ h => h) (by rfl) hHeld ?py2 ?pr2
  case py2 => (intro W hSw; obtain ⟨y0, y1, y2, y3⟩ := hSw; go_simp; with_reducible rfl)
  simp only [Act.put, List.setIfInBounds_toArray, List.set_cons_zero, List.set_cons_succ]
  refine held_take (v := ?pv3) 3 rfl (by kernel_rfl) (by kernel_rfl) (by kernel_rfl) (fun _ _ _ h => h) (by rfl) hHeld ?py3 ?pr3
  case py3 => (intro W hSw; obtain ⟨y0, y1, y2, y3⟩ := hSw; go_simp; with_reducible rfl)
  simp only [Act.put, List.setIfInBounds_toArray, List.set_cons_zero, List.set_cons_succ]
  refine held_take (v := ?pv4) 4 rfl (by kernel_rfl) (by kernel_rfl) (by kernel_rfl) (fun _ _ _ h => h) (by rfl) hHeld ?py4 ?pr4
  case py4 => (intro W hSw; obtain ⟨y0, y1, y2, y3⟩ := hSw; go_simp; with_reducible rfl)
  simp only [Act.put, List.setIfInBounds_toArray, List.set_cons_zero, List.set_cons_succ]
  refine held_take (v := ?pv5) 5 rfl (by kernel_rfl) (by kernel_rfl) (by kernel_rfl) (fun _ _ _ h => h) (by rfl) hHeld ?py5 ?pr5
  case py5 => (intro W hSw; obtain ⟨y0, y1, y2, y3⟩ := hSw; go_simp; with_reducible rfl)
  simp only [Act.put, List.setIfInBounds_toArray, List.set_cons_zero, List.set_cons_succ]
  refine held_take (v := ?pv6) 6 rfl (by kernel_rfl) (by kernel_rfl) (by kernel_rfl) (fun _ _ _ h => h) (by rfl) hHeld ?py6 ?pr6
  case py6 => (intro W hSw; obtain ⟨y0, y1, y2, y3⟩ := hSw; go_simp; with_reducible rfl)
  simp only [Act.put, List.setIfInBounds_toArray, List.set_cons_zero, List.set_cons_succ]
  refine held_take (v := ?pv7) 7 rfl (by kernel_rfl) (by kernel_rfl) (by kernel_rfl) (fun _ _ _ h => h) (by rfl) hHeld ?py7 ?pr7
  case py7 => (intro W hSw; obtain ⟨y0, y1, y2, y3⟩ := hSw; go_simp; with_reducible rfl)
  simp only [Act.put, List.setIfInBounds_toArray, List.set_cons_zero, List.set_cons_succ]
  refine held_take (v := ?pv8) 8 rfl (by kernel_rfl) (by kernel_rfl) (by kernel_rfl) (fun _ _ _ h => h) (by rfl) hHeld ?py8 ?pr8
  case py8 => (intro W hSw; obtain ⟨y0, y1, y2, y3⟩ := hSw; go_simp; with_reducible rfl)
  simp only [Act.put, List.setIfInBounds_toArray, List.set_cons_zero, List.set_cons_succ]
  refine held_take (v := ?pv9) 9 rfl (by kernel_rfl) (by kernel_rfl) (by kernel_rfl) (fun _ _ _ h => h) (by rfl) hHeld ?py9 ?pr9
  case py9 => (intro W hSw; obtain ⟨y0, y1, y2, y3⟩ := hSw; go_simp; with_reducible rfl)
  simp only [Act.put, List.setIfInBounds_toArray, List.set_cons_zero, List.set_cons_succ]
  refine held_take (v := ?pv11) 11 rfl (by kernel_rfl) (by kernel_rfl) (by kernel_rfl) (fun _ _ _ h => h) (by rfl) hHeld ?py11 ?pr11
  case py11 => (intro W hSw; obtain ⟨y0, y1, y2, y3⟩ := hSw; go_simp; with_reducible rfl)
  simp only [Act.put, List.setIfInBounds_toArray, List.set_cons_zero, List.set_cons_succ]
  refine held_take (v := ?pv12) 12 rfl (by kernel_rfl) (by kernel_rfl) (by kernel_rfl) (fun _ _ _ h => h) (by rfl) hHeld ?py12 ?pr12
  case py12 => (intro W hSw; obtain ⟨y0, y1, y2, y3⟩ := hSw; go_simp; with_reducible rfl)
  simp only [Act.put, List.setIfInBounds_toArray, List.set_cons_zero, List.set_cons_succ]
  refine held_one 10 (by kernel_rfl) rfl (fun K hK => ?_)
  go_simp
  refine (P _).mono ?_
  rintro e w1 ⟨rfl, hp, hb⟩
  have hb := below_undrew hb
  have H1 := H.out.below hb
  obtain ⟨-, -, c1, c2, c3, c4, -⟩ := H1.cells
  have hout1 := fun k (hk : k = w.heap.size ∨ k = w.heap.size + 1 ∨ k = w.heap.size + 1 + 1) => H.out.new (k := k) (by omega)
  try dsimp only
  refine hK.out _ _ (⟨c1, c2, c3, c4⟩) (fun hHeld => ?_)
  clear hK K
  try simp only [Act.put, List.setIfInBounds_toArray, List.set_cons_zero, List.set_cons_succ]
  have HP := hid hp
  have HB := hid hb
  have HH := hid H1
  have HO := hid hout1
  clear hp hb H1 hout1 c1 c2 c3 c4
  refine held_one 13 (by kernel_rfl) rfl (fun K hK => ?_)
  go_simp
  obtain ⟨w2, hw2⟩ : ∃ w2, w2 = w1.alloc (.cells #[.func (.func 122) #[] #[.pointer (some ⟨w.heap.size + 1 + 1, 0, none⟩), .pointer (some ⟨w.heap.size + 1, 0, none⟩), .pointer (some ⟨w.heap.size, 0, none⟩)], .func (.func 107) #[.pointer (some ⟨l, 0, none⟩)] #[]] 48) := ⟨_, rfl⟩
  rw [← hw2]
  have hb2 : Below w1.heap.size w1 w2 := by rw [hw2]; exact (Below.refl _ _).alloc (Nat.le_refl _) _
  have hblk := heap_alloc_new w1 (.cells #[.func (.func 122) #[] #[.pointer (some ⟨w.heap.size + 1 + 1, 0, none⟩), .pointer (some ⟨w.heap.size + 1, 0, none⟩), .pointer (some ⟨w.heap.size, 0, none⟩)], .func (.func 107) #[.pointer (some ⟨l, 0, none⟩)] #[]] 48)
  rw [← hw2] at hblk
  have H2 := HH.out.below hb2
  obtain ⟨-, -, c1, c2, c3, c4, -⟩ := H2.cells
  refine hK.out _ _ (⟨c1, c2, c3, c4⟩) (fun hHeld => ?_)
  clear hK K
  try simp only [Act.put, List.setIfInBounds_toArray, List.set_cons_zero, List.set_cons_succ]
  have hP2 : PutsAt w2 l g.head g.has w.heap.size (w.heap.size + 1) (w.heap.size + 1 + 1) := by
   obtain ⟨p1, p2, p3⟩ := HP.out
   exact ⟨(hb2.block _ (lt_of_block p1)).trans p1, (hb2.block _ (lt_of_block p2)).trans p2, (hb2.block _ (lt_of_block p3)).trans p3⟩
  have hqlt := lt_of_block hblk
  have hq := H2.ok
  have ST := lsteps_any H2 N HS.out [lputsM g.head g.has, lsyncM] [putsV w.heap.size (w.heap.size + 1) (w.heap.size + 1 + 1), .func (.func 107) #[.pointer (some ⟨l, 0, none⟩)] #[]] rfl (by simp) w1.heap.size 2
   (fun i v hv => by
    rw [cell_of_block hblk]
    simpa [putsV] using hv) hqlt (fun _ => G) rfl (fun _ _ _ h => h) ⟨(HH.out.new (Nat.le_refl _)).1, fun _ => (HH.out.new (Nat.le_refl _)).2.2⟩ (fun i v m hv hm => by
    match i, hv, hm with
    | 0, hv, hm =>
     simp only [List.getElem?_cons_zero, Option.some.injEq] at hv hm
     subst hv hm
     exact does_puts _ (by omega) hq.num hP2 HO.out
    | 1, hv, hm =>
     simp only [List.getElem?_cons_zero, List.getElem?_cons_succ, Option.some.injEq] at hv hm
     subst hv hm
     exact does_sync _ (by omega))
  have hmh := mend_head g.head g.has g d
  rw [← HX.out] at ST hmh
  simp only at ST hmh
  have HM := hid hmh
  have ST := hid ST
  have HB2 := hid (then_below HB.out hb2)
  clear hmh hP2 hblk hb2 hq hw2 c1 c2 c3 c4 H2 hqlt HP HB HH HO
  refine held_one 14 (by kernel_rfl) rfl (fun K hK => ?_)
  go_simp
  refine (ST.out).mono ?_
  rintro e w3 ⟨rfl, hd3⟩
  have D := hid (did_then (LgStep.below HB2.out) hd3)
  obtain ⟨F3, G3, h3, -⟩ := hd3
  obtain ⟨-, -, c1, c2, c3, c4, -⟩ := h3.cells
  rw [HM.out.1] at c1 c2 c3
  rw [HM.out.2] at c4
  clear h3
  try dsimp only
  refine hK.out _ _ (⟨c1, c2, c3, c4⟩) (fun hHeld => ?_)
  clear hK K
  try simp only [Act.put, List.setIfInBounds_toArray, List.set_cons_zero, List.set_cons_succ]
  clear c1 c2 c3 c4
  refine held_take (v := ?qv15) 15 rfl (by kernel_rfl) (by kernel_rfl) (by kernel_rfl) (fun _ _ _ h => h) (by rfl) hHeld ?qy15 ?qr15
  case qy15 => (intro W hSw; obtain ⟨y0, y1, y2, y3⟩ := hSw; go_simp; with_reducible rfl)
  simp only [Act.put, List.setIfInBounds_toArray, List.set_cons_zero, List.set_cons_succ]
  refine wpAnyH_done (by kernel_rfl) ?_ _
  go_wp2_with fail
  go_ret
  exact ⟨rfl, D.out⟩
end
end Go.Proofs.YtlkkclooihjpiaaGreat
