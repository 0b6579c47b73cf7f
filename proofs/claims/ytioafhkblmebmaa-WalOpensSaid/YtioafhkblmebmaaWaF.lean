/- A log's mend. -/
import Derived.Test.YtioafhkblmebmaaWaE
import Derived.Test.YtioafhkblmebmaaHeld
namespace Go.Proofs.Ytioafhkblmebmaa
open Go.RowKit Go.Maps
set_option linter.unusedVariables false
set_option linter.unusedSimpArgs false

section
variable {w w' : World} {l b : Nat} {F F' : Foot} {G : Nat → Prop} {g : Lg} {d d' : Dsk} {lv : Value}
theorem meets_small {N : Nat} (h : d.Small N) : (meetsM d).2.Small (N + 1) := ⟨by have := h.ops; show d.ops + 1 ≤ _; omega, by have := h.arm; show d.narm ≤ _; omega, by have := h.loose; show d.loose.length ≤ _; omega⟩
theorem wrN_small {k a : Nat} {s : List UInt8} {N : Nat} (h : d.Small N) (n : Nat) : (wrN d k a s n).Small (N + n) := by
  induction n with
  | zero => exact h
  | succ n ih =>
    refine ⟨by have := ih.ops; show (wrN d k a s n).ops ≤ _; omega, by have := ih.arm; show (wrN d k a s n).narm ≤ _; omega, ?_⟩
    have := h.loose
    rw [wrN_loose]
    omega
theorem write_small {f a : Int} {s : List UInt8} {N : Nat} (h : d.Small N) : (writeM d f a s).2.Small (N + 8193) := by
  unfold writeM
  split
  · exact h.mono (by omega)
  split
  · exact h.mono (by omega)
  split
  · exact h.mono (by omega)
  split
  · exact (meets_small h).mono (by omega)
  · exact (wrN_small (meets_small h) _).mono (by omega)
theorem sync_small {f : Int} {N : Nat} (h : d.Small N) : (syncM d f).2.Small (N + 1) := by
  unfold syncM
  split
  · exact h.mono (by omega)
  split
  · exact meets_small h
  · refine ⟨(meets_small h).ops, (meets_small h).arm, ?_⟩
    have h1 := (meets_small h).loose
    have h2 : (keepsOf f.toNat (meetsM d).2.loose).length ≤ (meetsM d).2.loose.length := List.length_filter_le _ _
    show (keepsOf f.toNat (meetsM d).2.loose).length ≤ _
    omega
theorem cut_small {f n : Int} {N : Nat} (h : d.Small N) : (cutM d f n).2.Small (N + 2) := by
  unfold cutM
  split
  · exact h.mono (by omega)
  split
  · exact h.mono (by omega)
  split
  · exact (meets_small h).mono (by omega)
  · have h1 := meets_small h
    exact ⟨by have := h1.ops; show (meetsM d).2.ops ≤ _; omega, by have := h1.arm; show (meetsM d).2.narm ≤ _; omega, by have := h1.loose; show ((meetsM d).2.loose ++ [_]).length ≤ _; simp; omega⟩
/-- A contract on any log in memory is one on the log that was at w. -/
theorem does_of {N : Nat} {k : Nat} {a c : Array Value} {m : LgM} (hk : k ∈ [37, 40, 65, 38, 42, 43, 45])
    (hs : ∀ g d, d.Small N → (m g d).2.2.Small (N + 32768))
    (h : ∀ g d W F1 G1, d.Small N → LgAt W l b F1 G1 g d → LgStep F F1 G G1 w W → Calls Try.prog k (a ++ c) W fun e W' => e = .returned (.int .i64 (m g d).1) ∧ LgDid W l b F1 G1 (m g d).2.1 (m g d).2.2 W') : Does w l b F G G N (.func (.func k) a c) m :=
  ⟨k, a, c, rfl, hk, fun g d W h1 h2 => ⟨hs g d h1, by
    obtain ⟨F1, G1, h3, h4⟩ := h2
    refine (h g d W F1 G1 h1 h3 h4).mono ?_
    rintro e W' ⟨he, h5⟩
    exact ⟨he, did_then h4 h5⟩⟩⟩
theorem does_sync (N : Nat) (hN : N ≤ 1099511527776) : Does w l b F G G N (.func (.func 40) #[.pointer (some ⟨l, 0, none⟩)] #[]) lsyncM :=
  does_of (by decide) (fun g d h => (sync_small h).mono (by omega)) fun g d W F1 G1 h1 h2 _ => lsync_any h2 (h1.mono hN)
theorem puts_step {hd : Hd} {has : Bool} {p q r : Nat} {W : World} {F1 : Foot} {G1 : Nat → Prop} (hp : PutsAt w l hd has p q r) (hs : LgStep F F1 G G1 w W) (hout : ∀ k, k = p ∨ k = q ∨ k = r → ¬ F.own k ∧ ¬ F.sh k ∧ ¬ G k) :
    PutsAt W l hd has p q r ∧ ∀ k, k = p ∨ k = q ∨ k = r → ¬ F1.own k ∧ ¬ F1.sh k ∧ ¬ G1 k := by
  obtain ⟨cp, cq, cr⟩ := hp
  have lt : ∀ k, k = p ∨ k = q ∨ k = r → k < w.heap.size := by
    rintro k (rfl | rfl | rfl)
    · exact lt_of_block cp
    · exact lt_of_block cq
    · exact lt_of_block cr
  have same : ∀ k, k = p ∨ k = q ∨ k = r → W.heap[k]? = w.heap[k]? := fun k hk => hs.frm.block k (lt k hk) (fun e => e.elim (hout k hk).1 (hout k hk).2.2)
  refine ⟨⟨(same p (.inl rfl)).trans cp, (same q (.inr (.inl rfl))).trans cq, (same r (.inr (.inr rfl))).trans cr⟩, fun k hk => ⟨fun h => ?_, fun h => ?_, fun h => ?_⟩⟩
  · exact (hs.own k h).elim (hout k hk).1 (fun h => by have := lt k hk; omega)
  · exact (hs.sh k h).elim (hout k hk).2.1 (fun h => by have := lt k hk; omega)
  · exact (hs.gr k h).elim (hout k hk).2.2 (fun h => by have := lt k hk; omega)
theorem does_puts (N : Nat) (hN : N ≤ 1099511527776) {hd : Hd} {has : Bool} (hwf : HdWf hd) {p q r : Nat} (hp : PutsAt w l hd has p q r) (hout : ∀ k, k = p ∨ k = q ∨ k = r → ¬ F.own k ∧ ¬ F.sh k ∧ ¬ G k) : Does w l b F G G N (putsV p q r) (lputsM hd has) :=
  does_of (by decide) (fun g d h => (write_small h).mono (by omega)) fun g d W F1 G1 h1 h2 h3 => by
    obtain ⟨hp1, ho1⟩ := puts_step hp h3 hout
    exact lputs1_any h2 (h1.mono hN) hd has hwf p q r hp1 ho1
theorem LgAt.new {k : Nat} (h : LgAt w l b F G g d) (hk : w.heap.size ≤ k) : ¬ F.own k ∧ ¬ F.sh k ∧ ¬ G k :=
  ⟨fun h1 => by have := h.disk.olt k h1; omega, fun h1 => by have := h.disk.slt k h1; omega, fun h1 => by obtain ⟨_, h2⟩ := h.log; have := h2.glt k h1; omega⟩
theorem mend_head (h : Hd) (has : Bool) (g : Lg) (d : Dsk) : (lstepsM [lputsM h has, lsyncM] g d).2.1.head = g.head ∧ (lstepsM [lputsM h has, lsyncM] g d).2.1.has = g.has := by
  simp only [lstepsM]
  split
  · exact ⟨rfl, rfl⟩
  split
  · exact ⟨rfl, rfl⟩
  · exact ⟨rfl, rfl⟩

set_option maxHeartbeats 1000000 in
set_option maxRecDepth 20000 in
theorem lmend_any (h : LgAt w l b F G g d) (N : Nat) (hs : d.Small N) (hN : N + 65536 ≤ 1099511527776) :
    Calls Try.prog 37 #[.pointer (some ⟨l, 0, none⟩)] w fun e w' => e = .returned (.int .i64 (lmendM g d).1) ∧ LgDid w l b F G (lmendM g d).2.1 (lmendM g d).2.2 w' := by
  obtain ⟨lv, -, c1, c2, c3, c4, -, -, -, c8, -⟩ := h.cells
  obtain ⟨t, ht⟩ : ∃ t, t = g.torn := ⟨_, rfl⟩
  have hmf : ∀ (fn : Fn) (first cap : Array Value) (w : World), (Instr.makeFunc fn first cap).run Try.prog w = .ok (.func fn first cap) w := fun _ _ _ _ => rfl
  rw [← ht] at c8
  unfold lmendM
  rw [← ht]
  have H := hid h
  have HS := hid hs
  clear h hs ht
  cases t
  · go_enter Try.func37, Try.ntmps37
    go_wp2_with fail
    go_ret
    exact ⟨rfl, LgDid.same H.out⟩
  · have P := fun W => lputs_any l g.head g.has W
    unfold putsV hdV at P
    obtain ⟨x, hx⟩ : ∃ x, x = lstepsM [lputsM g.head g.has, lsyncM] g d := ⟨_, rfl⟩
    have hif : (if true = true then lstepsM [lputsM g.head g.has, lsyncM] g d else (0, g, d)) = x := by rw [hx]; rfl
    rw [hif]
    have HX := hid hx
    clear hif hx
    obtain ⟨e1, g1, d1⟩ := x
    simp only
    go_enter Try.func37, Try.ntmps37
    go_upto_region 3 with fail
    refine wp_region_held_drew (S := fun W => W.cell? ⟨l, 1, none⟩ = some (.int .u64 g.head.number) ∧ W.cell? ⟨l, 2, none⟩ = some (.int .i64 g.head.frames) ∧ W.cell? ⟨l, 3, none⟩ = some (.int .i64 g.head.pages) ∧ W.cell? ⟨l, 4, none⟩ = some (.bool g.has)) (by kernel_rfl) ⟨c1, c2, c3, c4⟩ (fun hHeld => ?_)
    clear c1 c2 c3 c4 c8
    refine held_take (v := ?pv0) 0 rfl (by kernel_rfl) (by kernel_rfl) (by kernel_rfl) (fun _ _ _ h => h) (by rfl) hHeld ?py0 ?pr0
    case py0 => (intro W hSw; obtain ⟨y0, y1, y2, y3⟩ := hSw; go_simp; with_reducible rfl)
    simp only [Act.put, List.setIfInBounds_toArray, List.set_cons_zero, List.set_cons_succ]
    refine held_take (v := ?pv1) 1 rfl (by kernel_rfl) (by kernel_rfl) (by kernel_rfl) (fun _ _ _ h => h) (by rfl) hHeld ?py1 ?pr1
    case py1 => (intro W hSw; obtain ⟨y0, y1, y2, y3⟩ := hSw; go_simp; with_reducible rfl)
    simp only [Act.put, List.setIfInBounds_toArray, List.set_cons_zero, List.set_cons_succ]
    refine held_take (v := ?pv2) 2 rfl (by kernel_rfl) (by kernel_rfl) (by kernel_rfl) (fun _ _ _ h => h) (by rfl) hHeld ?py2 ?pr2
    case py2 => (intro W hSw; obtain ⟨y0, y1, y2, y3⟩ := hSw; go_simp; with_reducible rfl)
    simp only [Act.put, List.setIfInBounds_toArray, List.set_cons_zero, List.set_cons_succ]
    refine held_take (v := ?pv3) 3 rfl (by kernel_rfl) (by kernel_rfl) (by kernel_rfl) (fun _ _ _ h => h) (by rfl) hHeld ?py3 ?pr3
    case py3 => (intro W hSw; obtain ⟨y0, y1, y2, y3⟩ := hSw; go_simp; with_reducible rfl)
    simp only [Act.put, List.setIfInBounds_toArray, List.set_cons_zero, List.set_cons_succ]
    refine held_take (v := ?pv4) 4 rfl (by kernel_rfl) (by kernel_rfl) (by kernel_rfl) (fun _ _ _ h => h) (by rfl) hHeld ?py4 ?pr4
    case py4 => (intro W hSw; obtain ⟨y0, y1, y2, y3⟩ := hSw; go_simp; with_reducible rfl)
    simp only [Act.put, List.setIfInBounds_toArray, List.set_cons_zero, List.set_cons_succ]
    refine held_take (v := ?pv5) 5 rfl (by kernel_rfl) (by kernel_rfl) (by kernel_rfl) (fun _ _ _ h => h) (by rfl) hHeld ?py5 ?pr5
    case py5 => (intro W hSw; obtain ⟨y0, y1, y2, y3⟩ := hSw; go_simp; with_reducible rfl)
    simp only [Act.put, List.setIfInBounds_toArray, List.set_cons_zero, List.set_cons_succ]
    refine held_take (v := ?pv6) 6 rfl (by kernel_rfl) (by kernel_rfl) (by kernel_rfl) (fun _ _ _ h => h) (by rfl) hHeld ?py6 ?pr6
    case py6 => (intro W hSw; obtain ⟨y0, y1, y2, y3⟩ := hSw; go_simp; with_reducible rfl)
    simp only [Act.put, List.setIfInBounds_toArray, List.set_cons_zero, List.set_cons_succ]
    refine held_take (v := ?pv7) 7 rfl (by kernel_rfl) (by kernel_rfl) (by kernel_rfl) (fun _ _ _ h => h) (by rfl) hHeld ?py7 ?pr7
    case py7 => (intro W hSw; obtain ⟨y0, y1, y2, y3⟩ := hSw; go_simp; with_reducible rfl)
    simp only [Act.put, List.setIfInBounds_toArray, List.set_cons_zero, List.set_cons_succ]
    refine held_take (v := ?pv8) 8 rfl (by kernel_rfl) (by kernel_rfl) (by kernel_rfl) (fun _ _ _ h => h) (by rfl) hHeld ?py8 ?pr8
    case py8 => (intro W hSw; obtain ⟨y0, y1, y2, y3⟩ := hSw; go_simp; with_reducible rfl)
    simp only [Act.put, List.setIfInBounds_toArray, List.set_cons_zero, List.set_cons_succ]
    refine held_take (v := ?pv9) 9 rfl (by kernel_rfl) (by kernel_rfl) (by kernel_rfl) (fun _ _ _ h => h) (by rfl) hHeld ?py9 ?pr9
    case py9 => (intro W hSw; obtain ⟨y0, y1, y2, y3⟩ := hSw; go_simp; with_reducible rfl)
    simp only [Act.put, List.setIfInBounds_toArray, List.set_cons_zero, List.set_cons_succ]
    refine held_take (v := ?pv11) 11 rfl (by kernel_rfl) (by kernel_rfl) (by kernel_rfl) (fun _ _ _ h => h) (by rfl) hHeld ?py11 ?pr11
    case py11 => (intro W hSw; obtain ⟨y0, y1, y2, y3⟩ := hSw; go_simp; with_reducible rfl)
    simp only [Act.put, List.setIfInBounds_toArray, List.set_cons_zero, List.set_cons_succ]
    refine held_take (v := ?pv12) 12 rfl (by kernel_rfl) (by kernel_rfl) (by kernel_rfl) (fun _ _ _ h => h) (by rfl) hHeld ?py12 ?pr12
    case py12 => (intro W hSw; obtain ⟨y0, y1, y2, y3⟩ := hSw; go_simp; with_reducible rfl)
    simp only [Act.put, List.setIfInBounds_toArray, List.set_cons_zero, List.set_cons_succ]
    refine held_one 10 (by kernel_rfl) rfl (fun K hK => ?_)
    go_simp
    refine (P _).mono ?_
    rintro e w1 ⟨rfl, hp, hb⟩
    have hb := below_undrew hb
    have H1 := H.out.below hb
    obtain ⟨-, -, c1, c2, c3, c4, -⟩ := H1.cells
    have hout1 := fun k (hk : k = w.heap.size ∨ k = w.heap.size + 1 ∨ k = w.heap.size + 1 + 1) => H.out.new (k := k) (by omega)
    try dsimp only
    refine hK.out _ _ (⟨c1, c2, c3, c4⟩) (fun hHeld => ?_)
    clear hK K
    try simp only [Act.put, List.setIfInBounds_toArray, List.set_cons_zero, List.set_cons_succ]
    have HP := hid hp
    have HB := hid hb
    have HH := hid H1
    have HO := hid hout1
    clear hp hb H1 hout1 c1 c2 c3 c4
    refine held_one 13 (by kernel_rfl) rfl (fun K hK => ?_)
    go_simp
    obtain ⟨w2, hw2⟩ : ∃ w2, w2 = w1.alloc (.cells #[.func (.func 65) #[] #[.pointer (some ⟨w.heap.size + 1 + 1, 0, none⟩), .pointer (some ⟨w.heap.size + 1, 0, none⟩), .pointer (some ⟨w.heap.size, 0, none⟩)], .func (.func 40) #[.pointer (some ⟨l, 0, none⟩)] #[]] 43) := ⟨_, rfl⟩
    rw [← hw2]
    have hb2 : Below w1.heap.size w1 w2 := by rw [hw2]; exact (Below.refl _ _).alloc (Nat.le_refl _) _
    have hblk := heap_alloc_new w1 (.cells #[.func (.func 65) #[] #[.pointer (some ⟨w.heap.size + 1 + 1, 0, none⟩), .pointer (some ⟨w.heap.size + 1, 0, none⟩), .pointer (some ⟨w.heap.size, 0, none⟩)], .func (.func 40) #[.pointer (some ⟨l, 0, none⟩)] #[]] 43)
    rw [← hw2] at hblk
    have H2 := HH.out.below hb2
    obtain ⟨-, -, c1, c2, c3, c4, -⟩ := H2.cells
    refine hK.out _ _ (⟨c1, c2, c3, c4⟩) (fun hHeld => ?_)
    clear hK K
    try simp only [Act.put, List.setIfInBounds_toArray, List.set_cons_zero, List.set_cons_succ]
    have hP2 : PutsAt w2 l g.head g.has w.heap.size (w.heap.size + 1) (w.heap.size + 1 + 1) := by
      obtain ⟨p1, p2, p3⟩ := HP.out
      exact ⟨(hb2.block _ (lt_of_block p1)).trans p1, (hb2.block _ (lt_of_block p2)).trans p2, (hb2.block _ (lt_of_block p3)).trans p3⟩
    have hqlt := lt_of_block hblk
    have hq := H2.ok
    have ST := lsteps_any H2 N HS.out [lputsM g.head g.has, lsyncM] [putsV w.heap.size (w.heap.size + 1) (w.heap.size + 1 + 1), .func (.func 40) #[.pointer (some ⟨l, 0, none⟩)] #[]] rfl (by simp) w1.heap.size 2
      (fun i v hv => by
        rw [cell_of_block hblk]
        simpa [putsV] using hv) hqlt (fun _ => G) rfl (fun _ _ _ h => h) ⟨(HH.out.new (Nat.le_refl _)).1, fun _ => (HH.out.new (Nat.le_refl _)).2.2⟩ (fun i v m hv hm => by
        match i, hv, hm with
        | 0, hv, hm =>
          simp only [List.getElem?_cons_zero, Option.some.injEq] at hv hm
          subst hv hm
          exact does_puts _ (by omega) hq.num hP2 HO.out
        | 1, hv, hm =>
          simp only [List.getElem?_cons_zero, List.getElem?_cons_succ, Option.some.injEq] at hv hm
          subst hv hm
          exact does_sync _ (by omega))
    have hmh := mend_head g.head g.has g d
    rw [← HX.out] at ST hmh
    simp only at ST hmh
    have HM := hid hmh
    have ST := hid ST
    have HB2 := hid (then_below HB.out hb2)
    clear hmh hP2 hblk hb2 hq hw2 c1 c2 c3 c4 H2 hqlt HP HB HH HO
    refine held_one 14 (by kernel_rfl) rfl (fun K hK => ?_)
    go_simp
    refine (ST.out).mono ?_
    rintro e w3 ⟨rfl, hd3⟩
    have D := hid (did_then (LgStep.below HB2.out) hd3)
    obtain ⟨F3, G3, h3, -⟩ := hd3
    obtain ⟨-, -, c1, c2, c3, c4, -⟩ := h3.cells
    rw [HM.out.1] at c1 c2 c3
    rw [HM.out.2] at c4
    clear h3
    try dsimp only
    refine hK.out _ _ (⟨c1, c2, c3, c4⟩) (fun hHeld => ?_)
    clear hK K
    try simp only [Act.put, List.setIfInBounds_toArray, List.set_cons_zero, List.set_cons_succ]
    clear c1 c2 c3 c4
    refine held_take (v := ?qv15) 15 rfl (by kernel_rfl) (by kernel_rfl) (by kernel_rfl) (fun _ _ _ h => h) (by rfl) hHeld ?qy15 ?qr15
    case qy15 => (intro W hSw; obtain ⟨y0, y1, y2, y3⟩ := hSw; go_simp; with_reducible rfl)
    simp only [Act.put, List.setIfInBounds_toArray, List.set_cons_zero, List.set_cons_succ]
    refine wpAnyH_done (by kernel_rfl) ?_ _
    go_wp2_with fail
    go_ret
    exact ⟨rfl, D.out⟩
end
end Go.Proofs.Ytioafhkblmebmaa
