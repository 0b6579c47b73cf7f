/- The pager's laws: inside, pages. -/
import Derived.Test.YtmajfepbbeecjaaGreatPhA
namespace Go.Proofs.YtmajfepbbeecjaaGreat
open Go.RowKit Go.Maps
set_option linter.unusedVariables false
set_option linter.unusedSimpArgs false
set_option maxRecDepth 20000

/-- One call that stays in a transaction. -/
def insideP (least : Int) (p : Pg) (x : POp) : Pg :=
  if x.kind = 1 then (pwriteM p x.n (opBytes x)).2 else if x.kind = 2 then (presizeM p x.n).2 else if x.kind = 3 then (psaveM p).2.2
  else if x.kind = 4 then (if least ≤ x.n then (pbackM p x.n).2 else p) else if x.kind = 5 then (if least < x.n then (preleaseM p x.n).2 else p) else p
def insideM (l : List POp) (least : Int) (p : Pg) : Pg := l.foldl (insideP least) p
theorem insideM_snoc (l : List POp) (x : POp) (least : Int) (p : Pg) : insideM (l ++ [x]) least p = insideP least (insideM l least p) x := by simp [insideM]
def in64 (n : Int) : Prop := -9223372036854775808 ≤ n ∧ n ≤ 9223372036854775807
section
variable {w W W' : World} {pb l b : Nat} {p p' : Pg} {g g' : Lg} {d d' : Dsk} {X X' : Nat → Prop}
theorem PgX.to (h : PgX w W pb l b p g d X) (hx : ∀ k, X' k → X k) : PgX w W pb l b p g d X' := px_add h (Below.refl _ _) (fun k hk => .inl (hx k hk)) (fun k hk => h.xlt k (hx k hk))
set_option maxHeartbeats 4000000 in
set_option maxRecDepth 20000 in
theorem inside_any (h : PgX w W pb l b p g d X) (v : Value) (ops : List POp) (least : Int) (hv : OpsAt W (fun q => q < w.heap.size ∨ X q) v ops) (hl : ops.length ≤ 9223372036854775807) (hn64 : ∀ x ∈ ops, in64 x.n) :
    Calls Tryz.prog 13 #[.pointer (some ⟨pb, 0, none⟩), v, .int .i64 least] W fun e w' => e = .returned (.tuple #[]) ∧ PgX w w' pb l b (insideM ops least p) g d X ∧ ∀ k, X k → w'.heap[k]? = W.heap[k]? := by
  have HV := hid hv
  obtain ⟨ao, cap, rfl, hc⟩ := hv
  obtain ⟨n, hn⟩ : ∃ n, n = ops.length := ⟨_, rfl⟩
  rw [← hn] at HV ⊢
  have Hn := hid hn
  have Hl := hid hl
  have H := hid h
  have H64 := hid hn64
  obtain ⟨R, hR⟩ : ∃ R, R = insideM ops least p := ⟨_, rfl⟩
  rw [← hR]
  have HR := hid hR
  clear hc hn hl h hn64 hR
  go_enter Tryz.func13, Tryz.ntmps13
  go_wp2_with fail
  go_loopw [10] (fun v10 wr => ∃ (i : Nat) (pr : Pg), i ≤ n ∧ v10 = .int .i64 (i : Int) ∧ pr = insideM (ops.take i) least p ∧ PgX w wr pb l b pr g d X ∧ ∀ k, X k → wr.heap[k]? = W.heap[k]?) (fun v10 _ => n - (intOf v10).toNat)
  case atStart => exact ⟨0, p, Nat.zero_le _, rfl, rfl, H.out, fun _ _ => rfl⟩
  case round =>
    obtain ⟨i, pr, hi, rfl, hpr, hx, hkx⟩ := hrel
    have Hpr := hid hpr
    have Hx := hid hx
    have Hkx := hid hkx
    clear hpr hx hkx
    by_cases hlt : i < n
    · have hil : i < ops.length := by have := Hn.out; omega
      have hvr : OpsAt wr (fun q => q < w.heap.size ∨ X q) (.slice ao n cap) ops := HV.out.keep (fun k hk hb => hb.elim (fun e => (Hx.out.bel.block k e).trans (H.out.bel.block k e).symm) (Hkx.out k))
      obtain ⟨ao', cap', hev, hcc⟩ := hvr
      obtain ⟨q, o, hao, hq, -, hcell⟩ := hcc i hil
      injection id hev with he1 he2 he3
      subst he1
      subst hao
      clear he2 he3 hev
      obtain ⟨y, hy⟩ : ∃ y, y = ops[i] := ⟨_, rfl⟩
      rw [← hy] at hcell
      have c0 := hcell 0 _ rfl
      have c1 := hcell 1 _ rfl
      have c2 := hcell 2 _ rfl
      have c3 := hcell 3 _ rfl
      have c4 := hcell 4 _ rfl
      rw [Nat.add_zero] at c0
      have hi3 : (i : Int) < 9223372036854775807 := by have := Hl.out; have := Hn.out; omega
      have hy64 : in64 y.n := H64.out y (by rw [hy]; exact List.getElem_mem hil)
      have Hy64 := hid hy64
      have hstep : insideM (ops.take (i + 1)) least p = insideP least pr y := by rw [List.take_succ_eq_append_getElem hil, insideM_snoc, ← Hpr.out, hy]
      have Hstep := hid hstep
      have hbB := (Below.refl wr.heap.size wr).alloc (Nat.le_refl _) (.cells (popCells y).toArray 43)
      have hnB := heap_alloc_new wr (.cells (popCells y).toArray 43)
      have hXB := px_add (X' := fun k => X k ∨ k = wr.heap.size) Hx.out hbB (fun k hk => hk.elim .inl (fun e => .inr (Nat.le_of_eq e.symm))) (fun k hk => hk.elim (fun e => Nat.lt_of_lt_of_le (Hx.out.xlt k e) hbB.size) (fun e => by rw [e]; exact lt_of_block hnB))
      have hkB : ∀ k, X k → (wr.alloc (.cells (popCells y).toArray 43)).heap[k]? = W.heap[k]? := fun k hk => (hbB.block k (Hx.out.xlt k hk)).trans (Hkx.out k hk)
      have HXB := hid hXB
      have HkB := hid hkB
      have HnB := hid hnB
      clear hy hcell hy64 hstep hcc hbB hnB hXB hkB
      by_cases k1 : y.kind = 1
      · have hP : insideP least pr y = (pwriteM pr y.n (opBytes y)).2 := by unfold insideP; rw [if_pos k1]
        have HP := hid hP
        have e1 : (y.kind == 1) = true := by simp [k1]
        clear hP k1
        go_upto_region 5 with fail
        obtain ⟨B, hB⟩ : ∃ B, B = wr.heap.size := ⟨_, rfl⟩
        have hwa := HnB.out
        have hXa := HXB.out
        have hka := HkB.out
        obtain ⟨wa, hwae⟩ : ∃ wa, wa = wr.alloc (.cells (popCells y).toArray 43) := ⟨_, rfl⟩
        rw [← hwae] at hwa hXa hka
        rw [← hB] at hwa hXa
        have hgo : wr.alloc (.cells #[.int .i64 y.kind, .int .i64 y.n, .int .u8 (y.x.toNat : Int), .bool y.short, .slice y.ka y.keep.length y.kcap] 43) = wa := hwae.symm
        rw [hgo, ← hB]
        have HXA := hid hXa
        have HKA := hid hka
        have HWA := hid hwa
        have hS : ∀ w2 : World, w2.heap[B]? = wa.heap[B]? → w2.cell? ⟨B, 0, none⟩ = some (.int .i64 y.kind) ∧ w2.cell? ⟨B, 1, none⟩ = some (.int .i64 y.n) ∧ w2.cell? ⟨B, 2, none⟩ = some (.int .u8 (y.x.toNat : Int)) ∧ w2.cell? ⟨B, 3, none⟩ = some (.bool y.short) ∧ w2.cell? ⟨B, 4, none⟩ = some (.slice y.ka y.keep.length y.kcap) := fun w2 e => by
          have hb2 := e.trans HWA.out
          exact ⟨(cell_of_block hb2 0).trans rfl, (cell_of_block hb2 1).trans rfl, (cell_of_block hb2 2).trans rfl, (cell_of_block hb2 3).trans rfl, (cell_of_block hb2 4).trans rfl⟩
        have HS := hid hS
        clear hwa hXa hka hwae hgo hS c0 c1 c2 c3 c4 HnB HXB HkB hB
        refine wp_region_held_drew (S := fun w2 => w2.cell? ⟨B, 0, none⟩ = some (.int .i64 y.kind) ∧ w2.cell? ⟨B, 1, none⟩ = some (.int .i64 y.n) ∧ w2.cell? ⟨B, 2, none⟩ = some (.int .u8 (y.x.toNat : Int)) ∧ w2.cell? ⟨B, 3, none⟩ = some (.bool y.short) ∧ w2.cell? ⟨B, 4, none⟩ = some (.slice y.ka y.keep.length y.kcap)) (by kernel_rfl) (HS.out wa rfl) (fun hHeld => ?_)
        refine held_take (v := ?av0) 0 rfl (by kernel_rfl) (by kernel_rfl) (by kernel_rfl) (fun _ _ _ h => h) (by rfl) hHeld ?ay0 ?ar0
        case ay0 => (intro W hSw; obtain ⟨y0, y1, y2, y3, y4⟩ := hSw; go_simp; with_reducible rfl)
        simp only [Act.put, List.setIfInBounds_toArray, List.set_cons_zero, List.set_cons_succ]
        refine held_take (v := ?av1) 1 rfl (by kernel_rfl) (by kernel_rfl) (by kernel_rfl) (fun _ _ _ h => h) (by rfl) hHeld ?ay1 ?ar1
        case ay1 => (intro W hSw; obtain ⟨y0, y1, y2, y3, y4⟩ := hSw; go_simp; with_reducible rfl)
        simp only [Act.put, List.setIfInBounds_toArray, List.set_cons_zero, List.set_cons_succ]
        refine held_take (v := ?av2) 2 rfl (by kernel_rfl) (by kernel_rfl) (by kernel_rfl) (fun _ _ _ h => h) (by rfl) hHeld ?ay2 ?ar2
        case ay2 => (intro W hSw; obtain ⟨y0, y1, y2, y3, y4⟩ := hSw; go_simp; with_reducible rfl)
        simp only [Act.put, List.setIfInBounds_toArray, List.set_cons_zero, List.set_cons_succ]
        refine held_take (v := ?av3) 3 rfl (by kernel_rfl) (by kernel_rfl) (by kernel_rfl) (fun _ _ _ h => h) (by rfl) hHeld ?ay3 ?ar3
        case ay3 => (intro W hSw; obtain ⟨y0, y1, y2, y3, y4⟩ := hSw; go_simp; with_reducible rfl)
        simp only [Act.put, List.setIfInBounds_toArray, List.set_cons_zero, List.set_cons_succ]
        refine held_one 4 (by kernel_rfl) rfl (fun K hK => ?_)
        go_simp
        refine (bytes_any y _).mono ?_
        rintro e w3 ⟨rfl, hb3⟩
        have hb3 : Below wa.heap.size wa w3 := ⟨hb3.os, hb3.tape, hb3.output, hb3.size, hb3.block⟩
        have HB3 := hid hb3
        have hs3 := HS.out w3 (hb3.block B (lt_of_block HWA.out))
        have PW := hid (px_write (HXA.out.below hb3) y.n (opBytes y) Hy64.out (by have := opBytes_length y; omega))
        clear hb3
        try dsimp only
        refine hK.out _ _ (hs3) (fun hHeld => ?_)
        clear hK K
        try simp only [Act.put, List.setIfInBounds_toArray, List.set_cons_zero, List.set_cons_succ]
        refine held_one 5 (by kernel_rfl) rfl (fun K hK => ?_)
        go_simp
        refine (PW.out).mono ?_
        rintro e w4 ⟨rfl, hx4, hk4⟩
        have hs4 := HS.out w4 ((hk4 B (.inr rfl)).trans (HB3.out.block B (lt_of_block HWA.out)))
        have HX4 := hid hx4
        have HK4 := hid hk4
        clear hx4 hk4 hs3
        try dsimp only
        refine hK.out _ _ (hs4) (fun hHeld => ?_)
        clear hK K
        try simp only [Act.put, List.setIfInBounds_toArray, List.set_cons_zero, List.set_cons_succ]
        clear hHeld hs4
        refine wpAnyH_done (by kernel_rfl) ?_ _
        go_wp2_with fail
        go_roundw
        case rel => exact ⟨i + 1, _, hlt, by simp, Hstep.out.symm, by rw [HP.out]; exact HX4.out.to (fun k hk => .inl hk), fun k hk => (HK4.out k (.inl hk)).trans ((HB3.out.block k (HXA.out.xlt k (.inl hk))).trans (HKA.out k hk))⟩
        case measure => (simp [intOf]) <;> omega
      have e1 : (y.kind == 1) = false := by simp [k1]
      by_cases k2 : y.kind = 2
      · have hP : insideP least pr y = (presizeM pr y.n).2 := by unfold insideP; rw [if_neg k1, if_pos k2]
        have HP := hid hP
        have e2 : (y.kind == 2) = true := by simp [k2]
        have PR := hid (px_resize HXB.out y.n Hy64.out)
        clear hP k1 k2
        go_wp2_with (first
          | (go_at_call 12; refine (PR.out).mono ?_; rintro e w4 ⟨rfl, hx4, hk4⟩; have HX4 := hid hx4; have HK4 := hid hk4; clear hx4 hk4)
          | go_in)
        go_roundw
        case rel => exact ⟨i + 1, _, hlt, by simp, Hstep.out.symm, by rw [HP.out]; exact HX4.out.to (fun k hk => .inl hk), fun k hk => (HK4.out k (.inl hk)).trans (HkB.out k hk)⟩
        case measure => (simp [intOf]) <;> omega
      have e2 : (y.kind == 2) = false := by simp [k2]
      by_cases k3 : y.kind = 3
      · have hP : insideP least pr y = (psaveM pr).2.2 := by unfold insideP; rw [if_neg k1, if_neg k2, if_pos k3]
        have HP := hid hP
        have e3 : (y.kind == 3) = true := by simp [k3]
        have PR := hid (px_save HXB.out)
        clear hP k1 k2 k3
        go_wp2_with (first
          | (go_at_call 16; refine (PR.out).mono ?_; rintro e w4 ⟨rfl, hx4, hk4⟩; have HX4 := hid hx4; have HK4 := hid hk4; clear hx4 hk4)
          | go_in)
        go_roundw
        case rel => exact ⟨i + 1, _, hlt, by simp, Hstep.out.symm, by rw [HP.out]; exact HX4.out.to (fun k hk => .inl hk), fun k hk => (HK4.out k (.inl hk)).trans (HkB.out k hk)⟩
        case measure => (simp [intOf]) <;> omega
      have e3 : (y.kind == 3) = false := by simp [k3]
      by_cases k4 : y.kind = 4
      · have e4 : (y.kind == 4) = true := by simp [k4]
        by_cases t : least ≤ y.n
        · have hP : insideP least pr y = (pbackM pr y.n).2 := by unfold insideP; rw [if_neg k1, if_neg k2, if_neg k3, if_pos k4, if_pos t]
          have HP := hid hP
          have et : decide (least ≤ y.n) = true := by simpa using t
          have PR := hid (px_back HXB.out y.n Hy64.out)
          clear hP k1 k2 k3 k4 t
          go_wp2_with (first
            | (go_at_call 17; refine (PR.out).mono ?_; rintro e w4 ⟨rfl, hx4, hk4⟩; have HX4 := hid hx4; have HK4 := hid hk4; clear hx4 hk4)
            | go_in)
          go_roundw
          case rel => exact ⟨i + 1, _, hlt, by simp, Hstep.out.symm, by rw [HP.out]; exact HX4.out.to (fun k hk => .inl hk), fun k hk => (HK4.out k (.inl hk)).trans (HkB.out k hk)⟩
          case measure => (simp [intOf]) <;> omega
        · have hP : insideP least pr y = pr := by unfold insideP; rw [if_neg k1, if_neg k2, if_neg k3, if_pos k4, if_neg t]
          have HP := hid hP
          have et : decide (least ≤ y.n) = false := by simpa using t
          clear hP k1 k2 k3 k4 t
          go_wp2_with fail
          go_roundw
          case rel => exact ⟨i + 1, _, hlt, by simp, Hstep.out.symm, by rw [HP.out]; exact HXB.out.to (fun k hk => .inl hk), fun k hk => HkB.out k hk⟩
          case measure => (simp [intOf]) <;> omega
      have e4 : (y.kind == 4) = false := by simp [k4]
      by_cases k5 : y.kind = 5
      · have e5 : (y.kind == 5) = true := by simp [k5]
        by_cases t : least < y.n
        · have hP : insideP least pr y = (preleaseM pr y.n).2 := by unfold insideP; rw [if_neg k1, if_neg k2, if_neg k3, if_neg k4, if_pos k5, if_pos t]
          have HP := hid hP
          have et : decide (least < y.n) = true := by simpa using t
          have PR := hid (px_release HXB.out y.n Hy64.out)
          clear hP k1 k2 k3 k4 k5 t
          go_wp2_with (first
            | (go_at_call 30; refine (PR.out).mono ?_; rintro e w4 ⟨rfl, hx4, hk4⟩; have HX4 := hid hx4; have HK4 := hid hk4; clear hx4 hk4)
            | go_in)
          go_roundw
          case rel => exact ⟨i + 1, _, hlt, by simp, Hstep.out.symm, by rw [HP.out]; exact HX4.out.to (fun k hk => .inl hk), fun k hk => (HK4.out k (.inl hk)).trans (HkB.out k hk)⟩
          case measure => (simp [intOf]) <;> omega
        · have hP : insideP least pr y = pr := by unfold insideP; rw [if_neg k1, if_neg k2, if_neg k3, if_neg k4, if_pos k5, if_neg t]
          have HP := hid hP
          have et : decide (least < y.n) = false := by simpa using t
          clear hP k1 k2 k3 k4 k5 t
          go_wp2_with fail
          go_roundw
          case rel => exact ⟨i + 1, _, hlt, by simp, Hstep.out.symm, by rw [HP.out]; exact HXB.out.to (fun k hk => .inl hk), fun k hk => HkB.out k hk⟩
          case measure => (simp [intOf]) <;> omega
      have e5 : (y.kind == 5) = false := by simp [k5]
      have hP : insideP least pr y = pr := by unfold insideP; rw [if_neg k1, if_neg k2, if_neg k3, if_neg k4, if_neg k5]
      have HP := hid hP
      clear hP k1 k2 k3 k4 k5
      go_wp2_with fail
      go_roundw
      case rel => exact ⟨i + 1, _, hlt, by simp, Hstep.out.symm, by rw [HP.out]; exact HXB.out.to (fun k hk => .inl hk), fun k hk => HkB.out k hk⟩
      case measure => (simp [intOf]) <;> omega
    · obtain rfl : i = n := by omega
      go_wp2_with fail
      go_end0
      refine ⟨rfl, ?_, Hkx.out⟩
      rw [HR.out]
      have e := Hpr.out
      rw [List.take_of_length_le (by rw [← Hn.out]; exact Nat.le_refl _)] at e
      rw [← e]
      exact Hx.out

/-! ### What is read now -/
def pgsHead (P : Int) : List UInt8 := [UInt8.ofNat (P / 256).toNat, UInt8.ofNat (P % 256).toNat]
def pgCount (p : Pg) (g : Lg) : Nat := min (ppagesM p g).toNat 30
def pgsOk (p : Pg) (g : Lg) (d : Dsk) : Prop := ∀ k, k < pgCount p g → (preadM p g d ((k : Int) + 1)).2 = 0
def pgsR (p : Pg) (g : Lg) (d : Dsk) (c : Nat) : List (List UInt8) := (List.range c).map fun (k : Nat) => (preadM p g d ((k : Int) + 1)).1
def pgsL (p : Pg) (g : Lg) (d : Dsk) : List (List UInt8) := pgsR p g d (pgCount p g) ++ [pgsHead (ppagesM p g)]
theorem pgsR_length (p : Pg) (g : Lg) (d : Dsk) (c : Nat) : (pgsR p g d c).length = c := by simp [pgsR]
theorem pgsR_succ (p : Pg) (g : Lg) (d : Dsk) (c : Nat) : pgsR p g d (c + 1) = pgsR p g d c ++ [(preadM p g d ((c : Int) + 1)).1] := by simp [pgsR, List.range_succ]
def strV (l : List (List UInt8)) : List Value := l.map fun s => .string (bs s)
theorem strV_append (a b : List (List UInt8)) : strV (a ++ b) = strV a ++ strV b := by simp [strV]
abbrev StrRow (w : World) (base : Nat) (v : Value) (l : List (List UInt8)) : Prop := w.ownsRow base 9 1 v l.length (strV l)
theorem ppages_range (h : PgX w W pb l b p g d X) : 0 ≤ ppagesM p g ∧ ppagesM p g ≤ 256 := by
  have h1 := h.ok
  have h2 := h.oks.1.pages
  unfold ppagesM
  cases hp : p.now with
  | none => exact h2
  | some t => exact (h1.now t hp).pages
set_option maxHeartbeats 2000000 in
set_option maxRecDepth 20000 in
theorem lpages_any (h : PgX w W pb l b p g d X) (hok : pgsOk p g d) :
    Calls Tryz.prog 15 #[.pointer (some ⟨pb, 0, none⟩)] W fun e w' => ∃ v, e = .returned (.tuple #[v, .bool true]) ∧ StrRow w' W.heap.size v (pgsL p g d) ∧ Below W.heap.size W w' := by
  obtain ⟨i0, hi, hz0, hz1, hz2⟩ := info_parts (P := Tryz.prog) (e := 9) (z := .string ⟨#[]⟩) (size := 1) (bytes := 16) (by kernel_rfl)
  have hpr := ppages_range h
  obtain ⟨P, hP⟩ : ∃ P : Nat, ppagesM p g = (P : Int) := ⟨(ppagesM p g).toNat, by omega⟩
  have hP2 : P ≤ 256 := by omega
  have PG : ∀ w1, PgX w w1 pb l b p g d X → Calls Tryz.prog 26 #[.pointer (some ⟨pb, 0, none⟩)] w1 fun e w' => e = .returned (.int .i64 (P : Int)) ∧ w' = w1 := fun w1 hm => by
    have := px_pages hm
    rwa [hP] at this
  have PG := hid PG
  have hconv : ∀ wr : World, (convert 52 9 (.slice (some ⟨wr.heap.size, 0, none⟩) 2 2)).run Tryz.prog (wr.alloc (.cells #[.int .u8 ((P : Int) / 256), .int .u8 ((P : Int) % 256)] 5)) = .ok (.string (bs (pgsHead (ppagesM p g)))) (wr.alloc (.cells #[.int .u8 ((P : Int) / 256), .int .u8 ((P : Int) % 256)] 5)) := fun wr => by
    have h := run_convert_cells (P := Tryz.prog) (wr.alloc (.cells #[.int .u8 ((P : Int) / 256), .int .u8 ((P : Int) % 256)] 5)) 52 9 5 Tryz.underlying52 Tryz.underlying5 Tryz.underlying9 wr.heap.size 0 2 2 [(P : Int) / 256, (P : Int) % 256] rfl (fun i hi => by
      rw [cell_of_block (heap_alloc_new wr _)]
      match i, hi with
      | 0, _ => rfl
      | 1, _ => rfl)
    rw [hP]
    exact h
  have Hconv := hid hconv
  obtain ⟨q, hq⟩ : ∃ q, q = pgCount p g := ⟨_, rfl⟩
  have hqi : min (P : Int) 30 = (q : Int) := by rw [hq]; unfold pgCount; rw [hP, Int.toNat_natCast]; omega
  have hq30 : q ≤ 30 := by omega
  have Hq := hid hq
  have Hok := hid hok
  obtain ⟨S0, hS0⟩ : ∃ S0, S0 = pgsHead (ppagesM p g) := ⟨_, rfl⟩
  have HS0 := hid hS0
  have H := hid h
  clear h hconv hq hok hS0 hP hpr
  go_enter Tryz.func15, Tryz.ntmps15
  go_wp2_with fail
  go_loopw [4, 5] (fun v4 v5 wr => ∃ (i : Nat), i ≤ q ∧ wr.ownsRow W.heap.size 9 1 v4 i (strV (pgsR p g d i)) ∧ v5 = .int .i64 ((i : Int) + 1) ∧ Below W.heap.size W wr) (fun _ v5 _ => q + 1 - (intOf v5).toNat)
  case atStart => exact ⟨0, Nat.zero_le _, World.ownsRow_nil _ _ _ _, rfl, Below.refl _ _⟩
  case round =>
    obtain ⟨i, hi1, hrow, rfl, hbw⟩ := hrel
    have HBw := hid hbw
    have hm := H.out.below hbw
    have Hm := hid hm
    have Hrow := hid hrow
    have PA := px_read hm ((i : Int) + 1) (by omega)
    obtain ⟨pg, hpg⟩ : ∃ pg, pg = preadM p g d ((i : Int) + 1) := ⟨_, rfl⟩
    rw [← hpg] at PA
    have PA := hid PA
    have Hpg := hid hpg
    clear hm hbw hrow hpg
    by_cases hlt : i < q
    · have hlt1 : i + 1 ≤ q := hlt
      have hwi : IntKind.i64.wrap ((i : Int) + 1 + 1) = (i : Int) + 1 + 1 := IntWalk.i64_in _ (by omega)
      have hpe1 : (pg.2 != 0) = false := by
        rw [Hpg.out, Hok.out i (by rw [← Hq.out]; exact hlt)]
        rfl
      obtain ⟨s, hs⟩ : ∃ s, s = pg.1 := ⟨_, rfl⟩
      rw [← hs] at PA
      have PA := hid PA.out
      have Hs := hid hs
      clear hs
      go_wp2_with (first
        | (go_at_call 26; refine (PG.out _ Hm.out).mono ?_; rintro e w1 ⟨rfl, hw⟩; obtain rfl := hw.symm)
        | (go_at_call 29; refine (PA.out).mono ?_; rintro e w2 ⟨rfl, hb2⟩; have HBw2 := hid (HBw.out.trans (hb2.mono HBw.out.size)); have Hrow2 := hid (row_keep Hrow.out (w' := w2) (fun x hx => hb2.block x (row_base Hrow.out hx).2)); clear hb2)
        | (at_builtin; refine wpList_append_own_at _ rfl _ _ 34 rfl W.heap.size 9 i0 _ 1 16 Tryz.underlying34 hi hz0 hz1 hz2 rfl (by omega) _ i (strV (pgsR p g d i)) rfl (row_keep Hrow2.out (fun x hx => Below.heap_alloc w2 _ x (row_base Hrow2.out hx).2)) ⟨w2.heap.size, 0, none⟩ 1 1 [.string (bs s)] rfl (by simp) (World.news_of_block (cs := #[.string (bs s)]) (t := 9) (fr := (0, 0)) (heap_alloc_new w2 _)) (by intro u hu; rw [List.mem_singleton.1 hu]; rfl) (by unfold maxLen; omega) (by omega) (by simp; have := HBw2.out.size; omega) ?_; intro v' w7 hown7 hgrow7 _ hat7; have Hown7 := hid hown7; have Hgrow7 := hid hgrow7; clear hown7 hgrow7 hat7)
        | go_in)
      go_roundw
      case rel =>
        refine ⟨i + 1, hlt, ?_, by simp, (HBw2.out.alloc HBw2.out.size _).grown Hgrow7.out (by simp; have := HBw2.out.size; omega) (fun j hj => (row_base Hrow2.out hj).1)⟩
        rw [pgsR_succ, strV_append, ← Hpg.out, ← Hs.out]
        exact Hown7.out
      case measure => (simp [intOf]) <;> omega
    · obtain rfl : q = i := by omega
      have hlt1 : ¬ (q + 1 ≤ q) := by omega
      have hcv := Hconv.out wr
      rw [← HS0.out] at hcv
      have hb1 := HBw.out.alloc HBw.out.size (.cells #[.int .u8 ((P : Int) / 256), .int .u8 ((P : Int) % 256)] 5)
      have hb2 := hb1.alloc hb1.size (.cells #[.string (bs S0)] 9)
      have hm1 := H.out.below hb1
      have Hm1 := hid hm1
      have Hb2 := hid hb2
      have hnew : ((wr.alloc (.cells #[.int .u8 ((P : Int) / 256), .int .u8 ((P : Int) % 256)] 5)).alloc (.cells #[.string (bs S0)] 9)).heap[wr.heap.size + 1]? = some (.cells #[.string (bs S0)] 9 (0, 0)) := by
        have := heap_alloc_new (wr.alloc (.cells #[.int .u8 ((P : Int) / 256), .int .u8 ((P : Int) % 256)] 5)) (.cells #[.string (bs S0)] 9)
        simpa using this
      have Hnew := hid hnew
      have hrow2 := row_keep Hrow.out (w' := (wr.alloc (.cells #[.int .u8 ((P : Int) / 256), .int .u8 ((P : Int) % 256)] 5)).alloc (.cells #[.string (bs S0)] 9)) (fun x hx => (Below.heap_alloc _ _ x (by have := (row_base Hrow.out hx).2; simp; omega)).trans (Below.heap_alloc wr _ x (row_base Hrow.out hx).2))
      have Hrow2 := hid hrow2
      clear hb1 hb2 hm1 hnew hrow2
      go_wp2_with (first
        | (go_at_call 26; refine (PG.out _ Hm.out).mono ?_; rintro e w1 ⟨rfl, hw⟩; obtain rfl := hw.symm)
        | (at_builtin; refine wpList_append_own_at _ rfl _ _ 34 rfl W.heap.size 9 i0 _ 1 16 Tryz.underlying34 hi hz0 hz1 hz2 rfl (by omega) _ q (strV (pgsR p g d q)) rfl Hrow2.out ⟨wr.heap.size + 1, 0, none⟩ 1 1 [.string (bs S0)] rfl (by simp) (World.news_of_block (cs := #[.string (bs S0)]) (t := 9) (fr := (0, 0)) Hnew.out) (by intro u hu; rw [List.mem_singleton.1 hu]; rfl) (by unfold maxLen; omega) (by omega) (by simp; have := HBw.out.size; omega) ?_; intro v' w7 hown7 hgrow7 _ hat7; have Hown7 := hid hown7; have Hgrow7 := hid hgrow7; clear hown7 hgrow7 hat7)
        | go_in)
      go_ret2
      refine ⟨v', rfl, ?_, Hb2.out.grown Hgrow7.out (by simp; have := HBw.out.size; omega) (fun j hj => (row_base Hrow2.out hj).1)⟩
      have e : (pgsL p g d).length = q + 1 := by unfold pgsL; rw [List.length_append, pgsR_length, ← Hq.out]; rfl
      have e2 : strV (pgsL p g d) = strV (pgsR p g d q) ++ [.string (bs S0)] := by unfold pgsL; rw [strV_append, ← Hq.out, HS0.out]; rfl
      unfold StrRow
      rw [e, e2]
      exact Hown7.out
end
end Go.Proofs.YtmajfepbbeecjaaGreat
