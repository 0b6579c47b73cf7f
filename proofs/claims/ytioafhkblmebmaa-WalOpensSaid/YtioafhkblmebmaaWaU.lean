/- Plain laws of a log: what an append leaves; pages at a mark. -/
import Derived.Test.YtioafhkblmebmaaWaP
namespace Go.Proofs.Ytioafhkblmebmaa
open Go.RowKit Go.Maps
set_option linter.unusedVariables false
set_option linter.unusedSimpArgs false

section
variable {g : Lg} {d : Dsk}
theorem steps_inv {J : Dsk → Prop} : ∀ (ms : List LgM), (∀ m ∈ ms, ∀ g d, J d → J (m g d).2.2) → ∀ g d, J d → J (lstepsM ms g d).2.2
  | [], _, g, d, h => h
  | m :: r, hm, g, d, h => by
    have h1 := hm m (by simp) g d h
    have h2 := steps_inv r (fun x hx => hm x (by simp [hx])) (m g d).2.1 (m g d).2.2 h1
    unfold lstepsM
    split
    · exact h1
    · exact h2
theorem steps_small : ∀ (ms : List LgM), (∀ m ∈ ms, ∀ g d N, d.Small N → (m g d).2.2.Small (N + 16384)) → ∀ g d N, d.Small N → (lstepsM ms g d).2.2.Small (N + 16384 * ms.length)
  | [], _, g, d, N, h => h
  | m :: r, hm, g, d, N, h => by
    have h1 := hm m (by simp) g d N h
    have h2 := steps_small r (fun x hx => hm x (by simp [hx])) (m g d).2.1 (m g d).2.2 _ h1
    unfold lstepsM
    split
    · exact h1.mono (by simp; omega)
    · exact h2.mono (by simp; omega)
theorem sync_sm (g : Lg) (d : Dsk) (N : Nat) (h : d.Small N) : (lsyncM g d).2.2.Small (N + 16384) := (sync_small h).mono (by omega)
theorem puts_sm (hd : Hd) (has : Bool) (g : Lg) (d : Dsk) (N : Nat) (h : d.Small N) : (lputsM hd has g d).2.2.Small (N + 16384) := (write_small h).mono (by omega)
theorem write_sm (s : List UInt8) (g : Lg) (d : Dsk) (N : Nat) (h : d.Small N) : (lwriteM s g d).2.2.Small (N + 16384) := (write_small h).mono (by omega)
theorem page_sm (n : Int) (s : List UInt8) (g : Lg) (d : Dsk) (N : Nat) (h : d.Small N) : (lpageM n s g d).2.2.Small (N + 16384) := (write_small h).mono (by omega)
theorem cut_sm (n : Int) (g : Lg) (d : Dsk) (N : Nat) (h : d.Small N) : (lcutM n g d).2.2.Small (N + 16384) := by
  unfold lcutM
  split
  · exact (cut_small h).mono (by omega)
  · exact h.mono (by omega)
theorem sync0_sm (g : Lg) (d : Dsk) (N : Nat) (h : d.Small N) : (lsync0M g d).2.2.Small (N + 16384) := (sync_small h).mono (by omega)
theorem mend_sm (g : Lg) (d : Dsk) (N : Nat) (h : d.Small N) : (lmendM g d).2.2.Small (N + 16384) := by
  unfold lmendM
  split
  · unfold lstepsM
    split
    · exact puts_sm g.head g.has g d _ h
    · unfold lstepsM
      have h1 : (lputsM g.head g.has g d).2.2.Small (N + 8193) := write_small h
      have h2 : (lsyncM (lputsM g.head g.has g d).2.1 (lputsM g.head g.has g d).2.2).2.2.Small (N + 8193 + 1) := sync_small h1
      split
      · exact h2.mono (by omega)
      · exact h2.mono (by omega)
  · exact h.mono (by omega)
theorem app_small (pages : Int) (x : List Img) (g : Lg) (d : Dsk) (N M : Nat) (hM : N + 131072 ≤ M) (h : d.Small N) : (lappendM pages x g d).2.2.Small M := by
  have hs : (lstepsM (appSteps g pages x) g d).2.2.Small M := (steps_small (appSteps g pages x) (by
    intro m hm
    simp only [appSteps, List.mem_cons, List.not_mem_nil, or_false] at hm
    rcases hm with rfl | rfl | rfl | rfl | rfl
    · exact mend_sm
    · exact write_sm _
    · exact sync_sm
    · exact puts_sm _ _
    · exact sync_sm) g d N h).mono (by simp only [appSteps, List.length_cons, List.length_nil]; omega)
  unfold lappendM
  split
  · exact h.mono (by omega)
  split
  · exact h.mono (by omega)
  split
  · exact h.mono (by omega)
  split
  · exact h.mono (by omega)
  split
  · exact hs
  · exact hs
theorem ckPages_mem {l : List Fr} {P : Nat} {m : LgM} (h : m ∈ ckPages l P) : ∃ n s, m = lpageM n s := by
  unfold ckPages at h
  obtain ⟨i, -, hi⟩ := List.mem_filterMap.1 h
  cases hl : lastAt l ((i + 1 : Nat) : Int) l.length with
  | none => rw [hl] at hi; cases hi
  | some s => rw [hl] at hi; cases hi; exact ⟨_, _, rfl⟩
theorem ck_small (g : Lg) (d : Dsk) (N M : Nat) (hM : N + 8388608 ≤ M) (hp : g.head.pages ≤ 256) (h : d.Small N) : (lcheckM g d).2.2.Small M := by
  have hs : (lstepsM (ckSteps g) g d).2.2.Small M := (steps_small (ckSteps g) (by
    intro m hm
    simp only [ckSteps, List.mem_cons, List.mem_append, List.not_mem_nil, or_false] at hm
    rcases hm with rfl | hm | rfl | rfl | rfl | rfl
    · exact mend_sm
    · obtain ⟨n, s, rfl⟩ := ckPages_mem hm
      exact page_sm _ _
    · exact cut_sm _
    · exact sync0_sm
    · exact puts_sm _ _
    · exact sync_sm) g d N h).mono (by
      have hl : (ckSteps g).length ≤ 300 := by
        have := ckPages_length g.list g.head.pages.toNat
        have e : (ckSteps g).length = (ckPages g.list g.head.pages.toNat).length + 4 + 1 := by simp [ckSteps]
        omega
      obtain ⟨z, hz⟩ : ∃ z, z = (ckSteps g).length := ⟨_, rfl⟩
      rw [← hz] at hl ⊢
      clear hz
      have := Nat.mul_le_mul_left 16384 hl
      exact Nat.le_trans (Nat.add_le_add_left this N) (Nat.le_trans (Nat.add_le_add_left (by decide) N) hM))
  unfold lcheckM
  split
  · exact h.mono (by omega)
  split
  · exact h.mono (by omega)
  split
  · exact hs
  · exact hs
/-- What operations on the log's file leave so, an append leaves so. -/
theorem app_inv {J : Dsk → Prop} (hw : ∀ d a s, J d → J (writeM d 1 a s).2) (hs : ∀ d, J d → J (syncM d 1).2) (pages : Int) (x : List Img) (g : Lg) (d : Dsk) (h : J d) : J (lappendM pages x g d).2.2 := by
  have hst : J (lstepsM (appSteps g pages x) g d).2.2 := steps_inv (appSteps g pages x) (by
    intro m hm
    simp only [appSteps, List.mem_cons, List.not_mem_nil, or_false] at hm
    rcases hm with rfl | rfl | rfl | rfl | rfl
    · intro g d h
      unfold lmendM
      split
      · refine steps_inv _ (fun m hm => ?_) g d h
        simp only [List.mem_cons, List.not_mem_nil, or_false] at hm
        rcases hm with rfl | rfl
        · intro g d h; exact hw _ _ _ h
        · intro g d h; exact hs _ h
      · exact h
    · intro g d h; exact hw _ _ _ h
    · intro g d h; exact hs _ h
    · intro g d h; exact hw _ _ _ h
    · intro g d h; exact hs _ h) g d h
  unfold lappendM
  split
  · exact h
  split
  · exact h
  split
  · exact h
  split
  · exact h
  split
  · exact hst
  · exact hst
theorem app_list (pages : Int) (x : List Img) (g : Lg) (d : Dsk) : (lappendM pages x g d).2.1.list = if (lappendM pages x g d).1 = 0 then g.list ++ frsOf pages x else g.list := by
  have hk := (keeps_app g pages x g d).1
  unfold lappendM
  split
  · simp
  split
  · simp
  split
  · simp
  split
  · simp
  split
  · exact hk
  · rw [if_pos rfl, hk]
theorem wrN_now {k : Nat} (a : Nat) (s : List UInt8) {f : Nat} (hf : f ≠ k) (d : Dsk) : ∀ n, (wrN d k a s n).now f = d.now f
  | 0 => rfl
  | n + 1 => by
    show put (wrN d k a s n).now k _ f = _
    unfold put
    rw [if_neg hf]
    exact wrN_now a s hf d n
theorem write_now {k : Int} (a : Int) (s : List UInt8) {f : Nat} (hf : f ≠ k.toNat) (d : Dsk) : (writeM d k a s).2.now f = d.now f := by
  unfold writeM
  split
  · rfl
  split
  · rfl
  split
  · rfl
  split
  · rfl
  · exact wrN_now _ _ hf _ _
theorem sync_now (k : Int) (d : Dsk) : (syncM d k).2.now = d.now := by
  unfold syncM
  split
  · rfl
  split
  · rfl
  · rfl
theorem app_now0 (pages : Int) (x : List Img) (g : Lg) (d : Dsk) : (lappendM pages x g d).2.2.now 0 = d.now 0 :=
  app_inv (J := fun d' => d'.now 0 = d.now 0) (fun d' a s h => (write_now a s (by decide) d').trans h) (fun d' h => (congrFun (sync_now 1 d') 0).trans h) pages x g d rfl

/-- A page at a mark, where the main file is empty. -/
def pageL (l : List Fr) (n : Int) (k : Nat) : List UInt8 := (lastAt l n k).getD (zeros 512)
theorem pageM_none (h : d.now 0 = []) (n : Int) (k : Nat) (h1 : 1 ≤ n) (h2 : n ≤ 256) (hk : k ≤ g.list.length) : pageM g d n k = (pageL g.list n k, 0) := by
  unfold pageM pageL
  rw [if_neg (by unfold pageBad; omega), Int.toNat_natCast]
  cases lastAt g.list n k with
  | some s => rfl
  | none => simp only [h]; rw [if_pos (by simp; omega)]; rfl
theorem lastAt_append (l m : List Fr) (n : Int) : ∀ k, k ≤ l.length → lastAt (l ++ m) n k = lastAt l n k
  | 0, _ => rfl
  | k + 1, h => by
    unfold lastAt
    rw [List.getElem?_append_left (by omega), lastAt_append l m n k (by omega)]
theorem pageL_append (l m : List Fr) (n : Int) (k : Nat) (h : k ≤ l.length) : pageL (l ++ m) n k = pageL l n k := by
  unfold pageL
  rw [lastAt_append l m n k h]
end
end Go.Proofs.Ytioafhkblmebmaa
