/- A log's Append, at any arguments; the model of Checkpoint. -/
import Derived.Test.YtioafhkblmebmaaWaI
import Derived.Maps.StringElems
namespace Go.Proofs.Ytioafhkblmebmaa
open Go.RowKit Go.Maps
set_option linter.unusedVariables false
set_option linter.unusedSimpArgs false

section
variable {w w' : World} {l b : Nat} {F F' : Foot} {G : Nat → Prop} {g : Lg} {d d' : Dsk} {lv : Value}
theorem lappend_any (h : LgAt w l b F G g d) (N : Nat) (hsm : d.Small N) (hN : N + 1048576 ≤ 1099511527776) (pages : Int) (v : Value) (x : List Img) (hx : ImgsAt w v x) (hs : x.length ≤ 1099511627776) :
    Calls Try.prog 12 #[.pointer (some ⟨l, 0, none⟩), .int .i64 pages, v] w fun e w' => e = .returned (.int .i64 (lappendM pages x g d).1) ∧ LgDid w l b F G (lappendM pages x g d).2.1 (lappendM pages x g d).2.2 w' := by
  by_cases ho : g.off = true
  · have e : lappendM pages x g d = (32, g, d) := by unfold lappendM; rw [if_pos ho]
    rw [e]
    refine (lappend_off h pages v ho).mono ?_
    rintro e w1 ⟨rfl, hb⟩
    exact ⟨rfl, LgDid.ofBelow h hb⟩
  have ho' : g.off = false := by simpa using ho
  by_cases hp : pages < 1 ∨ 256 < pages ∨ x.length = 0
  · have e : lappendM pages x g d = (2, g, d) := by unfold lappendM; rw [if_neg ho, if_pos hp]
    rw [e]
    refine (lappend_args h pages v x hx ho' hp).mono ?_
    rintro e w1 ⟨rfl, hb⟩
    exact ⟨rfl, LgDid.ofBelow h hb⟩
  by_cases hb : x.any imgBad = true
  · have e : lappendM pages x g d = (2, g, d) := by unfold lappendM; rw [if_neg ho, if_neg hp, if_pos hb]
    rw [e]
    refine (lappend_check h pages v x hx hs ho' (by omega) (by omega) hb).mono ?_
    rintro e w1 ⟨rfl, hb⟩
    exact ⟨rfl, LgDid.ofBelow h hb⟩
  · exact lappend_main h N hsm hN pages v x hx hs ho' (by omega) (by omega) (by simpa using hb)
set_option maxRecDepth 20000 in
theorem lappend_nil (w : World) (pages : Int) (v : Value) : Calls Try.prog 12 #[.pointer none, .int .i64 pages, v] w fun e w' => e = .returned (.int .i64 1) ∧ Below w.heap.size w w' := by
  have R := hid (lready_nil (w.alloc (.cells #[.pointer none] 27)))
  go_enter Try.func12, Try.ntmps12
  go_wp2_with (first | (go_at_call 33; refine (R.out).mono ?_; rintro e w1 ⟨rfl, rfl⟩) | go_in)
  go_ret
  exact ⟨rfl, (Below.refl _ _).alloc (Nat.le_refl _) _⟩
end

/-! ### Checkpoint -/
def ckPages (l : List Fr) (P : Nat) : List LgM := (List.range P).filterMap fun i => (lastAt l ((i + 1 : Nat) : Int) l.length).map (lpageM ((i + 1 : Nat) : Int))
def ckHead (g : Lg) : Hd := ⟨IntKind.u64.wrap (g.head.number + 1), 0, g.head.pages⟩
def ckSteps (g : Lg) : List LgM := lmendM :: (ckPages g.list g.head.pages.toNat ++ [lcutM g.head.pages, lsync0M, lputsM (ckHead g) true, lsyncM])
def lcheckM : LgM := fun g d =>
  if g.off then (32, g, d) else if g.list.length = 0 then (0, g, d)
  else if (lstepsM (ckSteps g) g d).1 ≠ 0 then lstepsM (ckSteps g) g d
  else (0, { (lstepsM (ckSteps g) g d).2.1 with head := ckHead g, list := [], pair := startP (ckHead g).number }, (lstepsM (ckSteps g) g d).2.2)
theorem ckPages_succ (l : List Fr) (P : Nat) : ckPages l (P + 1) = ckPages l P ++ (match lastAt l ((P + 1 : Nat) : Int) l.length with | some s => [lpageM ((P + 1 : Nat) : Int) s] | none => []) := by
  unfold ckPages
  rw [List.range_succ, List.filterMap_append]
  congr 1
  simp only [List.filterMap_cons, List.filterMap_nil]
  cases lastAt l ((P + 1 : Nat) : Int) l.length <;> rfl
theorem ckPages_length (l : List Fr) (P : Nat) : (ckPages l P).length ≤ P := by
  unfold ckPages
  exact Nat.le_trans (List.length_filterMap_le _ _) (by simp)

/-- The newest of each page, as a map: behind the first k frames. -/
def NewAt (w : World) (mb : Nat) (l : List Fr) (k : Nat) : Prop :=
  ∃ D : DataW Unit, w.ownsMap Try.prog 3 (plainElem Try.prog 9) mb k D ∧ ∀ p : Int, match lastAt l p k with
    | some s => Maps.has D (ik p) = true ∧ ∀ z, D.atKey (ik p) z = .lit (.string s)
    | none => Maps.has D (ik p) = false
theorem newAt_nil {w : World} {mb : Nat} {l : List Fr} (h : w.ownsMap Try.prog 3 (plainElem Try.prog 9) mb 0 (.map [] : DataW Unit)) : NewAt w mb l 0 := ⟨.map [], h, fun p => rfl⟩
theorem newAt_put {w2 : World} {mb k : Nat} {l : List Fr} {D : DataW Unit} (hk : k < l.length) (hm : IsMap D)
    (h : ∀ p : Int, match lastAt l p k with | some s => Maps.has D (ik p) = true ∧ ∀ z, D.atKey (ik p) z = .lit (.string s) | none => Maps.has D (ik p) = false)
    (h2 : w2.ownsMap Try.prog 3 (plainElem Try.prog 9) mb (k + 1) (D.put (ik l[k].page) (.lit (.string l[k].data)))) : NewAt w2 mb l (k + 1) := by
  refine ⟨_, h2, fun p => ?_⟩
  by_cases e : l[k].page = p
  · subst e
    rw [lastAt_hit hk rfl]
    exact ⟨has_put_same hm (ik_key _) _, fun z => atKey_put_same hm (ik_key _) _ _⟩
  · rw [lastAt_miss hk e]
    have hp := h p
    have hne : ik p ≠ ik l[k].page := ik_ne (fun x => e x.symm)
    revert hp
    cases lastAt l p k with
    | some s => exact fun hp => ⟨by rw [has_put_other hne]; exact hp.1, fun z => by rw [atKey_put_other hne]; exact hp.2 z⟩
    | none =>
      intro hp
      show Maps.has _ (ik p) = false
      rw [has_put_other hne]
      exact hp
end Go.Proofs.Ytioafhkblmebmaa
