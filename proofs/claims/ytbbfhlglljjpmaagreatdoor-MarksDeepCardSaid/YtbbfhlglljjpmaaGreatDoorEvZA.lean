import Derived.Test.YtbbfhlglljjpmaaGreatDoorEvZ
import Derived.Lib.Builder
namespace Go.Ev
open Go
set_option linter.unusedVariables false
set_option linter.unusedSectionVars false
set_option linter.unusedSimpArgs false
noncomputable def memN (f : Nat) (l : List Nat) : Bool :=
  List.rec (motive := fun _ => Bool) false (fun a _ ih => match Nat.beq a f with
    | true => true
    | false => ih) l
theorem memN_mem {f : Nat} : ∀ {l : List Nat}, memN f l = true → f ∈ l
  | [], h => by cases h
  | a :: r, h => by
    have e : memN f (a :: r) = (match Nat.beq a f with
      | true => true
      | false => memN f r) := rfl
    rw [e] at h
    split at h
    · rename_i h1
      have h1 := Nat.eq_of_beq_eq_true h1
      subst h1
      exact List.mem_cons_self
    · exact List.mem_cons_of_mem _ (memN_mem h)
/-- Functions that hand their one argument back, ahead of other plug-ins. -/
noncomputable def idX (ids : List Nat) (X : Nat → AVs → Option AV) (f : Nat) (l : AVs) : Option AV := match memN f ids with
  | true => match l with
    | .cons v .nil => some v
    | _ => none
  | false => X f l
section
variable {P : Program} [Theta]
theorem idX_ok {ids : List Nat} {X : Nat → AVs → Option AV} (h : ∀ f ∈ ids, ExtOK P f Extern.AbiNoEscape.same) (hX : XOK P X) : XOK P (idX ids X) := by
  intro f l v he σ vs w hsz hv
  unfold idX at he
  split at he
  · rename_i hm
    split at he
    · rename_i u
      obtain rfl := Option.some.inj he
      simp only [VRs] at hv
      obtain ⟨x, xs, rfl, hx, rfl⟩ := hv
      exact h f (memN_mem hm) _ _ _ (Lib.run_noEscape (P := P) (w := w) x) _ ⟨hx, .refl _ _⟩
    · cases he
  · exact hX f l v he σ vs w hsz hv
end
end Go.Ev
