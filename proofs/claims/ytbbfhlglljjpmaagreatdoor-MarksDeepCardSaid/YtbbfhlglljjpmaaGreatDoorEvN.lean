import Derived.Test.YtbbfhlglljjpmaaGreatDoorEvM
namespace Go.Ev
open Go
set_option linter.unusedVariables false
variable [Theta]
set_option linter.unusedSectionVars false
set_option linter.unusedSimpArgs false

theorem evSt_nxt {n0 b off : Nat} {l : AVs} {s s' : St} (h : evSt n0 b off l s = some s') : s'.nxt = s.nxt := by
  unfold evSt at h
  repeat' split at h
  all_goals first
    | contradiction
    | (obtain rfl := (Option.some.inj h).symm; rfl)
theorem pure1_nxt {s s' : St} {q : Option AV} {v : AV} (h : pure1 s q = some (v, s')) : s.nxt ≤ s'.nxt := by
  obtain ⟨_, rfl⟩ := pure1_some h; exact Nat.le_refl _
theorem growA_nxt {e esz bytes need cap : Nat} {old new : AVs} {s s' : St} {v : AV} (h : growA e esz bytes old new need cap s = some (v, s')) : s.nxt ≤ s'.nxt := by
  unfold growA at h
  repeat' split at h
  all_goals first
    | contradiction
    | (obtain ⟨_, rfl⟩ := Prod.mk.inj (Option.some.inj h); exact Nat.le_succ _)
theorem evApp_nxt {n0 e esz bytes : Nat} {s s' : St} {x y v : AV} (h : evApp n0 e esz bytes s x y = some (v, s')) : s.nxt ≤ s'.nxt := by
  unfold evApp at h
  repeat' split at h
  all_goals first
    | contradiction
    | exact growA_nxt h
    | (obtain ⟨_, rfl⟩ := Prod.mk.inj (Option.some.inj h); exact Nat.le_refl _)
    | (obtain ⟨_, rfl⟩ := Prod.mk.inj (Option.some.inj h); exact Nat.le_succ _)
    | (obtain ⟨_, rfl⟩ := Prod.mk.inj (Option.some.inj h); rename_i hs _; exact Nat.le_of_eq (evSt_nxt (by assumption)).symm)
    | (obtain ⟨_, rfl⟩ := Prod.mk.inj (Option.some.inj h); exact Nat.le_of_eq (evSt_nxt (by assumption)).symm)
theorem evAppz_nxt {e esz bytes m : Nat} {z : AVs} {s s' : St} {x v : AV} (h : evAppz e esz bytes z s x m = some (v, s')) : s.nxt ≤ s'.nxt := by
  unfold evAppz at h
  repeat' split at h
  all_goals first
    | contradiction
    | exact growA_nxt h
theorem evCpy_nxt {n0 esz : Nat} {s s' : St} {x y v : AV} (h : evCpy n0 esz s x y = some (v, s')) : s.nxt ≤ s'.nxt := by
  unfold evCpy at h
  repeat' split at h
  all_goals first
    | contradiction
    | (obtain ⟨_, rfl⟩ := Prod.mk.inj (Option.some.inj h); exact Nat.le_refl _)
    | (obtain ⟨_, rfl⟩ := Prod.mk.inj (Option.some.inj h); exact Nat.le_of_eq (evSt_nxt (by assumption)).symm)
theorem evMks_nxt {e esz bytes : Nat} {z : AVs} {s s' : St} {l c v : AV} (h : evMks e esz bytes z s l c = some (v, s')) : s.nxt ≤ s'.nxt := by
  unfold evMks at h
  repeat' split at h
  all_goals first
    | contradiction
    | (obtain ⟨_, rfl⟩ := Prod.mk.inj (Option.some.inj h); exact Nat.le_succ _)
theorem evAI_nxt {n0 : Nat} {ai : AI} {T : Tr AV} {s s' : St} {v : AV} (h : evAI n0 ai T s = some (v, s')) : s.nxt ≤ s'.nxt := by
  unfold evAI at h
  repeat' split at h
  all_goals first
    | contradiction
    | exact pure1_nxt h
    | exact evApp_nxt h
    | exact evAppz_nxt h
    | exact evCpy_nxt h
    | exact evMks_nxt h
    | (obtain ⟨_, rfl⟩ := Prod.mk.inj (Option.some.inj h); exact Nat.le_refl _)
    | (obtain ⟨_, rfl⟩ := Prod.mk.inj (Option.some.inj h); exact Nat.le_succ _)
    | (obtain ⟨_, rfl⟩ := Prod.mk.inj (Option.some.inj h); exact Nat.le_of_eq (evSt_nxt (by assumption)).symm)

/-! Operations, one after another -/
abbrev CallT := Nat → AVs → St → Option (AV × St)
def appA : AVs → AVs → AVs
  | .nil, l => l
  | .cons a t, l => .cons a (appA t l)
/-- An operation, calls among them. -/
noncomputable def evOp (call : CallT) (n0 : Nat) (ai : AI) (T : Tr AV) (s : St) : Option (AV × St) := match ai with
  | .call f args => match evOs T args with
    | none => none
    | some l => call f l s
  | .calv x args => match evO T x with
    | some (.f f caps) => match evOs T args with
      | none => none
      | some l => call f (appA l caps) s
    | some (.fm f fi) => match evOs T args with
      | none => none
      | some l => call f (appA fi l) s
    | _ => none
  | .inv m x args => match evO T x with
    | some (.ifc t v) => match m t with
      | some f => match evOs T args with
        | none => none
        | some l => call f (.cons v l) s
      | none => none
    | _ => none
  | ai => evAI n0 ai T s
noncomputable def putT (T : Tr AV) (d : Option Nat) (v : AV) : Tr AV := match d with
  | none => T
  | some d => T.set d (some v)
/-- Is it wanted? -/
noncomputable def wants (T : Tr AV) (g : Option (Nat × Bool)) : Option Bool := match g with
  | none => some true
  | some (t, b) => match T.get t with
    | none => none
    | some (.b x) => some (match b with | true => x | false => !x)
    | some _ => some false
noncomputable def stepOp (call : CallT) (n0 : Nat) (o : AOp) (T : Tr AV) (s : St) : Option (Tr AV × St) := match wants T o.g with
  | none => none
  | some true => match evOp call n0 o.ai T s with
    | none => none
    | some (v, s') => some (putT T o.d v, s')
  | some false => some (putT T o.d (.tup .nil), s)
noncomputable def evOps (call : CallT) (n0 : Nat) (l : List AOp) : Tr AV → St → Option (Tr AV × St) :=
  List.rec (motive := fun _ => Tr AV → St → Option (Tr AV × St)) (fun T s => some (T, s)) (fun o _ ih T s => match stepOp call n0 o T s with
    | none => none
    | some (T', s') => ih T' s') l
end Go.Ev
