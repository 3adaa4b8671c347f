import Derived.Test.YtbbfhlglljjpmaaGreatDoorEvU
import Derived.LoopN
import Derived.Scope
namespace Go.Ev
open Go
set_option linter.unusedVariables false
variable [Theta]
set_option linter.unusedSectionVars false
set_option linter.unusedSimpArgs false

inductive EX where
  | nrm
  | ret
  | exit (n : Nat)
  | goto (n : Nat)
def EX.to : EX → Exit
  | .nrm => .normal
  | .ret => .ret
  | .exit n => .exit n
  | .goto n => .goto n
inductive RR where
  | no
  | ok (e : EX) (T : Tr AV) (s : St)

def findL : AC → Nat → Option AC
  | .seq a b, l => match findL a l with
    | some r => some (.seq r b)
    | none => findL b l
  | .lbl l', l => if l' == l then some .skip else none
  | _, _ => none

noncomputable def evC (call : CallT) (n0 : Nat) (more : AC → Tr AV → St → RR) (c : AC) : Tr AV → St → RR :=
  AC.rec (motive := fun _ => Tr AV → St → RR)
    (fun T s => .ok .nrm T s)
    (fun T s => .ok .ret T s)
    (fun n T s => .ok (.exit n) T s)
    (fun n T s => .ok (.goto n) T s)
    (fun _ T s => .ok .nrm T s)
    (fun l T s => match evOps call n0 l T s with
      | none => .no
      | some (T', s') => .ok .nrm T' s')
    (fun l T s => match evDraw call n0 l T s with
      | none => .no
      | some (T', s') => .ok .nrm T' s')
    (fun _ _ iha ihb T s => match iha T s with
      | .no => .no
      | .ok e T' s' => match e with
        | .nrm => ihb T' s'
        | e => .ok e T' s')
    (fun c _ _ iha ihb T s => match evO T c with
      | some (.b true) => iha T s
      | some (.b false) => ihb T s
      | _ => .no)
    (fun n _ ih T s => match ih T s with
      | .no => .no
      | .ok e T' s' => match e with
        | .exit m => match Nat.beq m n with
          | true => .ok .nrm T' s'
          | false => .ok (.exit m) T' s'
        | e => .ok e T' s')
    (fun c ih T s => match ih T s with
      | .no => .no
      | .ok e T' s' => match e with
        | .nrm => more (.loop c) T' s'
        | e => .ok e T' s')
    (fun c ih T s => match ih T s with
      | .no => .no
      | .ok e T' s' => match e with
        | .goto l => match findL c l with
          | some r => more (.inscope c r) T' s'
          | none => .ok (.goto l) T' s'
        | e => .ok e T' s')
    (fun c _ _ ihr T s => match ihr T s with
      | .no => .no
      | .ok e T' s' => match e with
        | .goto l => match findL c l with
          | some r => more (.inscope c r) T' s'
          | none => .ok (.goto l) T' s'
        | e => .ok e T' s')
    (fun _ _ => .no) c

noncomputable def evRs (l : List RV) (T : Tr AV) (s : St) : Option AVs :=
  List.rec (motive := fun _ => Option AVs) (some .nil) (fun r _ ih => match (match r with
      | .tmp t => T.get t
      | .ld1 t => match T.get t with
        | some v => evLd1 s v
        | none => none
      | .ldn t n => match T.get t with
        | some v => (evLdn n s v).map .agg
        | none => none) with
    | none => none
    | some v => match ih with
      | none => none
      | some vs => some (.cons v vs)) l
noncomputable def evRes (l : List RV) (T : Tr AV) (s : St) : Option AV := match evRs l T s with
  | none => none
  | some (.cons v .nil) => some v
  | some l => some (.tup l)
noncomputable def callF (X : Nat → AVs → Option AV) (F : Nat → Option AF) (more : AC → Tr AV → St → RR) (f : Nat) (l : AVs) (s : St) : Option (AV × St) := match X f l with
  | some v => some (v, s)
  | none => match F f with
    | none => none
    | some af => match more af.body (stC l 0 .leaf) s with
      | .no => none
      | .ok e T s' => match e with
        | .nrm => match evRes af.res T s' with
          | none => none
          | some v => some (v, s')
        | .ret => match evRes af.res T s' with
          | none => none
          | some v => some (v, s')
        | _ => none
noncomputable def evN (X : Nat → AVs → Option AV) (F : Nat → Option AF) (n0 : Nat) (n : Nat) : AC → Tr AV → St → RR :=
  Nat.rec (motive := fun _ => AC → Tr AV → St → RR) (fun _ _ _ => .no) (fun _ ih c T s => evC (callF X F ih) n0 ih c T s) n
/-- A call, with so much fuel. -/
noncomputable def evCall (X : Nat → AVs → Option AV) (F : Nat → Option AF) (n0 n : Nat) : CallT := callF X F (evN X F n0 n)

def compR (P : Program) : List ResultVar → Option (List RV)
  | [] => some []
  | .tmp t :: r => (compR P r).map (.tmp t :: ·)
  | .cell a t :: r => match P.underlying t, szOf P t, compR P r with
    | some d, some n, some l => some ((if aggD d then .ldn a n else .ld1 a) :: l)
    | _, _, _ => none

/-! Scopes -/
def Scoped (P : Program) (c : Code) (Q : Exit → Act → World → Prop) : Nat → Code → Act → World → Prop
  | 0, _, _, _ => False
  | m + 1, r, a, w => r.wp P (fun e a w => match e with
    | .goto l => match findLabel c l with
      | some rest => Scoped P c Q m rest a w
      | none => Q (.goto l) a w
    | e => Q e a w) a w
theorem wp_scope_of {P : Program} {c : Code} {Q : Exit → Act → World → Prop} {a : Act} {w : World} (m : Nat) (h : Scoped P c Q m c a w) : (Code.scope c).wp P Q a w := by
  intro b k cs
  have key : ∀ m r a w, Scoped P c Q m r a w → ∃ e a' w', Q e a' w' ∧ Arrives P (lone (b.at a (.code r :: .inScope c :: k)) cs w) b k cs e a' w' := by
    intro m
    induction m with
    | zero => intro r a w h; exact h.elim
    | succ m ih =>
      intro r a w h
      obtain ⟨e, a₁, w₁, hq, harr⟩ := h b (.inScope c :: k) cs
      cases e with
      | normal => exact ⟨.normal, a₁, w₁, hq, Steps.trans harr (.one step_inScope)⟩
      | exit id => exact ⟨.exit id, a₁, w₁, hq, fun k' hk => harr k' (by simp [exitTo, hk])⟩
      | goto l =>
        cases hf : findLabel c l with
        | some rest =>
          simp only [hf] at hq
          have hg : gotoIn l (.inScope c :: k) = some (.code rest :: .inScope c :: k) := by simp [gotoIn, hf]
          obtain ⟨e₂, a₂, w₂, hq₂, harr₂⟩ := ih rest a₁ w₁ hq
          exact ⟨e₂, a₂, w₂, hq₂, .of_steps (harr _ hg) harr₂⟩
        | none =>
          simp only [hf] at hq
          exact ⟨.goto l, a₁, w₁, hq, fun k' hk => harr k' (by simp [gotoIn, hf, hk])⟩
      | ret => exact ⟨_, a₁, w₁, hq, harr⟩
      | panic ch => exact ⟨_, a₁, w₁, hq, harr⟩
      | outgrown => exact ⟨_, a₁, w₁, hq, harr⟩
  obtain ⟨e, a', w', hq, harr⟩ := key m c a w h
  exact ⟨e, a', w', hq, .of_steps (.one step_scope) harr⟩

theorem comp_find {P : Program} {nt : Nat} (l : Nat) : ∀ (code : Code) (c : AC), compC P nt code = some c → (findLabel code l = none ∧ findL c l = none) ∨ ∃ rc r, findLabel code l = some rc ∧ findL c l = some r ∧ compC P nt rc = some r := by
  intro code
  induction code with
  | seq a b iha ihb =>
    intro c h
    simp only [compC] at h
    split at h
    · rename_i a' b' ha hb
      obtain rfl := (Option.some.inj h).symm
      rcases iha a' ha with ⟨h1, h2⟩ | ⟨rc, r, h1, h2, h3⟩
      · rcases ihb b' hb with ⟨g1, g2⟩ | ⟨rc, r, g1, g2, g3⟩
        · exact .inl ⟨by simp [findLabel, h1, g1], by simp [findL, h2, g2]⟩
        · exact .inr ⟨rc, r, by simp [findLabel, h1, g1], by simp [findL, h2, g2], g3⟩
      · exact .inr ⟨.seq rc b, .seq r b', by simp [findLabel, h1], by simp [findL, h2], by simp [compC, h3, hb]⟩
    · cases h
  | label l' =>
    intro c h
    simp only [compC] at h
    obtain rfl := (Option.some.inj h).symm
    by_cases hl : l' = l
    · exact .inr ⟨.skip, .skip, by simp [findLabel, hl], by simp [findL, hl], rfl⟩
    · exact .inl ⟨by simp [findLabel, hl], by simp [findL, hl]⟩
  | region id ops draw =>
    intro c h
    cases draw with
    | false => simp only [compC] at h; obtain ⟨x, _, rfl⟩ := Option.map_eq_some_iff.1 h; exact .inl ⟨rfl, rfl⟩
    | true =>
      simp only [compC] at h
      split at h
      · obtain ⟨x, _, rfl⟩ := Option.map_eq_some_iff.1 h; exact .inl ⟨rfl, rfl⟩
      · obtain rfl := (Option.some.inj h).symm; exact .inl ⟨rfl, rfl⟩
  | cond x a b iha ihb =>
    intro c h
    simp only [compC] at h
    split at h
    · obtain rfl := (Option.some.inj h).symm; exact .inl ⟨rfl, rfl⟩
    · cases h
  | block id a ih => intro c h; simp only [compC] at h; obtain ⟨x, _, rfl⟩ := Option.map_eq_some_iff.1 h; exact .inl ⟨rfl, rfl⟩
  | loop a ih => intro c h; simp only [compC] at h; obtain ⟨x, _, rfl⟩ := Option.map_eq_some_iff.1 h; exact .inl ⟨rfl, rfl⟩
  | scope a ih => intro c h; simp only [compC] at h; obtain ⟨x, _, rfl⟩ := Option.map_eq_some_iff.1 h; exact .inl ⟨rfl, rfl⟩
  | skip => intro c h; simp only [compC] at h; obtain rfl := (Option.some.inj h).symm; exact .inl ⟨rfl, rfl⟩
  | ret => intro c h; simp only [compC] at h; obtain rfl := (Option.some.inj h).symm; exact .inl ⟨rfl, rfl⟩
  | exit n => intro c h; simp only [compC] at h; obtain rfl := (Option.some.inj h).symm; exact .inl ⟨rfl, rfl⟩
  | goto n => intro c h; simp only [compC] at h; obtain rfl := (Option.some.inj h).symm; exact .inl ⟨rfl, rfl⟩
  | _ => intro c h; simp only [compC] at h; obtain rfl := (Option.some.inj h).symm; exact .inl ⟨rfl, rfl⟩
end Go.Ev
