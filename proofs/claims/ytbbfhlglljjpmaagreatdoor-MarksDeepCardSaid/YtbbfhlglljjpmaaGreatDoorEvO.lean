import Derived.Test.YtbbfhlglljjpmaaGreatDoorEvN
namespace Go.Ev
open Go
set_option linter.unusedVariables false
variable [Theta]
set_option linter.unusedSectionVars false
set_option linter.unusedSimpArgs false

def compGd (ops : Array Oper) : Option (Nat × Bool) → Option (Option (Nat × Bool))
  | none => some none
  | some (j, b) => match (ops[j]?).bind (·.dst) with
    | some t => some (some (t, b))
    | none => none
def compA (P : Program) (nt : Nat) (ops : Array Oper) (o : Oper) : Option AOp := match compGd ops o.guard with
  | none => none
  | some g => match o.dst with
    | none => some ⟨none, g, (compOp P o).getD .bad⟩
    | some d => if d < nt then some ⟨some d, g, (compOp P o).getD .bad⟩ else none
def compL (P : Program) (nt : Nat) (ops : Array Oper) : List Oper → Option (List AOp)
  | [] => some []
  | o :: r => match compA P nt ops o with
    | none => none
    | some a => match compL P nt ops r with
      | none => none
      | some l => some (a :: l)

/-- What a call comes to. -/
def Does (P : Program) (f : Nat) (vs : Array Value) (w : World) (R : Value → World → Prop) : Prop :=
  (∃ x w', (callFunc f vs).run P w = .ok (.value x) w' ∧ R x w') ∨
  ((callFunc f vs).run P w = .ok (.enter f vs) w ∧ Calls P f vs w fun e w' => ∃ x, e = .returned x ∧ R x w')
def CallOK (P : Program) (n0 : Nat) (call : CallT) : Prop :=
  ∀ f l s v s', call f l s = some (v, s') → s.nxt ≤ s'.nxt ∧ ∀ (p : Px), p.n0 = n0 → p.ng = P.globals.size → s'.nxt ≤ p.lim → ∀ σ vs w, VRs σ l vs → HR p σ s w →
    Does P f vs.toArray w fun x w' => ∃ σ', VR σ' v x ∧ Good p σ s w σ' s' w'

theorem appA_sound {σ : Env} : ∀ {l m : AVs} {xs ys : List Value}, VRs σ l xs → VRs σ m ys → VRs σ (appA l m) (xs ++ ys)
  | .nil, m, xs, ys, h, k => by simp only [VRs] at h; subst h; exact k
  | .cons a t, m, xs, ys, h, k => by
    simp only [VRs] at h
    obtain ⟨z, zs, rfl, h1, h2⟩ := h
    simp only [appA, VRs, List.cons_append]
    exact ⟨z, _, rfl, h1, appA_sound h2 k⟩

section
variable {P : Program} {p : Px} {σ : Env} {s : St} {w : World} {T : Tr AV} {a : Act} {call : CallT}

theorem evOp_nxt {n0 : Nat} (hcall : CallOK P n0 call) {ai : AI} {s' : St} {v : AV} (h : evOp call n0 ai T s = some (v, s')) : s.nxt ≤ s'.nxt := by
  unfold evOp at h
  split at h
  · split at h
    · cases h
    · exact (hcall _ _ _ _ _ h).1
  · split at h
    · split at h
      · cases h
      · exact (hcall _ _ _ _ _ h).1
    · split at h
      · cases h
      · exact (hcall _ _ _ _ _ h).1
    · cases h
  · split at h
    · split at h
      · split at h
        · cases h
        · exact (hcall _ _ _ _ _ h).1
      · cases h
    · cases h
  · exact evAI_nxt h
theorem stepOp_nxt {n0 : Nat} (hcall : CallOK P n0 call) {o : AOp} {T' : Tr AV} {s' : St} (h : stepOp call n0 o T s = some (T', s')) : s.nxt ≤ s'.nxt := by
  unfold stepOp at h
  split at h
  · cases h
  · split at h
    · cases h
    · rename_i he
      obtain ⟨_, rfl⟩ := Prod.mk.inj (Option.some.inj h)
      exact evOp_nxt hcall he
  · obtain ⟨_, rfl⟩ := Prod.mk.inj (Option.some.inj h)
    exact Nat.le_refl _

theorem cons_get0 (x : Value) (ys : Array Value) : (#[x] ++ ys)[0]? = some x := by
  rw [Array.getElem?_append_left (by simp)]; rfl
theorem cons_ext (x : Value) (ys : Array Value) : (#[x] ++ ys).extract 1 (#[x] ++ ys).size = ys := by
  apply Array.ext'
  simp
theorem methF_sound {name : String} {t f : Nat} (h : methF P name t = some f) {v : Value} {w : World} (fuel : Nat) : (method (fuel + 1) t v name).run P w = .ok (f, v) w := by
  unfold methF at h
  split at h
  · cases h
  · rename_i i hi
    split at h
    · cases h
    · rename_i m hm
      split at h
      · rename_i hp
        split at h
        · cases h
        · rename_i g hf
          split at h
          · rename_i e hu
            obtain rfl := Option.some.inj h
            simp [method, typeInfo, program, hi, hm, hp, follow, hf, receiverAt, run_underlying hu, Place.get, Sem.run]
          · cases h
        · rename_i g hf
          split at h
          · cases h
          · rename_i d hd hu
            obtain rfl := Option.some.inj h
            cases d <;> first
              | exact (hd _ rfl).elim
              | simp [method, typeInfo, program, hi, hm, hp, follow, hf, receiverAt, run_underlying hu, Place.get, Sem.run]
          · cases h
      · cases h
/-- An operation, run. -/
theorem op_sound (hcall : CallOK P p.n0 call) (h : Rel P p σ T s a w) {o : Oper} {ai : AI} (hc : compOp P o = some ai) {v : AV} {s' : St} (he : evOp call p.n0 ai T s = some (v, s')) (hL : s'.nxt ≤ p.lim)
    {next : Act → World → Prop} {Q : Exit → Act → World → Prop} (hk : ∀ x σ' w', VR σ' v x → Good p σ s w σ' s' w' → next (a.put o.dst x) w') : o.wp P a w next Q := by
  have does : ∀ (f : Nat) (vs : List Value) (l : AVs), VRs σ l vs → call f l s = some (v, s') → (execOp a.eval o).run P w = (callFunc f vs.toArray).run P w → o.wp P a w next Q := by
    intro f vs l hvs hcl hex
    rcases (hcall f l s v s' hcl).2 p rfl h.ng hL σ vs w hvs h.h with ⟨x, w', h1, σ', h2, h3⟩ | ⟨h1, h2⟩
    · unfold Oper.wp
      rw [hex, h1]
      exact hk x σ' w' h2 h3
    · unfold Oper.wp
      rw [hex, h1]
      refine Calls.mono h2 ?_
      rintro e w' ⟨x, rfl, σ', h3, h4⟩
      exact hk x σ' w' h3 h4
  have base : evAI p.n0 ai T s = some (v, s') → o.wp P a w next Q := by
    intro he
    obtain ⟨x, σ', w', hr, hv, hg⟩ := ai_sound h hc he hL
    unfold Oper.wp
    rcases hr with hr | ⟨hr, rfl⟩
    · rw [hr]; exact hk x σ' w' hv hg
    · rw [hr]; exact hk _ σ' w' hv hg
  unfold evOp at he
  split at he
  · rename_i f args
    split at he
    · cases he
    · rename_i l hl
      have ho : ∃ c, o.op = .call c ∧ c.callee = .value (.func f) ∧ oL P c.args.toList = some args := by
        unfold compOp at hc
        cases hop : o.op <;> rw [hop] at hc <;> dsimp only at hc
        case call c =>
          obtain ⟨callee, as, ts⟩ := c
          dsimp only at hc
          split at hc
          · obtain ⟨l, h1, h2⟩ := Option.map_eq_some_iff.1 hc
            cases h2
            exact ⟨_, rfl, rfl, h1⟩
          all_goals (exfalso; revert hc; (try unfold binC); (repeat' split) <;> simp)
        all_goals (exfalso; revert hc; (try unfold binC); (repeat' split) <;> simp)
      obtain ⟨c, ho, hcal, hal⟩ := ho
      refine does f (c.args.toList.map a.eval) l (oL_sound h hal hl) he ?_
      have e : resolve a.eval c o.type = pure { target := .fn (.func f) #[], args := #[] ++ c.args.map a.eval } := by
        unfold resolve; rw [hcal]; rfl
      simp only [execOp, ho, e, Sem.run_bind, Sem.run_pure, Result.andThen_ok, invoke]
      congr 2
      apply Array.ext'
      simp
  · rename_i x args
    split at he
    · rename_i f caps hx
      split at he
      · cases he
      · rename_i l hl
        have ho : ∃ c y, o.op = .call c ∧ c.callee = .value y ∧ oo P y = some x ∧ oL P c.args.toList = some args := by
          unfold compOp at hc
          cases hop : o.op <;> rw [hop] at hc <;> dsimp only at hc
          case call c =>
            obtain ⟨callee, as, ts⟩ := c
            dsimp only at hc
            split at hc
            · exfalso; revert hc; simp
            · rename_i y _
              split at hc
              · rename_i x' l' h1 h2
                cases hc
                exact ⟨_, _, rfl, rfl, h1, h2⟩
              · cases hc
            all_goals (exfalso; revert hc; (try unfold binC); (repeat' split) <;> simp)
          all_goals (exfalso; revert hc; (try unfold binC); (repeat' split) <;> simp)
        obtain ⟨c, y, ho, hcal, hy, hal⟩ := ho
        have hfv := oo_sound h hy hx
        simp only [VR] at hfv
        obtain ⟨vs, hfe, hvs⟩ := hfv
        refine does f (c.args.toList.map a.eval ++ vs.toList) _ (appA_sound (oL_sound h hal hl) hvs) he ?_
        have e : resolve a.eval c o.type = pure { target := .fn (.func f) vs, args := #[] ++ c.args.map a.eval } := by
          unfold resolve; rw [hcal]; simp only [hfe]; rfl
        simp only [execOp, ho, e, Sem.run_bind, Sem.run_pure, Result.andThen_ok, invoke]
        congr 2
        simp
    · rename_i f fi hx
      split at he
      · cases he
      · rename_i l hl
        have ho : ∃ c y, o.op = .call c ∧ c.callee = .value y ∧ oo P y = some x ∧ oL P c.args.toList = some args := by
          unfold compOp at hc
          cases hop : o.op <;> rw [hop] at hc <;> dsimp only at hc
          case call c =>
            obtain ⟨callee, as, ts⟩ := c
            dsimp only at hc
            split at hc
            · exfalso; revert hc; simp
            · rename_i y _
              split at hc
              · rename_i x' l' h1 h2
                cases hc
                exact ⟨_, _, rfl, rfl, h1, h2⟩
              · cases hc
            all_goals (exfalso; revert hc; (try unfold binC); (repeat' split) <;> simp)
          all_goals (exfalso; revert hc; (try unfold binC); (repeat' split) <;> simp)
        obtain ⟨c, y, ho, hcal, hy, hal⟩ := ho
        have hfv := oo_sound h hy hx
        simp only [VR] at hfv
        obtain ⟨vs, hfe, hvs⟩ := hfv
        refine does f (vs.toList ++ c.args.toList.map a.eval) _ (appA_sound hvs (oL_sound h hal hl)) he ?_
        have e : resolve a.eval c o.type = pure { target := .fn (.func f) #[], args := vs ++ c.args.map a.eval } := by
          unfold resolve; rw [hcal]; simp only [hfe]; rfl
        simp only [execOp, ho, e, Sem.run_bind, Sem.run_pure, Result.andThen_ok, invoke]
        congr 2
        apply Array.ext'
        simp
    · cases he
  · rename_i m x args
    split at he
    · rename_i t v0 hx
      split at he
      · rename_i f hm
        split at he
        · cases he
        · rename_i l hl
          have ho : ∃ c y name, o.op = .call c ∧ c.callee = .invoke y name ∧ oo P y = some x ∧ oL P c.args.toList = some args ∧ m = methF P name := by
            unfold compOp at hc
            cases hop : o.op <;> rw [hop] at hc <;> dsimp only at hc
            case call c =>
              obtain ⟨callee, as, ts⟩ := c
              dsimp only at hc
              split at hc
              · exfalso; revert hc; simp
              · exfalso; revert hc; (repeat' split) <;> simp
              · rename_i y name
                split at hc
                · rename_i x' l' h1 h2
                  cases hc
                  exact ⟨_, _, _, rfl, rfl, h1, h2, rfl⟩
                · cases hc
              all_goals (exfalso; revert hc; (try unfold binC); (repeat' split) <;> simp)
            all_goals (exfalso; revert hc; (try unfold binC); (repeat' split) <;> simp)
          obtain ⟨c, y, name, ho, hcal, hy, hal, rfl⟩ := ho
          have hfv := oo_sound h hy hx
          simp only [VR] at hfv
          obtain ⟨X, hfe, hX⟩ := hfv
          refine does f (X :: c.args.toList.map a.eval) _ (by simp only [VRs]; exact ⟨_, _, rfl, hX, oL_sound h hal hl⟩) he ?_
          have e : resolve a.eval c o.type = pure { target := .fn (.method name) #[], args := #[a.eval y] ++ c.args.map a.eval } := by
            unfold resolve; rw [hcal]
          have e2 : (invoke (.fn (.method name) #[]) (#[a.eval y] ++ c.args.map a.eval)).run P w = (callMethod (a.eval y) name (c.args.map a.eval)).run P w := by
            simp only [invoke, cons_get0, cons_ext]
          have hmeth := methF_sound (v := X) (w := w) hm (P.types.size + 99)
          have e3 : (callMethod (.iface t X) name (c.args.map a.eval)).run P w = (callFunc f (#[X] ++ c.args.map a.eval)).run P w := by
            simp only [callMethod, Sem.run_bind, program, Sem.run, Result.andThen_ok]
            rw [show P.types.size + Made.depth = P.types.size + 99 + 1 from rfl, hmeth]
            rfl
          simp only [execOp, ho, e, Sem.run_bind, Sem.run_pure, Result.andThen_ok]
          rw [e2, hfe, e3]
          congr 2
          apply Array.ext'
          simp
      · cases he
    · cases he
  · exact base he

theorem put_rel (h : TR σ T a.tmps) {d : Option Nat} (hd : ∀ k, d = some k → k < a.tmps.size) {v : AV} {x : Value} (hv : VR σ v x) : TR σ (putT T d v) (a.put d x).tmps := by
  cases d with
  | none => exact h
  | some d => exact h.put (hd d rfl) hv
theorem put_size (a : Act) (d : Option Nat) (x : Value) : (a.put d x).tmps.size = a.tmps.size := by
  cases d <;> simp [Act.put]
theorem put_defers (a : Act) (d : Option Nat) (x : Value) : (a.put d x).defers = a.defers := by
  cases d <;> simp [Act.put]

theorem VR_notbool {v : AV} {x : Value} (h : VR σ v x) (hv : ∀ b, v ≠ .b b) : ∀ b, x ≠ .bool b := by
  intro b e
  subst e
  cases v <;> simp only [VR] at h <;> first
    | exact hv _ rfl
    | (obtain ⟨_, h, _⟩ := h; cases h; done)
    | (obtain ⟨_, _, _, h⟩ := h; cases h; done)
    | (obtain ⟨_, _, _, _, _, _, h⟩ := h; cases h; done)
    | cases h

theorem wants_sound (h : Rel P p σ T s a w) {ops : Array Oper} {o : Oper} {g : Option (Nat × Bool)} (hg : compGd ops o.guard = some g) {b : Bool} (hw : wants T g = some b) : Region.wanted o (yielded ops a.tmps) = b := by
  unfold compGd at hg
  unfold Region.wanted
  split at hg
  · rename_i h0
    obtain rfl := (Option.some.inj hg).symm
    obtain rfl := Option.some.inj hw
    rw [h0]
  · rename_i j c h0
    split at hg
    · rename_i t ht
      obtain rfl := (Option.some.inj hg).symm
      rw [h0]
      simp only [wants] at hw
      split at hw
      · cases hw
      · rename_i x hx
        obtain ⟨h1, h2⟩ := h.t t _ hx
        simp only [VR] at h2
        have : yielded ops a.tmps j = some x := by
          unfold yielded
          rw [ht]
          have : a.tmps[t]? = some (.bool x) := by rw [← h2, Array.getD_eq_getD_getElem?, getElem?_pos a.tmps t h1]; rfl
          simp [this]
        simp only [this]
        have := Option.some.inj hw
        subst this
        cases c <;> cases x <;> rfl
      · rename_i v hx hnb
        obtain rfl := Option.some.inj hw
        obtain ⟨h1, h2⟩ := h.t t _ hnb
        have h3 := VR_notbool h2 (fun b e => hx b e)
        have : yielded ops a.tmps j = none := by
          unfold yielded
          rw [ht]
          have e : a.tmps[t]? = some (a.tmps.getD t undef) := by rw [Array.getD_eq_getD_getElem?, getElem?_pos a.tmps t h1]; rfl
          simp only [Option.bind_some, e]
          generalize a.tmps.getD t undef = q at h3
          cases q <;> first
            | rfl
            | exact absurd rfl (h3 _)
        simp only [this]
        cases c <;> rfl
    · cases hg

theorem compA_parts {nt : Nat} {ops : Array Oper} {o : Oper} {ao : AOp} (h : compA P nt ops o = some ao) : compGd ops o.guard = some ao.g ∧ ao.ai = (compOp P o).getD .bad ∧ ao.d = o.dst ∧ ∀ k, o.dst = some k → k < nt := by
  unfold compA at h
  split at h
  · cases h
  · rename_i g hg
    split at h
    · rename_i hd
      obtain rfl := (Option.some.inj h).symm
      exact ⟨hg, rfl, hd.symm, fun k hk => by rw [hd] at hk; cases hk⟩
    · rename_i d hd
      split at h
      · rename_i hlt
        obtain rfl := (Option.some.inj h).symm
        exact ⟨hg, rfl, hd.symm, fun k hk => by rw [hd] at hk; obtain rfl := Option.some.inj hk; exact hlt⟩
      · cases h
theorem comp_some {o : Oper} {ai : AI} (hai : ai = (compOp P o).getD .bad) {n0 : Nat} {q : AV × St} (he : evOp call n0 ai T s = some q) : compOp P o = some ai := by
  cases hc : compOp P o with
  | some x => rw [hc] at hai; rw [hai]; rfl
  | none =>
    rw [hc] at hai
    rw [hai] at he
    cases he

/-- One operation of a region. -/
theorem step_sound {nt : Nat} (hcall : CallOK P p.n0 call) (h : Rel P p σ T s a w) (hnt : nt ≤ a.tmps.size) {ops : Array Oper} {o : Oper} {ao : AOp} (hc : compA P nt ops o = some ao) {T' : Tr AV} {s' : St} (he : stepOp call p.n0 ao T s = some (T', s')) (hL : s'.nxt ≤ p.lim) :
    (Region.wanted o (yielded ops a.tmps) = false ∧ s' = s ∧ Rel P p σ T' s (a.put o.dst undef) w) ∨
    (Region.wanted o (yielded ops a.tmps) = true ∧ ∀ (next : Act → World → Prop) Q, (∀ x σ' w', Rel P p σ' T' s' (a.put o.dst x) w' → Good p σ s w σ' s' w' → next (a.put o.dst x) w') → o.wp P a w next Q) := by
  obtain ⟨hg, hai, hd, hdn⟩ := compA_parts hc
  have hdn' : ∀ k, o.dst = some k → k < a.tmps.size := fun k hk => Nat.lt_of_lt_of_le (hdn k hk) hnt
  unfold stepOp at he
  split at he
  · cases he
  · rename_i hw
    split at he
    · cases he
    · rename_i v s2 hs2
      obtain ⟨rfl, rfl⟩ := Prod.mk.inj (Option.some.inj he)
      refine .inr ⟨wants_sound h hg hw, fun next Q hk => ?_⟩
      refine op_sound hcall h (comp_some hai hs2) hs2 hL (fun x σ' w' hv hgood => hk x σ' w' ?_ hgood)
      rw [hd]
      exact ⟨put_rel (h.t.ext hgood.ext) hdn' hv, hgood.hr, h.ng, hgood.hr.n0, hgood.hr.g0⟩
  · rename_i hw
    obtain ⟨rfl, rfl⟩ := Prod.mk.inj (Option.some.inj he)
    refine .inl ⟨wants_sound h hg hw, rfl, ?_⟩
    rw [hd]
    exact ⟨put_rel h.t hdn' (by simp only [VR]; exact ⟨#[], rfl, by simp only [VRs]⟩), h.h, h.ng, h.n0, h.g0⟩

theorem evOps_nxt {n0 : Nat} (hcall : CallOK P n0 call) : ∀ (l : List AOp) {T : Tr AV} {s : St} {T' : Tr AV} {s' : St}, evOps call n0 l T s = some (T', s') → s.nxt ≤ s'.nxt
  | [], T, s, T', s', h => by obtain ⟨_, rfl⟩ := Prod.mk.inj (Option.some.inj h); exact Nat.le_refl _
  | o :: l, T, s, T', s', h => by
    have h' : (match stepOp call n0 o T s with
      | none => none
      | some (T1, s1) => evOps call n0 l T1 s1) = some (T', s') := h
    split at h'
    · cases h'
    · rename_i T1 s1 h1
      exact Nat.le_trans (stepOp_nxt hcall h1) (evOps_nxt hcall l h')

theorem evOps_sound {nt : Nat} (hcall : CallOK P p.n0 call) {ops : Array Oper} {Q : Exit → Act → World → Prop} : ∀ (os : List Oper) (l : List AOp) (hc : compL P nt ops os = some l) {T : Tr AV} {s : St} {T' : Tr AV} {s' : St} (he : evOps call p.n0 l T s = some (T', s')) (hL : s'.nxt ≤ p.lim) {σ : Env} {a : Act} {w : World}
    (h : Rel P p σ T s a w) (hnt : nt ≤ a.tmps.size) (hk : ∀ σ' a' w', Rel P p σ' T' s' a' w' → nt ≤ a'.tmps.size → a'.defers = a.defers → Good p σ s w σ' s' w' → Q .normal a' w'), wpList P ops Q os a w
  | [], l, hc, T, s, T', s', he, hL, σ, a, w, h, hnt, hk => by
    obtain rfl := (Option.some.inj hc).symm
    obtain ⟨rfl, rfl⟩ := Prod.mk.inj (Option.some.inj he)
    exact hk σ a w h hnt rfl (.refl h.h)
  | o :: os, l, hc, T, s, T', s', he, hL, σ, a, w, h, hnt, hk => by
    simp only [compL] at hc
    split at hc
    · cases hc
    · rename_i ao hao
      split at hc
      · cases hc
      · rename_i l' hl'
        obtain rfl := (Option.some.inj hc).symm
        have he' : (match stepOp call p.n0 ao T s with
          | none => none
          | some (T1, s1) => evOps call p.n0 l' T1 s1) = some (T', s') := he
        split at he'
        · cases he'
        · rename_i T1 s1 h1
          have hL1 : s1.nxt ≤ p.lim := Nat.le_trans (evOps_nxt hcall l' he') hL
          unfold wpList
          rcases step_sound hcall h hnt hao h1 hL1 with ⟨hw, rfl, hr⟩ | ⟨hw, hwp⟩
          · rw [if_neg (by rw [hw]; simp)]
            exact evOps_sound hcall os l' hl' he' hL hr (by rw [put_size]; exact hnt) (fun σ' a' w' q1 q2 q3 q4 => hk σ' a' w' q1 q2 (by rw [q3, put_defers]) q4)
          · rw [if_pos hw]
            refine .inl (hwp _ _ fun x σ1 w1 q1 q2 => ?_)
            exact evOps_sound hcall os l' hl' he' hL q1 (by rw [put_size]; exact hnt) (fun σ' a' w' r1 r2 r3 r4 => hk σ' a' w' r1 r2 (by rw [r3, put_defers]) (q2.trans r4))
end
end Go.Ev
