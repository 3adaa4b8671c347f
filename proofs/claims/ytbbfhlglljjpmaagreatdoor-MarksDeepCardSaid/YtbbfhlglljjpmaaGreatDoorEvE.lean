import Derived.Test.YtbbfhlglljjpmaaGreatDoorEvD
namespace Go.Ev
open Go
set_option linter.unusedVariables false
variable [Theta]
set_option linter.unusedSectionVars false
set_option linter.unusedSimpArgs false

def TR (σ : Env) (T : Tr AV) (tmps : Array Value) : Prop := ∀ t v, T.get t = some v → t < tmps.size ∧ VR σ v (tmps.getD t undef)
theorem TR.ext {σ σ' : Env} (h : σ.Ext σ') {T : Tr AV} {tmps : Array Value} (k : TR σ T tmps) : TR σ' T tmps := fun t v e => ⟨(k t v e).1, (k t v e).2.ext h⟩
theorem TR.put {σ : Env} {T : Tr AV} {a : Act} (k : TR σ T a.tmps) {d : Nat} (hd : d < a.tmps.size) {v : AV} {x : Value} (h : VR σ v x) : TR σ (T.set d (some v)) (a.put (some d) x).tmps := by
  intro t u e
  rw [Tr.get_set] at e
  show t < (a.tmps.setIfInBounds d x).size ∧ VR σ u ((a.tmps.setIfInBounds d x).getD t undef)
  by_cases ht : t = d
  · subst ht
    rw [if_pos rfl] at e
    obtain rfl := Option.some.inj e
    refine ⟨by simpa using hd, ?_⟩
    rw [Array.getD_eq_getD_getElem?, Array.getElem?_setIfInBounds_self_of_lt hd]
    exact h
  · rw [if_neg ht] at e
    obtain ⟨h1, h2⟩ := k t u e
    refine ⟨by simpa using h1, ?_⟩
    rw [Array.getD_eq_getD_getElem?, Array.getElem?_setIfInBounds_ne (Ne.symm ht), ← Array.getD_eq_getD_getElem?]
    exact h2

theorem cvL_sound {f : Value → Option AV} (hf : ∀ v a, f v = some a → ∀ σ, VR σ a v) : ∀ (l : List Value) (r : AVs), cvL f l = some r → ∀ σ, VRs σ r l
  | [], r, h, σ => by obtain rfl := (Option.some.inj h).symm; simp only [VRs]
  | v :: l, r, h, σ => by
    simp only [cvL] at h
    split at h
    · cases h
    · rename_i a ha
      split at h
      · cases h
      · rename_i q hq
        obtain rfl := (Option.some.inj h).symm
        simp only [VRs]
        exact ⟨v, l, rfl, hf v a ha σ, cvL_sound hf l q hq σ⟩
theorem cv_sound : ∀ (m : Nat) (v : Value) (a : AV), cv m v = some a → ∀ σ, VR σ a v := by
  intro m
  induction m with
  | zero => intro v a h; cases h
  | succ m ih =>
    intro v a h σ
    unfold cv at h
    split at h <;> first
      | (obtain rfl := (Option.some.inj h).symm; simp only [VR]; done)
      | (obtain rfl := (Option.some.inj h).symm; simp only [VR]; exact ⟨_, rfl, rfl, rfl⟩)
      | cases h
      | skip
    case h_8 =>
      rename_i f fi cs
      split at h
      · rename_i hfi
        obtain ⟨r, hr, rfl⟩ := Option.map_eq_some_iff.1 h
        have : fi = #[] := by simpa using hfi
        subst this
        simp only [VR]
        exact ⟨cs, rfl, cvL_sound ih _ _ hr σ⟩
      · cases h
    case h_9 =>
      obtain ⟨r, hr, rfl⟩ := Option.map_eq_some_iff.1 h
      simp only [VR]
      exact ⟨_, rfl, cvL_sound ih _ _ hr σ⟩
    case h_10 =>
      obtain ⟨r, hr, rfl⟩ := Option.map_eq_some_iff.1 h
      simp only [VR]
      exact ⟨_, rfl, cvL_sound ih _ _ hr σ⟩
    case h_11 =>
      obtain ⟨r, hr, rfl⟩ := Option.map_eq_some_iff.1 h
      simp only [VR]
      exact ⟨_, rfl, ih _ _ hr σ⟩

section
variable {P : Program} {p : Px} {σ : Env} {s : St} {w : World} {T : Tr AV} {a : Act}

structure Rel (P : Program) (p : Px) (σ : Env) (T : Tr AV) (s : St) (a : Act) (w : World) : Prop where
  t : TR σ T a.tmps
  h : HR p σ s w
  ng : p.ng = P.globals.size
  n0 : p.n0 ≤ s.nxt
  g0 : p.ng ≤ s.nxt

theorem oo_sound (h : Rel P p σ T s a w) {x : Operand} {o : O} (hx : oo P x = some o) {v : AV} (hv : evO T o = some v) : VR σ v (a.eval x) := by
  cases x with
  | tmp t =>
    obtain rfl := (Option.some.inj hx).symm
    exact (h.t t v hv).2
  | const c =>
    simp only [oo] at hx
    obtain ⟨r, hr, rfl⟩ := Option.map_eq_some_iff.1 hx
    obtain rfl := (Option.some.inj hv).symm
    exact cv_sound _ _ _ hr σ
  | global g =>
    simp only [oo] at hx
    split at hx
    · rename_i hg
      obtain rfl := (Option.some.inj hx).symm
      obtain rfl := (Option.some.inj hv).symm
      obtain ⟨κ, hκ⟩ := h.h.glob g (by rw [h.ng]; exact hg)
      simp only [VR]
      exact ⟨g, κ, hκ, rfl⟩
    · cases hx
  | func f =>
    obtain rfl := (Option.some.inj hx).symm
    obtain rfl := (Option.some.inj hv).symm
    simp only [VR, VRs]
    exact ⟨#[], rfl, rfl⟩

theorem oL_sound (h : Rel P p σ T s a w) : ∀ {l : List Operand} {r : List O} (hx : oL P l = some r) {v : AVs} (hv : evOs T r = some v), VRs σ v (l.map a.eval)
  | [], r, hx, v, hv => by
    obtain rfl := (Option.some.inj hx).symm
    obtain rfl := (Option.some.inj hv).symm
    simp only [VRs, List.map_nil]
  | x :: l, r, hx, v, hv => by
    simp only [oL] at hx
    split at hx
    · cases hx
    · rename_i o ho
      split at hx
      · cases hx
      · rename_i q hq
        obtain rfl := (Option.some.inj hx).symm
        rw [evOs_cons] at hv
        split at hv
        · cases hv
        · rename_i u hu
          split at hv
          · cases hv
          · rename_i us hus
            obtain rfl := (Option.some.inj hv).symm
            simp only [VRs, List.map_cons]
            exact ⟨_, _, rfl, oo_sound h ho hu, oL_sound h hq hus⟩

/-- What running an operation comes to. -/
def Ran (P : Program) (o : Oper) (a : Act) (w : World) (x : Value) (w' : World) : Prop :=
  (execOp a.eval o).run P w = .ok (.value x) w' ∨ ((execOp a.eval o).run P w = .ok .skip w' ∧ x = undef)
def Sound (P : Program) (p : Px) (σ : Env) (s : St) (w : World) (o : Oper) (a : Act) (v : AV) (s' : St) : Prop :=
  ∃ x σ' w', Ran P o a w x w' ∧ VR σ' v x ∧ Good p σ s w σ' s' w'
theorem Sound.same {o : Oper} {v : AV} {x : Value} (h : Rel P p σ T s a w) (hr : (execOp a.eval o).run P w = .ok (.value x) w) (hv : VR σ v x) : Sound P p σ s w o a v s :=
  ⟨x, σ, w, .inl hr, hv, .refl h.h⟩

theorem run_val {α β : Type} {m : Sem α} {f : α → β} {x : α} {w' : World} (h : m.run P w = .ok x w') : (do pure (f (← m)) : Sem β).run P w = .ok (f x) w' := by
  simp [h]

theorem pure1_some {v : AV} {s' : St} {q : Option AV} (h : pure1 s q = some (v, s')) : q = some v ∧ s' = s := by
  cases q with
  | none => cases h
  | some q => obtain ⟨rfl, rfl⟩ := Prod.mk.inj (Option.some.inj h); exact ⟨rfl, rfl⟩

theorem snd_mv (h : Rel P p σ T s a w) {o : Oper} {x : Operand} (ho : o.op = .move x ∨ o.op = .assign x) {ai : AI} (hc : compOp P o = some ai) {v : AV} {s' : St} (he : evAI p.n0 ai T s = some (v, s')) : Sound P p σ s w o a v s' := by
  have hc' : (oo P x).map AI.mv = some ai := by rcases ho with ho | ho <;> (unfold compOp at hc; rw [ho] at hc; exact hc)
  obtain ⟨y, hy, rfl⟩ := Option.map_eq_some_iff.1 hc'
  obtain ⟨h1, rfl⟩ := pure1_some he
  refine .same h ?_ (oo_sound h hy h1)
  rcases ho with ho | ho <;> simp [execOp, ho]

theorem snd_pick (h : Rel P p σ T s a w) {o : Oper} {c x y : Operand} (ho : o.op = .pick c x y) {ai : AI} (hc : compOp P o = some ai) {v : AV} {s' : St} (he : evAI p.n0 ai T s = some (v, s')) : Sound P p σ s w o a v s' := by
  unfold compOp at hc; rw [ho] at hc
  dsimp only at hc
  split at hc
  · rename_i c' x' y' h1 h2 h3
    obtain rfl := (Option.some.inj hc).symm
    simp only [evAI] at he
    split at he
    · rename_i hb
      obtain ⟨h4, rfl⟩ := pure1_some he
      have hcv := oo_sound h h1 hb
      simp only [VR] at hcv
      refine .same h ?_ (oo_sound h h2 h4)
      simp [execOp, ho, hcv, asBool]
    · rename_i hb
      obtain ⟨h4, rfl⟩ := pure1_some he
      have hcv := oo_sound h h1 hb
      simp only [VR] at hcv
      refine .same h ?_ (oo_sound h h3 h4)
      simp [execOp, ho, hcv, asBool]
    · cases he
  · cases hc

theorem snd_un (h : Rel P p σ T s a w) {o : Oper} {op : UnOp} {t : TypeId} {x : Operand} (ho : o.op = .unOp op t x) {ai : AI} (hc : compOp P o = some ai) {v : AV} {s' : St} (he : evAI p.n0 ai T s = some (v, s')) : Sound P p σ s w o a v s' := by
  unfold compOp at hc; rw [ho] at hc
  obtain ⟨y, hy, rfl⟩ := Option.map_eq_some_iff.1 hc
  simp only [evAI] at he
  split at he
  · cases he
  · rename_i u hu
    obtain ⟨h1, rfl⟩ := pure1_some he
    have hv := oo_sound h hy hu
    unfold evUn at h1
    split at h1
    · obtain rfl := (Option.some.inj h1).symm
      simp only [VR] at hv
      refine .same h (x := .int _ _) ?_ (by simp only [VR]; rfl)
      simp [execOp, ho, hv, Op.unary, Op.intArith, wr_eq]
    · obtain rfl := (Option.some.inj h1).symm
      simp only [VR] at hv
      refine .same h (x := .bool _) ?_ (by simp only [VR]; rfl)
      simp [execOp, ho, hv, Op.unary]
    · cases h1
end
end Go.Ev
