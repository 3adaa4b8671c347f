import Derived.Test.YtbbfhlglljjpmaaGreatDoorEvW
import Derived.Below
namespace Go.Ev
open Go
set_option linter.unusedVariables false
variable [Theta]
set_option linter.unusedSectionVars false
set_option linter.unusedSimpArgs false
section
variable {P : Program} {n0 : Nat} {more : AC → Tr AV → St → RR} {X : Nat → AVs → Option AV} {F : Nat → Option AF}

theorem TR_args {σ : Env} {l : AVs} {vs : List Value} (h : VRs σ l vs) (n : Nat) : TR σ (stC l 0 .leaf) (vs.toArray ++ Array.replicate n undef) := by
  intro t v ht
  have hl := cellsOk_lay h
  obtain ⟨x, h1, h2⟩ := hl t v ht
  have hlt : t < vs.toArray.size := by
    rcases Nat.lt_or_ge t vs.toArray.size with h' | h'
    · exact h'
    · rw [Array.getElem?_eq_none h'] at h1; cases h1
  refine ⟨by rw [Array.size_append]; omega, ?_⟩
  rw [Array.getD_eq_getD_getElem?, Array.getElem?_append_left hlt, h1]
  exact h2

/-- A function, run. -/
theorem callF_calls (hF : FOK P F) (hm : MoreOK P n0 more) {f : Nat} {l : AVs} {s : St} {v : AV} {s' : St} (hX : X f l = none) (h : callF X F more f l s = some (v, s')) : s.nxt ≤ s'.nxt ∧ (∃ fn, P.funcs[f]? = some fn ∧ (fn.name == "runtime.NumGoroutine") = false ∧ fn.body.isSome = true) ∧
    ∀ (p : Px), p.n0 = n0 → p.ng = P.globals.size → s'.nxt ≤ p.lim → ∀ σ vs w, VRs σ l vs → HR p σ s w →
      Calls P f vs.toArray w fun e w' => ∃ x, e = .returned x ∧ ∃ σ', VR σ' v x ∧ Good p σ s w σ' s' w' := by
  unfold callF at h
  rw [hX] at h
  dsimp only at h
  split at h
  · cases h
  · rename_i af haf
    obtain ⟨fn, code, f1, f2, f3, f4, f5⟩ := hF f af haf
    split at h
    · cases h
    · rename_i e T1 s1 hrun
      have hr := hm.c fn.ntmps code af.body f4 _ _ _ _ _ hrun
      have fin : (e = .nrm ∨ e = .ret) → evRes af.res T1 s1 = some v → s1 = s' → s.nxt ≤ s'.nxt ∧ (∃ fn, P.funcs[f]? = some fn ∧ (fn.name == "runtime.NumGoroutine") = false ∧ fn.body.isSome = true) ∧
          ∀ (p : Px), p.n0 = n0 → p.ng = P.globals.size → s'.nxt ≤ p.lim → ∀ σ vs w, VRs σ l vs → HR p σ s w →
            Calls P f vs.toArray w fun e w' => ∃ x, e = .returned x ∧ ∃ σ', VR σ' v x ∧ Good p σ s w σ' s' w' := by
        rintro hen hres rfl
        refine ⟨hr.1, ⟨fn, f1, f2, by rw [f3]; rfl⟩, fun p hp hg hL σ vs w hvs hH => ?_⟩
        refine calls_of_wp f1 f3 ?_
        refine hr.2 p hp hg hL σ _ w ⟨TR_args hvs _, hH, hg, hH.n0, hH.g0⟩ (by simp; omega) _ (fun σ' a' w' r1 r2 r3 r4 => ?_)
        obtain ⟨x, x1, x2⟩ := evRes_sound r1 f5 hres
        rcases hen with rfl | rfl
        · exact ⟨r3, x, x2, x, rfl, σ', x1, r4⟩
        · exact ⟨r3, x, x2, x, rfl, σ', x1, r4⟩
      split at h
      · split at h
        · cases h
        · rename_i v' hv'
          obtain ⟨rfl, rfl⟩ := Prod.mk.inj (Option.some.inj h)
          exact fin (.inl rfl) hv' rfl
      · split at h
        · cases h
        · rename_i v' hv'
          obtain ⟨rfl, rfl⟩ := Prod.mk.inj (Option.some.inj h)
          exact fin (.inr rfl) hv' rfl
      · cases h

theorem callFunc_enter {f : Nat} {fn : Func} (h1 : P.funcs[f]? = some fn) (h2 : (fn.name == "runtime.NumGoroutine") = false) (h3 : fn.body.isSome = true) (vs : Array Value) (w : World) : (callFunc f vs).run P w = .ok (.enter f vs) w := by
  have h3' : fn.body.isNone = false := by cases hb : fn.body <;> simp [hb] at h3 ⊢
  unfold callFunc
  simp only [Sem.run_bind, program, Sem.run, Result.andThen_ok, h1, h2, h3', Bool.false_eq_true, if_false]
  rfl

theorem callF_ok (hF : FOK P F) (hX : XOK P X) (hm : MoreOK P n0 more) : CallOK P n0 (callF X F more) := by
  intro f l s v s' h
  cases hx : X f l with
  | some u =>
    unfold callF at h
    rw [hx] at h
    obtain ⟨rfl, rfl⟩ := Prod.mk.inj (Option.some.inj h)
    refine ⟨Nat.le_refl _, fun p hp hg hL σ vs w hvs hH => ?_⟩
    exact (hX f l u hx σ vs w (by rw [← hg]; exact hH.ng_le) hvs).mono fun x w' ⟨h1, h2⟩ => ⟨σ, h1, Good.same hH h2⟩
  | none =>
    obtain ⟨h1, ⟨fn, g1, g2, g3⟩, h2⟩ := callF_calls hF hm hx h
    refine ⟨h1, fun p hp hg hL σ vs w hvs hH => .inr ⟨callFunc_enter g1 g2 g3 _ _, h2 p hp hg hL σ vs w hvs hH⟩⟩

theorem evN_ok (hmix : P.follows .mixedOrders = true) (hF : FOK P F) (hX : XOK P X) : ∀ n, MoreOK P n0 (evN X F n0 n) := by
  intro n
  induction n with
  | zero => exact ⟨(fun _ _ _ _ _ _ _ _ _ h => nomatch h), (fun _ _ _ _ _ _ _ _ _ h => nomatch h), (fun _ _ _ _ _ _ _ _ _ _ _ _ h => nomatch h)⟩
  | succ n ih =>
    have hc := callF_ok hF hX ih
    refine ⟨fun nt code c h T s e T' s' he => evC_sound hmix hc ih code c h T s e T' s' he, fun nt code c h T s e T' s' he => ?_, fun nt code c rc r h hr T s e T' s' he => ?_⟩
    · exact evC_loop ih h (fun T s e T' s' he => evC_sound hmix hc ih code c h T s e T' s' he) he
    · exact evC_scope ih h (fun T s e T' s' he => evC_sound hmix hc ih rc r hr T s e T' s' he) he

/-- The start: ids below the number of variables are the variables. -/
def envAt (P : Program) : Env := fun b => if b < P.globals.size then some (b, 0) else none
def pxAt (P : Program) (W : World) (lim : Nat) : Px := ⟨P.globals.size, P.globals.size, W.heap.size, lim⟩
theorem start_HR {W : World} (hsz : P.globals.size ≤ W.heap.size) {H0 : Tr Blk} (hH : ∀ b k, H0.get b = some k → b < P.globals.size ∧ ∃ o, W.heap[b]? = some o ∧ BR (envAt P) 0 k o) (lim : Nat) : HR (pxAt P W lim) (envAt P) ⟨H0, P.globals.size, 0⟩ W := by
  refine ⟨fun b k hb => ?_, fun b b' k k' r κ κ' hb hb' e1 e2 => ?_, fun b h1 _ => ?_, fun b r κ h1 h2 => ?_, fun b r κ h => ?_, fun b hb => ⟨0, ?_⟩, fun b hb => by simp at hb, Nat.le_refl _, Nat.le_refl _, Nat.le_refl _, fun b k hb => (hH b k hb).1⟩
  · obtain ⟨h1, o, h2, h3⟩ := hH b k hb
    exact ⟨b, 0, o, by unfold envAt; rw [if_pos h1], h2, h3⟩
  · unfold envAt at e1 e2
    split at e1
    · split at e2
      · obtain ⟨rfl, _⟩ := Prod.mk.inj (Option.some.inj e1)
        obtain ⟨h, _⟩ := Prod.mk.inj (Option.some.inj e2)
        exact h.symm
      · cases e2
    · cases e1
  · have h1 : P.globals.size ≤ b := h1
    unfold envAt; rw [if_neg (by omega)]
  · have h1 : P.globals.size ≤ b := h1
    unfold envAt at h2; rw [if_neg (by omega)] at h2; cases h2
  · unfold envAt at h
    split at h
    · obtain ⟨rfl, _⟩ := Prod.mk.inj (Option.some.inj h); omega
    · cases h
  · have hb : b < P.globals.size := hb
    unfold envAt; rw [if_pos hb]

/-- What an evaluation says of a call. -/
def saysB (b : Bool) (r : Option (AV × St)) : Bool := match r with
  | some (.b x, _) => x == b
  | _ => false
theorem ev_top (hmix : P.follows .mixedOrders = true) (hF : FOK P F) (hX : XOK P X) {n f : Nat} {l : AVs} {H0 : Tr Blk} (hXf : X f l = none) {b : Bool} (h : saysB b (evCall X F P.globals.size n f l ⟨H0, P.globals.size, 0⟩) = true)
    {W : World} (hsz : P.globals.size ≤ W.heap.size) (hH : ∀ b k, H0.get b = some k → b < P.globals.size ∧ ∃ o, W.heap[b]? = some o ∧ BR (envAt P) 0 k o) {vs : List Value} (hvs : VRs (envAt P) l vs) :
    Calls P f vs.toArray W fun e W' => e = .returned (.bool b) ∧ RowKit.Below W.heap.size W W' := by
  unfold saysB at h
  split at h
  · rename_i x s' hev
    have hxb : x = b := by simpa using h
    subst hxb
    obtain ⟨h1, _, h2⟩ := callF_calls hF (evN_ok (n0 := P.globals.size) hmix hF hX n) hXf hev
    have hHR := start_HR hsz hH s'.nxt
    refine (h2 (pxAt P W s'.nxt) rfl rfl (Nat.le_refl _) _ vs W hvs hHR).mono ?_
    rintro e w' ⟨v, rfl, σ', hv, hg⟩
    simp only [VR] at hv
    subst hv
    refine ⟨rfl, hg.keep.os, hg.keep.tape, hg.keep.output, hg.keep.size, fun k hk => ?_⟩
    refine hg.keep.same k hk (fun b' x' κ hb' hw _ => ?_)
    have h3 := hg.hr.wlow b' hw
    have h4 := (hH b' x' hb').1
    have h3 : P.globals.size ≤ b' := h3
    omega
  · cases h
end
end Go.Ev
namespace Go.Ev
open Go
/-- The functions, compiled as they are asked for. -/
def compF (P : Program) (f : Nat) : Option AF := match P.funcs[f]? with
  | none => none
  | some fn => match fn.name == "runtime.NumGoroutine" with
    | true => none
    | false => match fn.body with
      | none => none
      | some code => match compC P fn.ntmps code with
        | none => none
        | some body => match compR P fn.results.toList with
          | none => none
          | some res => some ⟨body, res⟩
theorem compF_ok (P : Program) : FOK P (compF P) := by
  intro f af h
  unfold compF at h
  split at h
  · cases h
  · rename_i fn h1
    split at h
    · cases h
    · rename_i h2
      split at h
      · cases h
      · rename_i code h3
        split at h
        · cases h
        · rename_i body h4
          split at h
          · cases h
          · rename_i res h5
            obtain rfl := (Option.some.inj h).symm
            exact ⟨fn, code, h1, h2, h3, h4, h5⟩
end Go.Ev
