import Derived.Test.YtbbfhlglljjpmaaGreatDoorEvY
namespace Go.Ev
open Go
set_option linter.unusedVariables false
set_option linter.unusedSectionVars false
set_option linter.unusedSimpArgs false

def wit (a n : Int) : Int := if a.tmod n < 0 then a.tmod n + n else a.tmod n
theorem wit_range (a n : Int) (h : 0 < n) : 0 ≤ wit a n ∧ wit a n < n := by
  unfold wit
  have h1 := Int.tmod_lt_of_pos a h
  have h2 : -n < a.tmod n := by
    have := Int.tmod_lt_of_pos (-a) h
    rw [Int.neg_tmod] at this
    omega
  split <;> omega

section
variable [Theta]
/-- Plug-ins: the extern functions alone. -/
noncomputable def extX (idx cmp : Nat) (f : Nat) (l : AVs) : Option AV := match Nat.beq f idx with
  | true => xIdx l
  | false => match Nat.beq f cmp with
    | true => xCmp l
    | false => none
noncomputable def look (i n : Nat) (tab : List (Nat × Nat × Nat)) : Option Nat :=
  List.rec (motive := fun _ => Option Nat) none (fun q _ ih => match Nat.beq q.1 i with
    | true => match Nat.beq q.2.1 n with
      | true => some q.2.2
      | false => ih
    | false => ih) tab
theorem look_mem {i n k : Nat} : ∀ {tab : List (Nat × Nat × Nat)}, look i n tab = some k → (i, n, k) ∈ tab
  | [], h => by cases h
  | q :: r, h => by
    have e : look i n (q :: r) = (match Nat.beq q.1 i with
      | true => match Nat.beq q.2.1 n with
        | true => some q.2.2
        | false => look i n r
      | false => look i n r) := rfl
    rw [e] at h
    split at h
    · rename_i h1
      split at h
      · rename_i h2
        have h1 := Nat.eq_of_beq_eq_true h1
        have h2 := Nat.eq_of_beq_eq_true h2
        obtain rfl := Option.some.inj h
        subst h1; subst h2
        exact List.mem_cons_self
      · exact List.mem_cons_of_mem _ (look_mem h)
    · exact List.mem_cons_of_mem _ (look_mem h)
/-- The extern functions, 'known' that answers true, 'within' by a table. -/
noncomputable def plugX (idx cmp kn wi : Nat) (tab : List (Nat × Nat × Nat)) (f : Nat) (l : AVs) : Option AV := match Nat.beq f idx with
  | true => xIdx l
  | false => match Nat.beq f cmp with
    | true => xCmp l
    | false => match Nat.beq f kn with
      | true => match l with
        | .nil => some (.b true)
        | _ => none
      | false => match Nat.beq f wi with
        | true => match l with
          | .cons (.opq i) (.cons (.i .i64 (.ofNat n)) .nil) => match look i n tab with
            | some k => some (.i .i64 (.ofNat k))
            | none => none
          | _ => none
        | false => none

end
section
variable {P : Program}
def ExtOK (P : Program) (f : Nat) (e : Array Value → Sem Value) : Prop := ∀ (vs : Array Value) (w : World) (x : Value), (e vs).run P w = .ok x w → ∀ R : Value → World → Prop, R x w → Does P f vs w R
theorem extOK_of {f : FuncId} {fn : Func} {e : Array Value → Sem Value} (hf : P.funcs[f]? = some fn) (hname : (fn.name == "runtime.NumGoroutine") = false) (hb : fn.body.isNone = true) (hn : Extern.findNext fn = none) (he : Extern.find fn = some e) : ExtOK P f e := by
  letI : Theta := ⟨fun _ => 0⟩
  exact fun _ _ _ h _ hR => extern_does hf hname hb hn he h hR
def KnOK (P : Program) (kn : Nat) : Prop := ∀ w : World, P.globals.size ≤ w.heap.size → Calls P kn #[] w fun e w' => e = .returned (.bool true) ∧ RowKit.Below w.heap.size w w'
def WiOK (P : Program) (wi : Nat) : Prop := ∀ (a n : Int) (w : World), 1 ≤ n → n ≤ 4000000000 → Calls P wi #[.int .i64 a, .int .i64 n] w fun e w' => e = .returned (.int .i64 (wit a n)) ∧ w = w'
def EntOK (P : Program) (f : Nat) : Prop := ∀ (vs : Array Value) (w : World), (callFunc f vs).run P w = .ok (.enter f vs) w
theorem entOK_of {f : Nat} {fn : Func} (h1 : P.funcs[f]? = some fn) (h2 : (fn.name == "runtime.NumGoroutine") = false) (h3 : fn.body.isSome = true) : EntOK P f := by
  letI : Theta := ⟨fun _ => 0⟩
  exact fun vs w => callFunc_enter h1 h2 h3 vs w
variable [Theta]
theorem extX_ok {idx cmp : Nat} (h1 : ExtOK P idx Extern.BytealgIndexByte.indexByte) (h2 : ExtOK P cmp Extern.BytealgCompare.compare) : XOK P (extX idx cmp) := by
  intro f l v h σ vs w _ hv
  unfold extX at h
  split at h
  · rename_i hf
    obtain rfl := Nat.eq_of_beq_eq_true hf
    obtain ⟨x, q1, q2⟩ := xIdx_sound (P := P) (w := w) h hv
    exact h1 _ _ _ q1 _ ⟨q2, .refl _ _⟩
  · split at h
    · rename_i hf
      obtain rfl := Nat.eq_of_beq_eq_true hf
      obtain ⟨x, q1, q2⟩ := xCmp_sound (P := P) (w := w) h hv
      exact h2 _ _ _ q1 _ ⟨q2, .refl _ _⟩
    · cases h
def TabOK (tab : List (Nat × Nat × Nat)) : Prop := ∀ q ∈ tab, 1 ≤ q.2.1 ∧ q.2.1 ≤ 4000000000 ∧ wit (Theta.th q.1) q.2.1 = q.2.2
theorem plugX_ok {idx cmp kn wi : Nat} {tab : List (Nat × Nat × Nat)} (h1 : ExtOK P idx Extern.BytealgIndexByte.indexByte) (h2 : ExtOK P cmp Extern.BytealgCompare.compare)
    (hk : KnOK P kn) (ek : EntOK P kn) (hw : WiOK P wi) (ew : EntOK P wi) (ht : TabOK tab) : XOK P (plugX idx cmp kn wi tab) := by
  intro f l v h σ vs w hsz hv
  unfold plugX at h
  split at h
  · rename_i hf
    obtain rfl := Nat.eq_of_beq_eq_true hf
    obtain ⟨x, q1, q2⟩ := xIdx_sound (P := P) (w := w) h hv
    exact h1 _ _ _ q1 _ ⟨q2, .refl _ _⟩
  · split at h
    · rename_i hf
      obtain rfl := Nat.eq_of_beq_eq_true hf
      obtain ⟨x, q1, q2⟩ := xCmp_sound (P := P) (w := w) h hv
      exact h2 _ _ _ q1 _ ⟨q2, .refl _ _⟩
    · split at h
      · rename_i hf
        obtain rfl := Nat.eq_of_beq_eq_true hf
        split at h
        · obtain rfl := Option.some.inj h
          simp only [VRs] at hv
          subst hv
          refine .inr ⟨ek _ _, (hk w hsz).mono ?_⟩
          rintro e w' ⟨rfl, hb⟩
          exact ⟨_, rfl, by simp only [VR], hb⟩
        · cases h
      · split at h
        · rename_i hf
          obtain rfl := Nat.eq_of_beq_eq_true hf
          split at h
          · rename_i i n
            split at h
            · rename_i k hl
              obtain rfl := Option.some.inj h
              simp only [VRs, VR] at hv
              obtain ⟨x, xs, rfl, rfl, y, ys, rfl, rfl, rfl⟩ := hv
              obtain ⟨t1, t2, t3⟩ := ht _ (look_mem hl)
              simp only at t1 t2
              refine .inr ⟨ew _ _, (hw _ _ w (by simp only [Int.ofNat_eq_natCast]; omega) (by simp only [Int.ofNat_eq_natCast]; omega)).mono ?_⟩
              rintro e w' ⟨rfl, rfl⟩
              refine ⟨_, rfl, ?_, .refl _ _⟩
              simp only [VR]
              simp only at t3
              rw [Int.ofNat_eq_natCast, t3]
              rfl
            · cases h
          · cases h
        · cases h
end
end Go.Ev
