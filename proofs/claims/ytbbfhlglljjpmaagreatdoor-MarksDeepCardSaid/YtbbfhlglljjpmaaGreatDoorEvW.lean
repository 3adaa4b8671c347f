import Derived.Test.YtbbfhlglljjpmaaGreatDoorEvV
import Derived.Below
namespace Go.Ev
open Go
set_option linter.unusedVariables false
variable [Theta]
set_option linter.unusedSectionVars false
set_option linter.unusedSimpArgs false
section
variable {P : Program} {n0 : Nat} {call : CallT} {more : AC → Tr AV → St → RR}

/-- What an evaluation promises of a way of running (W: of an exit's post). -/
def Runs (P : Program) (n0 nt : Nat) (T : Tr AV) (s : St) (e : EX) (T' : Tr AV) (s' : St) (W : (Exit → Act → World → Prop) → Act → World → Prop) : Prop :=
  s.nxt ≤ s'.nxt ∧ ∀ (p : Px), p.n0 = n0 → p.ng = P.globals.size → s'.nxt ≤ p.lim → ∀ σ a w, Rel P p σ T s a w → nt ≤ a.tmps.size → ∀ Q : Exit → Act → World → Prop,
    (∀ σ' a' w', Rel P p σ' T' s' a' w' → nt ≤ a'.tmps.size → a'.defers = a.defers → Good p σ s w σ' s' w' → Q e.to a' w') → W Q a w
def RunsC (P : Program) (n0 nt : Nat) (T : Tr AV) (s : St) (e : EX) (T' : Tr AV) (s' : St) (code : Code) : Prop := Runs P n0 nt T s e T' s' fun Q a w => code.wp P Q a w
def RunsL (P : Program) (n0 nt : Nat) (T : Tr AV) (s : St) (e : EX) (T' : Tr AV) (s' : St) (code : Code) : Prop := ∃ n, Runs P n0 nt T s e T' s' fun Q a w => Code.rounds P code Q n a w
def RunsS (P : Program) (n0 nt : Nat) (T : Tr AV) (s : St) (e : EX) (T' : Tr AV) (s' : St) (code rc : Code) : Prop := ∃ m, Runs P n0 nt T s e T' s' fun Q a w => Scoped P code Q m rc a w

structure MoreOK (P : Program) (n0 : Nat) (more : AC → Tr AV → St → RR) : Prop where
  c : ∀ nt code c, compC P nt code = some c → ∀ T s e T' s', more c T s = .ok e T' s' → RunsC P n0 nt T s e T' s' code
  l : ∀ nt code c, compC P nt code = some c → ∀ T s e T' s', more (.loop c) T s = .ok e T' s' → RunsL P n0 nt T s e T' s' code
  s : ∀ nt code c rc r, compC P nt code = some c → compC P nt rc = some r → ∀ T s e T' s', more (.inscope c r) T s = .ok e T' s' → RunsS P n0 nt T s e T' s' code rc

/-- Two ways of running, one behind the other. -/
theorem Runs.seq {nt : Nat} {T T1 T' : Tr AV} {s s1 s' : St} {e1 e : EX} {W W1 W2 : (Exit → Act → World → Prop) → Act → World → Prop} (h1 : Runs P n0 nt T s e1 T1 s1 W1) (h2 : Runs P n0 nt T1 s1 e T' s' W2)
    (hW : ∀ (Q : Exit → Act → World → Prop) a w, W1 (fun ex a' w' => ex = e1.to ∧ W2 Q a' w') a w → W Q a w) : Runs P n0 nt T s e T' s' W := by
  refine ⟨Nat.le_trans h1.1 h2.1, fun p hp hg hL σ a w hr hnt Q hk => hW Q a w ?_⟩
  refine h1.2 p hp hg (Nat.le_trans h2.1 hL) σ a w hr hnt _ (fun σ1 a1 w1 r1 n1 d1 g1 => ⟨rfl, ?_⟩)
  exact h2.2 p hp hg hL σ1 a1 w1 r1 n1 Q (fun σ' a' w' r2 n2 d2 g2 => hk σ' a' w' r2 n2 (d2.trans d1) (g1.trans g2))
theorem Runs.map {nt : Nat} {T T' : Tr AV} {s s' : St} {e1 e : EX} {W W1 : (Exit → Act → World → Prop) → Act → World → Prop} (h1 : Runs P n0 nt T s e1 T' s' W1)
    (hW : ∀ (Q : Exit → Act → World → Prop) a w, W1 (fun ex a' w' => ex = e1.to ∧ Q e.to a' w') a w → W Q a w) : Runs P n0 nt T s e T' s' W := by
  refine ⟨h1.1, fun p hp hg hL σ a w hr hnt Q hk => hW Q a w ?_⟩
  exact h1.2 p hp hg hL σ a w hr hnt _ (fun σ1 a1 w1 r1 n1 d1 g1 => ⟨rfl, hk σ1 a1 w1 r1 n1 d1 g1⟩)

theorem evC_loop {nt : Nat} (hm : MoreOK P n0 more) {code : Code} {c : AC} (hc : compC P nt code = some c) (ih : ∀ T s e T' s', evC call n0 more c T s = .ok e T' s' → RunsC P n0 nt T s e T' s' code) {T : Tr AV} {s : St} {e : EX} {T' : Tr AV} {s' : St}
    (h : evC call n0 more (.loop c) T s = .ok e T' s') : RunsL P n0 nt T s e T' s' code := by
  have h' : (match evC call n0 more c T s with
      | .no => .no
      | .ok e T' s' => match e with
        | .nrm => more (.loop c) T' s'
        | e => .ok e T' s') = RR.ok e T' s' := h
  split at h'
  · cases h'
  · rename_i e1 T1 s1 h1
    have r1 := ih _ _ _ _ _ h1
    split at h'
    · obtain ⟨n, r2⟩ := hm.l nt code c hc _ _ _ _ _ h'
      refine ⟨n + 1, Runs.seq r1 r2 (fun Q a w hw => ?_)⟩
      rw [rounds_succ]
      refine wp_mono hw (fun ex a' w' hq => ?_)
      obtain ⟨rfl, hq⟩ := hq
      exact hq
    · rename_i hne
      cases h'
      refine ⟨1, Runs.map r1 (fun Q a w hw => ?_)⟩
      rw [rounds_succ]
      refine wp_mono hw (fun ex a' w' hq => ?_)
      obtain ⟨rfl, hq⟩ := hq
      cases e <;> first
        | exact (hne rfl).elim
        | exact hq

theorem evC_scope {nt : Nat} (hm : MoreOK P n0 more) {code rc : Code} {c r : AC} (hc : compC P nt code = some c) (ih : ∀ T s e T' s', evC call n0 more r T s = .ok e T' s' → RunsC P n0 nt T s e T' s' rc) {T : Tr AV} {s : St} {e : EX} {T' : Tr AV} {s' : St}
    (h : (match evC call n0 more r T s with
      | .no => RR.no
      | .ok e T' s' => match e with
        | .goto l => match findL c l with
          | some r => more (.inscope c r) T' s'
          | none => .ok (.goto l) T' s'
        | e => .ok e T' s') = .ok e T' s') : RunsS P n0 nt T s e T' s' code rc := by
  split at h
  · cases h
  · rename_i e1 T1 s1 h1
    have r1 := ih _ _ _ _ _ h1
    split at h
    · rename_i l
      split at h
      · rename_i r2 hf
        rcases comp_find (P := P) (nt := nt) l code c hc with ⟨g1, g2⟩ | ⟨rc2, r2', g1, g2, g3⟩
        · rw [g2] at hf; cases hf
        · rw [g2] at hf
          obtain rfl := Option.some.inj hf
          obtain ⟨m, r3⟩ := hm.s nt code c rc2 r2' hc g3 _ _ _ _ _ h
          refine ⟨m + 1, Runs.seq r1 r3 (fun Q a w hw => ?_)⟩
          refine wp_mono hw (fun ex a' w' hq => ?_)
          obtain ⟨rfl, hq⟩ := hq
          simp only [EX.to, g1]
          exact hq
      · rename_i hf
        cases h
        rcases comp_find (P := P) (nt := nt) l code c hc with ⟨g1, g2⟩ | ⟨rc2, r2', g1, g2, g3⟩
        · refine ⟨1, Runs.map r1 (fun Q a w hw => ?_)⟩
          refine wp_mono hw (fun ex a' w' hq => ?_)
          obtain ⟨rfl, hq⟩ := hq
          simp only [EX.to, g1]
          exact hq
        · rw [g2] at hf; cases hf
    · rename_i hne
      cases h
      refine ⟨1, Runs.map r1 (fun Q a w hw => ?_)⟩
      refine wp_mono hw (fun ex a' w' hq => ?_)
      obtain ⟨rfl, hq⟩ := hq
      cases e <;> first
        | exact (hne _ rfl).elim
        | exact hq

theorem evC_sound {nt : Nat} (hmix : P.follows .mixedOrders = true) (hcall : CallOK P n0 call) (hm : MoreOK P n0 more) : ∀ (code : Code) (c : AC), compC P nt code = some c → ∀ T s e T' s', evC call n0 more c T s = .ok e T' s' → RunsC P n0 nt T s e T' s' code := by
  have here : ∀ {T s e}, ∀ {W : (Exit → Act → World → Prop) → Act → World → Prop}, (∀ (Q : Exit → Act → World → Prop) a w, Q e.to a w → W Q a w) → Runs P n0 nt T s e T s W := by
    intro T s e W hW
    exact ⟨Nat.le_refl _, fun p hp hg hL σ a w hr hnt Q hk => hW Q a w (hk σ a w hr hnt rfl (.refl hr.h))⟩
  intro code
  induction code with
  | skip => intro c h T s e T' s' he; simp only [compC] at h; obtain rfl := (Option.some.inj h).symm; cases he; exact here fun Q a w hq => wp_skip hq
  | ret => intro c h T s e T' s' he; simp only [compC] at h; obtain rfl := (Option.some.inj h).symm; cases he; exact here fun Q a w hq => wp_ret hq
  | exit n => intro c h T s e T' s' he; simp only [compC] at h; obtain rfl := (Option.some.inj h).symm; cases he; exact here fun Q a w hq => wp_exit hq
  | goto n => intro c h T s e T' s' he; simp only [compC] at h; obtain rfl := (Option.some.inj h).symm; cases he; exact here fun Q a w hq => wp_goto hq
  | label n => intro c h T s e T' s' he; simp only [compC] at h; obtain rfl := (Option.some.inj h).symm; cases he; exact here fun Q a w hq => wp_label hq
  | region id ops draw =>
    intro c h T s e T' s' he
    cases draw with
    | false =>
      simp only [compC] at h
      obtain ⟨l, hl, rfl⟩ := Option.map_eq_some_iff.1 h
      have he' : (match evOps call n0 l T s with
        | none => RR.no
        | some (T', s') => .ok .nrm T' s') = .ok e T' s' := he
      split at he'
      · cases he'
      · rename_i T1 s1 h1
        cases he'
        refine ⟨evOps_nxt hcall l h1, fun p hp hg hL σ a w hr hnt Q hk => ?_⟩
        subst hp
        exact wp_region_list (evOps_sound hcall ops.toList l hl h1 hL hr hnt (fun σ' a' w' q1 q2 q3 q4 => hk σ' a' w' q1 q2 q3 q4))
    | true =>
      simp only [compC] at h
      split at h
      · rename_i hok
        simp only [Bool.and_eq_true] at hok
        obtain ⟨l, hl, rfl⟩ := Option.map_eq_some_iff.1 h
        have he' : (match evDraw call n0 (compD P nt ops (Region.before ops).toList 0 l) T s with
          | none => RR.no
          | some (T', s') => .ok .nrm T' s') = .ok e T' s' := he
        split at he'
        · cases he'
        · rename_i T1 s1 h1
          cases he'
          refine ⟨?_, fun p hp hg hL σ a w hr hnt Q hk => ?_⟩
          · unfold evDraw at h1
            split at h1
            · cases h1
            · rename_i rs hrs
              obtain ⟨rfl, rfl⟩ := Prod.mk.inj (Option.some.inj h1)
              obtain ⟨new, g1, g2, g3⟩ := evD_spec (P := P) hcall (N := s.nxt) _ [] s.nxt rs hrs rfl
              simp only [List.nil_append] at g1 g3
              subst g1
              obtain ⟨hlen, hget⟩ := compL_get _ _ hl
              rw [compD_length, hlen, Array.length_toList] at g2
              have hA : DA P call nt ops (Region.before ops).toList n0 T s rs (orW rs s.W) := by
                refine ⟨befOK_spec hok.1.1, hok.1.2, g2, fun j o ho => ?_, fun j r hr b hb => (orW_spec rs s.W b).2 (.inr ⟨j, r, hr, hb⟩)⟩
                obtain ⟨ao, h1, h2⟩ := hget j o (by simpa using ho)
                have h3 := compD_get P nt ops (Region.before ops).toList l 0 j ao h1
                rw [Nat.zero_add] at h3
                obtain ⟨r, q1, q2⟩ := g3 j _ h3
                exact ⟨r, ao, q1, h2, q2⟩
              exact lastHi_ge (fun j hj => (hA.mono j hj).2)
          · subst hp
            exact draw_sound hmix hcall hok.1.1 hok.1.2 hl h1 hL hr hnt hk
      · obtain rfl := (Option.some.inj h).symm; cases he
  | seq a b iha ihb =>
    intro c h T s e T' s' he
    simp only [compC] at h
    split at h
    · rename_i a' b' ha hb
      obtain rfl := (Option.some.inj h).symm
      have he' : (match evC call n0 more a' T s with
        | .no => RR.no
        | .ok e T' s' => match e with
          | .nrm => evC call n0 more b' T' s'
          | e => .ok e T' s') = .ok e T' s' := he
      split at he'
      · cases he'
      · rename_i e1 T1 s1 h1
        have r1 := iha a' ha _ _ _ _ _ h1
        split at he'
        · have r2 := ihb b' hb _ _ _ _ _ he'
          refine Runs.seq r1 r2 (fun Q a w hw => wp_seq (wp_mono hw (fun ex a' w' hq => ?_)))
          obtain ⟨rfl, hq⟩ := hq
          exact hq
        · rename_i hne
          cases he'
          refine Runs.map r1 (fun Q a w hw => wp_seq (wp_mono hw (fun ex a' w' hq => ?_)))
          obtain ⟨rfl, hq⟩ := hq
          cases e <;> first
            | exact (hne rfl).elim
            | exact hq
    · cases h
  | cond x a b iha ihb =>
    intro c h T s e T' s' he
    simp only [compC] at h
    split at h
    · rename_i x' a' b' hx ha hb
      obtain rfl := (Option.some.inj h).symm
      have he' : (match evO T x' with
        | some (.b true) => evC call n0 more a' T s
        | some (.b false) => evC call n0 more b' T s
        | _ => RR.no) = .ok e T' s' := he
      split at he'
      · rename_i hv
        have r1 := iha a' ha _ _ _ _ _ he'
        refine ⟨r1.1, fun p hp hg hL σ a0 w hr hnt Q hk => ?_⟩
        have := oo_sound hr hx hv
        simp only [VR] at this
        exact wp_cond_true this (r1.2 p hp hg hL σ a0 w hr hnt Q hk)
      · rename_i hv
        have r1 := ihb b' hb _ _ _ _ _ he'
        refine ⟨r1.1, fun p hp hg hL σ a0 w hr hnt Q hk => ?_⟩
        have := oo_sound hr hx hv
        simp only [VR] at this
        exact wp_cond_false this (r1.2 p hp hg hL σ a0 w hr hnt Q hk)
      · cases he'
    · cases h
  | block n body ih =>
    intro c h T s e T' s' he
    simp only [compC] at h
    obtain ⟨c', hc', rfl⟩ := Option.map_eq_some_iff.1 h
    have he' : (match evC call n0 more c' T s with
      | .no => RR.no
      | .ok e T' s' => match e with
        | .exit m => match Nat.beq m n with
          | true => .ok .nrm T' s'
          | false => .ok (.exit m) T' s'
        | e => .ok e T' s') = .ok e T' s' := he
    split at he'
    · cases he'
    · rename_i e1 T1 s1 h1
      have r1 := ih c' hc' _ _ _ _ _ h1
      split at he'
      · rename_i m
        split at he'
        · rename_i hmn
          have hmn := Nat.eq_of_beq_eq_true hmn
          cases he'
          refine Runs.map r1 (fun Q a w hw => wp_block (wp_mono hw (fun ex a' w' hq => ?_)))
          obtain ⟨rfl, hq⟩ := hq
          simp only [EX.to, Exit.inBlock, hmn, if_true]
          exact hq
        · rename_i hmn
          cases he'
          refine Runs.map r1 (fun Q a w hw => wp_block (wp_mono hw (fun ex a' w' hq => ?_)))
          obtain ⟨rfl, hq⟩ := hq
          simp only [EX.to, Exit.inBlock]
          rw [if_neg (fun e => by subst e; simp at hmn)]
          exact hq
      · rename_i hne
        cases he'
        refine Runs.map r1 (fun Q a w hw => wp_block (wp_mono hw (fun ex a' w' hq => ?_)))
        obtain ⟨rfl, hq⟩ := hq
        cases e <;> first
          | exact (hne _ rfl).elim
          | exact hq
  | loop body ih =>
    intro c h T s e T' s' he
    simp only [compC] at h
    obtain ⟨c', hc', rfl⟩ := Option.map_eq_some_iff.1 h
    obtain ⟨n, r⟩ := evC_loop hm hc' (ih c' hc') he
    exact ⟨r.1, fun p hp hg hL σ a w hr hnt Q hk => wp_loop_rounds n (r.2 p hp hg hL σ a w hr hnt Q hk)⟩
  | scope body ih =>
    intro c h T s e T' s' he
    simp only [compC] at h
    obtain ⟨c', hc', rfl⟩ := Option.map_eq_some_iff.1 h
    obtain ⟨m, r⟩ := evC_scope hm hc' (ih c' hc') he
    exact ⟨r.1, fun p hp hg hL σ a w hr hnt Q hk => wp_scope_of m (r.2 p hp hg hL σ a w hr hnt Q hk)⟩
  | _ => intro c h T s e T' s' he; simp only [compC] at h; obtain rfl := (Option.some.inj h).symm; cases he

/-! Calls -/
def FOK (P : Program) (F : Nat → Option AF) : Prop := ∀ f af, F f = some af → ∃ fn code, P.funcs[f]? = some fn ∧ (fn.name == "runtime.NumGoroutine") = false ∧ fn.body = some code ∧ compC P fn.ntmps code = some af.body ∧ compR P fn.results.toList = some af.res
def XOK (P : Program) (X : Nat → AVs → Option AV) : Prop := ∀ f l v, X f l = some v → ∀ σ vs w, P.globals.size ≤ w.heap.size → VRs σ l vs → Does P f vs.toArray w fun x w' => VR σ v x ∧ RowKit.Below w.heap.size w w'

theorem HR.ng_le {p : Px} {σ : Env} {s : St} {w : World} (h : HR p σ s w) : p.ng ≤ w.heap.size := by
  rcases Nat.eq_zero_or_pos p.ng with e | e
  · omega
  · obtain ⟨κ, h1⟩ := h.glob (p.ng - 1) (by omega)
    have := h.lt _ _ _ h1
    omega
theorem Good.same {p : Px} {σ : Env} {s : St} {w w' : World} (h : HR p σ s w) (hw : RowKit.Below w.heap.size w w') : Good p σ s w σ s w' := by
  refine ⟨.refl _, ⟨fun b k hb => ?_, h.inj, h.fresh, h.low, fun b r κ e => Nat.lt_of_lt_of_le (h.lt b r κ e) hw.size, h.glob, h.wlow, Nat.le_trans h.base hw.size, h.n0, h.g0, h.dom⟩, ⟨hw.os, hw.tape, hw.output, hw.size, fun k hk _ => hw.block k hk⟩, fun _ h => h, fun b k q h _ => ⟨k, h⟩, (fun b r κ h1 h2 => nw_same h1 h2), Nat.le_refl _⟩
  obtain ⟨r, κ, o, e1, e2, e3⟩ := h.blk b k hb
  exact ⟨r, κ, o, e1, by rw [hw.block r (h.lt b r κ e1)]; exact e2, e3⟩

theorem Does.mono {f : Nat} {vs : Array Value} {w : World} {R R' : Value → World → Prop} (h : Does P f vs w R) (hr : ∀ x w', R x w' → R' x w') : Does P f vs w R' := by
  rcases h with ⟨x, w', h1, h2⟩ | ⟨h1, h2⟩
  · exact .inl ⟨x, w', h1, hr _ _ h2⟩
  · exact .inr ⟨h1, h2.mono fun e w' ⟨x, h3, h4⟩ => ⟨x, h3, hr _ _ h4⟩⟩

theorem evRs_sound {p : Px} {σ : Env} {T : Tr AV} {s : St} {a : Act} {w : World} (h : Rel P p σ T s a w) : ∀ (rv : List ResultVar) (l : List RV), compR P rv = some l → ∀ vs, evRs l T s = some vs →
    ∃ xs : List Value, VRs σ vs xs ∧ (rv.mapM (fun | .tmp t => pure (a.tmps.getD t undef) | .cell q t => do loadVar t (← asAddr (a.tmps.getD q undef)) : ResultVar → Sem Value)).run P w = .ok xs w
  | [], l, hl, vs, hv => by
    obtain rfl := (Option.some.inj hl).symm
    obtain rfl := (Option.some.inj hv).symm
    exact ⟨[], by simp only [VRs], by simp⟩
  | .tmp t :: rv, l, hl, vs, hv => by
    simp only [compR] at hl
    obtain ⟨l', hl', rfl⟩ := Option.map_eq_some_iff.1 hl
    have hv' : (match T.get t with
      | none => none
      | some v => match evRs l' T s with
        | none => none
        | some vs => some (.cons v vs)) = some vs := hv
    split at hv'
    · cases hv'
    · rename_i v hvt
      split at hv'
      · cases hv'
      · rename_i us hus
        obtain rfl := (Option.some.inj hv').symm
        obtain ⟨xs, q1, q2⟩ := evRs_sound h rv l' hl' us hus
        refine ⟨a.tmps.getD t undef :: xs, by simp only [VRs]; exact ⟨_, xs, rfl, (h.t t v hvt).2, q1⟩, ?_⟩
        simp only [List.mapM_cons, Sem.run_bind, Sem.run_pure, Result.andThen_ok, q2]
  | .cell q t :: rv, l, hl, vs, hv => by
    simp only [compR] at hl
    split at hl
    · rename_i d n l' hd hn hl'
      obtain ⟨i, hi, hi2⟩ := szOf_eq hn
      obtain rfl := (Option.some.inj hl).symm
      have fin : ∀ v, (∃ x, VR σ v x ∧ (do loadVar t (← asAddr (a.tmps.getD q undef)) : Sem Value).run P w = .ok x w) → (match evRs l' T s with
          | none => none
          | some vs => some (AVs.cons v vs)) = some vs → ∃ xs : List Value, VRs σ vs xs ∧ ((ResultVar.cell q t :: rv).mapM (fun | .tmp t => pure (a.tmps.getD t undef) | .cell q t => do loadVar t (← asAddr (a.tmps.getD q undef)) : ResultVar → Sem Value)).run P w = .ok xs w := by
        rintro v ⟨x, hx1, hx2⟩ hv'
        split at hv'
        · cases hv'
        · rename_i us hus
          obtain rfl := (Option.some.inj hv').symm
          obtain ⟨xs, q1, q2⟩ := evRs_sound h rv l' hl' us hus
          refine ⟨x :: xs, by simp only [VRs]; exact ⟨_, xs, rfl, hx1, q1⟩, ?_⟩
          rw [List.mapM_cons]
          simp only [Sem.run_bind] at hx2 ⊢
          rw [hx2]
          simp only [Result.andThen_ok, Sem.run_bind, q2, Sem.run_pure]
      by_cases hag : aggD d = true
      · rw [if_pos hag] at hv
        have hv' : (match (match T.get q with
          | some v => (evLdn n s v).map AV.agg
          | none => none) with
          | none => none
          | some v => match evRs l' T s with
            | none => none
            | some vs => some (.cons v vs)) = some vs := hv
        split at hv'
        · cases hv'
        · rename_i v hvt
          refine fin v ?_ hv'
          split at hvt
          · rename_i pv hpv
            obtain ⟨as, has, rfl⟩ := Option.map_eq_some_iff.1 hvt
            have hp := (h.t q pv hpv).2
            unfold evLdn at has
            split at has
            · split at has
              · rename_i hg
                simp only [VR] at hp
                obtain ⟨r, κ, e1, e2⟩ := hp
                subst hi2
                obtain ⟨xs, q1, q2, q3⟩ := h.h.ldn P hg e1 has
                refine ⟨.agg xs.toArray, by simp only [VR]; exact ⟨_, rfl, by simpa using q2⟩, ?_⟩
                have := run_loadVar_agg (P := P) (w := w) hd hag hi q3
                simp [e2, asAddr, this]
              · cases has
            · cases has
          · cases hvt
      · rw [if_neg hag] at hv
        have hv' : (match (match T.get q with
          | some v => evLd1 s v
          | none => none) with
          | none => none
          | some v => match evRs l' T s with
            | none => none
            | some vs => some (.cons v vs)) = some vs := hv
        split at hv'
        · cases hv'
        · rename_i v hvt
          refine fin v ?_ hv'
          split at hvt
          · rename_i pv hpv
            have hp := (h.t q pv hpv).2
            unfold evLd1 at hvt
            split at hvt
            · split at hvt
              · rename_i hg
                simp only [VR] at hp
                obtain ⟨r, κ, e1, e2⟩ := hp
                obtain ⟨x, q1, q2⟩ := h.h.ld hg e1 hvt
                refine ⟨x, q2, ?_⟩
                have := run_loadVar_one (P := P) (w := w) hd (by simpa using hag) q1
                simp [e2, asAddr, this]
              · cases hvt
            · cases hvt
          · cases hvt
    · cases hl

theorem evRes_sound {p : Px} {σ : Env} {T : Tr AV} {s : St} {a : Act} {w : World} (h : Rel P p σ T s a w) {fn : Func} {l : List RV} (hl : compR P fn.results.toList = some l) {v : AV} (hv : evRes l T s = some v) : ∃ x, VR σ v x ∧ (results fn a.tmps).run P w = .ok x w := by
  unfold evRes at hv
  have key : ∀ vs, evRs l T s = some vs → ∃ xs : List Value, VRs σ vs xs ∧ (results fn a.tmps).run P w = .ok (if h : xs.length = 1 then xs[0] else .tuple xs.toArray) w := by
    intro vs hvs
    obtain ⟨xs, q1, q2⟩ := evRs_sound h _ l hl vs hvs
    refine ⟨xs, q1, ?_⟩
    unfold results
    rw [Array.mapM_eq_mapM_toList]
    simp only [Sem.run_bind, Sem.run_map]
    generalize hm : Sem.run P (List.mapM _ fn.results.toList) w = m
    have hm' : m = .ok xs w := by rw [← hm]; exact q2
    rw [hm']
    rfl
  split at hv
  · cases hv
  · rename_i v' hvs
    obtain rfl := Option.some.inj hv
    obtain ⟨xs, q1, q2⟩ := key _ hvs
    simp only [VRs] at q1
    obtain ⟨y, ys, rfl, h1, rfl⟩ := q1
    exact ⟨y, h1, by simpa using q2⟩
  · rename_i vs hne hvs
    obtain rfl := Option.some.inj hv
    obtain ⟨xs, q1, q2⟩ := key _ hvs
    refine ⟨.tuple xs.toArray, by simp only [VR]; exact ⟨_, rfl, by simpa using q1⟩, ?_⟩
    rw [q2, dif_neg]
    intro hlen
    obtain ⟨y, rfl⟩ := List.length_eq_one_iff.1 hlen
    cases vs with
    | nil => simp only [VRs] at q1; cases q1
    | cons v t =>
      simp only [VRs] at q1
      obtain ⟨z, zs, e, _, h2⟩ := q1
      obtain ⟨rfl, rfl⟩ := List.cons.inj e
      cases t with
      | nil => exact hne v rfl
      | cons b t => simp only [VRs] at h2; obtain ⟨_, _, e, _⟩ := h2; cases e
end
end Go.Ev
