import Derived.Test.YtbbfhlglljjpmaaGreatDoorEvJU
import Derived.Laws.RangeString
import Derived.Laws.IdiomStrings
import Derived.Laws.BytesString
import Derived.Laws.MakeOwn
import Derived.Laws.Append
namespace Go.Ev
open Go
set_option linter.unusedVariables false
variable [Theta]
set_option linter.unusedSectionVars false
set_option linter.unusedSimpArgs false
section
variable {P : Program} {p : Px} {σ : Env} {s : St} {w : World} {T : Tr AV} {a : Act}

theorem oL_nil {l : List Operand} (h : oL P l = some []) : l = [] := by
  cases l with
  | nil => rfl
  | cons x r =>
    simp only [oL] at h
    split at h
    · cases h
    · split at h
      · cases h
      · cases h
theorem oL_cons {l : List Operand} {x : O} {r : List O} (h : oL P l = some (x :: r)) : ∃ y l', l = y :: l' ∧ oo P y = some x ∧ oL P l' = some r := by
  cases l with
  | nil => cases h
  | cons y l' =>
    simp only [oL] at h
    split at h
    · cases h
    · rename_i b hb
      split at h
      · cases h
      · rename_i q hq
        obtain ⟨rfl, rfl⟩ := List.cons.inj (Option.some.inj h)
        exact ⟨y, l', rfl, hb, hq⟩
theorem oL_one {l : Array Operand} {x : O} (h : oL P l.toList = some [x]) : ∃ y, l = #[y] ∧ oo P y = some x := by
  obtain ⟨y, l', h1, h2, h3⟩ := oL_cons h
  have := oL_nil h3
  subst this
  exact ⟨y, Array.ext' h1, h2⟩
theorem oL_two {l : Array Operand} {x z : O} (h : oL P l.toList = some [x, z]) : ∃ y u, l = #[y, u] ∧ oo P y = some x ∧ oo P u = some z := by
  obtain ⟨y, l', h1, h2, h3⟩ := oL_cons h
  obtain ⟨u, l'', h4, h5, h6⟩ := oL_cons h3
  have := oL_nil h6
  subst this; subst h4
  exact ⟨y, u, Array.ext' h1, h2, h5⟩

theorem run_builtin {o : Oper} {c : Call} (ho : o.op = .call c) {b : Builtin} (hb : c.callee = .builtin b) {m : Sem Value}
    (hm : builtin b c.argTypes o.type (c.args.map fun | .const _ => true | _ => false) (c.args.map a.eval) = (do pure (.value (← m)) : Sem Next)) {r : Value} {w' : World} (hr : m.run P w = .ok r w') :
    (execOp a.eval o).run P w = .ok (.value r) w' := by
  have e : resolve a.eval c o.type = pure { target := .builtin b c.argTypes o.type (c.args.map fun | .const _ => true | _ => false), args := c.args.map a.eval } := by
    unfold resolve; rw [hb]; rfl
  simp only [execOp, ho, e, Sem.run_bind, Sem.run_pure, Result.andThen_ok]
  simp only [invoke, hm, Sem.run_bind, hr, Result.andThen_ok, Sem.run_pure]

theorem types_cons {l : Array TypeId} {t : TypeId} {r : List TypeId} (h : l.toList = t :: r) : l[0]? = some t := by rw [← Array.getElem?_toList, h]; rfl

theorem snd_len (h : Rel P p σ T s a w) {o : Oper} {c : Call} (ho : o.op = .call c) (hb : c.callee = .builtin .len) {ai : AI} (hc : compOp P o = some ai) {v : AV} {s' : St} (he : evAI p.n0 ai T s = some (v, s')) : Sound P p σ s w o a v s' := by
  unfold compOp at hc; rw [ho] at hc
  simp only [hb] at hc
  split at hc
  · rename_i t ts x h1 h2
    have hts := types_cons h1
    obtain ⟨y, hy1, hy2⟩ := oL_one h2
    split at hc
    · rename_i hd
      obtain rfl := (Option.some.inj hc).symm
      simp only [evAI] at he
      split at he
      · rename_i n q hX
        obtain ⟨rfl, rfl⟩ := Prod.mk.inj (Option.some.inj he)
        have hx := oo_sound h hy2 hX
        simp only [VR] at hx
        obtain ⟨bs, e1, e2, e3⟩ := hx
        refine .same h (run_builtin ho hb rfl (r := .int .i64 (n : Int)) ?_) (by simp only [VR]; rfl)
        simp [Builtin.len_, hts, hy1, e1, run_underlying hd, goInt, e2]
      · cases he
    · rename_i e hd
      obtain rfl := (Option.some.inj hc).symm
      simp only [evAI] at he
      split at he
      · rename_i b off n c' hX
        obtain ⟨rfl, rfl⟩ := Prod.mk.inj (Option.some.inj he)
        have hx := oo_sound h hy2 hX
        simp only [VR] at hx
        obtain ⟨_, _, _, e1⟩ := hx
        refine .same h (run_builtin ho hb rfl (r := .int .i64 (n : Int)) ?_) (by simp only [VR]; rfl)
        simp [Builtin.len_, hts, hy1, e1, run_underlying hd, goInt]
      · rename_i b off n c' hX
        obtain ⟨rfl, rfl⟩ := Prod.mk.inj (Option.some.inj he)
        have hx := oo_sound h hy2 hX
        simp only [VR] at hx
        obtain ⟨_, _, _, _, e1⟩ := hx
        refine .same h (run_builtin ho hb rfl (r := .int .i64 (n : Int)) ?_) (by simp only [VR]; rfl)
        simp [Builtin.len_, hts, hy1, e1, run_underlying hd, goInt]
      · rename_i hX
        obtain ⟨rfl, rfl⟩ := Prod.mk.inj (Option.some.inj he)
        have hx := oo_sound h hy2 hX
        simp only [VR] at hx
        refine .same h (run_builtin ho hb rfl (r := .int .i64 (0 : Nat)) ?_) (by simp only [VR]; rfl)
        simp [Builtin.len_, hts, hy1, hx, run_underlying hd, goInt]
      · cases he
    · rename_i n e hd
      obtain rfl := (Option.some.inj hc).symm
      simp only [evAI, evO] at he
      obtain ⟨h1, rfl⟩ := pure1_some he
      obtain rfl := (Option.some.inj h1).symm
      refine .same h (run_builtin ho hb rfl (r := .int .i64 (n : Int)) ?_) (by simp only [VR]; rfl)
      simp [Builtin.len_, hts, hy1, run_underlying hd, goInt]
    · cases hc
  · cases hc

theorem snd_cap (h : Rel P p σ T s a w) {o : Oper} {c : Call} (ho : o.op = .call c) (hb : c.callee = .builtin .cap) {ai : AI} (hc : compOp P o = some ai) {v : AV} {s' : St} (he : evAI p.n0 ai T s = some (v, s')) : Sound P p σ s w o a v s' := by
  unfold compOp at hc; rw [ho] at hc
  simp only [hb] at hc
  split at hc
  · rename_i t ts x h1 h2
    have hts := types_cons h1
    obtain ⟨y, hy1, hy2⟩ := oL_one h2
    split at hc
    · rename_i e hd
      obtain rfl := (Option.some.inj hc).symm
      simp only [evAI] at he
      split at he
      · rename_i b off n c' hX
        obtain ⟨rfl, rfl⟩ := Prod.mk.inj (Option.some.inj he)
        have hx := oo_sound h hy2 hX
        simp only [VR] at hx
        obtain ⟨_, _, _, e1⟩ := hx
        refine .same h (run_builtin ho hb rfl (r := .int .i64 (c' : Int)) ?_) (by simp only [VR]; rfl)
        simp [Builtin.cap_, hts, hy1, e1, run_underlying hd, goInt]
      · rename_i hX
        obtain ⟨rfl, rfl⟩ := Prod.mk.inj (Option.some.inj he)
        have hx := oo_sound h hy2 hX
        simp only [VR] at hx
        refine .same h (run_builtin ho hb rfl (r := .int .i64 (0 : Nat)) ?_) (by simp only [VR]; rfl)
        simp [Builtin.cap_, hts, hy1, hx, run_underlying hd, goInt]
      · cases he
    · cases hc
  · cases hc

theorem snd_min (h : Rel P p σ T s a w) {o : Oper} {c : Call} (ho : o.op = .call c) (hb : c.callee = .builtin .min) {ai : AI} (hc : compOp P o = some ai) {v : AV} {s' : St} (he : evAI p.n0 ai T s = some (v, s')) : Sound P p σ s w o a v s' := by
  unfold compOp at hc; rw [ho] at hc
  simp only [hb] at hc
  split at hc
  · rename_i x z h2
    obtain ⟨y, u, hy1, hy2, hy3⟩ := oL_two h2
    obtain rfl := (Option.some.inj hc).symm
    simp only [evAI] at he
    split at he
    · rename_i k A hX
      split at he
      · rename_i k' B hY
        obtain ⟨rfl, rfl⟩ := Prod.mk.inj (Option.some.inj he)
        have hx := oo_sound h hy2 hX
        have hy := oo_sound h hy3 hY
        simp only [VR] at hx hy
        refine .same h (run_builtin ho hb rfl (r := .int k (if B < A then B else A)) ?_) ?_
        · simp [Builtin.min_, hy1, hx, hy, Builtin.min2]
        · simp only [VR]
          rw [ile_eq]
          by_cases hlt : A ≤ B
          · rw [if_neg (by omega), decide_eq_true hlt]
          · rw [if_pos (by omega), decide_eq_false hlt]
      · cases he
    · cases he
  · cases hc
theorem snd_max (h : Rel P p σ T s a w) {o : Oper} {c : Call} (ho : o.op = .call c) (hb : c.callee = .builtin .max) {ai : AI} (hc : compOp P o = some ai) {v : AV} {s' : St} (he : evAI p.n0 ai T s = some (v, s')) : Sound P p σ s w o a v s' := by
  unfold compOp at hc; rw [ho] at hc
  simp only [hb] at hc
  split at hc
  · rename_i x z h2
    obtain ⟨y, u, hy1, hy2, hy3⟩ := oL_two h2
    obtain rfl := (Option.some.inj hc).symm
    simp only [evAI] at he
    split at he
    · rename_i k A hX
      split at he
      · rename_i k' B hY
        obtain ⟨rfl, rfl⟩ := Prod.mk.inj (Option.some.inj he)
        have hx := oo_sound h hy2 hX
        have hy := oo_sound h hy3 hY
        simp only [VR] at hx hy
        refine .same h (run_builtin ho hb rfl (r := .int k (if A < B then B else A)) ?_) ?_
        · simp [Builtin.max_, hy1, hx, hy, Builtin.max2]
        · simp only [VR]
          rw [ile_eq]
          by_cases hlt : B ≤ A
          · rw [if_neg (by omega), decide_eq_true hlt]
          · rw [if_pos (by omega), decide_eq_false hlt]
      · cases he
    · cases he
  · cases hc

theorem nilAhead_sound {name : String} {t f : Nat} (h : methF P name t = some f) {v : Value} {w : World} (fuel : Nat) : (nilAhead (fuel + 1) t v name).run P w = .ok (some false) w := by
  unfold methF at h
  split at h
  · cases h
  · rename_i i hi
    split at h
    · cases h
    · rename_i m hm
      split at h
      · rename_i hp
        split at h
        · cases h
        · rename_i g hf
          split at h
          · rename_i e hu
            simp [nilAhead, typeInfo, program, hi, hm, hp, followBlind, hf, run_underlying hu, Sem.run]
          · cases h
        · rename_i g hf
          split at h
          · cases h
          · rename_i d hd hu
            cases d <;> first
              | exact (hd _ rfl).elim
              | simp [nilAhead, typeInfo, program, hi, hm, hp, followBlind, hf, run_underlying hu, Sem.run]
          · cases h
      · cases h
theorem snd_nilc (h : Rel P p σ T s a w) {o : Oper} {x : Operand} (ho : o.op = .nilCheck x) {ai : AI} (hc : compOp P o = some ai) {v : AV} {s' : St} (he : evAI p.n0 ai T s = some (v, s')) : Sound P p σ s w o a v s' := by
  unfold compOp at hc; rw [ho] at hc
  obtain ⟨x', h1, rfl⟩ := Option.map_eq_some_iff.1 hc
  simp only [evAI] at he
  split at he
  · rename_i b o' hX
    obtain ⟨rfl, rfl⟩ := Prod.mk.inj (Option.some.inj he)
    have hx := oo_sound h h1 hX
    have hx' := hx
    simp only [VR] at hx'
    obtain ⟨r, κ, e1, e2⟩ := hx'
    refine .same h (x := a.eval x) ?_ hx
    simp [execOp, ho, e2]
  · rename_i nm t u hX
    split at he
    · rename_i hm
      obtain ⟨rfl, rfl⟩ := Prod.mk.inj (Option.some.inj he)
      obtain ⟨f, hf⟩ := Option.isSome_iff_exists.1 hm
      have hx := oo_sound h h1 hX
      have hx' := hx
      simp only [VR] at hx'
      obtain ⟨y, e1, e2⟩ := hx'
      refine .same h (x := a.eval x) ?_ hx
      have hn := nilAhead_sound (v := y) (w := w) hf (P.types.size + 99)
      simp [execOp, ho, e1, program, Sem.run, Made.depth, hn]
    · cases he
  · cases he

theorem snd_mkf (h : Rel P p σ T s a w) {o : Oper} {fn : Fn} {fi cs : Array Operand} (ho : o.op = .makeFunc fn fi cs) {ai : AI} (hc : compOp P o = some ai) {v : AV} {s' : St} (he : evAI p.n0 ai T s = some (v, s')) : Sound P p σ s w o a v s' := by
  unfold compOp at hc; rw [ho] at hc
  dsimp only at hc
  split at hc
  · rename_i f
    split at hc
    · rename_i hfi
      obtain ⟨l, h1, rfl⟩ := Option.map_eq_some_iff.1 hc
      simp only [evAI] at he
      split at he
      · rename_i r hr
        obtain ⟨rfl, rfl⟩ := Prod.mk.inj (Option.some.inj he)
        have hx := oL_sound h h1 hr
        have : fi = #[] := by simpa using hfi
        subst this
        refine .same h (x := .func (.func f) #[] (cs.map a.eval)) ?_ (by simp only [VR]; exact ⟨_, rfl, by simpa using hx⟩)
        simp [execOp, ho, Instr.makeFunc]
      · cases he
    · split at hc
      · rename_i hcs
        obtain ⟨l, h1, rfl⟩ := Option.map_eq_some_iff.1 hc
        simp only [evAI] at he
        split at he
        · rename_i r hr
          obtain ⟨rfl, rfl⟩ := Prod.mk.inj (Option.some.inj he)
          have hx := oL_sound h h1 hr
          have : cs = #[] := by simpa using hcs
          subst this
          refine .same h (x := .func (.func f) (fi.map a.eval) #[]) ?_ (by simp only [VR]; exact ⟨_, rfl, by simpa using hx⟩)
          simp [execOp, ho, Instr.makeFunc]
        · cases he
      · cases hc
  · rename_i nm
    split at hc
    · rename_i x hfi hcs
      obtain ⟨x', h1, rfl⟩ := Option.map_eq_some_iff.1 hc
      simp only [evAI] at he
      split at he
      · rename_i t u hX
        obtain ⟨rfl, rfl⟩ := Prod.mk.inj (Option.some.inj he)
        have hx := oo_sound h h1 hX
        simp only [VR] at hx
        obtain ⟨y, e1, e2⟩ := hx
        have e3 : fi = #[x] := by simpa using congrArg List.toArray hfi
        have e4 : cs = #[] := by simpa using congrArg List.toArray hcs
        subst e3
        subst e4
        refine .same h (x := .func (.method nm) #[.iface t y] #[]) ?_ (by simp only [VR]; exact ⟨_, rfl, e2⟩)
        simp [execOp, ho, Instr.makeFunc, e1]
      · cases he
    · cases hc
  · cases hc

theorem zV_sound {t : TypeId} {z : AV} (h : zV P t = some z) (σ : Env) (w : World) : ∃ v, (zeroValue t).run P w = .ok v w ∧ VR σ z v := by
  unfold zV at h
  split at h
  · rename_i i hi
    split at h
    · rename_i v hv
      exact ⟨v, by simp [zeroValue, typeInfo, program, hi, hv, Sem.run], cv_sound _ _ _ h σ⟩
    · cases h
  · cases h
theorem snd_tas (h : Rel P p σ T s a w) {o : Oper} {x : Operand} {xt t : TypeId} {ok : Bool} (ho : o.op = .typeAssert x xt t ok) {ai : AI} (hc : compOp P o = some ai) {v : AV} {s' : St} (he : evAI p.n0 ai T s = some (v, s')) : Sound P p σ s w o a v s' := by
  unfold compOp at hc; rw [ho] at hc
  dsimp only at hc
  split at hc
  · rename_i want x' hu h1 hz
    obtain rfl := (Option.some.inj hc).symm
    obtain ⟨zv, hz1, hz2⟩ := zV_sound hz σ w
    simp only [VR] at hz2
    subst hz2
    simp only [evAI] at he
    split at he
    · rename_i u y hX
      have hx := oo_sound h h1 hX
      have hx' := hx
      simp only [VR] at hx'
      obtain ⟨X, e1, e2⟩ := hx'
      split at he
      · rename_i him
        unfold implF at him
        split at him
        · cases him
        · rename_i i hi
          have hm : Instr.missingMethod want i.methods = none := by
            have := Option.some.inj him
            split at this
            · assumption
            · cases this
          split at he
          · obtain ⟨rfl, rfl⟩ := Prod.mk.inj (Option.some.inj he)
            refine .same h (x := .tuple #[a.eval x, .bool true]) ?_ (by simp only [VR]; exact ⟨_, rfl, by simp only [VRs]; exact ⟨_, _, rfl, hx, _, _, rfl, by simp only [VR], rfl⟩⟩)
            simp [execOp, ho, Instr.typeAssert, run_underlying hu, e1, typeInfo, program, hi, hm, Sem.run]
          · obtain ⟨rfl, rfl⟩ := Prod.mk.inj (Option.some.inj he)
            refine .same h (x := a.eval x) ?_ hx
            simp [execOp, ho, Instr.typeAssert, run_underlying hu, e1, typeInfo, program, hi, hm, Sem.run]
      · rename_i him
        unfold implF at him
        split at him
        · cases him
        · rename_i i hi
          obtain ⟨m, hm⟩ : ∃ m, Instr.missingMethod want i.methods = some m := by
            have := Option.some.inj him
            split at this
            · cases this
            · exact ⟨_, by assumption⟩
          split at he
          · obtain ⟨rfl, rfl⟩ := Prod.mk.inj (Option.some.inj he)
            refine .same h (x := .tuple #[.nilIface, .bool false]) ?_ (by simp only [VR]; exact ⟨_, rfl, by simp only [VRs]; exact ⟨_, _, rfl, by simp only [VR], _, _, rfl, by simp only [VR], rfl⟩⟩)
            simp [execOp, ho, Instr.typeAssert, run_underlying hu, e1, typeInfo, program, hi, hm, hz1, Sem.run]
          · cases he
      · cases he
    · rename_i hX
      have hx := oo_sound h h1 hX
      simp only [VR] at hx
      split at he
      · obtain ⟨rfl, rfl⟩ := Prod.mk.inj (Option.some.inj he)
        refine .same h (x := .tuple #[.nilIface, .bool false]) ?_ (by simp only [VR]; exact ⟨_, rfl, by simp only [VRs]; exact ⟨_, _, rfl, by simp only [VR], _, _, rfl, by simp only [VR], rfl⟩⟩)
        simp [execOp, ho, Instr.typeAssert, run_underlying hu, hx, hz1]
      · cases he
    · cases he
  · cases hc
  · rename_i d x' z hni hd h1 hz
    obtain rfl := (Option.some.inj hc).symm
    obtain ⟨zv, hz1, hz2⟩ := zV_sound hz σ w
    simp only [evAI] at he
    split at he
    · rename_i u y hX
      have hx := oo_sound h h1 hX
      simp only [VR] at hx
      obtain ⟨X, e1, e2⟩ := hx
      split at he
      · rename_i hut
        have hut := Nat.eq_of_beq_eq_true hut
        subst hut
        split at he
        · obtain ⟨rfl, rfl⟩ := Prod.mk.inj (Option.some.inj he)
          refine .same h (x := .tuple #[X, .bool true]) ?_ (by simp only [VR]; exact ⟨_, rfl, by simp only [VRs]; exact ⟨_, _, rfl, e2, _, _, rfl, by simp only [VR], rfl⟩⟩)
          cases d <;> first
            | exact (hni _ rfl).elim
            | simp [execOp, ho, Instr.typeAssert, run_underlying hd, e1]
        · obtain ⟨rfl, rfl⟩ := Prod.mk.inj (Option.some.inj he)
          refine .same h (x := X) ?_ e2
          cases d <;> first
            | exact (hni _ rfl).elim
            | simp [execOp, ho, Instr.typeAssert, run_underlying hd, e1]
      · rename_i hut
        have hut : ¬ u = t := by intro e; subst e; simp at hut
        split at he
        · obtain ⟨rfl, rfl⟩ := Prod.mk.inj (Option.some.inj he)
          refine .same h (x := .tuple #[zv, .bool false]) ?_ (by simp only [VR]; exact ⟨_, rfl, by simp only [VRs]; exact ⟨_, _, rfl, hz2, _, _, rfl, by simp only [VR], rfl⟩⟩)
          cases d <;> first
            | exact (hni _ rfl).elim
            | simp [execOp, ho, Instr.typeAssert, run_underlying hd, e1, hut, hz1]
        · cases he
    · rename_i hX
      have hx := oo_sound h h1 hX
      simp only [VR] at hx
      split at he
      · obtain ⟨rfl, rfl⟩ := Prod.mk.inj (Option.some.inj he)
        refine .same h (x := .tuple #[zv, .bool false]) ?_ (by simp only [VR]; exact ⟨_, rfl, by simp only [VRs]; exact ⟨_, _, rfl, hz2, _, _, rfl, by simp only [VR], rfl⟩⟩)
        cases d <;> first
          | exact (hni _ rfl).elim
          | simp [execOp, ho, Instr.typeAssert, run_underlying hd, hx, hz1]
      · cases he
    · cases he
  · cases hc

theorem snd_mki (h : Rel P p σ T s a w) {o : Oper} {t : TypeId} {x : Operand} (ho : o.op = .makeInterface t x) {ai : AI} (hc : compOp P o = some ai) {v : AV} {s' : St} (he : evAI p.n0 ai T s = some (v, s')) : Sound P p σ s w o a v s' := by
  unfold compOp at hc; rw [ho] at hc
  dsimp only at hc
  split at hc
  · cases hc
  · rename_i d x' hni hd h1
    obtain rfl := (Option.some.inj hc).symm
    simp only [evAI] at he
    split at he
    · rename_i X hX
      obtain ⟨rfl, rfl⟩ := Prod.mk.inj (Option.some.inj he)
      have hx := oo_sound h h1 hX
      refine .same h (x := .iface t (a.eval x)) ?_ (by simp only [VR]; exact ⟨_, rfl, hx⟩)
      cases d <;> first
        | exact (hni _ rfl).elim
        | simp [execOp, ho, Instr.makeInterface, run_underlying hd]
    · cases he
  · cases hc

theorem sbytes_sound : ∀ (k : Nat) (l : List UInt8) (acc : AVs) (xs : List Value), l.length = k → VRs σ acc xs → VRs σ (sbytes k (bval l) acc) (l.map (fun b => Value.int .u8 b.toNat) ++ xs) := by
  intro k
  induction k with
  | zero =>
    intro l acc xs hl h
    obtain rfl := List.length_eq_zero_iff.1 hl
    exact h
  | succ k ih =>
    intro l acc xs hl h
    have hne : l ≠ [] := by intro e; subst e; simp at hl
    obtain ⟨l', b, rfl⟩ : ∃ l' b, l = l' ++ [b] := ⟨l.dropLast, l.getLast hne, (List.dropLast_concat_getLast hne).symm⟩
    simp only [List.length_append, List.length_cons, List.length_nil] at hl
    have hb : b.toNat < 256 := b.toNat_lt
    have e2 : bval (l' ++ [b]) / 256 = bval l' := by rw [bval_append]; simp only [List.length_cons, List.length_nil, bval]; omega
    have e3 : bval (l' ++ [b]) % 256 = b.toNat := by rw [bval_append]; simp only [List.length_cons, List.length_nil, bval]; omega
    have e : sbytes (k + 1) (bval (l' ++ [b])) acc = sbytes k (bval (l' ++ [b]) / 256) (.cons (.i .u8 (.ofNat (bval (l' ++ [b]) % 256))) acc) := rfl
    rw [e, e2, e3]
    have := ih l' (.cons (.i .u8 (.ofNat b.toNat)) acc) (.int .u8 b.toNat :: xs) (by omega) (by simp only [VRs, VR]; exact ⟨_, xs, rfl, rfl, h⟩)
    simpa using this
theorem sbytes_str {bs : ByteArray} {len n : Nat} (h1 : bs.size = len) (h2 : bval bs.data.toList = n) : VRs σ (sbytes len n .nil) (bs.data.toList.map (fun b => Value.int .u8 b.toNat)) := by
  have := sbytes_sound (σ := σ) len bs.data.toList .nil [] (by simpa using h1) (by simp only [VRs])
  rw [h2, List.append_nil] at this
  exact this

theorem sofA_sound : ∀ (l : AVs) (xs : List Value) (len n a' n' : Nat) (acc : ByteArray), VRs σ l xs → sofA l len n = some (a', n') → acc.size = len → bval acc.data.toList = n →
    ∃ ns : List Int, xs = ns.map (Value.int .u8) ∧ (ns.foldl (fun r n => r.push (UInt8.ofNat n.toNat)) acc).size = a' ∧ bval (ns.foldl (fun r n => r.push (UInt8.ofNat n.toNat)) acc).data.toList = n'
  | .nil, xs, len, n, a', n', acc, h, he, h1, h2 => by
    simp only [VRs] at h; subst h
    simp only [sofA] at he
    obtain ⟨rfl, rfl⟩ := Prod.mk.inj (Option.some.inj he)
    exact ⟨[], rfl, h1, h2⟩
  | .cons v l, xs, len, n, a', n', acc, h, he, h1, h2 => by
    simp only [VRs] at h
    obtain ⟨y, ys, rfl, hy, h⟩ := h
    unfold sofA at he
    split at he
    · rename_i heq; cases heq
    · rename_i q b l' heq
      obtain ⟨rfl, rfl⟩ := AVs.cons.inj heq
      split at he
      · rename_i hb
        have hb : b < 256 := by simpa [Nat.blt_eq] using hb
        simp only [VR] at hy
        have e : (UInt8.ofNat b).toNat = b := by simp; omega
        obtain ⟨ns, g1, g2, g3⟩ := sofA_sound l ys _ _ a' n' (acc.push (UInt8.ofNat b)) h he (by simp [h1]) (by
          have : (acc.push (UInt8.ofNat b)).data.toList = acc.data.toList ++ [UInt8.ofNat b] := by simp
          rw [this, bval_append, h2]
          simp only [List.length_cons, List.length_nil, bval, e]
          omega)
        exact ⟨(b : Int) :: ns, by rw [g1, hy]; rfl, by simpa using g2, by simpa using g3⟩
      · cases he
    · cases he

theorem ldC'_sound (P : Program) (h : HR p σ s w) {b off n r κ : Nat} {l : AVs} (he : srcA.ldC' s b off n = some l) (hs : σ b = some (r, κ)) :
    ∃ xs : List Value, xs.length = n ∧ VRs σ l xs ∧ (loadCells ⟨r, off, none⟩ n).run P w = .ok xs.toArray w := by
  unfold srcA.ldC' at he
  split at he
  · obtain rfl := (Option.some.inj he).symm
    exact ⟨[], rfl, by simp only [VRs], by simpa using run_loadCells_list (P := P) w ⟨r, off, none⟩ [] (by simp)⟩
  · split at he
    · rename_i hg
      exact h.ldn P hg hs he
    · cases he

theorem snd_convert (h : Rel P p σ T s a w) {o : Oper} {src dst : TypeId} {x : Operand} (ho : o.op = .convert src dst x) {ai : AI} (hc : compOp P o = some ai) {v : AV} {s' : St} (he : evAI p.n0 ai T s = some (v, s')) (hL : s'.nxt ≤ p.lim) : Sound P p σ s w o a v s' := by
  unfold compOp at hc; rw [ho] at hc
  dsimp only at hc
  split at hc
  · rename_i k1 k x' h1 h2 h3
    obtain rfl := (Option.some.inj hc).symm
    simp only [evAI] at he
    split at he
    · rename_i k2 n hX
      obtain ⟨rfl, rfl⟩ := Prod.mk.inj (Option.some.inj he)
      have hx := oo_sound h h3 hX
      simp only [VR] at hx
      refine .same h (run_convert_ok ho (r := .int k (wr k n)) ?_) (by simp only [VR])
      simp [convert, run_underlying h1, run_underlying h2, hx, Conv.intToInt, wr_eq]
    · cases he
  · rename_i x' h1 h2 h3
    obtain rfl := (Option.some.inj hc).symm
    simp only [evAI] at he
    split at he
    · rename_i l n hX
      obtain ⟨rfl, rfl⟩ := Prod.mk.inj (Option.some.inj he)
      have hx := oo_sound h h3 hX
      have hx' := hx
      simp only [VR] at hx'
      obtain ⟨bs, e1, _⟩ := hx'
      refine .same h (run_convert_ok ho (r := a.eval x) ?_) hx
      simp [convert, run_underlying h1, run_underlying h2, e1]
    · cases he
  · rename_i e x' h1 h2 h3
    split at hc
    · rename_i h4 h5
      obtain rfl := (Option.some.inj hc).symm
      simp only [evAI] at he
      split at he
      · rename_i l n hX
        split at he
        · rename_i hlt
          obtain ⟨rfl, rfl⟩ := Prod.mk.inj (Option.some.inj he)
          have hx := oo_sound h h3 hX
          simp only [VR] at hx
          obtain ⟨bs, e1, e2, e3⟩ := hx
          have hlt : l < 1099511627776 := by simpa [Nat.blt_eq] using hlt
          have hrun := run_bytes_of_string (P := P) w src dst e bs h1 h2 h4
          have hcap : l ≤ grownCap w bs.size 0 e := by
            rw [e2]; unfold grownCap; simp [Question.cut]
          have hbr : bytesRow bs (grownCap w bs.size 0 e) = ((bs.data.toList.map (fun b => Value.int .u8 b.toNat)) ++ List.replicate (grownCap w bs.size 0 e - bs.size) (Value.int .u8 0)).toArray := by
            unfold bytesRow; simp
          have hsz : (bytesRow bs (grownCap w bs.size 0 e)).size = grownCap w bs.size 0 e := by
            rw [hbr]; simp; omega
          have hdr : Rel P p σ T s a w.drew := ⟨h.t, h.h.drew, h.ng, h.n0, h.g0⟩
          have g := hdr.h.new h.n0 h.g0 hL (grownCap w bs.size 0 e) (.row e 1 (stC (sbytes l n .nil) 0 .leaf) l false 1)
            (.cells (bytesRow bs (grownCap w bs.size 0 e)) e ((bytesRow bs (grownCap w bs.size 0 e)).size, (bytesRow bs (grownCap w bs.size 0 e)).size + 1)) (by
              refine ⟨_, _, _, rfl, ?a, by rw [hsz]; exact hcap, (fun hh => nomatch hh), (fun _ => by rw [hsz]; omega), (fun _ j hj => by omega), (fun hh => nomatch hh), fun j a' hj => ?b⟩
              case b =>
                rcases stC_dom _ _ _ _ _ hj with hj | hj
                · have := (sbytes_str (σ := σ) e2 e3).len
                  simp at this
                  omega
                · rw [Tr.get_leaf] at hj; cases hj
              case a =>
               have hl := cellsOk_lay (sbytes_str (σ := Env.put σ s.nxt (w.drew.heap.size, grownCap w bs.size 0 e)) e2 e3)
               intro j a' hj
               obtain ⟨x, q1, q2⟩ := hl j a' hj
               refine ⟨x, ?_, q2⟩
               rw [hbr, List.getElem?_toArray, List.getElem?_append_left]
               · simpa using q1
               · rcases Nat.lt_or_ge j (bs.data.toList.map (fun b => Value.int .u8 b.toNat)).length with h' | h'
                 · exact h'
                 · rw [List.getElem?_toArray, List.getElem?_eq_none h'] at q1; cases q1)
          refine ⟨.slice (some ⟨w.heap.size, 0, none⟩) bs.size (grownCap w bs.size 0 e), _, _, .inl (run_convert_ok ho (by rw [e1]; exact hrun)), ?_, (Good.drew h.h).trans g⟩
          simp only [VR]
          refine ⟨w.heap.size, grownCap w bs.size 0 e, _, by unfold Env.put; rw [if_pos rfl]; rfl, by omega, .inl rfl, by rw [e2]; rfl⟩
        · cases he
      · cases he
    · cases hc
  · rename_i t x' h1 h2 h3
    split at hc
    · rename_i k hk
      obtain rfl := (Option.some.inj hc).symm
      obtain ⟨j, hj, hj2⟩ := szOf_eq hk
      exact snd_cvu h ho h1 h2 hj (by omega) h3 he
    · cases hc
  · rename_i t x' h1 h2 h3
    split at hc
    · rename_i k hk
      obtain rfl := (Option.some.inj hc).symm
      obtain ⟨j, hj, hj2⟩ := szOf_eq hk
      exact snd_cvq h ho h1 h2 hj h3 he
    · cases hc
  · rename_i e x' h1 h2 h3
    split at hc
    · rename_i h4
      obtain rfl := (Option.some.inj hc).symm
      simp only [evAI] at he
      split at he
      · rename_i hX
        obtain ⟨rfl, rfl⟩ := Prod.mk.inj (Option.some.inj he)
        have hx := oo_sound h h3 hX
        simp only [VR] at hx
        refine .same h (run_convert_ok ho (r := .string ByteArray.empty) ?_) (by simp only [VR]; exact ⟨_, rfl, rfl, rfl⟩)
        simp [convert, run_underlying h1, run_underlying h2, run_underlying h4, hx, Conv.bytesToString]
      · rename_i b off len cap hX
        split at he
        · cases he
        · rename_i l hl
          split at he
          · rename_i a' n' hs
            obtain ⟨rfl, rfl⟩ := Prod.mk.inj (Option.some.inj he)
            have hx := oo_sound h h3 hX
            simp only [VR] at hx
            obtain ⟨r, κ, e1, e2⟩ := hx
            obtain ⟨xs, q1, q2, q3⟩ := ldC'_sound P h.h hl e1
            obtain ⟨ns, g1, g2, g3⟩ := sofA_sound l xs 0 0 a' n' ByteArray.empty q2 hs rfl rfl
            subst g1
            have := run_bytesToString (P := P) w ⟨r, off, none⟩ len cap ns q3
            refine .same h (run_convert_ok ho (r := .string _) ?_) (by simp only [VR]; exact ⟨_, rfl, g2, g3⟩)
            rw [e2, run_convert_bytes_string w src dst e _ _ _ h1 h4 h2]
            exact this
          · cases he
      · rename_i b off len cap hX
        split at he
        · cases he
        · rename_i l hl
          split at he
          · rename_i a' n' hs
            obtain ⟨rfl, rfl⟩ := Prod.mk.inj (Option.some.inj he)
            have hx := oo_sound h h3 hX
            simp only [VR] at hx
            obtain ⟨r, κ, off, e1, e0, e3, e2⟩ := hx
            replace hl := ldC'_off (slr_off e3) hl
            obtain ⟨xs, q1, q2, q3⟩ := ldC'_sound P h.h hl e1
            obtain ⟨ns, g1, g2, g3⟩ := sofA_sound l xs 0 0 a' n' ByteArray.empty q2 hs rfl rfl
            subst g1
            have := run_bytesToString (P := P) w ⟨r, off, none⟩ len (κ - cap) ns q3
            refine .same h (run_convert_ok ho (r := .string _) ?_) (by simp only [VR]; exact ⟨_, rfl, g2, g3⟩)
            rw [e2, run_convert_bytes_string w src dst e _ _ _ h1 h4 h2]
            exact this
          · cases he
      · cases he
    · cases hc
  · cases hc

/-! make -/
theorem snd_mks (h : Rel P p σ T s a w) {o : Oper} {t : TypeId} {x y : Operand} (ho : o.op = .makeSlice t x y) {ai : AI} (hc : compOp P o = some ai) {v : AV} {s' : St} (he : evAI p.n0 ai T s = some (v, s')) (hL : s'.nxt ≤ p.lim) : Sound P p σ s w o a v s' := by
  unfold compOp at hc; rw [ho] at hc
  dsimp only at hc
  split at hc
  · rename_i e x' y' h1 h2 h3
    split at hc
    · rename_i i z h4 h5
      obtain rfl := (Option.some.inj hc).symm
      obtain ⟨i', zv, q1, q2, q3, q4, q5⟩ := zOf_sound h5
      rw [h4] at q1
      obtain rfl := Option.some.inj q1
      simp only [evAI] at he
      split at he
      · cases he
      · rename_i X hX
        split at he
        · cases he
        · rename_i Y hY
          unfold evMks at he
          split at he
          · cases he
          · rename_i l hl
            split at he
            · cases he
            · rename_i c hcn
              split at he
              · rename_i g1
                split at he
                · rename_i g2
                  split at he
                  · rename_i g3
                    split at he
                    · rename_i g4
                      obtain ⟨rfl, rfl⟩ := Prod.mk.inj (Option.some.inj he)
                      obtain ⟨kl, hkl⟩ := evNat_sound hl (oo_sound h h2 hX)
                      obtain ⟨kc, hkc⟩ := evNat_sound hcn (oo_sound h h3 hY)
                      have g1 := Nat.le_of_ble_eq_true g1
                      have g2 := Nat.le_of_ble_eq_true g2
                      have g3 := Nat.le_of_ble_eq_true g3
                      have hrun := run_make (P := P) w t e i zv h1 h4 q2 kl kc (l : Int) (c : Int) (by omega) (by omega) (by rw [← Int.natCast_mul]; generalize i.bytes * c = q at g2; omega) (by omega)
                      rw [Int.toNat_natCast, Int.toNat_natCast] at hrun
                      have hsz : (madeCells zv.cells (c * i.size)).size = c * i.size := by simp [madeCells]
                      have hzl : zv.cells.toList.length = i.size := by simp [q5]
                      obtain ⟨σ', r1, r2, r3⟩ := HR.newRow h hL e i.size 0 (c := madeCells zv.cells (c * i.size)) (cells := fillZ z i.size c 0 .leaf) (used := c * i.size) (ex := true)
                        (fun σ' he => by
                          refine fillZ_sound (q4 σ') hzl c 0 _ _ (cellsOk_leaf _ _) (fun j hj => ?_)
                          have hn0 : 0 < i.size := by
                            rcases Nat.eq_zero_or_pos i.size with h0 | h0
                            · rw [h0] at hj; simp at hj
                            · exact h0
                          have hjm : j % i.size < zv.cells.size := by rw [q5]; exact Nat.mod_lt _ hn0
                          simp only [madeCells, Nat.zero_add, Array.getElem?_map, Array.getElem?_range, hj, if_true, Option.map_some, q5]
                          rw [Array.getElem?_toList, getElem?_pos zv.cells (j % i.size) hjm, getElem!_pos zv.cells (j % i.size) hjm])
                        (by rw [hsz]; exact Nat.le_refl _) (fun _ => hsz) (fun e => by cases e) (fun e => by cases e)
                      refine ⟨.slice (some ⟨w.heap.size, 0, none⟩) l c, σ', _, .inl ?_, by simp only [VR]; exact ⟨_, _, r1, rfl⟩, r3⟩
                      simp only [execOp, ho, hkl, hkc]
                      exact run_val hrun
                    · cases he
                  · cases he
                · cases he
              · cases he
    · cases hc
  · cases hc

/-! range over a string -/
theorem snd_rng (h : Rel P p σ T s a w) {o : Oper} {t : TypeId} {x : Operand} (ho : o.op = .range t x) {ai : AI} (hc : compOp P o = some ai) {v : AV} {s' : St} (he : evAI p.n0 ai T s = some (v, s')) (hL : s'.nxt ≤ p.lim) : Sound P p σ s w o a v s' := by
  unfold compOp at hc; rw [ho] at hc
  dsimp only at hc
  split at hc
  · rename_i x' h1 h2
    obtain rfl := (Option.some.inj hc).symm
    simp only [evAI] at he
    split at he
    · rename_i l n hX
      obtain ⟨rfl, rfl⟩ := Prod.mk.inj (Option.some.inj he)
      have hx := oo_sound h h2 hX
      simp only [VR] at hx
      obtain ⟨bs, e1, e2, e3⟩ := hx
      have g := h.h.new h.n0 h.g0 hL 0 (.iter l n 0) (.stringIter bs 0) ⟨bs, rfl, e2, e3⟩
      refine ⟨.pointer (some ⟨w.heap.size, 0, none⟩), _, _, .inl ?_, by simp only [VR]; exact ⟨w.heap.size, 0, by unfold Env.put; rw [if_pos rfl], rfl⟩, g⟩
      simp only [execOp, ho, e1]
      refine run_val ?_
      simp [Instr.range, run_underlying h1, newObj, Sem.run]
    · cases he
  · cases hc

theorem HR.setIter (h : HR p σ s w) {b l n pos pos' r κ : Nat} (hb : s.H.get b = some (.iter l n pos)) (hs : σ b = some (r, κ)) (h0 : p.n0 ≤ b) {bs : ByteArray} (hbs : bs.size = l ∧ bval bs.data.toList = n) :
    Good p σ s w σ { H := s.H.set b (some (.iter l n pos')), nxt := s.nxt, W := s.W ||| 1 <<< b } { w with heap := w.heap.setIfInBounds r (.stringIter bs pos') } := by
  have hr := h.lt b r κ hs
  have hne : ∀ k, k ≠ r → (w.heap.setIfInBounds r (.stringIter bs pos'))[k]? = w.heap[k]? := fun k hk => Array.getElem?_setIfInBounds_ne (Ne.symm hk)
  have hself : (w.heap.setIfInBounds r (.stringIter bs pos'))[r]? = some (.stringIter bs pos') := Array.getElem?_setIfInBounds_self_of_lt hr
  refine ⟨.refl _, ⟨?_, ?_, h.fresh, h.low, fun x r' κ' e => by simpa using h.lt x r' κ' e, h.glob, ?_, by simpa using h.base, h.n0, h.g0, fun x k hx => by
      rw [Tr.get_set] at hx
      by_cases hxb : x = b
      · subst hxb; exact h.dom _ _ hb
      · rw [if_neg hxb] at hx; exact h.dom _ _ hx⟩, ⟨rfl, rfl, rfl, by simp, fun k hk hn => hne k ?_⟩, (fun x hx => by simp [Nat.testBit_or, hx]), ?_, (fun b r κ h1 h2 => nw_same h1 h2), Nat.le_refl _⟩
  · intro x k hx
    rw [Tr.get_set] at hx
    by_cases hxb : x = b
    · subst hxb
      rw [if_pos rfl] at hx
      obtain rfl := Option.some.inj hx
      exact ⟨r, κ, _, hs, hself, bs, rfl, hbs.1, hbs.2⟩
    · rw [if_neg hxb] at hx
      obtain ⟨r', κ', o, e1, e2, e3⟩ := h.blk x k hx
      have : r' ≠ r := fun er => hxb (h.inj x b k _ r κ' κ hx hb (er ▸ e1) hs)
      exact ⟨r', κ', o, e1, by rw [hne r' this]; exact e2, e3⟩
  · intro x x' k k' r1 κ1 κ2 hx hx' e1 e2
    rw [Tr.get_set] at hx hx'
    have hx1 : ∃ k, s.H.get x = some k := by
      by_cases hxb : x = b
      · subst hxb; exact ⟨_, hb⟩
      · rw [if_neg hxb] at hx; exact ⟨_, hx⟩
    have hx2 : ∃ k, s.H.get x' = some k := by
      by_cases hxb : x' = b
      · subst hxb; exact ⟨_, hb⟩
      · rw [if_neg hxb] at hx'; exact ⟨_, hx'⟩
    obtain ⟨k1, hk1⟩ := hx1
    obtain ⟨k2, hk2⟩ := hx2
    exact h.inj x x' k1 k2 r1 κ1 κ2 hk1 hk2 e1 e2
  · intro x hx
    rcases testBit_or_of _ _ _ hx with hx | rfl
    · exact h.wlow x hx
    · exact h0
  · intro e
    subst e
    exact hn b _ κ hb (testBit_or_self _ _) hs
  · intro x k q hx _
    rw [Tr.get_set] at hx
    by_cases hxb : x = b
    · subst hxb; exact ⟨_, hb⟩
    · rw [if_neg hxb] at hx; exact ⟨_, hx⟩

theorem snd_nxt (h : Rel P p σ T s a w) {o : Oper} {x : Operand} {isS : Bool} (ho : o.op = .next x isS) {ai : AI} (hc : compOp P o = some ai) {v : AV} {s' : St} (he : evAI p.n0 ai T s = some (v, s')) : Sound P p σ s w o a v s' := by
  unfold compOp at hc; rw [ho] at hc
  dsimp only at hc
  split at hc
  · rename_i hS
    subst hS
    obtain ⟨x', h1, rfl⟩ := Option.map_eq_some_iff.1 hc
    simp only [evAI] at he
    split at he
    · rename_i b off hX
      split at he
      · rename_i h00
        have h00 := Nat.eq_of_beq_eq_true h00
        subst h00
        split at he
        · rename_i h0
          have h0 := Nat.le_of_ble_eq_true h0
          split at he
          · rename_i l n pos hb
            have hx := oo_sound h h1 hX
            simp only [VR] at hx
            obtain ⟨r, κ, e1, e2⟩ := hx
            obtain ⟨r', κ', o', f1, f2, bs, rfl, f4, f5⟩ := h.h.blk b _ hb
            rw [e1] at f1
            obtain ⟨rfl, rfl⟩ := Prod.mk.inj (Option.some.inj f1)
            split at he
            · rename_i hlt
              have hlt : pos < l := by simpa [Nat.blt_eq] using hlt
              have hl' : pos < bs.size := by omega
              have hg := bval_get bs.data.toList pos (by simpa using hl')
              have hlen : bs.data.toList.length = l := by simpa using f4
              rw [f5] at hg
              simp only [hlen] at hg
              have hbb : (bs[pos]'hl') = bs.data.toList[pos]'(by simpa using hl') := rfl
              split at he
              · rename_i ha
                have ha : n / 256 ^ (l - 1 - pos) % 256 < 128 := by simpa [Nat.blt_eq] using ha
                obtain ⟨rfl, rfl⟩ := Prod.mk.inj (Option.some.inj he)
                rw [← hg, ← hbb] at ha ⊢
                have g := h.h.setIter (pos' := pos + 1) hb e1 h0 ⟨f4, f5⟩
                refine ⟨.tuple #[.bool true, .int .i64 pos, .int .i32 (bs[pos]'hl').toNat], σ, _, .inl ?_, ?_, g⟩
                · simp only [execOp, ho, e2]
                  refine run_val ?_
                  simp only [Instr.next, getObj, setObj, Sem.run_bind, Sem.run, f2, Result.andThen, hl', if_true, decode_ascii bs pos hl' ha]
                  simp [goInt, Sem.run]
                · simp only [VR, VRs]
                  exact ⟨_, rfl, _, _, rfl, rfl, _, _, rfl, rfl, _, _, rfl, rfl, rfl⟩
              · cases he
            · rename_i hlt
              have hlt : ¬ pos < l := fun hh => by rw [show Nat.blt pos l = true from by simpa [Nat.blt_eq] using hh] at hlt; cases hlt
              have hl' : ¬ pos < bs.size := by omega
              obtain ⟨rfl, rfl⟩ := Prod.mk.inj (Option.some.inj he)
              refine .same h (x := .tuple #[.bool false]) ?_ (by simp only [VR, VRs]; exact ⟨_, rfl, _, _, rfl, rfl, rfl⟩)
              simp only [execOp, ho, e2]
              refine run_val ?_
              simp [Instr.next, getObj, Sem.run, f2, hl']
          · cases he
        · cases he
      · cases he
    · cases he
  · cases hc
end
end Go.Ev
