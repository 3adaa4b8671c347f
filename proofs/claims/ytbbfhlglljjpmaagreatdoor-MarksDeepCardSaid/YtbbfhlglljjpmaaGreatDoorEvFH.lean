import Derived.Test.YtbbfhlglljjpmaaGreatDoorEvFG
namespace Go.Ev
open Go
set_option linter.unusedVariables false

/-! Regions that draw their order, compiled fast -/
noncomputable def natAt (i : Nat) : List Nat → Nat := Nat.rec (motive := fun _ => List Nat → Nat) (fun l => List.rec (motive := fun _ => Nat) 0 (fun a _ _ => a) l) (fun _ ih l => ih (List.rec (motive := fun _ => List Nat) [] (fun _ t _ => t) l)) i
noncomputable def snocN (l : List Nat) (x : Nat) : List Nat := List.rec (motive := fun _ => List Nat) [x] (fun a _ ih => a :: ih) l
noncomputable def edgeF (acc : List Nat) (es : List Edge) : Nat → Nat := List.rec (motive := fun _ => Nat → Nat) (fun s => s) (fun e _ ih s => ih (Bool.rec (motive := fun _ => Nat) s (Nat.lor (Nat.lor s (Nat.pow 2 e.on)) (natAt e.on acc)) (Region.binds .any e))) es
noncomputable def befF (l : List Oper) : List Nat → List Nat := List.rec (motive := fun _ => List Nat → List Nat) (fun acc => acc) (fun o _ ih acc => ih (snocN acc (edgeF acc o.after.toList 0))) l
noncomputable def edgesB (j : Nat) (es : List Edge) : Bool := List.rec (motive := fun _ => Bool) true (fun e _ ih => Bool.rec (motive := fun _ => Bool) ih (andF (Nat.ble (Nat.succ e.on) j) ih) (Region.binds .any e)) es
noncomputable def backF (l : List Oper) : Nat → Bool := List.rec (motive := fun _ => Nat → Bool) (fun _ => true) (fun o _ ih j => andF (edgesB j o.after.toList) (ih (Nat.succ j))) l
noncomputable def dstF (l : List Oper) : Nat → Bool := List.rec (motive := fun _ => Nat → Bool) (fun _ => true) (fun o _ ih m => Option.rec (motive := fun _ => Bool) (ih m) (fun d => Bool.rec (motive := fun _ => Bool) (ih (Nat.lor m (Nat.pow 2 d))) false (bitF m d)) o.dst) l
noncomputable def selF (o : Op) : Bool := Op.rec (motive := fun _ => Bool) (fun _ => true) (fun _ => true) (fun _ _ _ => true) (fun _ => true) (fun _ _ => true) (fun _ _ => true) (fun _ _ _ => true) (fun _ _ _ _ => true) (fun _ _ => true) (fun _ _ _ => true) (fun _ => true) (fun _ => true) (fun _ => true) (fun _ _ _ _ _ => true) (fun _ _ _ => true) (fun _ _ _ => true) (fun _ _ => true) (fun _ _ => true) (fun _ _ _ => true) (fun _ _ => true) (fun _ _ => true) (fun _ _ _ => true) (fun _ _ _ _ _ => true) (fun _ _ _ => true) (fun _ _ _ => true) (fun _ _ _ => true) (fun _ _ _ => true) (fun _ _ _ _ => true) (fun _ _ _ _ => true) (fun _ _ _ => true) (fun _ _ _ _ => true) (fun _ _ => true) (fun _ _ => true) (fun _ => true) (fun _ _ _ _ => true) (fun _ _ => true) (fun _ => true) (fun _ => true) (fun _ => true) (fun _ => true) (fun _ _ => true) (fun _ _ _ => true) (fun _ _ => false) o
noncomputable def nsF (l : List Oper) : Bool := List.rec (motive := fun _ => Bool) true (fun o _ ih => andF (selF o.op) ih) l
noncomputable def orF (a : Bool) : Bool → Bool := Bool.rec (motive := fun _ => Bool → Bool) (fun b => b) (fun _ => true) a
noncomputable def erF (l : List Oper) : List Nat → Nat → Nat → Nat → List Nat := List.rec (motive := fun _ => List Nat → Nat → Nat → Nat → List Nat) (fun _ _ _ _ => []) (fun o _ ih bs i j bj => Bool.rec (motive := fun _ => List Nat) (Option.rec (motive := fun _ => List Nat) (ih (List.rec (motive := fun _ => List Nat) [] (fun _ t _ => t) bs) (Nat.succ i) j bj) (fun d => d :: ih (List.rec (motive := fun _ => List Nat) [] (fun _ t _ => t) bs) (Nat.succ i) j bj) o.dst) (ih (List.rec (motive := fun _ => List Nat) [] (fun _ t _ => t) bs) (Nat.succ i) j bj) (orF (Nat.beq i j) (orF (bitF bj i) (bitF (List.rec (motive := fun _ => Nat) 0 (fun a _ _ => a) bs) j)))) l
noncomputable def compDF (ops : List Oper) (bef : List Nat) (l : List AOp) : Nat → List DOp := List.rec (motive := fun _ => Nat → List DOp) (fun _ => []) (fun a _ ih j => ⟨a, natAt j bef, erF ops bef 0 j (natAt j bef)⟩ :: ih (Nat.succ j)) l
noncomputable def dregF (P : Program) (nt : Nat) (ops : Array Oper) : Option AC := Bool.rec (motive := fun _ => Option AC) (compC P nt (.region 0 ops true)) (Option.rec (motive := fun _ => Option AC) none (fun l => some (.dreg (compDF ops.toList (befF ops.toList []) l 0))) (kL P nt ops ops.toList)) (andF (backF ops.toList 0) (andF (dstF ops.toList 0) (nsF ops.toList)))

theorem natAt_eq : ∀ (i : Nat) (l : List Nat), natAt i l = l.getD i 0
  | 0, [] => rfl
  | 0, a :: l => rfl
  | i + 1, [] => by show natAt i [] = _; rw [natAt_eq i []]; simp
  | i + 1, a :: l => by show natAt i l = _; rw [natAt_eq i l]; simp
theorem snocN_eq (x : Nat) : ∀ l : List Nat, snocN l x = l ++ [x]
  | [] => rfl
  | a :: l => by show a :: snocN l x = _; rw [snocN_eq x l]; rfl
theorem edgeF_eq (acc : Array Nat) : ∀ (es : List Edge) (s : Nat), edgeF acc.toList es s = es.foldl (fun s e => if Region.binds .any e then s ||| 2 ^ e.on ||| acc.getD e.on 0 else s) s
  | [], s => rfl
  | e :: es, s => by
    show edgeF acc.toList es (Bool.rec s (s ||| 2 ^ e.on ||| natAt e.on acc.toList) (Region.binds .any e)) = es.foldl _ (if Region.binds .any e then s ||| 2 ^ e.on ||| acc.getD e.on 0 else s)
    rw [edgeF_eq acc es, natAt_eq]
    congr 1
    cases Region.binds .any e <;> simp
theorem befF_before (ops : Array Oper) : befF ops.toList [] = (Region.before ops).toList := by
  unfold Region.before
  rw [← Array.foldl_toList]
  suffices h : ∀ (l : List Oper) (acc : Array Nat), befF l acc.toList = (l.foldl (fun acc o => acc.push (o.after.foldl (fun s e => if Region.binds .any e then s ||| 2 ^ e.on ||| acc.getD e.on 0 else s) 0)) acc).toList from h ops.toList #[]
  intro l
  induction l with
  | nil => intro acc; rfl
  | cons o l ih =>
    intro acc
    show befF l (snocN acc.toList (edgeF acc.toList o.after.toList 0)) = (l.foldl _ (acc.push _)).toList
    rw [← ih, snocN_eq, edgeF_eq, Array.toList_push, Array.foldl_toList]
/-- What the masks say. -/
theorem edgeF_bit (acc : List Nat) : ∀ (es : List Edge) (s i : Nat), (edgeF acc es s).testBit i = true ↔ s.testBit i = true ∨ ∃ e ∈ es, Region.binds .any e = true ∧ (e.on = i ∨ (acc.getD e.on 0).testBit i = true)
  | [], s, i => by simp [edgeF]
  | e :: es, s, i => by
    show (edgeF acc es (Bool.rec s (s ||| 2 ^ e.on ||| natAt e.on acc) (Region.binds .any e))).testBit i = true ↔ _
    rw [edgeF_bit acc es, natAt_eq]
    cases hb : Region.binds .any e with
    | false =>
      constructor
      · rintro (h | ⟨x, h1, h2⟩)
        · exact .inl h
        · exact .inr ⟨x, List.mem_cons_of_mem _ h1, h2⟩
      · rintro (h | ⟨x, h1, h2, h3⟩)
        · exact .inl h
        · rcases List.mem_cons.1 h1 with rfl | h1
          · rw [hb] at h2; cases h2
          · exact .inr ⟨x, h1, h2, h3⟩
    | true =>
      show (s ||| 2 ^ e.on ||| acc.getD e.on 0).testBit i = true ∨ _ ↔ _
      rw [Nat.testBit_or, Nat.testBit_or, Nat.testBit_two_pow]
      simp only [Bool.or_eq_true, decide_eq_true_eq]
      constructor
      · rintro (((h | h) | h) | ⟨x, h1, h2⟩)
        · exact .inl h
        · exact .inr ⟨e, List.mem_cons_self, hb, .inl h⟩
        · exact .inr ⟨e, List.mem_cons_self, hb, .inr h⟩
        · exact .inr ⟨x, List.mem_cons_of_mem _ h1, h2⟩
      · rintro (h | ⟨x, h1, h2, h3⟩)
        · exact .inl (.inl (.inl h))
        · rcases List.mem_cons.1 h1 with rfl | h1
          · rcases h3 with h3 | h3
            · exact .inl (.inl (.inr h3))
            · exact .inl (.inr h3)
          · exact .inr ⟨x, h1, h2, h3⟩
theorem befF_spec : ∀ (l : List Oper) (acc : List Nat), (befF l acc).length = acc.length + l.length ∧ (befF l acc).take acc.length = acc ∧
    ∀ (j : Nat) (o : Oper), l[j]? = some o → (befF l acc).getD (acc.length + j) 0 = edgeF ((befF l acc).take (acc.length + j)) o.after.toList 0
  | [], acc => by simp [befF]
  | o :: l, acc => by
    have e : befF (o :: l) acc = befF l (snocN acc (edgeF acc o.after.toList 0)) := rfl
    rw [e, snocN_eq]
    obtain ⟨h1, h2, h3⟩ := befF_spec l (acc ++ [edgeF acc o.after.toList 0])
    have hl : (acc ++ [edgeF acc o.after.toList 0]).length = acc.length + 1 := by simp
    rw [hl] at h1 h2 h3
    have h4 : (befF l (acc ++ [edgeF acc o.after.toList 0])).take acc.length = acc := by
      have := congrArg (List.take acc.length) h2
      rw [List.take_take, Nat.min_eq_left (Nat.le_succ _)] at this
      rw [this]
      simp
    refine ⟨by rw [h1, List.length_cons]; omega, h4, ?_⟩
    intro j p hj
    cases j with
    | zero =>
      simp at hj; subst hj
      rw [Nat.add_zero, h4]
      have h5 : (befF l (acc ++ [edgeF acc o.after.toList 0]))[acc.length]? = some (edgeF acc o.after.toList 0) := by
        have := congrArg (fun x => x[acc.length]?) h2
        simp only [List.getElem?_take] at this
        rw [if_pos (Nat.lt_succ_self _)] at this
        rw [this]
        simp
      simp [List.getD_eq_getElem?_getD, h5]
    | succ j =>
      have := h3 j p (by simpa using hj)
      rw [show acc.length + (j + 1) = acc.length + 1 + j from by omega]
      exact this
theorem backF_spec : ∀ (l : List Oper) (k : Nat), backF l k = true → ∀ (j : Nat) (o : Oper), l[j]? = some o → ∀ e ∈ o.after, Region.binds .any e = true → e.on < k + j
  | [], k, _, j, o, h => by simp at h
  | a :: l, k, hb, j, o, h => by
    have hb' : andF (edgesB k a.after.toList) (backF l (k + 1)) = true := hb
    rw [andF_eq, Bool.and_eq_true] at hb'
    cases j with
    | zero =>
      simp at h; subst h
      intro e he hbe
      have he' : e ∈ a.after.toList := by simpa using he
      have : ∀ (es : List Edge), edgesB k es = true → e ∈ es → e.on < k := by
        intro es
        induction es with
        | nil => intro _ h; cases h
        | cons x es ih =>
          intro h1 h2
          have h1' : (Bool.rec (edgesB k es) (andF (Nat.ble (x.on + 1) k) (edgesB k es)) (Region.binds .any x) : Bool) = true := h1
          rcases List.mem_cons.1 h2 with rfl | h2
          · rw [hbe] at h1'
            have h1'' : andF (Nat.ble (e.on + 1) k) (edgesB k es) = true := h1'
            rw [andF_eq, Bool.and_eq_true] at h1''
            exact Nat.le_of_ble_eq_true h1''.1
          · cases hx : Region.binds .any x with
            | false => rw [hx] at h1'; exact ih h1' h2
            | true =>
              rw [hx] at h1'
              have h1'' : andF (Nat.ble (x.on + 1) k) (edgesB k es) = true := h1'
              rw [andF_eq, Bool.and_eq_true] at h1''
              exact ih h1''.2 h2
      simpa using this _ hb'.1 he'
    | succ j =>
      intro e he hbe
      have := backF_spec l (k + 1) hb'.2 j o (by simpa using h) e he hbe
      omega
theorem befOK_of {ops : Array Oper} (hb : backF ops.toList 0 = true) : befOK ops (Region.before ops).toList = true := by
  have hback : ∀ (j : Nat) (o : Oper), ops[j]? = some o → ∀ e ∈ o.after, Region.binds .any e = true → e.on < j := fun j o h e he h2 => by
    have := backF_spec ops.toList 0 hb j o (by simpa using h) e he h2
    omega
  obtain ⟨_, _, hspec⟩ := befF_spec ops.toList []
  rw [befF_before] at hspec
  generalize (Region.before ops).toList = bef at *
  simp only [List.length_nil, Nat.zero_add] at hspec
  have hbit : ∀ (j : Nat) (o : Oper), ops[j]? = some o → ∀ i, (bef.getD j 0).testBit i = true ↔ ∃ e ∈ o.after, Region.binds .any e = true ∧ (e.on = i ∨ (bef.getD e.on 0).testBit i = true) := by
    intro j o ho i
    rw [hspec j o (by simpa using ho), edgeF_bit]
    constructor
    · rintro (h | ⟨e, h1, h2, h3⟩)
      · simp at h
      · have h1' : e ∈ o.after := by simpa using h1
        refine ⟨e, h1', h2, ?_⟩
        rcases h3 with h3 | h3
        · exact .inl h3
        · rw [List.getD_eq_getElem?_getD, List.getElem?_take, if_pos (hback j o ho e h1' h2), ← List.getD_eq_getElem?_getD] at h3
          exact .inr h3
    · rintro ⟨e, h1, h2, h3⟩
      refine .inr ⟨e, by simpa using h1, h2, ?_⟩
      rcases h3 with h3 | h3
      · exact .inl h3
      · right
        rw [List.getD_eq_getElem?_getD, List.getElem?_take, if_pos (hback j o ho e h1 h2), ← List.getD_eq_getElem?_getD]
        exact h3
  have hop : ∀ j, j < ops.size → ∃ o, ops[j]? = some o := fun j hj => ⟨ops[j], by simp [hj]⟩
  have hlt : ∀ j, j < ops.size → ∀ i, (bef.getD j 0).testBit i = true → i < j := by
    intro j
    induction j using Nat.strongRecOn with
    | _ j ih =>
      intro hj i hi
      obtain ⟨o, ho⟩ := hop j hj
      obtain ⟨e, h1, h2, h3⟩ := (hbit j o ho i).1 hi
      have := hback j o ho e h1 h2
      rcases h3 with rfl | h3
      · exact this
      · have := ih e.on this (by omega) i h3; omega
  have hsub : ∀ j, j < ops.size → ∀ i, (bef.getD j 0).testBit i = true → ∀ k, (bef.getD i 0).testBit k = true → (bef.getD j 0).testBit k = true := by
    intro j
    induction j using Nat.strongRecOn with
    | _ j ih =>
      intro hj i hi k hk
      obtain ⟨o, ho⟩ := hop j hj
      obtain ⟨e, h1, h2, h3⟩ := (hbit j o ho i).1 hi
      have hlt' := hback j o ho e h1 h2
      refine (hbit j o ho k).2 ⟨e, h1, h2, .inr ?_⟩
      rcases h3 with rfl | h3
      · exact hk
      · exact ih e.on hlt' (by omega) i h3 k hk
  unfold befOK
  rw [List.all_eq_true]
  intro j hj
  have hj := List.mem_range.1 hj
  obtain ⟨o, ho⟩ := hop j hj
  rw [ho]
  dsimp only
  rw [Bool.and_eq_true]
  constructor
  · rw [List.all_eq_true]
    intro e he
    cases hbe : Region.binds .any e with
    | false => rfl
    | true => simpa using hback j o ho e (by simpa using he) hbe
  · rw [List.all_eq_true]
    intro i hi
    have hi := List.mem_range.1 hi
    cases ht : (bef.getD j 0).testBit i with
    | false => rfl
    | true =>
      obtain ⟨e, h1, h2, h3⟩ := (hbit j o ho i).1 ht
      have g1 : decide (i < j) = true := decide_eq_true (hlt j hj i ht)
      have g2 : Nat.beq (bef.getD i 0 ||| bef.getD j 0) (bef.getD j 0) = true := by
        rw [Nat.beq_eq]
        refine Nat.eq_of_testBit_eq fun k => ?_
        rw [Nat.testBit_or]
        cases hk : (bef.getD i 0).testBit k with
        | false => rfl
        | true => rw [hsub j hj i ht k hk]; rfl
      have g3 : (o.after.toList.any fun e => Region.binds .any e && (decide (e.on = i) || (bef.getD e.on 0).testBit i)) = true := by
        rw [List.any_eq_true]
        refine ⟨e, by simpa using h1, ?_⟩
        rw [h2]
        rcases h3 with h3 | h3
        · simp [h3]
        · rw [h3]; simp
      rw [g1, g2, g3]
      rfl
theorem dstF_spec : ∀ (l : List Oper) (m : Nat), dstF l m = true → (∀ (i : Nat) (o : Oper) (x : Nat), l[i]? = some o → o.dst = some x → m.testBit x = false) ∧
    ∀ (i j : Nat) (o p : Oper) (x y : Nat), i < j → l[i]? = some o → l[j]? = some p → o.dst = some x → p.dst = some y → x ≠ y
  | [], m, _ => ⟨fun i o x h => by simp at h, fun i j o p x y _ h => by simp at h⟩
  | a :: l, m, h => by
    have h' : (Option.rec (dstF l m) (fun d => Bool.rec (dstF l (m ||| 2 ^ d)) false (bitF m d)) a.dst : Bool) = true := h
    cases hd : a.dst with
    | none =>
      rw [hd] at h'
      obtain ⟨g1, g2⟩ := dstF_spec l m h'
      refine ⟨fun i o x hi hx => ?_, fun i j o p x y hij hi hj hx hy => ?_⟩
      · cases i with
        | zero => simp at hi; subst hi; rw [hd] at hx; cases hx
        | succ i => exact g1 i o x (by simpa using hi) hx
      · obtain ⟨j, rfl⟩ : ∃ k, j = k + 1 := ⟨j - 1, by omega⟩
        cases i with
        | zero => simp at hi; subst hi; rw [hd] at hx; cases hx
        | succ i => exact g2 i j o p x y (by omega) (by simpa using hi) (by simpa using hj) hx hy
    | some d =>
      rw [hd] at h'
      have h'' : (Bool.rec (dstF l (m ||| 2 ^ d)) false (bitF m d) : Bool) = true := h'
      cases hb : bitF m d with
      | true => rw [hb] at h''; cases h''
      | false =>
        rw [hb] at h''
        obtain ⟨g1, g2⟩ := dstF_spec l (m ||| 2 ^ d) h''
        have g1' : ∀ (i : Nat) (o : Oper) (x : Nat), l[i]? = some o → o.dst = some x → m.testBit x = false ∧ d ≠ x := by
          intro i o x hi hx
          have := g1 i o x hi hx
          rw [Nat.testBit_or, Nat.testBit_two_pow, Bool.or_eq_false_iff, decide_eq_false_iff_not] at this
          exact this
        refine ⟨fun i o x hi hx => ?_, fun i j o p x y hij hi hj hx hy => ?_⟩
        · cases i with
          | zero => simp at hi; subst hi; rw [hd] at hx; obtain rfl := Option.some.inj hx; rw [← bitF_eq]; exact hb
          | succ i => exact (g1' i o x (by simpa using hi) hx).1
        · obtain ⟨j, rfl⟩ : ∃ k, j = k + 1 := ⟨j - 1, by omega⟩
          cases i with
          | zero =>
            simp at hi; subst hi; rw [hd] at hx; obtain rfl := Option.some.inj hx
            exact (g1' j p y (by simpa using hj) hy).2
          | succ i => exact g2 i j o p x y (by omega) (by simpa using hi) (by simpa using hj) hx hy
theorem dstOK_of {ops : Array Oper} (h : dstF ops.toList 0 = true) (bef : List Nat) : dstOK ops bef = true := by
  obtain ⟨_, g⟩ := dstF_spec _ _ h
  unfold dstOK
  rw [List.all_eq_true]
  intro j _
  rw [List.all_eq_true]
  intro i _
  by_cases hij : i = j
  · subst hij; simp
  · have : (match (ops[i]?).bind (·.dst), (ops[j]?).bind (·.dst) with
        | some x, some y => x != y
        | _, _ => true) = true := by
      split
      · rename_i x y hx hy
        obtain ⟨o, ho, hx⟩ := Option.bind_eq_some_iff.1 hx
        obtain ⟨p, hp, hy⟩ := Option.bind_eq_some_iff.1 hy
        rcases Nat.lt_or_gt_of_ne hij with hlt | hlt
        · have := g i j o p x y hlt (by simpa using ho) (by simpa using hp) hx hy
          simpa using this
        · have := g j i p o y x hlt (by simpa using hp) (by simpa using ho) hy hx
          simpa using this.symm
      · rfl
    rw [Bool.or_eq_true]
    exact .inr this
theorem selF_eq (o : Op) : selF o = match o with | .select .. => false | _ => true := by cases o <;> rfl
theorem nsF_eq (ops : Array Oper) : nsF ops.toList = Region.noSelect ops := by
  unfold Region.noSelect
  rw [← Array.all_toList]
  induction ops.toList with
  | nil => rfl
  | cons o l ih =>
    show andF (selF o.op) (nsF l) = _
    rw [andF_eq, selF_eq, ih]; rfl
theorem orF_eq (a b : Bool) : orF a b = (a || b) := by cases a <;> rfl
theorem erF_eq (j bj : Nat) : ∀ (l : List Oper) (bs : List Nat) (i0 : Nat), erF l bs i0 j bj = (List.range l.length).filterMap fun i => if i0 + i = j || bj.testBit (i0 + i) || (bs.getD i 0).testBit j then none else (l[i]?).bind (·.dst)
  | [], bs, i0 => rfl
  | o :: l, bs, i0 => by
    have hh : (List.rec (motive := fun _ => Nat) 0 (fun a _ _ => a) bs : Nat) = bs.getD 0 0 := by cases bs <;> rfl
    have ht : ∀ i, (List.rec (motive := fun _ => List Nat) [] (fun _ t _ => t) bs : List Nat).getD i 0 = bs.getD (i + 1) 0 := by intro i; cases bs <;> simp
    have ih := erF_eq j bj l (List.rec (motive := fun _ => List Nat) [] (fun _ t _ => t) bs) (i0 + 1)
    show (Bool.rec (Option.rec (erF l _ (i0 + 1) j bj) (fun d => d :: erF l _ (i0 + 1) j bj) o.dst) (erF l _ (i0 + 1) j bj) (orF (Nat.beq i0 j) (orF (bitF bj i0) (bitF _ j))) : List Nat) = _
    rw [ih, orF_eq, orF_eq, bitF_eq, bitF_eq, hh, List.length_cons, List.range_succ_eq_map, List.filterMap_cons, List.filterMap_map]
    have hrest : ((List.range l.length).filterMap fun i => if i0 + 1 + i = j || bj.testBit (i0 + 1 + i) || ((List.rec (motive := fun _ => List Nat) [] (fun _ t _ => t) bs : List Nat).getD i 0).testBit j then none else (l[i]?).bind (·.dst)) =
        (List.range l.length).filterMap ((fun i => if i0 + i = j || bj.testBit (i0 + i) || (bs.getD i 0).testBit j then none else ((o :: l)[i]?).bind (·.dst)) ∘ Nat.succ) := by
      congr 1
      funext i
      simp only [Function.comp]
      rw [ht, show i0 + 1 + i = i0 + i.succ from by omega]
      simp
    rw [hrest]
    generalize (List.range l.length).filterMap _ = R
    have hbeq : Nat.beq i0 j = decide (i0 = j) := by
      by_cases h : i0 = j
      · subst h; simp
      · rw [decide_eq_false h]
        cases hb : Nat.beq i0 j with
        | false => rfl
        | true => exact absurd (Nat.eq_of_beq_eq_true hb) h
    rw [hbeq]
    simp only [Nat.add_zero, List.getElem?_cons_zero, Option.bind_some]
    cases hc : (decide (i0 = j) || (bj.testBit i0 || (bs.getD 0 0).testBit j)) with
    | true =>
      rw [← Bool.or_assoc] at hc
      rw [if_pos hc]
    | false =>
      rw [← Bool.or_assoc] at hc
      rw [if_neg (by rw [hc]; decide)]
      cases o.dst <;> rfl
theorem compDF_eq (P : Program) (nt : Nat) (ops : Array Oper) (bef : List Nat) : ∀ (l : List AOp) (j : Nat), compDF ops.toList bef l j = compD P nt ops bef j l
  | [], j => rfl
  | a :: l, j => by
    show (⟨a, natAt j bef, erF ops.toList bef 0 j (natAt j bef)⟩ : DOp) :: compDF ops.toList bef l (j + 1) = ⟨a, bef.getD j 0, erOf ops bef j⟩ :: compD P nt ops bef (j + 1) l
    rw [compDF_eq P nt ops bef l, natAt_eq, erF_eq]
    congr 2
    unfold erOf
    simp
theorem dregF_eq (P : Program) (nt id : Nat) (ops : Array Oper) : dregF P nt ops = compC P nt (.region id ops true) := by
  have e : compC P nt (.region id ops true) = if befOK ops (Region.before ops).toList && dstOK ops (Region.before ops).toList && Region.noSelect ops then (compL P nt ops ops.toList).map fun l => .dreg (compD P nt ops (Region.before ops).toList 0 l) else some .bad := rfl
  unfold dregF
  cases h : andF (backF ops.toList 0) (andF (dstF ops.toList 0) (nsF ops.toList)) with
  | false => rfl
  | true =>
    rw [andF_eq, andF_eq, Bool.and_eq_true, Bool.and_eq_true, nsF_eq] at h
    rw [e, befOK_of h.1, dstOK_of h.2.1, h.2.2]
    show (Option.rec none (fun l => some (.dreg (compDF ops.toList (befF ops.toList []) l 0))) (kL P nt ops ops.toList) : Option AC) = (compL P nt ops ops.toList).map _
    rw [kL_eq, befF_before]
    cases compL P nt ops ops.toList with
    | none => rfl
    | some l => simp only [Option.map_some]; rw [compDF_eq P nt]
/-- The compiler, with this. -/
noncomputable def kC' (c : Code) : KT := Code.rec (motive := fun _ => KT)
    (fun _ _ => some .skip)
    (fun id ops d P nt => Bool.rec (motive := fun _ => Option AC) (regC (kL P nt ops ops.toList)) (dregF P nt ops) d)
    (fun _ _ iha ihb P nt => bindC (iha P nt) fun a => bindC (ihb P nt) fun b => some (.seq a b))
    (fun c _ _ iha ihb P nt => Option.rec (motive := fun _ => Option AC) none (fun c => bindC (iha P nt) fun a => bindC (ihb P nt) fun b => some (.cond c a b)) (oo P c))
    (fun n _ ih P nt => mapC (ih P nt) (.blk n))
    (fun _ ih P nt => mapC (ih P nt) .loop)
    (fun _ _ _ _ _ _ _ _ => some .bad)
    (fun n _ _ => some (.exit n))
    (fun _ ih P nt => mapC (ih P nt) .scope)
    (fun n _ _ => some (.lbl n))
    (fun n _ _ => some (.goto n))
    (fun _ _ => some .ret)
    (fun _ _ _ => some .bad) c
theorem kC'_eq (P : Program) (nt : Nat) (c : Code) : kC' c P nt = kC c P nt := by
  induction c with
  | region id ops d =>
    cases d with
    | true => exact dregF_eq P nt id ops
    | false => rfl
  | seq a b iha ihb => show bindC (kC' a P nt) (fun x => bindC (kC' b P nt) fun y => some (.seq x y)) = _; rw [iha, ihb]; rfl
  | cond c a b iha ihb => show (Option.rec none (fun c => bindC (kC' a P nt) fun a => bindC (kC' b P nt) fun b => some (.cond c a b)) (oo P c) : Option AC) = _; rw [iha, ihb]; rfl
  | block n c ih => show mapC (kC' c P nt) _ = _; rw [ih]; rfl
  | loop c ih => show mapC (kC' c P nt) _ = _; rw [ih]; rfl
  | scope c ih => show mapC (kC' c P nt) _ = _; rw [ih]; rfl
  | _ => rfl
noncomputable def kB' (P : Program) (fn : Func) (c : Code) : Option AF := Option.rec (motive := fun _ => Option AF) none (fun body => Option.rec (motive := fun _ => Option AF) none (fun res => some ⟨body, res⟩) (compR P fn.results.toList)) (kC' c P fn.ntmps)
noncomputable def kF' (P : Program) (f : Nat) : Option AF := Option.rec (motive := fun _ => Option AF) none (fun fn => Bool.rec (motive := fun _ => Option AF) (Option.rec (motive := fun _ => Option AF) none (fun c => kB' P fn c) fn.body) none (fn.name == "runtime.NumGoroutine")) P.funcs[f]?
theorem kF'_eq (P : Program) : kF' P = compF P := by
  rw [← kF_eq]
  funext f
  unfold kF' kF
  have : ∀ fn c, kB' P fn c = kB P fn c := fun fn c => by unfold kB' kB; rw [kC'_eq]
  simp only [this]
theorem evFast (Y : YT) (X : Nat → AVs → Option AV) (P : Program) (n0 n : Nat) : evCallF Y X (kF' P) n0 n = evCallY Y X (compF P) n0 n := by
  rw [evCallF_eq, kF'_eq]
end Go.Ev
