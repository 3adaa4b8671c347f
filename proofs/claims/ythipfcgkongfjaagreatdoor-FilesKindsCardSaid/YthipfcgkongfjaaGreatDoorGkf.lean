/- Proved: a form that is none is refused, whatever the file, whatever the tree; no condition. -/
import Derived.Test.YthipfcgkongfjaaGreatDoorGke
import Derived.Test.YthipfcgkongfjaaGreatDoorProg
import Derived.WalkKit
import Derived.KernelRfl
import Derived.Test.YthipfcgkongfjaaGreatDoorRows
import Derived.Test.YthipfcgkongfjaaGreatDoorCards
import Derived.Test.YthipfcgkongfjaaGreatDoorTie
import Derived.ProofKit
import Derived.OpenShut
import Derived.ShutString
import Derived.ChangeOld
import Derived.Below
import Derived.SizedLaws
import Derived.Shelf.Lay
import Derived.Lay
import Derived.LaidOnce
import Derived.SevenTiedAt
section
namespace Go.Ev
open Go
set_option linter.unusedVariables false
noncomputable def natAt (i : Nat) : List Nat → Nat := Nat.rec (motive := fun _ => List Nat → Nat) (fun l => List.rec (motive := fun _ => Nat) 0 (fun a _ _ => a) l) (fun _ ih l => ih (List.rec (motive := fun _ => List Nat) [] (fun _ t _ => t) l)) i
noncomputable def snocN (l : List Nat) (x : Nat) : List Nat := List.rec (motive := fun _ => List Nat) [x] (fun a _ ih => a :: ih) l
noncomputable def edgeF (acc : List Nat) (es : List Edge) : Nat → Nat := List.rec (motive := fun _ => Nat → Nat) (fun s => s) (fun e _ ih s => ih (Bool.rec (motive := fun _ => Nat) s (Nat.lor (Nat.lor s (Nat.pow 2 e.on)) (natAt e.on acc)) (Region.binds .any e))) es
noncomputable def befF (l : List Oper) : List Nat → List Nat := List.rec (motive := fun _ => List Nat → List Nat) (fun acc => acc) (fun o _ ih acc => ih (snocN acc (edgeF acc o.after.toList 0))) l
noncomputable def edgesB (j : Nat) (es : List Edge) : Bool := List.rec (motive := fun _ => Bool) true (fun e _ ih => Bool.rec (motive := fun _ => Bool) ih (andF (Nat.ble (Nat.succ e.on) j) ih) (Region.binds .any e)) es
noncomputable def backF (l : List Oper) : Nat → Bool := List.rec (motive := fun _ => Nat → Bool) (fun _ => true) (fun o _ ih j => andF (edgesB j o.after.toList) (ih (Nat.succ j))) l
noncomputable def dstF (l : List Oper) : Nat → Bool := List.rec (motive := fun _ => Nat → Bool) (fun _ => true) (fun o _ ih m => Option.rec (motive := fun _ => Bool) (ih m) (fun d => Bool.rec (motive := fun _ => Bool) (ih (Nat.lor m (Nat.pow 2 d))) false (bitF m d)) o.dst) l
noncomputable def selF (o : Op) : Bool := Op.rec (motive := fun _ => Bool) (fun _ => true) (fun _ => true) (fun _ _ _ => true) (fun _ => true) (fun _ _ => true) (fun _ _ => true) (fun _ _ _ => true) (fun _ _ _ _ => true) (fun _ _ => true) (fun _ _ _ => true) (fun _ => true) (fun _ => true) (fun _ => true) (fun _ _ _ _ _ => true) (fun _ _ _ => true) (fun _ _ _ => true) (fun _ _ => true) (fun _ _ => true) (fun _ _ _ => true) (fun _ _ => true) (fun _ _ => true) (fun _ _ _ => true) (fun _ _ _ _ _ => true) (fun _ _ _ => true) (fun _ _ _ => true) (fun _ _ _ => true) (fun _ _ _ => true) (fun _ _ _ _ => true) (fun _ _ _ _ => true) (fun _ _ _ => true) (fun _ _ _ _ => true) (fun _ _ => true) (fun _ _ => true) (fun _ => true) (fun _ _ _ _ => true) (fun _ _ => true) (fun _ => true) (fun _ => true) (fun _ => true) (fun _ => true) (fun _ _ => true) (fun _ _ _ => true) (fun _ _ => false) o
noncomputable def nsF (l : List Oper) : Bool := List.rec (motive := fun _ => Bool) true (fun o _ ih => andF (selF o.op) ih) l
noncomputable def orF (a : Bool) : Bool → Bool := Bool.rec (motive := fun _ => Bool → Bool) (fun b => b) (fun _ => true) a
noncomputable def erF (l : List Oper) : List Nat → Nat → Nat → Nat → List Nat := List.rec (motive := fun _ => List Nat → Nat → Nat → Nat → List Nat) (fun _ _ _ _ => []) (fun o _ ih bs i j bj => Bool.rec (motive := fun _ => List Nat) (Option.rec (motive := fun _ => List Nat) (ih (List.rec (motive := fun _ => List Nat) [] (fun _ t _ => t) bs) (Nat.succ i) j bj) (fun d => d :: ih (List.rec (motive := fun _ => List Nat) [] (fun _ t _ => t) bs) (Nat.succ i) j bj) o.dst) (ih (List.rec (motive := fun _ => List Nat) [] (fun _ t _ => t) bs) (Nat.succ i) j bj) (orF (Nat.beq i j) (orF (bitF bj i) (bitF (List.rec (motive := fun _ => Nat) 0 (fun a _ _ => a) bs) j)))) l
noncomputable def compDF (ops : List Oper) (bef : List Nat) (l : List AOp) : Nat → List DOp := List.rec (motive := fun _ => Nat → List DOp) (fun _ => []) (fun a _ ih j => ⟨a, natAt j bef, erF ops bef 0 j (natAt j bef)⟩ :: ih (Nat.succ j)) l
noncomputable def dregF (P : Program) (nt : Nat) (ops : Array Oper) : Option AC := Bool.rec (motive := fun _ => Option AC) (compC P nt (.region 0 ops true)) (Option.rec (motive := fun _ => Option AC) none (fun l => some (.dreg (compDF ops.toList (befF ops.toList []) l 0))) (kL P nt ops ops.toList)) (andF (backF ops.toList 0) (andF (dstF ops.toList 0) (nsF ops.toList)))
theorem natAt_eq : ∀ (i : Nat) (l : List Nat), natAt i l = l.getD i 0
  | 0, [] => rfl
  | 0, a :: l => rfl
  | i + 1, [] => by show natAt i [] = _; rw [natAt_eq i []]; simp
  | i + 1, a :: l => by show natAt i l = _; rw [natAt_eq i l]; simp
theorem snocN_eq (x : Nat) : ∀ l : List Nat, snocN l x = l ++ [x]
  | [] => rfl
  | a :: l => by show a :: snocN l x = _; rw [snocN_eq x l]; rfl
theorem edgeF_eq (acc : Array Nat) : ∀ (es : List Edge) (s : Nat), edgeF acc.toList es s = es.foldl (fun s e => if Region.binds .any e then s ||| 2 ^ e.on ||| acc.getD e.on 0 else s) s
  | [], s => rfl
  | e :: es, s => by
    show edgeF acc.toList es (Bool.rec s (s ||| 2 ^ e.on ||| natAt e.on acc.toList) (Region.binds .any e)) = es.foldl _ (if Region.binds .any e then s ||| 2 ^ e.on ||| acc.getD e.on 0 else s)
    rw [edgeF_eq acc es, natAt_eq]
    congr 1
    cases Region.binds .any e <;> simp
theorem befF_before (ops : Array Oper) : befF ops.toList [] = (Region.before ops).toList := by
  unfold Region.before
  rw [← Array.foldl_toList]
  suffices h : ∀ (l : List Oper) (acc : Array Nat), befF l acc.toList = (l.foldl (fun acc o => acc.push (o.after.foldl (fun s e => if Region.binds .any e then s ||| 2 ^ e.on ||| acc.getD e.on 0 else s) 0)) acc).toList from h ops.toList #[]
  intro l
  induction l with
  | nil => intro acc; rfl
  | cons o l ih =>
    intro acc
    show befF l (snocN acc.toList (edgeF acc.toList o.after.toList 0)) = (l.foldl _ (acc.push _)).toList
    rw [← ih, snocN_eq, edgeF_eq, Array.toList_push, Array.foldl_toList]
theorem edgeF_bit (acc : List Nat) : ∀ (es : List Edge) (s i : Nat), (edgeF acc es s).testBit i = true ↔ s.testBit i = true ∨ ∃ e ∈ es, Region.binds .any e = true ∧ (e.on = i ∨ (acc.getD e.on 0).testBit i = true)
  | [], s, i => by simp [edgeF]
  | e :: es, s, i => by
    show (edgeF acc es (Bool.rec s (s ||| 2 ^ e.on ||| natAt e.on acc) (Region.binds .any e))).testBit i = true ↔ _
    rw [edgeF_bit acc es, natAt_eq]
    cases hb : Region.binds .any e with
    | false =>
      constructor
      · rintro (h | ⟨x, h1, h2⟩)
        · exact .inl h
        · exact .inr ⟨x, List.mem_cons_of_mem _ h1, h2⟩
      · rintro (h | ⟨x, h1, h2, h3⟩)
        · exact .inl h
        · rcases List.mem_cons.1 h1 with rfl | h1
          · rw [hb] at h2; cases h2
          · exact .inr ⟨x, h1, h2, h3⟩
    | true =>
      show (s ||| 2 ^ e.on ||| acc.getD e.on 0).testBit i = true ∨ _ ↔ _
      rw [Nat.testBit_or, Nat.testBit_or, Nat.testBit_two_pow]
      simp only [Bool.or_eq_true, decide_eq_true_eq]
      constructor
      · rintro (((h | h) | h) | ⟨x, h1, h2⟩)
        · exact .inl h
        · exact .inr ⟨e, List.mem_cons_self, hb, .inl h⟩
        · exact .inr ⟨e, List.mem_cons_self, hb, .inr h⟩
        · exact .inr ⟨x, List.mem_cons_of_mem _ h1, h2⟩
      · rintro (h | ⟨x, h1, h2, h3⟩)
        · exact .inl (.inl (.inl h))
        · rcases List.mem_cons.1 h1 with rfl | h1
          · rcases h3 with h3 | h3
            · exact .inl (.inl (.inr h3))
            · exact .inl (.inr h3)
          · exact .inr ⟨x, h1, h2, h3⟩
theorem befF_spec : ∀ (l : List Oper) (acc : List Nat), (befF l acc).length = acc.length + l.length ∧ (befF l acc).take acc.length = acc ∧
    ∀ (j : Nat) (o : Oper), l[j]? = some o → (befF l acc).getD (acc.length + j) 0 = edgeF ((befF l acc).take (acc.length + j)) o.after.toList 0
  | [], acc => by simp [befF]
  | o :: l, acc => by
    have e : befF (o :: l) acc = befF l (snocN acc (edgeF acc o.after.toList 0)) := rfl
    rw [e, snocN_eq]
    obtain ⟨h1, h2, h3⟩ := befF_spec l (acc ++ [edgeF acc o.after.toList 0])
    have hl : (acc ++ [edgeF acc o.after.toList 0]).length = acc.length + 1 := by simp
    rw [hl] at h1 h2 h3
    have h4 : (befF l (acc ++ [edgeF acc o.after.toList 0])).take acc.length = acc := by
      have := congrArg (List.take acc.length) h2
      rw [List.take_take, Nat.min_eq_left (Nat.le_succ _)] at this
      rw [this]
      simp
    refine ⟨by rw [h1, List.length_cons]; omega, h4, ?_⟩
    intro j p hj
    cases j with
    | zero =>
      simp at hj; subst hj
      rw [Nat.add_zero, h4]
      have h5 : (befF l (acc ++ [edgeF acc o.after.toList 0]))[acc.length]? = some (edgeF acc o.after.toList 0) := by
        have := congrArg (fun x => x[acc.length]?) h2
        simp only [List.getElem?_take] at this
        rw [if_pos (Nat.lt_succ_self _)] at this
        rw [this]
        simp
      simp [List.getD_eq_getElem?_getD, h5]
    | succ j =>
      have := h3 j p (by simpa using hj)
      rw [show acc.length + (j + 1) = acc.length + 1 + j from by omega]
      exact this
theorem backF_spec : ∀ (l : List Oper) (k : Nat), backF l k = true → ∀ (j : Nat) (o : Oper), l[j]? = some o → ∀ e ∈ o.after, Region.binds .any e = true → e.on < k + j
  | [], k, _, j, o, h => by simp at h
  | a :: l, k, hb, j, o, h => by
    have hb' : andF (edgesB k a.after.toList) (backF l (k + 1)) = true := hb
    rw [andF_eq, Bool.and_eq_true] at hb'
    cases j with
    | zero =>
      simp at h; subst h
      intro e he hbe
      have he' : e ∈ a.after.toList := by simpa using he
      have : ∀ (es : List Edge), edgesB k es = true → e ∈ es → e.on < k := by
        intro es
        induction es with
        | nil => intro _ h; cases h
        | cons x es ih =>
          intro h1 h2
          have h1' : (Bool.rec (edgesB k es) (andF (Nat.ble (x.on + 1) k) (edgesB k es)) (Region.binds .any x) : Bool) = true := h1
          rcases List.mem_cons.1 h2 with rfl | h2
          · rw [hbe] at h1'
            have h1'' : andF (Nat.ble (e.on + 1) k) (edgesB k es) = true := h1'
            rw [andF_eq, Bool.and_eq_true] at h1''
            exact Nat.le_of_ble_eq_true h1''.1
          · cases hx : Region.binds .any x with
            | false => rw [hx] at h1'; exact ih h1' h2
            | true =>
              rw [hx] at h1'
              have h1'' : andF (Nat.ble (x.on + 1) k) (edgesB k es) = true := h1'
              rw [andF_eq, Bool.and_eq_true] at h1''
              exact ih h1''.2 h2
      simpa using this _ hb'.1 he'
    | succ j =>
      intro e he hbe
      have := backF_spec l (k + 1) hb'.2 j o (by simpa using h) e he hbe
      omega
theorem befOK_of {ops : Array Oper} (hb : backF ops.toList 0 = true) : befOK ops (Region.before ops).toList = true := by
  have hback : ∀ (j : Nat) (o : Oper), ops[j]? = some o → ∀ e ∈ o.after, Region.binds .any e = true → e.on < j := fun j o h e he h2 => by
    have := backF_spec ops.toList 0 hb j o (by simpa using h) e he h2
    omega
  obtain ⟨_, _, hspec⟩ := befF_spec ops.toList []
  rw [befF_before] at hspec
  generalize (Region.before ops).toList = bef at *
  simp only [List.length_nil, Nat.zero_add] at hspec
  have hbit : ∀ (j : Nat) (o : Oper), ops[j]? = some o → ∀ i, (bef.getD j 0).testBit i = true ↔ ∃ e ∈ o.after, Region.binds .any e = true ∧ (e.on = i ∨ (bef.getD e.on 0).testBit i = true) := by
    intro j o ho i
    rw [hspec j o (by simpa using ho), edgeF_bit]
    constructor
    · rintro (h | ⟨e, h1, h2, h3⟩)
      · simp at h
      · have h1' : e ∈ o.after := by simpa using h1
        refine ⟨e, h1', h2, ?_⟩
        rcases h3 with h3 | h3
        · exact .inl h3
        · rw [List.getD_eq_getElem?_getD, List.getElem?_take, if_pos (hback j o ho e h1' h2), ← List.getD_eq_getElem?_getD] at h3
          exact .inr h3
    · rintro ⟨e, h1, h2, h3⟩
      refine .inr ⟨e, by simpa using h1, h2, ?_⟩
      rcases h3 with h3 | h3
      · exact .inl h3
      · right
        rw [List.getD_eq_getElem?_getD, List.getElem?_take, if_pos (hback j o ho e h1 h2), ← List.getD_eq_getElem?_getD]
        exact h3
  have hop : ∀ j, j < ops.size → ∃ o, ops[j]? = some o := fun j hj => ⟨ops[j], by simp [hj]⟩
  have hlt : ∀ j, j < ops.size → ∀ i, (bef.getD j 0).testBit i = true → i < j := by
    intro j
    induction j using Nat.strongRecOn with
    | _ j ih =>
      intro hj i hi
      obtain ⟨o, ho⟩ := hop j hj
      obtain ⟨e, h1, h2, h3⟩ := (hbit j o ho i).1 hi
      have := hback j o ho e h1 h2
      rcases h3 with rfl | h3
      · exact this
      · have := ih e.on this (by omega) i h3; omega
  have hsub : ∀ j, j < ops.size → ∀ i, (bef.getD j 0).testBit i = true → ∀ k, (bef.getD i 0).testBit k = true → (bef.getD j 0).testBit k = true := by
    intro j
    induction j using Nat.strongRecOn with
    | _ j ih =>
      intro hj i hi k hk
      obtain ⟨o, ho⟩ := hop j hj
      obtain ⟨e, h1, h2, h3⟩ := (hbit j o ho i).1 hi
      have hlt' := hback j o ho e h1 h2
      refine (hbit j o ho k).2 ⟨e, h1, h2, .inr ?_⟩
      rcases h3 with rfl | h3
      · exact hk
      · exact ih e.on hlt' (by omega) i h3 k hk
  unfold befOK
  rw [List.all_eq_true]
  intro j hj
  have hj := List.mem_range.1 hj
  obtain ⟨o, ho⟩ := hop j hj
  rw [ho]
  dsimp only
  rw [Bool.and_eq_true]
  constructor
  · rw [List.all_eq_true]
    intro e he
    cases hbe : Region.binds .any e with
    | false => rfl
    | true => simpa using hback j o ho e (by simpa using he) hbe
  · rw [List.all_eq_true]
    intro i hi
    have hi := List.mem_range.1 hi
    cases ht : (bef.getD j 0).testBit i with
    | false => rfl
    | true =>
      obtain ⟨e, h1, h2, h3⟩ := (hbit j o ho i).1 ht
      have g1 : decide (i < j) = true := decide_eq_true (hlt j hj i ht)
      have g2 : Nat.beq (bef.getD i 0 ||| bef.getD j 0) (bef.getD j 0) = true := by
        rw [Nat.beq_eq]
        refine Nat.eq_of_testBit_eq fun k => ?_
        rw [Nat.testBit_or]
        cases hk : (bef.getD i 0).testBit k with
        | false => rfl
        | true => rw [hsub j hj i ht k hk]; rfl
      have g3 : (o.after.toList.any fun e => Region.binds .any e && (decide (e.on = i) || (bef.getD e.on 0).testBit i)) = true := by
        rw [List.any_eq_true]
        refine ⟨e, by simpa using h1, ?_⟩
        rw [h2]
        rcases h3 with h3 | h3
        · simp [h3]
        · rw [h3]; simp
      rw [g1, g2, g3]
      rfl
theorem dstF_spec : ∀ (l : List Oper) (m : Nat), dstF l m = true → (∀ (i : Nat) (o : Oper) (x : Nat), l[i]? = some o → o.dst = some x → m.testBit x = false) ∧
    ∀ (i j : Nat) (o p : Oper) (x y : Nat), i < j → l[i]? = some o → l[j]? = some p → o.dst = some x → p.dst = some y → x ≠ y
  | [], m, _ => ⟨fun i o x h => by simp at h, fun i j o p x y _ h => by simp at h⟩
  | a :: l, m, h => by
    have h' : (Option.rec (dstF l m) (fun d => Bool.rec (dstF l (m ||| 2 ^ d)) false (bitF m d)) a.dst : Bool) = true := h
    cases hd : a.dst with
    | none =>
      rw [hd] at h'
      obtain ⟨g1, g2⟩ := dstF_spec l m h'
      refine ⟨fun i o x hi hx => ?_, fun i j o p x y hij hi hj hx hy => ?_⟩
      · cases i with
        | zero => simp at hi; subst hi; rw [hd] at hx; cases hx
        | succ i => exact g1 i o x (by simpa using hi) hx
      · obtain ⟨j, rfl⟩ : ∃ k, j = k + 1 := ⟨j - 1, by omega⟩
        cases i with
        | zero => simp at hi; subst hi; rw [hd] at hx; cases hx
        | succ i => exact g2 i j o p x y (by omega) (by simpa using hi) (by simpa using hj) hx hy
    | some d =>
      rw [hd] at h'
      have h'' : (Bool.rec (dstF l (m ||| 2 ^ d)) false (bitF m d) : Bool) = true := h'
      cases hb : bitF m d with
      | true => rw [hb] at h''; cases h''
      | false =>
        rw [hb] at h''
        obtain ⟨g1, g2⟩ := dstF_spec l (m ||| 2 ^ d) h''
        have g1' : ∀ (i : Nat) (o : Oper) (x : Nat), l[i]? = some o → o.dst = some x → m.testBit x = false ∧ d ≠ x := by
          intro i o x hi hx
          have := g1 i o x hi hx
          rw [Nat.testBit_or, Nat.testBit_two_pow, Bool.or_eq_false_iff, decide_eq_false_iff_not] at this
          exact this
        refine ⟨fun i o x hi hx => ?_, fun i j o p x y hij hi hj hx hy => ?_⟩
        · cases i with
          | zero => simp at hi; subst hi; rw [hd] at hx; obtain rfl := Option.some.inj hx; rw [← bitF_eq]; exact hb
          | succ i => exact (g1' i o x (by simpa using hi) hx).1
        · obtain ⟨j, rfl⟩ : ∃ k, j = k + 1 := ⟨j - 1, by omega⟩
          cases i with
          | zero =>
            simp at hi; subst hi; rw [hd] at hx; obtain rfl := Option.some.inj hx
            exact (g1' j p y (by simpa using hj) hy).2
          | succ i => exact g2 i j o p x y (by omega) (by simpa using hi) (by simpa using hj) hx hy
theorem dstOK_of {ops : Array Oper} (h : dstF ops.toList 0 = true) (bef : List Nat) : dstOK ops bef = true := by
  obtain ⟨_, g⟩ := dstF_spec _ _ h
  unfold dstOK
  rw [List.all_eq_true]
  intro j _
  rw [List.all_eq_true]
  intro i _
  by_cases hij : i = j
  · subst hij; simp
  · have : (match (ops[i]?).bind (·.dst), (ops[j]?).bind (·.dst) with
        | some x, some y => x != y
        | _, _ => true) = true := by
      split
      · rename_i x y hx hy
        obtain ⟨o, ho, hx⟩ := Option.bind_eq_some_iff.1 hx
        obtain ⟨p, hp, hy⟩ := Option.bind_eq_some_iff.1 hy
        rcases Nat.lt_or_gt_of_ne hij with hlt | hlt
        · have := g i j o p x y hlt (by simpa using ho) (by simpa using hp) hx hy
          simpa using this
        · have := g j i p o y x hlt (by simpa using hp) (by simpa using ho) hy hx
          simpa using this.symm
      · rfl
    rw [Bool.or_eq_true]
    exact .inr this
theorem selF_eq (o : Op) : selF o = match o with | .select .. => false | _ => true := by cases o <;> rfl
theorem nsF_eq (ops : Array Oper) : nsF ops.toList = Region.noSelect ops := by
  unfold Region.noSelect
  rw [← Array.all_toList]
  induction ops.toList with
  | nil => rfl
  | cons o l ih =>
    show andF (selF o.op) (nsF l) = _
    rw [andF_eq, selF_eq, ih]; rfl
theorem orF_eq (a b : Bool) : orF a b = (a || b) := by cases a <;> rfl
theorem erF_eq (j bj : Nat) : ∀ (l : List Oper) (bs : List Nat) (i0 : Nat), erF l bs i0 j bj = (List.range l.length).filterMap fun i => if i0 + i = j || bj.testBit (i0 + i) || (bs.getD i 0).testBit j then none else (l[i]?).bind (·.dst)
  | [], bs, i0 => rfl
  | o :: l, bs, i0 => by
    have hh : (List.rec (motive := fun _ => Nat) 0 (fun a _ _ => a) bs : Nat) = bs.getD 0 0 := by cases bs <;> rfl
    have ht : ∀ i, (List.rec (motive := fun _ => List Nat) [] (fun _ t _ => t) bs : List Nat).getD i 0 = bs.getD (i + 1) 0 := by intro i; cases bs <;> simp
    have ih := erF_eq j bj l (List.rec (motive := fun _ => List Nat) [] (fun _ t _ => t) bs) (i0 + 1)
    show (Bool.rec (Option.rec (erF l _ (i0 + 1) j bj) (fun d => d :: erF l _ (i0 + 1) j bj) o.dst) (erF l _ (i0 + 1) j bj) (orF (Nat.beq i0 j) (orF (bitF bj i0) (bitF _ j))) : List Nat) = _
    rw [ih, orF_eq, orF_eq, bitF_eq, bitF_eq, hh, List.length_cons, List.range_succ_eq_map, List.filterMap_cons, List.filterMap_map]
    have hrest : ((List.range l.length).filterMap fun i => if i0 + 1 + i = j || bj.testBit (i0 + 1 + i) || ((List.rec (motive := fun _ => List Nat) [] (fun _ t _ => t) bs : List Nat).getD i 0).testBit j then none else (l[i]?).bind (·.dst)) =
        (List.range l.length).filterMap ((fun i => if i0 + i = j || bj.testBit (i0 + i) || (bs.getD i 0).testBit j then none else ((o :: l)[i]?).bind (·.dst)) ∘ Nat.succ) := by
      congr 1
      funext i
      simp only [Function.comp]
      rw [ht, show i0 + 1 + i = i0 + i.succ from by omega]
      simp
    rw [hrest]
    generalize (List.range l.length).filterMap _ = R
    have hbeq : Nat.beq i0 j = decide (i0 = j) := by
      by_cases h : i0 = j
      · subst h; simp
      · rw [decide_eq_false h]
        cases hb : Nat.beq i0 j with
        | false => rfl
        | true => exact absurd (Nat.eq_of_beq_eq_true hb) h
    rw [hbeq]
    simp only [Nat.add_zero, List.getElem?_cons_zero, Option.bind_some]
    cases hc : (decide (i0 = j) || (bj.testBit i0 || (bs.getD 0 0).testBit j)) with
    | true =>
      rw [← Bool.or_assoc] at hc
      rw [if_pos hc]
    | false =>
      rw [← Bool.or_assoc] at hc
      rw [if_neg (by rw [hc]; decide)]
      cases o.dst <;> rfl
theorem compDF_eq (P : Program) (nt : Nat) (ops : Array Oper) (bef : List Nat) : ∀ (l : List AOp) (j : Nat), compDF ops.toList bef l j = compD P nt ops bef j l
  | [], j => rfl
  | a :: l, j => by
    show (⟨a, natAt j bef, erF ops.toList bef 0 j (natAt j bef)⟩ : DOp) :: compDF ops.toList bef l (j + 1) = ⟨a, bef.getD j 0, erOf ops bef j⟩ :: compD P nt ops bef (j + 1) l
    rw [compDF_eq P nt ops bef l, natAt_eq, erF_eq]
    congr 2
    unfold erOf
    simp
theorem dregF_eq (P : Program) (nt id : Nat) (ops : Array Oper) : dregF P nt ops = compC P nt (.region id ops true) := by
  have e : compC P nt (.region id ops true) = if befOK ops (Region.before ops).toList && dstOK ops (Region.before ops).toList && Region.noSelect ops then (compL P nt ops ops.toList).map fun l => .dreg (compD P nt ops (Region.before ops).toList 0 l) else some .bad := rfl
  unfold dregF
  cases h : andF (backF ops.toList 0) (andF (dstF ops.toList 0) (nsF ops.toList)) with
  | false => rfl
  | true =>
    rw [andF_eq, andF_eq, Bool.and_eq_true, Bool.and_eq_true, nsF_eq] at h
    rw [e, befOK_of h.1, dstOK_of h.2.1, h.2.2]
    show (Option.rec none (fun l => some (.dreg (compDF ops.toList (befF ops.toList []) l 0))) (kL P nt ops ops.toList) : Option AC) = (compL P nt ops ops.toList).map _
    rw [kL_eq, befF_before]
    cases compL P nt ops ops.toList with
    | none => rfl
    | some l => simp only [Option.map_some]; rw [compDF_eq P nt]
noncomputable def kC' (c : Code) : KT := Code.rec (motive := fun _ => KT)
    (fun _ _ => some .skip)
    (fun id ops d P nt => Bool.rec (motive := fun _ => Option AC) (regC (kL P nt ops ops.toList)) (dregF P nt ops) d)
    (fun _ _ iha ihb P nt => bindC (iha P nt) fun a => bindC (ihb P nt) fun b => some (.seq a b))
    (fun c _ _ iha ihb P nt => Option.rec (motive := fun _ => Option AC) none (fun c => bindC (iha P nt) fun a => bindC (ihb P nt) fun b => some (.cond c a b)) (oo P c))
    (fun n _ ih P nt => mapC (ih P nt) (.blk n))
    (fun _ ih P nt => mapC (ih P nt) .loop)
    (fun _ _ _ _ _ _ _ _ => some .bad)
    (fun n _ _ => some (.exit n))
    (fun _ ih P nt => mapC (ih P nt) .scope)
    (fun n _ _ => some (.lbl n))
    (fun n _ _ => some (.goto n))
    (fun _ _ => some .ret)
    (fun _ _ _ => some .bad) c
theorem kC'_eq (P : Program) (nt : Nat) (c : Code) : kC' c P nt = kC c P nt := by
  induction c with
  | region id ops d =>
    cases d with
    | true => exact dregF_eq P nt id ops
    | false => rfl
  | seq a b iha ihb => show bindC (kC' a P nt) (fun x => bindC (kC' b P nt) fun y => some (.seq x y)) = _; rw [iha, ihb]; rfl
  | cond c a b iha ihb => show (Option.rec none (fun c => bindC (kC' a P nt) fun a => bindC (kC' b P nt) fun b => some (.cond c a b)) (oo P c) : Option AC) = _; rw [iha, ihb]; rfl
  | block n c ih => show mapC (kC' c P nt) _ = _; rw [ih]; rfl
  | loop c ih => show mapC (kC' c P nt) _ = _; rw [ih]; rfl
  | scope c ih => show mapC (kC' c P nt) _ = _; rw [ih]; rfl
  | _ => rfl
noncomputable def kB' (P : Program) (fn : Func) (c : Code) : Option AF := Option.rec (motive := fun _ => Option AF) none (fun body => Option.rec (motive := fun _ => Option AF) none (fun res => some ⟨body, res⟩) (compR P fn.results.toList)) (kC' c P fn.ntmps)
noncomputable def kF' (P : Program) (f : Nat) : Option AF := Option.rec (motive := fun _ => Option AF) none (fun fn => Bool.rec (motive := fun _ => Option AF) (Option.rec (motive := fun _ => Option AF) none (fun c => kB' P fn c) fn.body) none (fn.name == "runtime.NumGoroutine")) P.funcs[f]?
theorem kF'_eq (P : Program) : kF' P = compF P := by
  rw [← kF_eq]
  funext f
  unfold kF' kF
  have : ∀ fn c, kB' P fn c = kB P fn c := fun fn c => by unfold kB' kB; rw [kC'_eq]
  simp only [this]
theorem evFast (Y : YT) (X : Nat → AVs → Option AV) (P : Program) (n0 n : Nat) : evCallF Y X (kF' P) n0 n = evCallY Y X (compF P) n0 n := by
  rw [evCallF_eq, kF'_eq]
end Go.Ev
end
section
open Go Go.Ev
namespace Go.Proofs.YthipfcgkongfjaaGreatDoor
set_option maxRecDepth 1000000
theorem ev_mix : Tryz.prog.follows .mixedOrders = true := by kernel_rfl
theorem ev_ng : Tryz.prog.globals.size = 3 := by kernel_rfl
theorem ev_i : ExtOK Tryz.prog 182 Extern.BytealgIndexByte.indexByte := extOK_of Tryz.func182 (by kernel_rfl) (by kernel_rfl) (by kernel_rfl) (by kernel_rfl)
theorem ev_c : ExtOK Tryz.prog 218 Extern.BytealgCompare.compare := extOK_of Tryz.func218 (by kernel_rfl) (by kernel_rfl) (by kernel_rfl) (by kernel_rfl)
theorem ev_id : ∀ f ∈ [184], ExtOK Tryz.prog f Extern.AbiNoEscape.same := by
  intro f hf
  simp only [List.mem_cons, List.not_mem_nil, or_false] at hf
  subst hf
  exact extOK_of Tryz.func184 (by kernel_rfl) (by kernel_rfl) (by kernel_rfl) (by kernel_rfl)
theorem ev_mk : MkOK Tryz.prog 210 5 := mkOK_of Tryz.func210 (by kernel_rfl) (by kernel_rfl) (by kernel_rfl) (ps := #[3]) (t := 127) (by kernel_rfl) Tryz.underlying127
theorem ev_known0 : saysB true (evCallF (mkY 210 5) (idX [184] (extX 182 218)) (kF' Tryz.prog) 3 10000 4 .nil ⟨.leaf, 3, 0⟩) = true := by decide +kernel
theorem ev_known : KnOK Tryz.prog 4 := fun w hsz => by
  letI : Theta := ⟨fun _ => 0⟩
  exact ev_topY ev_mix (compF_ok _) (idX_ok ev_id (extX_ok ev_i ev_c)) (mkY_ok ev_mk) (l := .nil) (H0 := .leaf) (vs := []) (by rfl) (by rw [ev_ng, ← evFast]; exact ev_known0) hsz (fun b k h => by rw [Tr.get_leaf] at h; cases h) (by simp only [VRs])
end Go.Proofs.YthipfcgkongfjaaGreatDoor
end
section
set_option maxHeartbeats 20000000
namespace Go.Proofs.YthipfcgkongfjaaGreatDoor
open Go Go.Sy Go.Tr
set_option linter.unusedVariables false
set_option linter.unusedSimpArgs false
theorem known_sc (s : St) : SCall Tryz.prog 4 [] s (.b true) s :=
  SCall.of (by kernel_rfl) fun σ w vs hh hv => by
    cases hv
    exact (ev_known w (by rw [ev_ng]; exact Nat.le_trans (Nat.le_max_right σ.m gN) hh.m)).mono fun e w' ⟨he, hb⟩ => ⟨_, _, he, .b, Good.below hh hb⟩
def strsV (l : List (List UInt8)) : SV := .lst l.length (l.map SV.s)
theorem kinds_sc (kind : Int) (raw : List UInt8) (l : List (List UInt8)) : SCallR Tryz.prog 3 [.i .i64 kind, .s raw, strsV l] ⟨A0, 0⟩ (fun r _ => r = .b true) := by
  refine SCallR.enter cc_cadencelaw10_FilesKinds ?_
  dsimp only [c_cadencelaw10_FilesKinds, argT, strsV]
  by_cases hr : 200 < raw.length
  · refine SC.seq ?_ nofun; refine SC.regK ?_; refine k_mv ?_; refine k_nil ?_; refine okS ?_ rfl; refine SC.seq ?_ nofun; refine SC.seq ?_ nofun; refine SC.regK ?_; refine k_call (known_sc _) ?_; refine k_not ?_; refine k_nil ?_; refine okS ?_ rfl; refine SC.cond_f rfl ?_; refine SC.skip ?_; refine SC.seq ?_ nofun; refine SC.seq ?_ nofun; refine SC.regK ?_; refine k_mv ?_; refine k_bls ?_; refine k_it ?_; refine k_mv ?_; refine k_no ?_; refine k_no ?_; refine k_no ?_; refine k_pt ?_; refine k_mv ?_; refine k_no ?_; refine k_no ?_; refine k_no ?_; refine k_no ?_; refine k_no ?_; refine k_no ?_; refine k_pt ?_; refine k_nil ?_; refine okS ?_ rfl; refine SC.cond_t rfl ?_; refine SC.seq ?_ nofun; refine SC.regK ?_; refine k_mv ?_; refine k_nil ?_; refine okS ?_ rfl; refine SC.ret ?_
    exact ⟨_, rfl, rfl⟩
  by_cases hl : 20 < l.length
  · refine SC.seq ?_ nofun; refine SC.regK ?_; refine k_mv ?_; refine k_nil ?_; refine okS ?_ rfl; refine SC.seq ?_ nofun; refine SC.seq ?_ nofun; refine SC.regK ?_; refine k_call (known_sc _) ?_; refine k_not ?_; refine k_nil ?_; refine okS ?_ rfl; refine SC.cond_f rfl ?_; refine SC.skip ?_; refine SC.seq ?_ nofun; refine SC.seq ?_ nofun; refine SC.regK ?_; refine k_mv ?_; refine k_bls ?_; refine k_if ?_; refine k_mv ?_; refine k_mv ?_; refine k_bll ?_; refine k_it ?_; refine k_pf ?_; refine k_mv ?_; refine k_no ?_; refine k_no ?_; refine k_no ?_; refine k_no ?_; refine k_no ?_; refine k_no ?_; refine k_pt ?_; refine k_nil ?_; refine okS ?_ rfl; refine SC.cond_t rfl ?_; refine SC.seq ?_ nofun; refine SC.regK ?_; refine k_mv ?_; refine k_nil ?_; refine okS ?_ rfl; refine SC.ret ?_
    exact ⟨_, rfl, rfl⟩
  by_cases h : 1 ≤ kind ∧ kind ≤ 4
  · obtain ⟨h1, h4⟩ := h
    refine SC.seq ?_ nofun; refine SC.regK ?_; refine k_mv ?_; refine k_nil ?_; refine okS ?_ rfl; refine SC.seq ?_ nofun; refine SC.seq ?_ nofun; refine SC.regK ?_; refine k_call (known_sc _) ?_; refine k_not ?_; refine k_nil ?_; refine okS ?_ rfl; refine SC.cond_f rfl ?_; refine SC.skip ?_; refine SC.seq ?_ nofun; refine SC.seq ?_ nofun; refine SC.regK ?_; refine k_mv ?_; refine k_bls ?_; refine k_if ?_; refine k_mv ?_; refine k_mv ?_; refine k_bll ?_; refine k_if ?_; refine k_pf ?_; refine k_mv ?_; refine k_mv ?_; refine k_it ?_; refine k_mv ?_; refine k_mv ?_; refine k_it ?_; refine k_pt ?_; refine k_pf ?_; refine k_nil ?_; refine okS ?_ rfl; refine SC.cond_t rfl ?_; refine SC.seq ?_ nofun; refine SC.regK ?_; refine k_mv ?_; refine k_nil ?_; refine okS ?_ rfl; refine SC.ret ?_
    exact ⟨_, rfl, rfl⟩
  by_cases h1 : 1 ≤ kind
  · have h4 : ¬ kind ≤ 4 := fun e => h ⟨h1, e⟩
    refine SC.seq ?_ nofun; refine SC.regK ?_; refine k_mv ?_; refine k_nil ?_; refine okS ?_ rfl; refine SC.seq ?_ nofun; refine SC.seq ?_ nofun; refine SC.regK ?_; refine k_call (known_sc _) ?_; refine k_not ?_; refine k_nil ?_; refine okS ?_ rfl; refine SC.cond_f rfl ?_; refine SC.skip ?_; refine SC.seq ?_ nofun; refine SC.seq ?_ nofun; refine SC.regK ?_; refine k_mv ?_; refine k_bls ?_; refine k_if ?_; refine k_mv ?_; refine k_mv ?_; refine k_bll ?_; refine k_if ?_; refine k_pf ?_; refine k_mv ?_; refine k_mv ?_; refine k_it ?_; refine k_mv ?_; refine k_mv ?_; refine k_if ?_; refine k_pt ?_; refine k_pf ?_; refine k_nil ?_; refine okS ?_ rfl; refine SC.cond_f rfl ?_; refine SC.skip ?_; refine SC.seq ?_ nofun; refine SC.regK ?_; refine k_mv ?_; refine k_nil ?_; refine okS ?_ rfl; refine SC.seq ?_ nofun; refine SC.seq ?_ nofun; refine SC.regK ?_; refine k_mv ?_; refine k_nil ?_; refine okS ?_ rfl; refine SC.blk ?_
    refine SC.loop [0, 1, 2, 7, 8] (fun vs s' => ∃ (i : Nat) (t : Tr) (V : SV), i ≤ l.length ∧ vs = [.i .i64 kind, .s raw, .lst l.length (l.map SV.s), V, .i .i64 i] ∧ Wk V (tv t) ∧ t.len ≤ i ∧ s' = ⟨A0, 0⟩) (fun vs _ => match vs with
      | [_, _, _, _, .i _ i] => l.length - i.toNat
      | _ => 0) rfl ⟨0, .nil, .nils, Nat.zero_le _, rfl, .nil, Nat.le_refl _, rfl⟩ nofun ?_
    rintro _ _ ⟨i, t, V, hi, rfl, hV, ht, rfl⟩
    by_cases hil : i < l.length
    · obtain ⟨y, hy⟩ : ∃ y, (l.map SV.s)[i]? = some (.s y) := ⟨l[i], by simp [hil]⟩
      have hw : ∀ (z : List UInt8) (s : St), SCall Tryz.prog 5 [V, .s z, .nils] s (tv (t.set1 (bA z) .nil)) s := fun z s => by
        have := (with_sc t .nil (bA z) s (by omega)).args (.cons hV (.cons (.refl _) (.cons .nil .nil)))
        rwa [data_bA] at this
      refine SC.seq ?_ nofun; refine SC.seq ?_ nofun; refine SC.regK ?_; refine k_mv ?_; refine k_mv ?_; refine k_bll ?_; refine k_it ?_; refine k_nil ?_; refine okS ?_ rfl; refine SC.cond_t rfl ?_; refine SC.skip ?_; refine SC.seq ?_ nofun; refine SC.blk ?_; refine SC.dregK ?_; refine k_mv ?_; refine k_mv ?_; refine k_mv ?_; refine k_ial ?_; refine k_ldl ?_; refine k_mv ?_; refine k_mv ?_; refine k_ial ?_; refine k_ldl ?_; refine k_bls ?_; refine k_bmn ?_
      refine k_sl (j := min y.length 30) ?_ (hm := by omega) (hj := by omega)
      refine k_call (hw _ _) ?_; refine k_mv ?_; refine k_nil ?_; refine okD (ne := []) ?_ (by kernel_rfl) trivial; refine SC.regK ?_; refine k_mv ?_; refine k_add ?_; refine k_mv ?_; refine k_nil ?_; refine okS ?_ rfl
      refine ⟨_, rfl, ⟨i + 1, _, _, hil, rfl, .refl _, ?_, rfl⟩, by simp; omega⟩
      have := set1_len (bA (y.take (min y.length 30))) .nil t
      omega
    · refine SC.seq ?_ nofun; refine SC.seq ?_ nofun; refine SC.regK ?_; refine k_mv ?_; refine k_mv ?_; refine k_bll ?_; refine k_if ?_; refine k_nil ?_; refine okS ?_ rfl; refine SC.cond_f rfl ?_; refine SC.exit ?_; refine SC.seq ?_ nofun; refine SC.regK ?_; refine k_mv ?_; refine k_mv ?_; refine k_call (fLoad_sc _ _ h _) ?_; refine k_mv ?_; refine k_ext ?_; refine k_ext ?_; refine k_ext ?_; refine k_mv ?_; refine k_mv ?_; refine k_mv ?_; refine k_nil ?_; refine okS ?_ rfl; refine SC.seq ?_ nofun; refine SC.regK ?_; refine k_mv ?_; refine k_mv ?_; refine k_mv ?_; refine k_call (fPut_sc _ _ _ h _) ?_; refine k_mv ?_; refine k_ext ?_; refine k_ext ?_; refine k_mv ?_; refine k_mv ?_; refine k_nil ?_; refine okS ?_ rfl; refine SC.seq ?_ nofun; refine SC.regK ?_; refine k_mv ?_; refine k_mv ?_; refine k_call (fCreate_sc _ _ h _) ?_; refine k_mv ?_; refine k_ext ?_; refine k_ext ?_; refine k_mv ?_; refine k_mv ?_; refine k_nil ?_; refine okS ?_ rfl; refine SC.seq ?_ nofun; refine SC.regK ?_; refine k_mv ?_; refine k_it ?_; refine k_mv ?_; refine k_mv ?_; refine k_it ?_; refine k_pt ?_; refine k_mv ?_; refine k_mv ?_; refine k_bll ?_; refine k_it ?_; refine k_pt ?_; refine k_mv ?_; refine k_mv ?_; refine k_it ?_; refine k_pt ?_; refine k_mv ?_; refine k_mv ?_; refine k_st ?_; refine k_pt ?_; refine k_mv ?_; refine k_mv ?_; refine k_it ?_; refine k_pt ?_; refine k_mv ?_; refine k_mv ?_; refine k_st ?_; refine k_pt ?_; refine k_mv ?_; refine k_mv ?_; refine k_mv ?_; refine k_call (fFits_sc _ _ h _) ?_; refine k_it ?_; refine k_pt ?_; refine k_mv ?_; refine k_mv ?_; refine k_call (fSchema_sc _ h _) ?_; refine k_bll ?_; refine k_it ?_; refine k_pt ?_; refine k_mv ?_; refine k_nil ?_; refine okS ?_ rfl
      refine SC.ret ?_
      exact ⟨_, rfl, rfl⟩
  · refine SC.seq ?_ nofun; refine SC.regK ?_; refine k_mv ?_; refine k_nil ?_; refine okS ?_ rfl; refine SC.seq ?_ nofun; refine SC.seq ?_ nofun; refine SC.regK ?_; refine k_call (known_sc _) ?_; refine k_not ?_; refine k_nil ?_; refine okS ?_ rfl; refine SC.cond_f rfl ?_; refine SC.skip ?_; refine SC.seq ?_ nofun; refine SC.seq ?_ nofun; refine SC.regK ?_; refine k_mv ?_; refine k_bls ?_; refine k_if ?_; refine k_mv ?_; refine k_mv ?_; refine k_bll ?_; refine k_if ?_; refine k_pf ?_; refine k_mv ?_; refine k_mv ?_; refine k_if ?_; refine k_mv ?_; refine k_no ?_; refine k_no ?_; refine k_pf ?_; refine k_pf ?_; refine k_nil ?_; refine okS ?_ rfl; refine SC.cond_f rfl ?_; refine SC.skip ?_; refine SC.seq ?_ nofun; refine SC.regK ?_; refine k_mv ?_; refine k_nil ?_; refine okS ?_ rfl; refine SC.seq ?_ nofun; refine SC.seq ?_ nofun; refine SC.regK ?_; refine k_mv ?_; refine k_nil ?_; refine okS ?_ rfl; refine SC.blk ?_
    refine SC.loop [0, 1, 2, 7, 8] (fun vs s' => ∃ (i : Nat) (t : Tr) (V : SV), i ≤ l.length ∧ vs = [.i .i64 kind, .s raw, .lst l.length (l.map SV.s), V, .i .i64 i] ∧ Wk V (tv t) ∧ t.len ≤ i ∧ s' = ⟨A0, 0⟩) (fun vs _ => match vs with
      | [_, _, _, _, .i _ i] => l.length - i.toNat
      | _ => 0) rfl ⟨0, .nil, .nils, Nat.zero_le _, rfl, .nil, Nat.le_refl _, rfl⟩ nofun ?_
    rintro _ _ ⟨i, t, V, hi, rfl, hV, ht, rfl⟩
    by_cases hil : i < l.length
    · obtain ⟨y, hy⟩ : ∃ y, (l.map SV.s)[i]? = some (.s y) := ⟨l[i], by simp [hil]⟩
      have hw : ∀ (z : List UInt8) (s : St), SCall Tryz.prog 5 [V, .s z, .nils] s (tv (t.set1 (bA z) .nil)) s := fun z s => by
        have := (with_sc t .nil (bA z) s (by omega)).args (.cons hV (.cons (.refl _) (.cons .nil .nil)))
        rwa [data_bA] at this
      refine SC.seq ?_ nofun; refine SC.seq ?_ nofun; refine SC.regK ?_; refine k_mv ?_; refine k_mv ?_; refine k_bll ?_; refine k_it ?_; refine k_nil ?_; refine okS ?_ rfl; refine SC.cond_t rfl ?_; refine SC.skip ?_; refine SC.seq ?_ nofun; refine SC.blk ?_; refine SC.dregK ?_; refine k_mv ?_; refine k_mv ?_; refine k_mv ?_; refine k_ial ?_; refine k_ldl ?_; refine k_mv ?_; refine k_mv ?_; refine k_ial ?_; refine k_ldl ?_; refine k_bls ?_; refine k_bmn ?_
      refine k_sl (j := min y.length 30) ?_ (hm := by omega) (hj := by omega)
      refine k_call (hw _ _) ?_; refine k_mv ?_; refine k_nil ?_; refine okD (ne := []) ?_ (by kernel_rfl) trivial; refine SC.regK ?_; refine k_mv ?_; refine k_add ?_; refine k_mv ?_; refine k_nil ?_; refine okS ?_ rfl
      refine ⟨_, rfl, ⟨i + 1, _, _, hil, rfl, .refl _, ?_, rfl⟩, by simp; omega⟩
      have := set1_len (bA (y.take (min y.length 30))) .nil t
      omega
    · refine SC.seq ?_ nofun; refine SC.seq ?_ nofun; refine SC.regK ?_; refine k_mv ?_; refine k_mv ?_; refine k_bll ?_; refine k_if ?_; refine k_nil ?_; refine okS ?_ rfl; refine SC.cond_f rfl ?_; refine SC.exit ?_; refine SC.seq ?_ nofun; refine SC.regK ?_; refine k_mv ?_; refine k_mv ?_; refine k_call (fLoad_sc _ _ h _) ?_; refine k_mv ?_; refine k_ext ?_; refine k_ext ?_; refine k_ext ?_; refine k_mv ?_; refine k_mv ?_; refine k_mv ?_; refine k_nil ?_; refine okS ?_ rfl; refine SC.seq ?_ nofun; refine SC.regK ?_; refine k_mv ?_; refine k_mv ?_; refine k_mv ?_; refine k_call (fPut_sc _ _ _ h _) ?_; refine k_mv ?_; refine k_ext ?_; refine k_ext ?_; refine k_mv ?_; refine k_mv ?_; refine k_nil ?_; refine okS ?_ rfl; refine SC.seq ?_ nofun; refine SC.regK ?_; refine k_mv ?_; refine k_mv ?_; refine k_call (fCreate_sc _ _ h _) ?_; refine k_mv ?_; refine k_ext ?_; refine k_ext ?_; refine k_mv ?_; refine k_mv ?_; refine k_nil ?_; refine okS ?_ rfl; refine SC.seq ?_ nofun; refine SC.regK ?_; refine k_mv ?_; refine k_it ?_; refine k_mv ?_; refine k_mv ?_; refine k_it ?_; refine k_pt ?_; refine k_mv ?_; refine k_mv ?_; refine k_bll ?_; refine k_it ?_; refine k_pt ?_; refine k_mv ?_; refine k_mv ?_; refine k_it ?_; refine k_pt ?_; refine k_mv ?_; refine k_mv ?_; refine k_st ?_; refine k_pt ?_; refine k_mv ?_; refine k_mv ?_; refine k_it ?_; refine k_pt ?_; refine k_mv ?_; refine k_mv ?_; refine k_st ?_; refine k_pt ?_; refine k_mv ?_; refine k_mv ?_; refine k_mv ?_; refine k_call (fFits_sc _ _ h _) ?_; refine k_it ?_; refine k_pt ?_; refine k_mv ?_; refine k_mv ?_; refine k_call (fSchema_sc _ h _) ?_; refine k_bll ?_; refine k_it ?_; refine k_pt ?_; refine k_mv ?_; refine k_nil ?_; refine okS ?_ rfl
      refine SC.ret ?_
      exact ⟨_, rfl, rfl⟩
theorem open_ss {H : Type} {enc : TypeId × Value → H} {w : World} {a : Option Addr} {len cap : Nat} {d : DataW H} {p : List MemPlace} (h : DataW.Trod enc Tryz.prog w 0 (fun _ => true) true 22 (.slice a len cap) d p) :
    ∃ l : List (List UInt8), (l.length = len ∧ Go.Kb.RV w 1 a len cap (l.map fun x => Value.string ⟨x.toArray⟩)) ∧ cap ≤ maxLen := by
  obtain ⟨l, h1, h2, h3⟩ := Go.Sy.open_strs Tryz.underlying22 Tryz.underlying9 (by kernel_rfl) h
  exact ⟨l, ⟨h1, h2⟩, h3⟩
theorem ss_top (w : World) {a : Option Addr} {len cap : Nat} {l : List (List UInt8)} (h : l.length = len ∧ Go.Kb.RV w 1 a len cap (l.map fun x => Value.string ⟨x.toArray⟩)) (hc : cap ≤ maxLen) (hS : ∀ ad, a = some ad → ad.block < w.heap.size) : VR (env0 w) (strsV l) (.slice a len cap) := by
  obtain ⟨rfl, hR⟩ := h
  exact lst_top (z := 1) (by decide) (strs_top _ l) hR hS hc (by simp)
theorem str_top (σ : Env) (a : ByteArray) : VR σ (.s a.data.toList) (.string a) := by
  have := VR.s (σ := σ) (l := a.data.toList)
  rwa [show (⟨a.data.toList.toArray⟩ : ByteArray) = a by cases a; rfl] at this
theorem filesKinds_walk (a0 : Int) (a1 : ByteArray) (a2 : Option Addr) (len2 cap2 : Nat) (l2 : List (List UInt8)) (W : World) (hg : Tryz.prog.globals.size ≤ W.heap.size)
    (w0 : (Lit.int .i64 a0).wf = true) (w1 : a1.size ≤ 140737488351232) (f2 : l2.length = len2 ∧ Go.Kb.RV W 1 a2 len2 cap2 (l2.map fun x => Value.string ⟨x.toArray⟩)) (c2 : cap2 ≤ maxLen) (s2 : ∀ ad, a2 = some ad → ad.block < W.heap.size) :
    Calls Tryz.prog 3 #[.int .i64 a0, .string a1, .slice a2 len2 cap2] W fun e w' => e = .returned (.bool true) ∧ RowKit.Below W.heap.size W w' :=
  calls_top (by rwa [show Tryz.prog.globals.size = gN from by kernel_rfl] at hg) (by kernel_rfl) (kinds_sc a0 a1.data.toList l2) (.cons .i (.cons (str_top _ a1) (.cons (ss_top W f2 c2 s2) .nil)))
end Go.Proofs.YthipfcgkongfjaaGreatDoor
end
section
namespace Go.Proofs.YthipfcgkongfjaaGreatDoor.filesKinds
open Go.ChangeShapes Go.WideShapes Go.ChangeAt Go.RowKit
open Go.ChangeMaps (open_string shut_string)
set_option linter.unusedVariables false
theorem own : ownKnob Tryz.prog.godebug = none := by kernel_rfl
theorem laidOut : laidOutB Tryz.prog = true := by kernel_rfl
theorem blocks : Nat.blt Tryz.prog.globals.size (begin Tryz.prog (fun _ _ => 0) default).world.heap.size = true := by kernel_rfl
noncomputable def laid : List (String × DataW Unit) := Rows.filesKindsRow.laid
set_option maxRecDepth 100000 in
theorem lifted (os : Os) (started : os.Started) (H : Type) (enc : TypeId × Value → H) :
    ReturnsInHanded {} Tryz.checked os 3 .any (fun w args => (Rows.filesKindsSpec.pre enc Tryz.prog Tryz.f3 [] false w args ∧ laidMetH Tryz.prog laid w) ∧ sizedMet enc Tryz.prog Tryz.f3 (OpenSpec.ofChange Rows.filesKindsSpec) false w args) (Rows.filesKindsSpec.post enc Tryz.prog Tryz.f3 false true false false) := by
  refine returnsInHanded_of_change_sh (C := Tryz.checked) (X := fun w _ => laidMetH Tryz.prog laid w) (fun _ _ _ hh h => h.of_heap hh) own started (by kernel_rfl) Tryz.func3
    (ChangeSpec.witness_shaped (enc := enc) (C := Tryz.checked) (os := os) (X := fun w _ => laidMetH Tryz.prog laid w) false (World.laidAll Tryz.prog os laid) #[.int .i64 0, .string ByteArray.empty, .slice none 0 0] 8 (World.laidAll_os _ _ _)
      (World.shaped_of_ZipB (by kernel_rfl) (by kernel_rfl)) (by kernel_rfl) (by kernel_rfl) (by kernel_rfl)
      (by rw [MakeChecks.laidMetH_plain _ _ _ (by kernel_rfl)]; exact laidMet_laidAll _ (by kernel_rfl) (by kernel_rfl))) ?_
  intro W base args ds gs before hshape hval0 hW hcnd hsz0 hL _
  have hglob := globals_of_shaped hshape blocks
  have hsz : (DataW.weightsEach Tryz.prog (Tryz.f3.params.toList ++ Rows.filesKindsSpec.plain.varTypes Tryz.prog) (ds ++ gs)).all (· ≤ reachBytes) = true := hsz0
  have hval : ∀ (j : Nat) t v, Tryz.f3.params[j]? = some t → args[j]? = some v → Value.okWide Tryz.prog W .any base t v := hval0
  have hW' := hW
  obtain ⟨p, q, hA0, hV, rfl, hfz, hnd⟩ := hW
  have hA : DataW.TrodAll enc Tryz.prog W 0 (fun _ => true) true Tryz.f3.params.toList args.toList ds p := hA0
  rw [Tryz.params3] at hA hval hsz
  obtain ⟨v0, vs0, d0, ds0, p0, q0, hargs, rfl, rfl, h0, r0⟩ := trodAll_cons hA
  obtain ⟨v1, vs1, d1, ds1, p1, q1, rfl, rfl, rfl, h1, r1⟩ := trodAll_cons r0
  obtain ⟨v2, vs2, d2, ds2, p2, q2, rfl, rfl, rfl, h2, r2⟩ := trodAll_cons r1
  obtain ⟨rfl, rfl, rfl⟩ := trodAll_nil r2
  obtain rfl : args = #[v0, v1, v2] := by cases args; simp_all
  obtain ⟨rfl, rfl⟩ := trodVars_none hV
  obtain ⟨a0, rfl, rfl, rfl, w0⟩ := open_int Tryz.underlying3 (hval 0 3 v0 rfl rfl) h0
  obtain ⟨a1, rfl, rfl, rfl, y1⟩ := open_string Tryz.underlying9 (hval 1 9 v1 rfl rfl) h1
  have w1 : a1.size ≤ 140737488351232 := by
    have z := sized_string hsz (j := 1) (t := 9) rfl rfl
    rw [Array.length_toList] at z
    exact z
  obtain ⟨a2, len2, cap2, rfl⟩ := okWide_slice Tryz.underlying22 (hval 2 22 v2 rfl rfl)
  have k2 := h2
  have lt2 : ∀ x ∈ p2, x.block < W.heap.size := by obtain ⟨m, hm⟩ := k2; exact DataW.trod_lt m _ _ _ hm
  have sl2 := Go.Sy.slice_lt Tryz.underlying22 (hval 2 22 _ rfl rfl)
  obtain ⟨l22, f2, c2⟩ := open_ss h2
  clear hA0 hval0 hsz0 hsz
  refine (filesKinds_walk a0 a1 a2 len2 cap2 l22 W hglob w0 w1 f2 c2 sl2).mono fun e W' ⟨he, bel⟩ => ?_
  subst he
  exact ⟨_, rfl, _, _, _, [], _, [], hW', trodAll_mk1 (shut_bool Tryz.underlying4 _), (trodAll_cons_mk (shut_int Tryz.underlying3 w0) (trodAll_cons_mk (shut_string Tryz.underlying9 y1) (trodAll_cons_mk (Below.trod laidOut (by kernel_rfl) (of_decide_eq_true (by kernel_rfl)) k2 bel lt2) trodAll_mk0))), rfl, bel.frame _, fun h => by cases h⟩
theorem over : Rows.FilesKindsSaid :=
  OpenClaim.holds_of_wide 3 Tryz.f3 rfl rfl rfl rfl rfl rfl rfl ⟨rfl, rfl, rfl, rfl, rfl⟩ rfl rfl rfl rfl rfl (by kernel_rfl) Tryz.func3 (by kernel_rfl)
    (of_decide_eq_true (by kernel_rfl)) (by unfold Func.isWrapper; first | (rw [if_pos (by decide +kernel)]; kernel_rfl) | (rw [if_neg (by decide +kernel)]; exact ⟨rfl, rfl⟩))
    (fun os started H enc _ => lifted os started H enc)
theorem proved : Rows.FilesKindsCardSaid :=
  Claim7.holds_tied_plain_at .later [] Rows.filesKindsCard.laidKinds true Rows.filesKindsCard.stood.harness Rows.filesKindsCard.stood.looks over (fun _ h => by cases h) (by kernel_rfl) (fun _ h => by cases h) filesKinds_row_tie rfl ⟨rfl, rfl⟩ (by kernel_rfl) rfl
    (fun f fn hf hfn => by
      obtain rfl : f = 3 := Option.some.inj ((show Tryz.prog.funcNamed "cadence/cadencelaw10.FilesKinds" = some 3 by kernel_rfl).symm.trans hf) |>.symm
      obtain rfl : fn = Tryz.f3 := (Option.some.inj (Tryz.func3.symm.trans hfn)).symm
      exact ⟨by kernel_rfl, fun j t ht => by
        rw [Tryz.params3] at ht
        have hm : t ∈ [3, 9, 22] := by simpa using Array.mem_of_getElem? ht
        have hall : ([3, 9, 22].all fun u => !Tryz.prog.wantsStandIn u) = true := by kernel_rfl
        exact (show Tryz.prog.wantsStandIn t = false by simpa using List.all_eq_true.1 hall t hm)⟩)
    (by kernel_rfl)
end Go.Proofs.YthipfcgkongfjaaGreatDoor.filesKinds
namespace Go.Proofs.YthipfcgkongfjaaGreatDoor
theorem filesKinds_holds : Rows.FilesKindsCardSaid := filesKinds.proved
end Go.Proofs.YthipfcgkongfjaaGreatDoor
end
