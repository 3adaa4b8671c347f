import Derived.Test.YtbbfhlglljjpmaaGreatDoorEvP
namespace Go.Ev
open Go
set_option linter.unusedVariables false
variable [Theta]
set_option linter.unusedSectionVars false
set_option linter.unusedSimpArgs false

/-! Folds -/
theorem foldH_cons (r : DR) (l : List DR) (i : Nat) (S : Nat → Bool) (H : Tr Blk) : foldH (r :: l) i S H = match S i with
    | true => foldH l (i + 1) S (apD r H)
    | false => foldH l (i + 1) S H := rfl
theorem foldT_cons (r : DR) (l : List DR) (i : Nat) (S : Nat → Bool) (T : Tr AV) : foldT (r :: l) i S T = match S i with
    | true => foldT l (i + 1) S (putT T r.d r.v)
    | false => foldT l (i + 1) S T := rfl
theorem foldH_congr {b : Nat} : ∀ (l : List DR) (k : Nat) (S S' : Nat → Bool) (H H' : Tr Blk), (∀ i r, l[i]? = some r → r.touch b → S (k + i) = S' (k + i)) → (∀ r ∈ l, r.lo ≤ r.hi) → H.get b = H'.get b → (foldH l k S H).get b = (foldH l k S' H').get b
  | [], k, S, S', H, H', _, _, h => h
  | r :: l, k, S, S', H, H', hS, hle, h => by
    have hl := hle r (List.mem_cons_self ..)
    have hn : ∀ i q, l[i]? = some q → q.touch b → S (k + 1 + i) = S' (k + 1 + i) := fun i q hq ht => by
      have := hS (i + 1) q (by simpa using hq) ht
      rwa [show k + (i + 1) = k + 1 + i from by omega] at this
    have hle' : ∀ q ∈ l, q.lo ≤ q.hi := fun q hq => hle q (List.mem_cons_of_mem _ hq)
    have ap := apD_get r H hl b
    have ap' := apD_get r H' hl b
    rw [foldH_cons, foldH_cons]
    by_cases ht : r.touch b
    · have h0 := hS 0 r rfl ht
      simp only [Nat.add_zero] at h0
      rw [h0]
      cases S' k with
      | true => exact foldH_congr l (k + 1) S S' _ _ hn hle' (by rw [ap.1 ht, ap'.1 ht])
      | false => exact foldH_congr l (k + 1) S S' _ _ hn hle' h
    · cases S k <;> cases S' k <;> exact foldH_congr l (k + 1) S S' _ _ hn hle' (by first | exact h | (rw [ap.2 ht]; exact h) | (rw [ap'.2 ht]; exact h) | (rw [ap.2 ht, ap'.2 ht]; exact h))
theorem foldH_none {b : Nat} : ∀ (l : List DR) (k : Nat) (S : Nat → Bool) (H : Tr Blk), (∀ i r, l[i]? = some r → S (k + i) = true → ¬ r.touch b) → (∀ r ∈ l, r.lo ≤ r.hi) → (foldH l k S H).get b = H.get b
  | [], k, S, H, _, _ => rfl
  | r :: l, k, S, H, hS, hle => by
    have hn : ∀ i q, l[i]? = some q → S (k + 1 + i) = true → ¬ q.touch b := fun i q hq ht => hS (i + 1) q (by simpa using hq) (by rwa [show k + (i + 1) = k + 1 + i from by omega])
    have hle' : ∀ q ∈ l, q.lo ≤ q.hi := fun q hq => hle q (List.mem_cons_of_mem _ hq)
    rw [foldH_cons]
    cases hs : S k with
    | true =>
      have h0 := hS 0 r rfl (by simpa using hs)
      show (foldH l (k + 1) S (apD r H)).get b = _
      rw [foldH_none l (k + 1) S _ hn hle', (apD_get r H (hle r (List.mem_cons_self ..)) b).2 h0]
    | false => exact foldH_none l (k + 1) S _ hn hle'
theorem foldH_last {b : Nat} : ∀ (l : List DR) (k j : Nat) (S : Nat → Bool) (H : Tr Blk) (r : DR), l[j]? = some r → S (k + j) = true → r.touch b → (∀ i q, j < i → l[i]? = some q → S (k + i) = true → ¬ q.touch b) → (∀ r ∈ l, r.lo ≤ r.hi) → (foldH l k S H).get b = r.H.get b
  | [], k, j, S, H, r, h, _, _, _, _ => by simp at h
  | q :: l, k, 0, S, H, r, h, hS, ht, hn, hle => by
    simp at h; subst h
    simp only [Nat.add_zero] at hS
    rw [foldH_cons, hS]
    show (foldH l (k + 1) S (apD q H)).get b = _
    rw [foldH_none l (k + 1) S _ (fun i r hr hs => hn (i + 1) r (by omega) (by simpa using hr) (by rwa [show k + (i + 1) = k + 1 + i from by omega])) (fun x hx => hle x (List.mem_cons_of_mem _ hx)), (apD_get q H (hle q (List.mem_cons_self ..)) b).1 ht]
  | q :: l, k, j + 1, S, H, r, h, hS, ht, hn, hle => by
    have hh : ∀ H', (foldH l (k + 1) S H').get b = r.H.get b := fun H' => foldH_last l (k + 1) j S H' r (by simpa using h) (by rwa [show k + 1 + j = k + (j + 1) from by omega]) ht
      (fun i x hi hx hs => hn (i + 1) x (by omega) (by simpa using hx) (by rwa [show k + (i + 1) = k + 1 + i from by omega])) (fun x hx => hle x (List.mem_cons_of_mem _ hx))
    rw [foldH_cons]
    cases S k <;> exact hh _
theorem foldH_origin {b : Nat} {x : Blk} (l : List DR) (k : Nat) (S : Nat → Bool) (H : Tr Blk) (hle : ∀ r ∈ l, r.lo ≤ r.hi) (h : (foldH l k S H).get b = some x) : (∃ i r, l[i]? = some r ∧ S (k + i) = true ∧ r.touch b) ∨ H.get b = some x := by
  by_cases hh : ∃ i r, l[i]? = some r ∧ S (k + i) = true ∧ r.touch b
  · exact .inl hh
  · rw [foldH_none l k S H (fun i r hr hs ht => hh ⟨i, r, hr, hs, ht⟩) hle] at h
    exact .inr h

theorem putT_get (T : Tr AV) (d : Option Nat) (v : AV) (t : Nat) : (putT T d v).get t = if d = some t then some v else T.get t := by
  cases d with
  | none => rfl
  | some d =>
    show (T.set d (some v)).get t = _
    rw [Tr.get_set]
    by_cases h : t = d
    · subst h; simp
    · rw [if_neg h, if_neg (by intro e; exact h (Option.some.inj e).symm)]
theorem foldT_congr {t : Nat} : ∀ (l : List DR) (k : Nat) (S S' : Nat → Bool) (T T' : Tr AV), (∀ i r, l[i]? = some r → r.d = some t → S (k + i) = S' (k + i)) → T.get t = T'.get t → (foldT l k S T).get t = (foldT l k S' T').get t
  | [], k, S, S', T, T', _, h => h
  | r :: l, k, S, S', T, T', hS, h => by
    have hn : ∀ i q, l[i]? = some q → q.d = some t → S (k + 1 + i) = S' (k + 1 + i) := fun i q hq ht => by
      have := hS (i + 1) q (by simpa using hq) ht
      rwa [show k + (i + 1) = k + 1 + i from by omega] at this
    rw [foldT_cons, foldT_cons]
    by_cases ht : r.d = some t
    · have h0 := hS 0 r rfl ht
      simp only [Nat.add_zero] at h0
      rw [h0]
      cases S' k with
      | true => exact foldT_congr l (k + 1) S S' _ _ hn (by rw [putT_get, putT_get, if_pos ht, if_pos ht])
      | false => exact foldT_congr l (k + 1) S S' _ _ hn h
    · have e1 : (putT T r.d r.v).get t = T.get t := by rw [putT_get, if_neg ht]
      have e2 : (putT T' r.d r.v).get t = T'.get t := by rw [putT_get, if_neg ht]
      cases S k <;> cases S' k <;> exact foldT_congr l (k + 1) S S' _ _ hn (by first | exact h | (rw [e1]; exact h) | (rw [e2]; exact h) | (rw [e1, e2]; exact h))
theorem foldT_none {t : Nat} (l : List DR) (k : Nat) (S : Nat → Bool) (T : Tr AV) (hS : ∀ i r, l[i]? = some r → S (k + i) = true → r.d ≠ some t) : (foldT l k S T).get t = T.get t := by
  have e : ∀ (l : List DR) (k : Nat) (T : Tr AV), (foldT l k (fun _ => false) T) = T := by
    intro l
    induction l with
    | nil => intro k T; rfl
    | cons r l ih => intro k T; rw [foldT_cons]; exact ih _ _
  rw [foldT_congr l k S (fun _ => false) T T (fun i r hr ht => by
    cases hs : S (k + i) with
    | false => rfl
    | true => exact absurd ht (hS i r hr hs)) rfl, e]
theorem foldT_last {t : Nat} : ∀ (l : List DR) (k j : Nat) (S : Nat → Bool) (T : Tr AV) (r : DR), l[j]? = some r → S (k + j) = true → r.d = some t → (∀ i q, j < i → l[i]? = some q → S (k + i) = true → q.d ≠ some t) → (foldT l k S T).get t = some r.v
  | [], k, j, S, T, r, h, _, _, _ => by simp at h
  | q :: l, k, 0, S, T, r, h, hS, ht, hn => by
    simp at h; subst h
    simp only [Nat.add_zero] at hS
    rw [foldT_cons, hS]
    show (foldT l (k + 1) S (putT T q.d q.v)).get t = _
    rw [foldT_none l (k + 1) S _ (fun i r hr hs => hn (i + 1) r (by omega) (by simpa using hr) (by rwa [show k + (i + 1) = k + 1 + i from by omega])), putT_get, if_pos ht]
  | q :: l, k, j + 1, S, T, r, h, hS, ht, hn => by
    have hh : ∀ T', (foldT l (k + 1) S T').get t = some r.v := fun T' => foldT_last l (k + 1) j S T' r (by simpa using h) (by rwa [show k + 1 + j = k + (j + 1) from by omega]) ht
      (fun i x hi hx hs => hn (i + 1) x (by omega) (by simpa using hx) (by rwa [show k + (i + 1) = k + 1 + i from by omega]))
    rw [foldT_cons]
    cases S k <;> exact hh _

/-- The first ones alone count where the rest are not taken. -/
theorem foldH_take {b : Nat} (l : List DR) (j : Nat) (S : Nat → Bool) (H : Tr Blk) (hS : ∀ i, j ≤ i → S i = false) (hle : ∀ r ∈ l, r.lo ≤ r.hi) : (foldH (l.take j) 0 S H).get b = (foldH l 0 S H).get b := by
  have app : ∀ (l m : List DR) (k : Nat) (H : Tr Blk), foldH (l ++ m) k S H = foldH m (k + l.length) S (foldH l k S H) := by
    intro l
    induction l with
    | nil => intro m k H; rfl
    | cons r l ih =>
      intro m k H
      rw [List.cons_append, foldH_cons, foldH_cons, List.length_cons, show k + (l.length + 1) = k + 1 + l.length from by omega]
      cases S k <;> exact ih m (k + 1) _
  by_cases hj : j ≤ l.length
  · have := app (l.take j) (l.drop j) 0 H
    rw [List.take_append_drop] at this
    rw [this, foldH_none (l.drop j) _ S _ (fun i r _ hs => by rw [hS _ (by rw [List.length_take]; omega)] at hs; cases hs) (fun r hr => hle r (List.mem_of_mem_drop hr))]
  · rw [List.take_of_length_le (by omega)]
theorem foldT_take {t : Nat} (l : List DR) (j : Nat) (S : Nat → Bool) (T : Tr AV) (hS : ∀ i, j ≤ i → S i = false) : (foldT (l.take j) 0 S T).get t = (foldT l 0 S T).get t := by
  have app : ∀ (l m : List DR) (k : Nat) (T : Tr AV), foldT (l ++ m) k S T = foldT m (k + l.length) S (foldT l k S T) := by
    intro l
    induction l with
    | nil => intro m k T; rfl
    | cons r l ih =>
      intro m k T
      rw [List.cons_append, foldT_cons, foldT_cons, List.length_cons, show k + (l.length + 1) = k + 1 + l.length from by omega]
      cases S k <;> exact ih m (k + 1) _
  by_cases hj : j ≤ l.length
  · have := app (l.take j) (l.drop j) 0 T
    rw [List.take_append_drop] at this
    rw [this, foldT_none (l.drop j) _ S _ (fun i r _ hs => by rw [hS _ (by rw [List.length_take]; omega)] at hs; cases hs)]
  · rw [List.take_of_length_le (by omega)]

/-! What the evaluation of a drawn region says of each operation -/
structure DStep (call : CallT) (n0 : Nat) (T0 : Tr AV) (H0 : Tr Blk) (prev : List DR) (nx : Nat) (o : DOp) (r : DR) : Prop where
  lo : r.lo = nx
  le : r.lo ≤ r.hi
  d : r.d = o.op.d
  wl : ∀ b, r.W.testBit b = true → b < r.lo
  pairs : ∀ i q, prev[i]? = some q → o.bef.testBit i = false → pairOK q r = true
  run : (wants (baseT o prev T0) o.op.g = some false ∧ r.v = .tup .nil ∧ r.hi = r.lo ∧ r.W = 0) ∨
    (wants (baseT o prev T0) o.op.g = some true ∧ ∃ s', evOp call n0 o.op.ai (baseT o prev T0) { H := baseH r.cls r.rb o prev H0, nxt := r.lo, W := 0 } = some (r.v, s') ∧ r.H = s'.H ∧ r.hi = s'.nxt ∧ r.W = s'.W % 2 ^ r.lo)

theorem pairsOK_spec : ∀ (l : List DR) (r : DR) (bef k : Nat), pairsOK l r bef k = true → ∀ i q, l[i]? = some q → bef.testBit (k + i) = false → pairOK q r = true
  | [], r, bef, k, h, i, q, hq, _ => by simp at hq
  | x :: l, r, bef, k, h, i, q, hq, hb => by
    have h' : (match bef.testBit k with
      | true => pairsOK l r bef (k + 1)
      | false => match pairOK x r with
        | true => pairsOK l r bef (k + 1)
        | false => false) = true := h
    have rest : pairsOK l r bef (k + 1) = true ∧ (bef.testBit k = false → pairOK x r = true) := by
      split at h'
      · rename_i e; exact ⟨h', fun e' => by rw [e] at e'; cases e'⟩
      · split at h'
        · rename_i e; exact ⟨h', fun _ => e⟩
        · cases h'
    cases i with
    | zero => simp at hq; subst hq; exact rest.2 (by simpa using hb)
    | succ i => exact pairsOK_spec l r bef (k + 1) rest.1 i q (by simpa using hq) (by rwa [show k + 1 + i = k + (i + 1) from by omega])

theorem lastHi_append (l m : List DR) (n : Nat) : lastHi (l ++ m) n = lastHi m (lastHi l n) := by
  induction l generalizing n with
  | nil => rfl
  | cons r l ih => exact ih r.hi

theorem evD_spec {P : Program} {call : CallT} {n0 : Nat} (hcall : CallOK P n0 call) {T0 : Tr AV} {H0 : Tr Blk} {N : Nat} : ∀ (l : List DOp) (prev : List DR) (nxt : Nat) (rs : List DR), evD call n0 T0 H0 l prev nxt = some rs → nxt = lastHi prev N →
    ∃ new, rs = prev ++ new ∧ new.length = l.length ∧ ∀ j o, l[j]? = some o → ∃ r, new[j]? = some r ∧ DStep call n0 T0 H0 (prev ++ new.take j) (lastHi (prev ++ new.take j) N) o r
  | [], prev, nxt, rs, h, _ => by
    obtain rfl := (Option.some.inj h).symm
    exact ⟨[], by simp, rfl, by simp⟩
  | o :: l, prev, nxt, rs, h, hN => by
    have go : ∀ r nxt', evD call n0 T0 H0 l (prev ++ [r]) nxt' = some rs → nxt' = r.hi → DStep call n0 T0 H0 prev nxt o r →
        ∃ new, rs = prev ++ new ∧ new.length = (o :: l).length ∧ ∀ j o', (o :: l)[j]? = some o' → ∃ r, new[j]? = some r ∧ DStep call n0 T0 H0 (prev ++ new.take j) (lastHi (prev ++ new.take j) N) o' r := by
      intro r nxt' h1 h2 h3
      obtain ⟨new, g1, g2, g3⟩ := evD_spec hcall l (prev ++ [r]) nxt' rs h1 (by rw [lastHi_append prev [r] N, h2]; rfl)
      refine ⟨r :: new, by rw [g1]; simp, by simp [g2], fun j o' hj => ?_⟩
      cases j with
      | zero =>
        simp at hj; subst hj
        exact ⟨r, rfl, by simpa [← hN] using h3⟩
      | succ j =>
        obtain ⟨q, q1, q2⟩ := g3 j o' (by simpa using hj)
        exact ⟨q, by simpa using q1, by simpa using q2⟩
    have h' : (match wants (baseT o prev T0) o.op.g with
      | none => none
      | some false => match pairsOK prev ⟨nxt, nxt, 0, 0, 0, .leaf, o.op.d, .tup .nil⟩ o.bef 0 with
        | true => evD call n0 T0 H0 l (prev ++ [⟨nxt, nxt, 0, 0, 0, .leaf, o.op.d, .tup .nil⟩]) nxt
        | false => none
      | some true => match evOp call n0 o.op.ai (baseT o prev T0) { H := baseH (clsOf (baseT o prev T0) o.op.ai).1 (clsOf (baseT o prev T0) o.op.ai).2 o prev H0, nxt := nxt, W := 0 } with
        | none => none
        | some (v, s') => match pairsOK prev ⟨nxt, s'.nxt, s'.W % 2 ^ nxt, (clsOf (baseT o prev T0) o.op.ai).1, (clsOf (baseT o prev T0) o.op.ai).2, s'.H, o.op.d, v⟩ o.bef 0 with
          | true => evD call n0 T0 H0 l (prev ++ [⟨nxt, s'.nxt, s'.W % 2 ^ nxt, (clsOf (baseT o prev T0) o.op.ai).1, (clsOf (baseT o prev T0) o.op.ai).2, s'.H, o.op.d, v⟩]) s'.nxt
          | false => none) = some rs := h
    split at h'
    · cases h'
    · rename_i hw
      split at h'
      · rename_i hp
        refine go _ _ h' rfl ⟨rfl, Nat.le_refl _, rfl, fun b hb => by simp at hb, fun i q hq hb => ?_, .inl ⟨hw, rfl, rfl, rfl⟩⟩
        exact pairsOK_spec prev _ o.bef 0 hp i q hq (by simpa using hb)
      · cases h'
    · rename_i hw
      split at h'
      · cases h'
      · rename_i v s' he
        split at h'
        · rename_i hp
          refine go _ _ h' rfl ⟨rfl, evOp_nxt hcall he, rfl, fun b hb => ?_, fun i q hq hb => ?_, .inr ⟨hw, s', he, rfl, rfl, rfl⟩⟩
          · rw [Nat.testBit_mod_two_pow] at hb
            simp only [Bool.and_eq_true, decide_eq_true_eq] at hb
            exact hb.1
          · exact pairsOK_spec prev _ o.bef 0 hp i q hq (by simpa using hb)
        · cases h'
end Go.Ev
