import Derived.Test.YtbbfhlglljjpmaaGreatDoorEvQ
namespace Go.Ev
open Go
set_option linter.unusedVariables false
variable [Theta]
set_option linter.unusedSectionVars false
set_option linter.unusedSimpArgs false

/-! What the two checks of a drawn region say -/
structure BefP (ops : Array Oper) (bef : List Nat) : Prop where
  edge : ∀ j o, ops[j]? = some o → ∀ e ∈ o.after, Region.binds .any e = true → e.on < j
  lt : ∀ j i, j < ops.size → i < ops.size → (bef.getD j 0).testBit i = true → i < j
  clos : ∀ j i o, ops[j]? = some o → i < ops.size → (bef.getD j 0).testBit i = true → ∃ e ∈ o.after, Region.binds .any e = true ∧ (e.on = i ∨ (bef.getD e.on 0).testBit i = true)
  trans : ∀ j i k, j < ops.size → i < ops.size → (bef.getD j 0).testBit i = true → (bef.getD i 0).testBit k = true → (bef.getD j 0).testBit k = true

theorem befOK_spec {ops : Array Oper} {bef : List Nat} (h : befOK ops bef = true) : BefP ops bef := by
  unfold befOK at h
  rw [List.all_eq_true] at h
  have key : ∀ j o, ops[j]? = some o → (∀ e ∈ o.after, Region.binds .any e = true → e.on < j) ∧ ∀ i, i < ops.size → (bef.getD j 0).testBit i = true → i < j ∧ Nat.beq (bef.getD i 0 ||| bef.getD j 0) (bef.getD j 0) = true ∧ ∃ e ∈ o.after, Region.binds .any e = true ∧ (e.on = i ∨ (bef.getD e.on 0).testBit i = true) := by
    intro j o ho
    have hj : j < ops.size := (Array.getElem?_eq_some_iff.1 ho).1
    have := h j (List.mem_range.2 hj)
    rw [ho] at this
    simp only [Bool.and_eq_true, List.all_eq_true] at this
    obtain ⟨h1, h2⟩ := this
    refine ⟨fun e he hb => ?_, fun i hi hbit => ?_⟩
    · have := h1 e (by simpa using he)
      simpa [hb] using this
    · have := h2 i (List.mem_range.2 hi)
      rw [hbit] at this
      simp only [Bool.not_true, Bool.false_or, Bool.and_eq_true, List.any_eq_true, Bool.or_eq_true, decide_eq_true_eq] at this
      obtain ⟨⟨g1, g2⟩, e, he, g3, g4⟩ := this
      exact ⟨g1, g2, e, by simpa using he, g3, g4⟩
  refine ⟨fun j o ho => (key j o ho).1, fun j i hj hi hb => ?_, fun j i o ho hi hb => ((key j o ho).2 i hi hb).2.2, fun j i k hj hi hb hk => ?_⟩
  · exact ((key j ops[j] (by simp [hj])).2 i hi hb).1
  · have := ((key j ops[j] (by simp [hj])).2 i hi hb).2.1
    have := Nat.eq_of_beq_eq_true this
    rw [← this, Nat.testBit_or, hk]; rfl

theorem dstOK_spec {ops : Array Oper} {bef : List Nat} (h : dstOK ops bef = true) {i j : Nat} {x y : Oper} (hx : ops[i]? = some x) (hy : ops[j]? = some y) (hne : i ≠ j) {t : Tmp} (h1 : x.dst = some t) (h2 : y.dst = some t) :
    (bef.getD j 0).testBit i = true ∨ (bef.getD i 0).testBit j = true := by
  unfold dstOK at h
  rw [List.all_eq_true] at h
  have := h j (List.mem_range.2 (Array.getElem?_eq_some_iff.1 hy).1)
  rw [List.all_eq_true] at this
  have := this i (List.mem_range.2 (Array.getElem?_eq_some_iff.1 hx).1)
  rw [hx, hy] at this
  simpa [hne, h1, h2] using this

theorem erOf_spec {ops : Array Oper} {bef : List Nat} {i j : Nat} {x : Oper} (hx : ops[i]? = some x) (hne : i ≠ j) (h1 : (bef.getD j 0).testBit i = false) (h2 : (bef.getD i 0).testBit j = false) {t : Tmp} (ht : x.dst = some t) : t ∈ erOf ops bef j := by
  unfold erOf
  rw [List.mem_filterMap]
  refine ⟨i, List.mem_range.2 (Array.getElem?_eq_some_iff.1 hx).1, ?_⟩
  rw [List.getD_eq_getElem?_getD] at h1 h2
  simp [hne, h1, h2, hx, ht]

theorem compD_get (P : Program) (nt : Nat) (ops : Array Oper) (bef : List Nat) : ∀ (l : List AOp) (k j : Nat) (a : AOp), l[j]? = some a → (compD P nt ops bef k l)[j]? = some ⟨a, bef.getD (k + j) 0, erOf ops bef (k + j)⟩
  | [], k, j, a, h => by simp at h
  | x :: l, k, 0, a, h => by simp at h; subst h; simp [compD]
  | x :: l, k, j + 1, a, h => by
    simp only [compD, List.getElem?_cons_succ]
    have := compD_get P nt ops bef l (k + 1) j a (by simpa using h)
    rwa [show k + 1 + j = k + (j + 1) from by omega] at this
theorem compD_length (P : Program) (nt : Nat) (ops : Array Oper) (bef : List Nat) : ∀ (l : List AOp) (k : Nat), (compD P nt ops bef k l).length = l.length
  | [], k => rfl
  | x :: l, k => by simp [compD, compD_length P nt ops bef l]
theorem compL_get {P : Program} {nt : Nat} {ops : Array Oper} : ∀ (os : List Oper) (l : List AOp), compL P nt ops os = some l → l.length = os.length ∧ ∀ (j : Nat) (o : Oper), os[j]? = some o → ∃ a : AOp, l[j]? = some a ∧ compA P nt ops o = some a
  | [], l, h => by obtain rfl := (Option.some.inj h).symm; exact ⟨rfl, by simp⟩
  | o :: os, l, h => by
    simp only [compL] at h
    split at h
    · cases h
    · rename_i a ha
      split at h
      · cases h
      · rename_i l' hl'
        obtain rfl := (Option.some.inj h).symm
        obtain ⟨h1, h2⟩ := compL_get os l' hl'
        refine ⟨by simp [h1], fun j o' hj => ?_⟩
        cases j with
        | zero => simp at hj; subst hj; exact ⟨a, rfl, ha⟩
        | succ j => simpa using h2 j o' (by simpa using hj)

theorem pairOK_spec {r q : DR} (h : pairOK r q = true) : (∀ b, r.W.testBit b = true → q.W.testBit b = false) ∧ (∀ b, q.lo ≤ b → b < q.hi → r.W.testBit b = false) ∧ (∀ b, r.lo ≤ b → b < r.hi → q.W.testBit b = false) ∧ rdOK r q.W = true ∧ rdOK q r.W = true := by
  have alloc : ∀ {W lo hi : Nat}, Nat.beq (W >>> lo % 2 ^ (hi - lo)) 0 = true → ∀ b, lo ≤ b → b < hi → W.testBit b = false := by
    intro W lo hi h b h1 h2
    have h := Nat.eq_of_beq_eq_true h
    have e : (W >>> lo % 2 ^ (hi - lo)).testBit (b - lo) = W.testBit b := by
      rw [Nat.testBit_mod_two_pow, Nat.testBit_shiftRight, show lo + (b - lo) = b from by omega]
      have : b - lo < hi - lo := by omega
      simp [this]
    rw [← e, h]; simp
  unfold pairOK at h
  split at h
  · cases h
  · rename_i h1
    split at h
    · cases h
    · rename_i h2
      split at h
      · cases h
      · rename_i h3
        split at h
        · cases h
        · rename_i h4
          refine ⟨fun b hb => ?_, alloc h2, alloc h3, h4, h⟩
          have h1 := Nat.eq_of_beq_eq_true h1
          have : (r.W &&& q.W).testBit b = false := by rw [h1]; simp
          rw [Nat.testBit_and, hb] at this
          simpa using this

theorem filt_lt {p p' : Nat → Bool} (h : ∀ x, p' x = true → p x = true) {j : Nat} (h1 : p j = true) (h2 : p' j = false) : ∀ (l : List Nat), j ∈ l → (l.filter p').length < (l.filter p).length := by
  have le : ∀ l : List Nat, (l.filter p').length ≤ (l.filter p).length := by
    intro l
    induction l with
    | nil => simp
    | cons x l ih =>
      rw [List.filter_cons, List.filter_cons]
      cases e' : p' x with
      | true => simp [h x e', ih]
      | false => cases p x <;> simp <;> omega
  intro l
  induction l with
  | nil => intro h; cases h
  | cons x l ih =>
    intro hm
    rw [List.filter_cons, List.filter_cons]
    rcases List.mem_cons.1 hm with rfl | hm
    · rw [h1, h2]; have := le l; simp; omega
    · have := ih hm
      cases e' : p' x with
      | true => simp [h x e', this]
      | false => cases p x <;> simp <;> omega

/-! The invariant -/
section
variable {P : Program} {call : CallT} {nt : Nat} {ops : Array Oper}

structure DI (p : Px) (nt : Nat) (bef : List Nat) (n : Nat) (rs : List DR) (σ0 : Env) (T0 : Tr AV) (s0 : St) (Wend : Nat) (a0 : Act) (w0 : World) (L : Array Bool) (σ : Env) (a : Act) (w : World) : Prop where
  sz : L.size = n
  t : TR σ (foldT rs 0 (fun i => L.getD i false) T0) a.tmps
  nt : nt ≤ a.tmps.size
  df : a.defers = a0.defers
  ext : σ0.Ext σ
  blk : ∀ b k, (foldH rs 0 (fun i => L.getD i false) s0.H).get b = some k → ∃ r κ o, σ b = some (r, κ) ∧ w.heap[r]? = some o ∧ BR σ κ k o
  inj : ∀ b b' k k' r κ κ', (foldH rs 0 (fun i => L.getD i false) s0.H).get b = some k → (foldH rs 0 (fun i => L.getD i false) s0.H).get b' = some k' → σ b = some (r, κ) → σ b' = some (r, κ') → b = b'
  fr1 : ∀ (i : Nat) (r : DR), rs[i]? = some r → L.getD i false = false → ∀ b, r.lo ≤ b → b < r.hi → σ b = none
  fr2 : ∀ b, lastHi rs s0.nxt ≤ b → b < p.lim → σ b = none
  low : ∀ b r κ, p.n0 ≤ b → σ b = some (r, κ) → p.B ≤ r
  lt : ∀ b r κ, σ b = some (r, κ) → r < w.heap.size
  glob : ∀ b, b < p.ng → ∃ κ, σ b = some (b, κ)
  base : p.B ≤ w.heap.size
  wl : ∀ (i : Nat) (r : DR), rs[i]? = some r → L.getD i false = true → ∀ b, r.W.testBit b = true → p.n0 ≤ b
  keep : Keep σ0 s0.H Wend w0 w
  old : ∀ b k q, (foldH rs 0 (fun i => L.getD i false) s0.H).get b = some k → σ0 b = some q → ∃ k0, s0.H.get b = some k0
  nw : ∀ b r κ, σ0 b = none → σ b = some (r, κ) → (s0.nxt ≤ b ∧ b < lastHi rs s0.nxt) ∧ (w0.heap.size ≤ r ∨ ∃ b0 k0 κ0, s0.H.get b0 = some k0 ∧ σ0 b0 = some (r, κ0) ∧ Wend.testBit b0 = true)
  down : ∀ j, L.getD j false = true → ∀ i, i < n → (bef.getD j 0).testBit i = true → L.getD i false = true

/-- What is known of the region as a whole. -/
structure DA (P : Program) (call : CallT) (nt : Nat) (ops : Array Oper) (bef : List Nat) (n0 : Nat) (T0 : Tr AV) (s0 : St) (rs : List DR) (Wend : Nat) : Prop where
  bp : BefP ops bef
  dst : dstOK ops bef = true
  len : rs.length = ops.size
  at_ : ∀ (j : Nat) (o : Oper), ops[j]? = some o → ∃ (r : DR) (a : AOp), rs[j]? = some r ∧ compA P nt ops o = some a ∧ DStep call n0 T0 s0.H (rs.take j) (lastHi (rs.take j) s0.nxt) ⟨a, bef.getD j 0, erOf ops bef j⟩ r
  wend : ∀ (j : Nat) (r : DR), rs[j]? = some r → ∀ b, r.W.testBit b = true → Wend.testBit b = true

theorem DA.step {bef : List Nat} {n0 : Nat} {T0 : Tr AV} {s0 : St} {rs : List DR} {Wend : Nat} (h : DA P call nt ops bef n0 T0 s0 rs Wend) {j : Nat} {r : DR} (hr : rs[j]? = some r) :
    ∃ o a, ops[j]? = some o ∧ compA P nt ops o = some a ∧ DStep call n0 T0 s0.H (rs.take j) (lastHi (rs.take j) s0.nxt) ⟨a, bef.getD j 0, erOf ops bef j⟩ r := by
  have hj : j < ops.size := by
    rcases Nat.lt_or_ge j rs.length with h' | h'
    · rw [← h.len]; exact h'
    · rw [List.getElem?_eq_none h'] at hr; cases hr
  obtain ⟨r', a, h1, h2, h3⟩ := h.at_ j ops[j] (by simp [hj])
  rw [hr] at h1
  obtain rfl := Option.some.inj h1
  exact ⟨ops[j], a, by simp [hj], h2, h3⟩
theorem DA.le {bef : List Nat} {n0 : Nat} {T0 : Tr AV} {s0 : St} {rs : List DR} {Wend : Nat} (h : DA P call nt ops bef n0 T0 s0 rs Wend) : ∀ r ∈ rs, r.lo ≤ r.hi := by
  intro r hr
  obtain ⟨j, hj⟩ := List.getElem?_of_mem hr
  obtain ⟨_, _, _, _, h3⟩ := h.step hj
  exact h3.le
theorem lastHi_take {rs : List DR} {n : Nat} {j : Nat} {r : DR} (hr : rs[j]? = some r) : lastHi (rs.take (j + 1)) n = r.hi := by
  have hj : j < rs.length := by
    rcases Nat.lt_or_ge j rs.length with h' | h'
    · exact h'
    · rw [List.getElem?_eq_none h'] at hr; cases hr
  rw [List.take_succ_eq_append_getElem hj, lastHi_append]
  have : rs[j] = r := by rw [List.getElem?_eq_getElem hj] at hr; exact Option.some.inj hr
  rw [this]; rfl
/-- Places in the order of numbers. -/
theorem DA.mono {bef : List Nat} {n0 : Nat} {T0 : Tr AV} {s0 : St} {rs : List DR} {Wend : Nat} (h : DA P call nt ops bef n0 T0 s0 rs Wend) : ∀ (j : Nat), j ≤ rs.length → (∀ (i : Nat) (r : DR), i < j → rs[i]? = some r → r.hi ≤ lastHi (rs.take j) s0.nxt ∧ s0.nxt ≤ r.lo) ∧ s0.nxt ≤ lastHi (rs.take j) s0.nxt := by
  intro j
  induction j with
  | zero => intro _; exact ⟨fun i r hi => by omega, Nat.le_refl _⟩
  | succ j ih =>
    intro hj
    obtain ⟨h1, h2⟩ := ih (by omega)
    have hr : rs[j]? = some rs[j] := List.getElem?_eq_getElem (by omega)
    obtain ⟨_, _, _, _, h3⟩ := h.step hr
    have hlast := lastHi_take (n := s0.nxt) hr
    have hlo := h3.lo
    have hle := h3.le
    refine ⟨fun i r hi hri => ?_, by rw [hlast]; omega⟩
    rw [hlast]
    by_cases hij : i = j
    · subst hij
      rw [hr] at hri
      obtain rfl := Option.some.inj hri
      exact ⟨Nat.le_refl _, by omega⟩
    · obtain ⟨g1, g2⟩ := h1 i r (by omega) hri
      exact ⟨by omega, g2⟩
theorem DA.lt {bef : List Nat} {n0 : Nat} {T0 : Tr AV} {s0 : St} {rs : List DR} {Wend : Nat} (h : DA P call nt ops bef n0 T0 s0 rs Wend) {i j : Nat} {r q : DR} (hi : rs[i]? = some r) (hj : rs[j]? = some q) (hij : i < j) : r.hi ≤ q.lo := by
  have hjl : j < rs.length := by
    rcases Nat.lt_or_ge j rs.length with h' | h'
    · exact h'
    · rw [List.getElem?_eq_none h'] at hj; cases hj
  obtain ⟨_, _, _, _, h3⟩ := h.step hj
  rw [h3.lo]
  exact ((h.mono j (by omega)).1 i r hij hi).1
theorem DA.first {bef : List Nat} {n0 : Nat} {T0 : Tr AV} {s0 : St} {rs : List DR} {Wend : Nat} (h : DA P call nt ops bef n0 T0 s0 rs Wend) {i : Nat} {r : DR} (hi : rs[i]? = some r) : s0.nxt ≤ r.lo ∧ r.hi ≤ lastHi rs s0.nxt := by
  have hil : i < rs.length := by
    rcases Nat.lt_or_ge i rs.length with h' | h'
    · exact h'
    · rw [List.getElem?_eq_none h'] at hi; cases hi
  have := (h.mono rs.length (Nat.le_refl _)).1 i r hil hi
  rw [List.take_length] at this
  exact ⟨this.2, this.1⟩
/-- Two that are not ordered touch nothing in common. -/
theorem DA.pair {bef : List Nat} {n0 : Nat} {T0 : Tr AV} {s0 : St} {rs : List DR} {Wend : Nat} (h : DA P call nt ops bef n0 T0 s0 rs Wend) {i j : Nat} {r q : DR} (hi : rs[i]? = some r) (hj : rs[j]? = some q) (hij : i < j) (hb : (bef.getD j 0).testBit i = false) : pairOK r q = true := by
  obtain ⟨_, _, _, _, h3⟩ := h.step hj
  exact h3.pairs i r (by rw [List.getElem?_take, if_pos hij]; exact hi) hb
theorem DA.apart {bef : List Nat} {n0 : Nat} {T0 : Tr AV} {s0 : St} {rs : List DR} {Wend : Nat} (h : DA P call nt ops bef n0 T0 s0 rs Wend) {i j : Nat} {r q : DR} (hi : rs[i]? = some r) (hj : rs[j]? = some q) (hij : i < j) (hb : (bef.getD j 0).testBit i = false) {b : Nat} (h1 : r.touch b) (h2 : q.touch b) : False := by
  obtain ⟨p1, p2, p3, _, _⟩ := pairOK_spec (h.pair hi hj hij hb)
  obtain ⟨_, _, _, _, s1⟩ := h.step hi
  have hlt := h.lt hi hj hij
  have hle1 := s1.le
  rcases h1 with ⟨a1, a2⟩ | a1
  · rcases h2 with ⟨b1, b2⟩ | b1
    · omega
    · rw [p3 b a1 a2] at b1; cases b1
  · rcases h2 with ⟨b1, b2⟩ | b1
    · have := s1.wl b a1; omega
    · rw [p1 b a1] at b1; cases b1
end
end Go.Ev
