import Derived.Test.YtbbfhlglljjpmaaGreatDoorEvR
namespace Go.Ev
open Go
set_option linter.unusedVariables false
variable [Theta]
set_option linter.unusedSectionVars false
set_option linter.unusedSimpArgs false
section
variable {P : Program} {call : CallT} {nt : Nat} {ops : Array Oper} {bef : List Nat} {p : Px} {T0 : Tr AV} {s0 : St} {rs : List DR} {Wend : Nat} {σ0 σ : Env} {a0 a : Act} {w0 w : World} {L : Array Bool}

theorem ready_bits (hA : DA P call nt ops bef p.n0 T0 s0 rs Wend) (hD : DI p nt bef ops.size rs σ0 T0 s0 Wend a0 w0 L σ a w) {j : Nat} {o : Oper} (ho : ops[j]? = some o) (he : ∀ e ∈ o.after, Region.binds .any e = true → L.getD e.on false = true) :
    ∀ i, i < ops.size → (bef.getD j 0).testBit i = true → L.getD i false = true := by
  intro i hi hb
  obtain ⟨e, h1, h2, h3⟩ := hA.bp.clos j i o ho hi hb
  rcases h3 with rfl | h3
  · exact he e h1 h2
  · exact hD.down e.on (he e h1 h2) i hi h3

/-- What an operation's own heap holds is what the heap holds now. -/
theorem base_sub (hA : DA P call nt ops bef p.n0 T0 s0 rs Wend) (hD : DI p nt bef ops.size rs σ0 T0 s0 Wend a0 w0 L σ a w) (hdom : ∀ b k, s0.H.get b = some k → b < s0.nxt) {j : Nat} {r : DR} (hr : rs[j]? = some r) (hun : L.getD j false = false)
    (hpre : ∀ i, i < ops.size → (bef.getD j 0).testBit i = true → L.getD i false = true) {o : DOp} (hob : o.bef = bef.getD j 0) {b : Nat} {k : Blk} (h : (baseH r.cls r.rb o (rs.take j) s0.H).get b = some k) :
    (foldH rs 0 (fun i => L.getD i false) s0.H).get b = some k ∧ b < r.lo := by
  have hle := hA.le
  have hjn : j < ops.size := by
    rcases Nat.lt_or_ge j rs.length with h' | h'
    · rw [← hA.len]; exact h'
    · rw [List.getElem?_eq_none h'] at hr; cases hr
  obtain ⟨oj, aj, hoj, _, hstep⟩ := hA.step hr
  have hidx : ∀ {i : Nat} {q : DR}, rs[i]? = some q → i < ops.size := fun {i q} hq => by
    rcases Nat.lt_or_ge i rs.length with h' | h'
    · rw [← hA.len]; exact h'
    · rw [List.getElem?_eq_none h'] at hq; cases hq
  -- the heap by the bits alone
  have hbits : ∀ i, j ≤ i → ((bef.getD j 0).testBit i && decide (i < ops.size)) = false := by
    intro i hi
    cases hb : (bef.getD j 0).testBit i with
    | false => rfl
    | true =>
      by_cases hin : i < ops.size
      · have := hA.bp.lt j i hjn hin hb; omega
      · simp [hin]
  have hsame : ∀ b, (foldH (rs.take j) 0 (fun i => o.bef.testBit i) s0.H).get b = (foldH rs 0 (fun i => (bef.getD j 0).testBit i && decide (i < ops.size)) s0.H).get b := by
    intro b
    rw [← foldH_take rs j (fun i => (bef.getD j 0).testBit i && decide (i < ops.size)) s0.H hbits hle]
    refine foldH_congr _ 0 _ _ _ _ (fun i q hq _ => ?_) (fun q hq => hle q (List.mem_of_mem_take hq)) rfl
    have : i < ops.size := by
      have : i < (rs.take j).length := by
        rcases Nat.lt_or_ge i (rs.take j).length with h' | h'
        · exact h'
        · rw [List.getElem?_eq_none h'] at hq; cases hq
      rw [List.length_take, hA.len] at this
      omega
    simp [hob, this]
  -- an unordered one that was carried out and touches b allocates it
  have main : ∀ b k, (foldH rs 0 (fun i => (bef.getD j 0).testBit i && decide (i < ops.size)) s0.H).get b = some k → (∀ i q, rs[i]? = some q → i ≠ j → (bef.getD j 0).testBit i = false → L.getD i false = true → q.W.testBit b = false) →
      (foldH rs 0 (fun i => L.getD i false) s0.H).get b = some k ∧ b < r.lo := by
    intro b k hk hnw
    have horig := foldH_origin rs 0 _ s0.H hle hk
    have hlt : b < r.lo := by
      rcases horig with ⟨i, q, hq, hs, ht⟩ | h0
      · simp only [Nat.zero_add, Bool.and_eq_true, decide_eq_true_eq] at hs
        have hij := hA.bp.lt j i hjn hs.2 hs.1
        have := hA.lt hq hr hij
        obtain ⟨_, _, _, _, s1⟩ := hA.step hq
        have := s1.le
        rcases ht with ⟨_, ht⟩ | ht
        · omega
        · have := s1.wl b ht; omega
      · have := hdom b k h0
        have := (hA.first hr).1
        omega
    refine ⟨?_, hlt⟩
    rw [← hk]
    refine foldH_congr rs 0 _ _ _ _ (fun i q hq ht => ?_) hle rfl
    simp only [Nat.zero_add]
    have hin := hidx hq
    cases hb : (bef.getD j 0).testBit i with
    | true => rw [hpre i hin hb]; simp [hin]
    | false =>
      cases hL : L.getD i false with
      | false => rfl
      | true =>
        exfalso
        have hij : i ≠ j := fun e => by subst e; rw [hun] at hL; cases hL
        have hW := hnw i q hq hij hb hL
        have hal : q.lo ≤ b ∧ b < q.hi := by
          rcases ht with ht | ht
          · exact ht
          · rw [hW] at ht; cases ht
        rcases horig with ⟨i', q', hq', hs', ht'⟩ | h0
        · simp only [Nat.zero_add, Bool.and_eq_true, decide_eq_true_eq] at hs'
          have hne : i ≠ i' := fun e => by subst e; rw [hb] at hs'; cases hs'.1
          rcases Nat.lt_or_gt_of_ne hne with hlt' | hlt'
          · cases hbb : (bef.getD i' 0).testBit i with
            | true => rw [hA.bp.trans j i' i hjn hs'.2 hs'.1 hbb] at hb; cases hb
            | false => exact hA.apart hq hq' hlt' hbb (.inl hal) ht'
          · have := hA.lt hq' hq hlt'
            obtain ⟨_, _, _, _, s1⟩ := hA.step hq'
            have := s1.le
            rcases ht' with ⟨_, ht'⟩ | ht'
            · omega
            · have := s1.wl b ht'; omega
        · have := hdom b k h0
          have := (hA.first hq).1
          omega
  -- by the class
  have pairs : ∀ i q, rs[i]? = some q → i ≠ j → (bef.getD j 0).testBit i = false → L.getD i false = true → rdOK r q.W = true := by
    intro i q hq hne hb hL
    rcases Nat.lt_or_gt_of_ne hne with hlt' | hlt'
    · exact (pairOK_spec (hA.pair hq hr hlt' hb)).2.2.2.2
    · have hb' : (bef.getD i 0).testBit j = false := by
        cases hh : (bef.getD i 0).testBit j with
        | false => rfl
        | true => rw [hD.down i hL j hjn hh] at hun; cases hun
      exact (pairOK_spec (hA.pair hr hq hlt' hb')).2.2.2.1
  unfold baseH at h
  split at h
  · rw [Tr.get_leaf] at h; cases h
  · rename_i hcls
    rw [Tr.get_set] at h
    by_cases hbb : b = r.rb
    · rw [if_pos hbb, ← hbb, hsame] at h
      refine main b k h (fun i q hq hne hb hL => ?_)
      have := pairs i q hq hne hb hL
      unfold rdOK at this
      rw [hcls] at this
      subst hbb
      simpa using this
    · rw [if_neg hbb, Tr.get_leaf] at h; cases h
  · rename_i hc0 hc1
    rw [hsame] at h
    refine main b k h (fun i q hq hne hb hL => ?_)
    have := pairs i q hq hne hb hL
    unfold rdOK at this
    split at this
    · rename_i e; exact absurd e hc0
    · rename_i e; exact absurd e hc1
    · rw [Nat.eq_of_beq_eq_true this]; simp

/-- What an operation's own frame holds is what the frame holds now. -/
theorem baseT_sub (hA : DA P call nt ops bef p.n0 T0 s0 rs Wend) (hD : DI p nt bef ops.size rs σ0 T0 s0 Wend a0 w0 L σ a w) {j : Nat} {r : DR} (hr : rs[j]? = some r) (hun : L.getD j false = false)
    (hpre : ∀ i, i < ops.size → (bef.getD j 0).testBit i = true → L.getD i false = true) {op : AOp} : TR σ (baseT ⟨op, bef.getD j 0, erOf ops bef j⟩ (rs.take j) T0) a.tmps := by
  intro t v h
  refine hD.t t v ?_
  have hjn : j < ops.size := by
    rcases Nat.lt_or_ge j rs.length with h' | h'
    · rw [← hA.len]; exact h'
    · rw [List.getElem?_eq_none h'] at hr; cases hr
  unfold baseT at h
  rw [eraseL_get] at h
  split at h
  · cases h
  · rename_i hne
    have hbits : ∀ i, j ≤ i → ((bef.getD j 0).testBit i && decide (i < ops.size)) = false := by
      intro i hi
      cases hb : (bef.getD j 0).testBit i with
      | false => rfl
      | true =>
        by_cases hin : i < ops.size
        · have := hA.bp.lt j i hjn hin hb; omega
        · simp [hin]
    have h2 : (foldT rs 0 (fun i => (bef.getD j 0).testBit i && decide (i < ops.size)) T0).get t = some v := by
      rw [← foldT_take rs j _ T0 hbits, ← h]
      refine foldT_congr _ 0 _ _ _ _ (fun i q hq _ => ?_) rfl
      have : i < ops.size := by
        have : i < (rs.take j).length := by
          rcases Nat.lt_or_ge i (rs.take j).length with h' | h'
          · exact h'
          · rw [List.getElem?_eq_none h'] at hq; cases hq
        rw [List.length_take, hA.len] at this
        omega
      simp [this]
    rw [← h2]
    refine foldT_congr rs 0 _ _ _ _ (fun i q hq hd => ?_) rfl
    simp only [Nat.zero_add]
    obtain ⟨oi, ai, hoi, hai, hsi⟩ := hA.step hq
    have hin : i < ops.size := (Array.getElem?_eq_some_iff.1 hoi).1
    cases hb : (bef.getD j 0).testBit i with
    | true => rw [hpre i hin hb]; simp [hin]
    | false =>
      cases hL : L.getD i false with
      | false => rfl
      | true =>
        exfalso
        have hij : i ≠ j := fun e => by subst e; rw [hun] at hL; cases hL
        have hb' : (bef.getD i 0).testBit j = false := by
          cases hh : (bef.getD i 0).testBit j with
          | false => rfl
          | true => rw [hD.down i hL j hjn hh] at hun; cases hun
        have hdi := hsi.d
        have := (compA_parts hai).2.2.1
        dsimp only at hdi
        exact hne (erOf_spec hoi hij hb hb' (by rw [← this, ← hdi]; exact hd))
end
end Go.Ev
