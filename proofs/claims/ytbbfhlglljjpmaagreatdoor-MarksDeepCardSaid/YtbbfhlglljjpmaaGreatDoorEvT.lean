import Derived.Test.YtbbfhlglljjpmaaGreatDoorEvS
namespace Go.Ev
open Go
set_option linter.unusedVariables false
variable [Theta]
set_option linter.unusedSectionVars false
set_option linter.unusedSimpArgs false
section
variable {P : Program} {call : CallT} {nt : Nat} {ops : Array Oper} {bef : List Nat} {p : Px} {T0 : Tr AV} {s0 : St} {rs : List DR} {Wend : Nat} {σ0 σ : Env} {a0 a : Act} {w0 w : World} {L : Array Bool}

theorem set_getD {L : Array Bool} {j : Nat} (hj : j < L.size) (i : Nat) : (L.setIfInBounds j true).getD i false = if i = j then true else L.getD i false := by
  by_cases h : i = j
  · subst h; rw [if_pos rfl, Array.getD_eq_getD_getElem?, Array.getElem?_setIfInBounds_self_of_lt hj]; rfl
  · rw [if_neg h, Array.getD_eq_getD_getElem?, Array.getElem?_setIfInBounds_ne (Ne.symm h), ← Array.getD_eq_getD_getElem?]

/-- The frame behind an operation. -/
theorem DI.frame (hA : DA P call nt ops bef p.n0 T0 s0 rs Wend) (hD : DI p nt bef ops.size rs σ0 T0 s0 Wend a0 w0 L σ a w) {j : Nat} {r : DR} (hr : rs[j]? = some r) (hun : L.getD j false = false) {σ' : Env} (he : σ.Ext σ') {x : Value} (hv : VR σ' r.v x) :
    TR σ' (foldT rs 0 (fun i => (L.setIfInBounds j true).getD i false) T0) (a.put r.d x).tmps := by
  obtain ⟨oj, aj, hoj, haj, hsj⟩ := hA.step hr
  have hjn : j < ops.size := (Array.getElem?_eq_some_iff.1 hoj).1
  have hjs : j < L.size := by rw [hD.sz]; exact hjn
  obtain ⟨_, _, hd, hdn⟩ := compA_parts haj
  have hrd : r.d = oj.dst := by rw [hsj.d, ← hd]
  intro t v h
  by_cases ht : r.d = some t
  · have hlast := foldT_last rs 0 j (fun i => (L.setIfInBounds j true).getD i false) T0 r hr (by simp only [Nat.zero_add]; rw [set_getD hjs, if_pos rfl]) ht (fun i q hi hq hs hqd => by
      simp only [Nat.zero_add] at hs
      rw [set_getD hjs, if_neg (by omega)] at hs
      obtain ⟨oi, ai, hoi, hai, hsi⟩ := hA.step hq
      have hin : i < ops.size := (Array.getElem?_eq_some_iff.1 hoi).1
      have hqd' : oi.dst = some t := by rw [← (compA_parts hai).2.2.1, ← hsi.d]; exact hqd
      rcases dstOK_spec hA.dst hoi hoj (by omega) hqd' (by rw [← hrd]; exact ht) with h' | h'
      · have := hA.bp.lt j i hjn hin h'; omega
      · rw [hD.down i hs j hjn h'] at hun; cases hun)
    rw [hlast] at h
    obtain rfl := Option.some.inj h
    have htn : t < a.tmps.size := Nat.lt_of_lt_of_le (hdn t (by rw [← hrd]; exact ht)) hD.nt
    rw [ht]
    refine ⟨by show t < (a.tmps.setIfInBounds t x).size; simpa using htn, ?_⟩
    show VR σ' r.v ((a.tmps.setIfInBounds t x).getD t undef)
    rw [Array.getD_eq_getD_getElem?, Array.getElem?_setIfInBounds_self_of_lt htn]
    exact hv
  · have hsame := foldT_congr (t := t) rs 0 (fun i => (L.setIfInBounds j true).getD i false) (fun i => L.getD i false) T0 T0 (fun i q hq hqd => by
      simp only [Nat.zero_add]
      rw [set_getD hjs]
      by_cases hij : i = j
      · subst hij; rw [hr] at hq; obtain rfl := Option.some.inj hq; exact absurd hqd ht
      · rw [if_neg hij]) rfl
    rw [hsame] at h
    obtain ⟨h1, h2⟩ := hD.t t v h
    cases hd' : r.d with
    | none => exact ⟨h1, h2.ext he⟩
    | some d =>
      have hne : d ≠ t := fun e => ht (by rw [hd', e])
      refine ⟨by show t < (a.tmps.setIfInBounds d x).size; simpa using h1, ?_⟩
      show VR σ' v ((a.tmps.setIfInBounds d x).getD t undef)
      rw [Array.getD_eq_getD_getElem?, Array.getElem?_setIfInBounds_ne hne, ← Array.getD_eq_getD_getElem?]
      exact h2.ext he

theorem DI.skip (hA : DA P call nt ops bef p.n0 T0 s0 rs Wend) (hD : DI p nt bef ops.size rs σ0 T0 s0 Wend a0 w0 L σ a w) {j : Nat} {r : DR} (hr : rs[j]? = some r) (hun : L.getD j false = false) (hpre : ∀ i, i < ops.size → (bef.getD j 0).testBit i = true → L.getD i false = true)
    (hv : r.v = .tup .nil) (hhi : r.hi = r.lo) (hW : r.W = 0) : DI p nt bef ops.size rs σ0 T0 s0 Wend a0 w0 (L.setIfInBounds j true) σ (a.put r.d undef) w := by
  obtain ⟨oj, aj, hoj, haj, hsj⟩ := hA.step hr
  have hjn : j < ops.size := (Array.getElem?_eq_some_iff.1 hoj).1
  have hjs : j < L.size := by rw [hD.sz]; exact hjn
  have hnt : ∀ b, ¬ r.touch b := fun b ht => by
    rcases ht with ht | ht
    · omega
    · rw [hW] at ht; simp at ht
  have hsame : ∀ b, (foldH rs 0 (fun i => (L.setIfInBounds j true).getD i false) s0.H).get b = (foldH rs 0 (fun i => L.getD i false) s0.H).get b := fun b =>
    foldH_congr rs 0 _ _ _ _ (fun i q hq ht => by
      simp only [Nat.zero_add]
      rw [set_getD hjs]
      by_cases hij : i = j
      · subst hij; rw [hr] at hq; obtain rfl := Option.some.inj hq; exact absurd ht (hnt b)
      · rw [if_neg hij]) hA.le rfl
  refine ⟨by simpa using hD.sz, hD.frame hA hr hun (.refl _) (by rw [hv]; simp only [VR]; exact ⟨#[], rfl, by simp only [VRs]⟩), by rw [put_size]; exact hD.nt, by rw [put_defers]; exact hD.df, hD.ext, fun b k h => hD.blk b k (by rw [← hsame]; exact h),
    fun b b' k k' r1 κ κ' h h' => hD.inj b b' k k' r1 κ κ' (by rw [← hsame]; exact h) (by rw [← hsame]; exact h'), fun i q hq hL b h1 h2 => ?_, hD.fr2, hD.low, hD.lt, hD.glob, hD.base, fun i q hq hL b hb => ?_, hD.keep, fun b k q h => hD.old b k q (by rw [← hsame]; exact h), hD.nw, fun i hi k hk hb => ?_⟩
  · rw [set_getD hjs] at hL
    split at hL
    · cases hL
    · exact hD.fr1 i q hq hL b h1 h2
  · rw [set_getD hjs] at hL
    split at hL
    · rename_i e; subst e; rw [hr] at hq; obtain rfl := Option.some.inj hq; rw [hW] at hb; simp at hb
    · exact hD.wl i q hq hL b hb
  · rw [set_getD hjs] at hi ⊢
    split
    · rfl
    · split at hi
      · rename_i e; subst e; exact hpre k hk hb
      · exact hD.down i hi k hk hb

theorem DI.done (hA : DA P call nt ops bef p.n0 T0 s0 rs Wend) (hD : DI p nt bef ops.size rs σ0 T0 s0 Wend a0 w0 L σ a w) (hdom : ∀ b k, s0.H.get b = some k → b < s0.nxt) (hlim : lastHi rs s0.nxt ≤ p.lim) {j : Nat} {r : DR} (hr : rs[j]? = some r) (hun : L.getD j false = false) (hpre : ∀ i, i < ops.size → (bef.getD j 0).testBit i = true → L.getD i false = true)
    {o : DOp} (hob : o.bef = bef.getD j 0) {s' : St} (hH : r.H = s'.H) (hhi : r.hi = s'.nxt) (hW : r.W = s'.W % 2 ^ r.lo) {σ' : Env} {w' : World} {x : Value} (hv : VR σ' r.v x)
    (hg : Good { p with lim := r.hi } σ { H := baseH r.cls r.rb o (rs.take j) s0.H, nxt := r.lo, W := 0 } w σ' s' w') :
    DI p nt bef ops.size rs σ0 T0 s0 Wend a0 w0 (L.setIfInBounds j true) σ' (a.put r.d x) w' := by
  obtain ⟨oj, aj, hoj, haj, hsj⟩ := hA.step hr
  have hjn : j < ops.size := (Array.getElem?_eq_some_iff.1 hoj).1
  have hjs : j < L.size := by rw [hD.sz]; exact hjn
  have hsub : ∀ {b k}, (baseH r.cls r.rb o (rs.take j) s0.H).get b = some k → (foldH rs 0 (fun i => L.getD i false) s0.H).get b = some k ∧ b < r.lo := fun {b k} h => base_sub hA hD hdom hr hun hpre hob h
  -- the heap behind it
  have hin : ∀ b, r.touch b → (foldH rs 0 (fun i => (L.setIfInBounds j true).getD i false) s0.H).get b = s'.H.get b := fun b ht => by
    rw [← hH]
    refine foldH_last rs 0 j _ s0.H r hr (by simp only [Nat.zero_add]; rw [set_getD hjs, if_pos rfl]) ht (fun i q hi hq hs hqt => ?_) hA.le
    simp only [Nat.zero_add] at hs
    rw [set_getD hjs, if_neg (by omega)] at hs
    cases hb : (bef.getD i 0).testBit j with
    | true => rw [hD.down i hs j hjn hb] at hun; cases hun
    | false => exact hA.apart hr hq hi hb ht hqt
  have hout : ∀ b, ¬ r.touch b → (foldH rs 0 (fun i => (L.setIfInBounds j true).getD i false) s0.H).get b = (foldH rs 0 (fun i => L.getD i false) s0.H).get b := fun b ht =>
    foldH_congr rs 0 _ _ _ _ (fun i q hq hqt => by
      simp only [Nat.zero_add]
      rw [set_getD hjs]
      by_cases hij : i = j
      · subst hij; rw [hr] at hq; obtain rfl := Option.some.inj hq; exact absurd hqt ht
      · rw [if_neg hij]) hA.le rfl
  have hbit : ∀ b, b < r.lo → s'.W.testBit b = true → r.W.testBit b = true := fun b hb hw => by rw [hW, Nat.testBit_mod_two_pow]; simp [hb, hw]
  have hfirst := hA.first hr
  have hlive : ∀ {b k q}, (foldH rs 0 (fun i => L.getD i false) s0.H).get b = some k → σ' b = some q → σ b = some q := by
    intro b k q hb hq
    obtain ⟨r1, κ1, o1, e1, _⟩ := hD.blk b k hb
    have := hg.ext _ _ e1
    rw [this] at hq
    rw [e1, hq]
  refine ⟨by simpa using hD.sz, hD.frame hA hr hun hg.ext hv, by rw [put_size]; exact hD.nt, by rw [put_defers]; exact hD.df, hD.ext.trans hg.ext, ?_, ?_, ?_, ?_, hg.hr.low, hg.hr.lt, hg.hr.glob, hg.hr.base, ?_, ?_, ?_, ?_, ?_⟩
  · -- blk
    intro b k hb
    by_cases ht : r.touch b
    · rw [hin b ht] at hb
      exact hg.hr.blk b k hb
    · rw [hout b ht] at hb
      obtain ⟨r1, κ1, o1, e1, e2, e3⟩ := hD.blk b k hb
      refine ⟨r1, κ1, o1, hg.ext _ _ e1, ?_, e3.ext hg.ext⟩
      rw [hg.keep.same r1 (hD.lt _ _ _ e1) (fun b' x κ hx hw' he => ?_)]
      · exact e2
      · obtain ⟨g1, g2⟩ := hsub hx
        have := hD.inj b' b x k r1 κ κ1 g1 hb he e1
        subst this
        exact ht (.inr (hbit b' g2 hw'))
  · -- inj
    have cross : ∀ b1 b2 k1 k2 rr κ1 κ2, r.touch b1 → ¬ r.touch b2 → s'.H.get b1 = some k1 → (foldH rs 0 (fun i => L.getD i false) s0.H).get b2 = some k2 → σ' b1 = some (rr, κ1) → σ' b2 = some (rr, κ2) → False := by
      intro b1 b2 k1 k2 rr κ1 κ2 ht1 ht2 h1 h2 e1 e2
      have e2' := hlive h2 e2
      cases hs : σ b1 with
      | some q =>
        have := hg.ext _ _ hs
        rw [this] at e1
        obtain rfl := Option.some.inj e1
        obtain ⟨k0, hk0⟩ := hg.old b1 k1 _ h1 hs
        have := hD.inj b1 b2 k0 k2 rr κ1 κ2 (hsub hk0).1 h2 hs e2'
        subst this
        exact ht2 ht1
      | none =>
        rcases (hg.nw b1 rr κ1 hs e1).2 with g | ⟨b0, k0, κ0, g1, g2, g3⟩
        · have := hD.lt _ _ _ e2'; omega
        · obtain ⟨q1, q2⟩ := hsub g1
          have := hD.inj b0 b2 k0 k2 rr κ0 κ2 q1 h2 g2 e2'
          subst this
          exact ht2 (.inr (hbit b0 q2 g3))
    intro b1 b2 k1 k2 rr κ1 κ2 h1 h2 e1 e2
    by_cases ht1 : r.touch b1
    · rw [hin b1 ht1] at h1
      by_cases ht2 : r.touch b2
      · rw [hin b2 ht2] at h2
        exact hg.hr.inj b1 b2 k1 k2 rr κ1 κ2 h1 h2 e1 e2
      · rw [hout b2 ht2] at h2
        exact (cross b1 b2 k1 k2 rr κ1 κ2 ht1 ht2 h1 h2 e1 e2).elim
    · rw [hout b1 ht1] at h1
      by_cases ht2 : r.touch b2
      · rw [hin b2 ht2] at h2
        exact (cross b2 b1 k2 k1 rr κ2 κ1 ht2 ht1 h2 h1 e2 e1).elim
      · rw [hout b2 ht2] at h2
        exact hD.inj b1 b2 k1 k2 rr κ1 κ2 h1 h2 (hlive h1 e1) (hlive h2 e2)
  · -- fr1
    intro i q hq hL b h1 h2
    rw [set_getD hjs] at hL
    split at hL
    · cases hL
    · rename_i hij
      have hn := hD.fr1 i q hq hL b h1 h2
      cases hs : σ' b with
      | none => rfl
      | some z =>
        obtain ⟨r1, κ1⟩ := z
        have hrng := (hg.nw b r1 κ1 hn hs).1
        have g1 : r.lo ≤ b := hrng.1
        have g2 : b < s'.nxt := hrng.2
        rw [← hhi] at g2
        rcases Nat.lt_or_gt_of_ne hij with h' | h'
        · have := hA.lt hq hr h'; omega
        · have := hA.lt hr hq h'; omega
  · -- fr2
    intro b h1 h2
    have hn := hD.fr2 b h1 h2
    cases hs : σ' b with
    | none => rfl
    | some z =>
      obtain ⟨r1, κ1⟩ := z
      have hrng := (hg.nw b r1 κ1 hn hs).1
      have g2 : b < s'.nxt := hrng.2
      rw [← hhi] at g2
      have := hfirst.2
      omega
  · -- wl
    intro i q hq hL b hb
    rw [set_getD hjs] at hL
    split at hL
    · rename_i e
      subst e
      rw [hr] at hq
      obtain rfl := Option.some.inj hq
      rw [hW, Nat.testBit_mod_two_pow] at hb
      simp only [Bool.and_eq_true] at hb
      exact hg.hr.wlow b hb.2
    · exact hD.wl i q hq hL b hb
  · -- keep
    refine ⟨hg.keep.os.trans hD.keep.os, hg.keep.tape.trans hD.keep.tape, hg.keep.output.trans hD.keep.output, Nat.le_trans hD.keep.size hg.keep.size, fun k hk hn => ?_⟩
    rw [← hD.keep.same k hk hn]
    refine hg.keep.same k (Nat.lt_of_lt_of_le hk hD.keep.size) (fun b x κ hx hw' he => ?_)
    obtain ⟨q1, q2⟩ := hsub hx
    have hwe : Wend.testBit b = true := hA.wend j r hr b (hbit b q2 hw')
    cases hs : σ0 b with
    | some q =>
      have := hD.ext _ _ hs
      rw [this] at he
      obtain rfl := Option.some.inj he
      obtain ⟨k0, hk0⟩ := hD.old b x _ q1 hs
      exact hn b k0 κ hk0 hwe hs
    | none =>
      rcases (hD.nw b k κ hs he).2 with g | ⟨b0, k0, κ0, g1, g2, g3⟩
      · omega
      · exact hn b0 k0 κ0 g1 g3 g2
  · -- old
    intro b k q hb hs
    by_cases ht : r.touch b
    · rw [hin b ht] at hb
      obtain ⟨k0, hk0⟩ := hg.old b k q hb (hD.ext _ _ hs)
      exact hD.old b k0 q (hsub hk0).1 hs
    · rw [hout b ht] at hb
      exact hD.old b k q hb hs
  · -- nw
    intro b rr κ hs he
    cases hs1 : σ b with
    | some q =>
      have := hg.ext _ _ hs1
      rw [this] at he
      obtain rfl := Option.some.inj he
      exact hD.nw b rr κ hs hs1
    | none =>
      obtain ⟨hrng, hh⟩ := hg.nw b rr κ hs1 he
      have g1 : r.lo ≤ b := hrng.1
      have g2 : b < s'.nxt := hrng.2
      rw [← hhi] at g2
      refine ⟨⟨by omega, by omega⟩, ?_⟩
      rcases hh with h1 | ⟨b0, k0, κ0, h1, h2, h3⟩
      · exact .inl (Nat.le_trans hD.keep.size h1)
      · obtain ⟨q1, q2⟩ := hsub h1
        have hwe : Wend.testBit b0 = true := hA.wend j r hr b0 (hbit b0 q2 h3)
        cases hs0 : σ0 b0 with
        | some q =>
          have := hD.ext _ _ hs0
          rw [this] at h2
          obtain rfl := Option.some.inj h2
          obtain ⟨k00, hk00⟩ := hD.old b0 k0 _ q1 hs0
          exact .inr ⟨b0, k00, κ0, hk00, hs0, hwe⟩
        | none => exact (hD.nw b0 rr κ0 hs0 h2).2
  · -- down
    intro i hi k hk hb
    rw [set_getD hjs] at hi ⊢
    split
    · rfl
    · split at hi
      · rename_i e; subst e; exact hpre k hk hb
      · exact hD.down i hi k hk hb
end
end Go.Ev
