import Derived.Test.YtbbfhlglljjpmaaGreatDoorEvT
namespace Go.Ev
open Go
set_option linter.unusedVariables false
variable [Theta]
set_option linter.unusedSectionVars false
set_option linter.unusedSimpArgs false
section
variable {P : Program} {call : CallT} {nt : Nat} {ops : Array Oper} {bef : List Nat} {p : Px} {T0 : Tr AV} {s0 : St} {rs : List DR} {Wend : Nat} {σ0 σ : Env} {a0 a : Act} {w0 w : World} {L : Array Bool}

/-- One operation of a drawn region, when its turn comes. -/
theorem DI.step (hcall : CallOK P p.n0 call) (hng : p.ng = P.globals.size) (hn0 : p.n0 ≤ s0.nxt) (hg0 : p.ng ≤ s0.nxt) (hA : DA P call nt ops bef p.n0 T0 s0 rs Wend) (hdom : ∀ b k, s0.H.get b = some k → b < s0.nxt) (hlim : lastHi rs s0.nxt ≤ p.lim) {Q : Exit → Act → World → Prop}
    (hD : DI p nt bef ops.size rs σ0 T0 s0 Wend a0 w0 L σ a w) {j : Nat} (hj : j ∈ Region.ready .any ops L) {K : Act → World → Prop} (hK : ∀ σ' a' w', DI p nt bef ops.size rs σ0 T0 s0 Wend a0 w0 (L.setIfInBounds j true) σ' a' w' → K a' w') : wpOp P ops Q j K a w := by
  obtain ⟨hun, o, ho, hedge⟩ := mem_ready.1 hj
  have hjn : j < ops.size := (Array.getElem?_eq_some_iff.1 ho).1
  have hjs : j < L.size := by rw [hD.sz]; exact hjn
  have hun : L.getD j false = false := by
    rw [Array.getD_eq_getD_getElem?, getElem?_pos L j hjs] at hun ⊢
    exact hun
  obtain ⟨r, ao, hr, hao, hst⟩ := hA.at_ j o ho
  have hpre := ready_bits hA hD ho hedge
  obtain ⟨hgd, hai, hd, hdn⟩ := compA_parts hao
  have hrd : r.d = o.dst := by rw [hst.d, ← hd]
  have hfirst := hA.first hr
  have hrel : Rel P { p with lim := r.hi } σ (baseT ⟨ao, bef.getD j 0, erOf ops bef j⟩ (rs.take j) T0) { H := baseH r.cls r.rb ⟨ao, bef.getD j 0, erOf ops bef j⟩ (rs.take j) s0.H, nxt := r.lo, W := 0 } a w := by
    have hsub : ∀ {b k}, (baseH r.cls r.rb ⟨ao, bef.getD j 0, erOf ops bef j⟩ (rs.take j) s0.H).get b = some k → (foldH rs 0 (fun i => L.getD i false) s0.H).get b = some k ∧ b < r.lo := fun {b k} h => base_sub hA hD hdom hr hun hpre rfl h
    refine ⟨baseT_sub hA hD hr hun hpre, ⟨fun b k hb => hD.blk b k (hsub hb).1, fun b b' k k' rr κ κ' hb hb' => hD.inj b b' k k' rr κ κ' (hsub hb).1 (hsub hb').1, fun b h1 h2 => hD.fr1 j r hr hun b h1 h2, hD.low, hD.lt, hD.glob, fun b hb => by simp at hb, hD.base, ?_, ?_, fun b k hb => (hsub hb).2⟩, hng, ?_, ?_⟩
    · exact Nat.le_trans hn0 hfirst.1
    · exact Nat.le_trans hg0 hfirst.1
    · exact Nat.le_trans hn0 hfirst.1
    · exact Nat.le_trans hg0 hfirst.1
  unfold wpOp
  rw [ho]
  rcases hst.run with ⟨hw, h1, h2, h3⟩ | ⟨hw, s', h1, h2, h3, h4⟩
  · have hwant := wants_sound hrel hgd hw
    simp only [hwant, Bool.false_eq_true, if_false]
    rw [← hrd]
    exact hK _ _ _ (hD.skip hA hr hun hpre h1 h2 h3)
  · have hwant := wants_sound hrel hgd hw
    simp only [hwant, if_true]
    refine .inl (op_sound (p := { p with lim := r.hi }) hcall hrel (comp_some hai h1) h1 (by show s'.nxt ≤ r.hi; omega) (fun x σ' w' hv hg => ?_))
    rw [← hrd]
    exact hK _ _ _ (hD.done hA hdom hlim hr hun hpre rfl h2 h3 h4 hv hg)

theorem DI.all (hcall : CallOK P p.n0 call) (hng : p.ng = P.globals.size) (hn0 : p.n0 ≤ s0.nxt) (hg0 : p.ng ≤ s0.nxt) (hA : DA P call nt ops bef p.n0 T0 s0 rs Wend) (hdom : ∀ b k, s0.H.get b = some k → b < s0.nxt) (hlim : lastHi rs s0.nxt ≤ p.lim) {Q : Exit → Act → World → Prop}
    (hQ : ∀ L σ a w, DI p nt bef ops.size rs σ0 T0 s0 Wend a0 w0 L σ a w → (∀ i, i < ops.size → L.getD i false = true) → Q .normal a w) :
    ∀ (fuel : Nat) (L : Array Bool) (σ : Env) (a : Act) (w : World), DI p nt bef ops.size rs σ0 T0 s0 Wend a0 w0 L σ a w → ((List.range ops.size).filter fun i => !L.getD i false).length ≤ fuel → wpAny P .any ops Q fuel L a w := by
  have full : ∀ L σ a w, DI p nt bef ops.size rs σ0 T0 s0 Wend a0 w0 L σ a w → Region.ready .any ops L = [] → ∀ i, i < ops.size → L.getD i false = true := by
    intro L σ a w hD hnil i
    induction i using Nat.strongRecOn with
    | _ i ih =>
      intro hi
      cases hL : L.getD i false with
      | true => rfl
      | false =>
        exfalso
        have : i ∈ Region.ready .any ops L := by
          rw [mem_ready]
          refine ⟨?_, ops[i], by simp [hi], fun e he hb => ?_⟩
          · rw [Array.getD_eq_getD_getElem?, getElem?_pos L i (by rw [hD.sz]; exact hi)] at hL ⊢
            exact hL
          · have hlt := hA.bp.edge i ops[i] (by simp [hi]) e he hb
            exact ih e.on hlt (by omega)
        rw [hnil] at this
        cases this
  intro fuel
  induction fuel with
  | zero =>
    intro L σ a w hD hle
    have hall : ∀ i, i < ops.size → L.getD i false = true := by
      intro i hi
      have : (List.range ops.size).filter (fun i => !L.getD i false) = [] := List.length_eq_zero_iff.1 (by omega)
      rw [List.filter_eq_nil_iff] at this
      have := this i (List.mem_range.2 hi)
      simpa using this
    refine ⟨?_, hQ L σ a w hD hall⟩
    cases hrd : Region.ready .any ops L with
    | nil => rfl
    | cons i l =>
      exfalso
      have hm : i ∈ Region.ready .any ops L := by rw [hrd]; exact List.mem_cons_self ..
      obtain ⟨hun, o, ho, _⟩ := mem_ready.1 hm
      have hi : i < ops.size := (Array.getElem?_eq_some_iff.1 ho).1
      have h1 := hall i hi
      rw [Array.getD_eq_getD_getElem?, getElem?_pos L i (by rw [hD.sz]; exact hi)] at h1 hun
      simp only [Option.getD_some] at h1 hun
      rw [h1] at hun; cases hun
  | succ fuel ih =>
    intro L σ a w hD hle
    refine ⟨fun hnil => hQ L σ a w hD (full L σ a w hD hnil), fun j hj => ?_⟩
    refine DI.step hcall hng hn0 hg0 hA hdom hlim hD hj (fun σ' a' w' hD' => ih _ σ' a' w' hD' ?_)
    obtain ⟨hun, o, ho, _⟩ := mem_ready.1 hj
    have hjn : j < ops.size := (Array.getElem?_eq_some_iff.1 ho).1
    have hjs : j < L.size := by rw [hD.sz]; exact hjn
    have hun : L.getD j false = false := by
      rw [Array.getD_eq_getD_getElem?, getElem?_pos L j hjs] at hun ⊢
      exact hun
    have := filt_lt (p := fun i => !L.getD i false) (p' := fun i => !(L.setIfInBounds j true).getD i false) (fun x hx => by
      rw [set_getD hjs] at hx
      by_cases hxj : x = j
      · rw [if_pos hxj] at hx; cases hx
      · rw [if_neg hxj] at hx; exact hx) (j := j) (by rw [hun]; rfl) (by rw [set_getD hjs, if_pos rfl]; rfl) (List.range ops.size) (List.mem_range.2 hjn)
    omega

theorem orW_spec : ∀ (l : List DR) (W b : Nat), (orW l W).testBit b = true ↔ (W.testBit b = true ∨ ∃ (i : Nat) (r : DR), l[i]? = some r ∧ r.W.testBit b = true)
  | [], W, b => by
    constructor
    · intro h; exact .inl h
    · rintro (h | ⟨i, r, h, _⟩)
      · exact h
      · simp at h
  | r :: l, W, b => by
    have e : orW (r :: l) W = orW l W ||| r.W := rfl
    rw [e, Nat.testBit_or, Bool.or_eq_true, orW_spec l W b]
    constructor
    · rintro ((h | ⟨i, q, h1, h2⟩) | h)
      · exact .inl h
      · exact .inr ⟨i + 1, q, by simpa using h1, h2⟩
      · exact .inr ⟨0, r, rfl, h⟩
    · rintro (h | ⟨i, q, h1, h2⟩)
      · exact .inl (.inl h)
      · cases i with
        | zero => simp at h1; subst h1; exact .inr h2
        | succ i => exact .inl (.inr ⟨i, q, by simpa using h1, h2⟩)

theorem lastHi_ge {l : List DR} {N : Nat} (h : ∀ (j : Nat), j ≤ l.length → N ≤ lastHi (l.take j) N) : N ≤ lastHi l N := by
  have := h l.length (Nat.le_refl _)
  rwa [List.take_length] at this

/-- A region that draws its order. -/
theorem draw_sound {id : Nat} (hm : P.follows .mixedOrders = true) (hcall : CallOK P p.n0 call) (hbef : befOK ops bef = true) (hdst : dstOK ops bef = true) {l : List AOp} (hc : compL P nt ops ops.toList = some l) {T : Tr AV} {s : St} {T' : Tr AV} {s' : St}
    (he : evDraw call p.n0 (compD P nt ops bef 0 l) T s = some (T', s')) (hL : s'.nxt ≤ p.lim) (h : Rel P p σ T s a w) (hnt : nt ≤ a.tmps.size) {Q : Exit → Act → World → Prop}
    (hk : ∀ σ' a' w', Rel P p σ' T' s' a' w' → nt ≤ a'.tmps.size → a'.defers = a.defers → Good p σ s w σ' s' w' → Q .normal a' w') : (Code.region id ops true).wp P Q a w := by
  unfold evDraw at he
  split at he
  · cases he
  · rename_i rs hrs
    obtain ⟨rfl, rfl⟩ := Prod.mk.inj (Option.some.inj he)
    obtain ⟨new, g1, g2, g3⟩ := evD_spec (P := P) hcall (N := s.nxt) _ [] s.nxt rs hrs rfl
    simp only [List.nil_append] at g1 g3
    subst g1
    obtain ⟨hlen, hget⟩ := compL_get _ _ hc
    rw [compD_length, hlen, Array.length_toList] at g2
    have hA : DA P call nt ops bef p.n0 T s rs (orW rs s.W) := by
      refine ⟨befOK_spec hbef, hdst, g2, fun j o ho => ?_, fun j r hr b hb => (orW_spec rs s.W b).2 (.inr ⟨j, r, hr, hb⟩)⟩
      obtain ⟨ao, h1, h2⟩ := hget j o (by simpa using ho)
      have h3 := compD_get P nt ops bef l 0 j ao h1
      rw [Nat.zero_add] at h3
      obtain ⟨r, q1, q2⟩ := g3 j _ h3
      exact ⟨r, ao, q1, h2, q2⟩
    refine wp_region_any hm ?_
    have hnil : ∀ i, (Array.replicate ops.size false).getD i false = false := by
      intro i
      rw [Array.getD_eq_getD_getElem?, Array.getElem?_replicate]
      split <;> rfl
    have hH0 : ∀ b, (foldH rs 0 (fun i => (Array.replicate ops.size false).getD i false) s.H).get b = s.H.get b := fun b => foldH_none rs 0 _ s.H (fun i r _ hs => by rw [hnil] at hs; cases hs) hA.le
    have hT0 : ∀ t, (foldT rs 0 (fun i => (Array.replicate ops.size false).getD i false) T).get t = T.get t := fun t => foldT_none rs 0 _ T (fun i r _ hs => by rw [hnil] at hs; cases hs)
    have hd := h.h.drew
    have start : DI p nt bef ops.size rs σ T s (orW rs s.W) a w (Array.replicate ops.size false) σ a { w with drawn := w.drawn + 1 } := by
      refine ⟨by simp, fun t v ht => h.t t v (by rw [← hT0]; exact ht), hnt, rfl, .refl _, fun b k hb => hd.blk b k (by rw [← hH0]; exact hb), fun b b' k k' r κ κ' hb hb' => hd.inj b b' k k' r κ κ' (by rw [← hH0]; exact hb) (by rw [← hH0]; exact hb'),
        fun i r hr _ b h1 h2 => ?_, fun b h1 h2 => ?_, hd.low, hd.lt, hd.glob, hd.base, (fun i r _ hs => by rw [hnil] at hs; cases hs), ⟨rfl, rfl, rfl, Nat.le_refl _, fun _ _ _ => rfl⟩, (fun b k q hb _ => ⟨k, by rw [← hH0]; exact hb⟩), (fun b r κ h1 h2 => nw_same h1 h2), (fun j hs => by rw [hnil] at hs; cases hs)⟩
      · have := hA.first hr
        refine h.h.fresh b (by omega) ?_
        have hL : lastHi rs s.nxt ≤ p.lim := hL
        omega
      · have hge : s.nxt ≤ lastHi rs s.nxt := lastHi_ge (fun j hj => (hA.mono j hj).2)
        exact h.h.fresh b (by omega) h2
    refine DI.all hcall h.ng h.n0 h.g0 hA h.h.dom hL (fun L σ' a' w' hD hall => ?_) ops.size _ σ a _ start (Nat.le_trans (List.length_filter_le _ _) (by simp))
    have hsameH : ∀ b, (foldH rs 0 (fun i => L.getD i false) s.H).get b = (foldH rs 0 (fun _ => true) s.H).get b := fun b => foldH_congr rs 0 _ _ _ _ (fun i r hr _ => by
      simp only [Nat.zero_add]
      refine hall i ?_
      rcases Nat.lt_or_ge i rs.length with h' | h'
      · have := hA.len; omega
      · rw [List.getElem?_eq_none h'] at hr; cases hr) hA.le rfl
    have hsameT : ∀ t, (foldT rs 0 (fun i => L.getD i false) T).get t = (foldT rs 0 (fun _ => true) T).get t := fun t => foldT_congr rs 0 _ _ _ _ (fun i r hr _ => by
      simp only [Nat.zero_add]
      refine hall i ?_
      rcases Nat.lt_or_ge i rs.length with h' | h'
      · have := hA.len; omega
      · rw [List.getElem?_eq_none h'] at hr; cases hr) rfl
    have hge : s.nxt ≤ lastHi rs s.nxt := lastHi_ge (fun j hj => (hA.mono j hj).2)
    have hR : HR p σ' { H := foldH rs 0 (fun _ => true) s.H, nxt := lastHi rs s.nxt, W := orW rs s.W } w' := by
      refine ⟨fun b k hb => hD.blk b k (by rw [hsameH]; exact hb), fun b b' k k' r κ κ' hb hb' => hD.inj b b' k k' r κ κ' (by rw [hsameH]; exact hb) (by rw [hsameH]; exact hb'), hD.fr2, hD.low, hD.lt, hD.glob, fun b hb => ?_, hD.base, Nat.le_trans h.n0 hge, Nat.le_trans h.g0 hge, fun b k hb => ?_⟩
      · rcases (orW_spec rs s.W b).1 hb with hb | ⟨i, r, hr, hb⟩
        · exact h.h.wlow b hb
        · have hi : i < ops.size := by
            rcases Nat.lt_or_ge i rs.length with h' | h'
            · have := hA.len; omega
            · rw [List.getElem?_eq_none h'] at hr; cases hr
          exact hD.wl i r hr (hall i hi) b hb
      · rcases foldH_origin rs 0 _ s.H hA.le hb with ⟨i, r, hr, _, ht⟩ | hb
        · have := hA.first hr
          obtain ⟨_, _, _, _, s1⟩ := hA.step hr
          have := s1.le
          show b < lastHi rs s.nxt
          rcases ht with ⟨_, ht⟩ | ht
          · omega
          · have := s1.wl b ht; omega
        · exact Nat.lt_of_lt_of_le (h.h.dom b k hb) hge
    refine hk σ' a' w' ⟨fun t v ht => hD.t t v (by rw [hsameT]; exact ht), hR, h.ng, hR.n0, hR.g0⟩ hD.nt hD.df ?_
    exact ⟨hD.ext, hR, hD.keep, fun b hb => (orW_spec rs s.W b).2 (.inl hb), fun b k q hb hq => hD.old b k q (by rw [hsameH]; exact hb) hq, hD.nw, hge⟩
end
end Go.Ev
