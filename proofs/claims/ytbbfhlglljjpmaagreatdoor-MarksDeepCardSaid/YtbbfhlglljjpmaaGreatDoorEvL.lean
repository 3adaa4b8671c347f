import Derived.Test.YtbbfhlglljjpmaaGreatDoorEvKU
namespace Go.Ev
open Go
set_option linter.unusedVariables false
variable [Theta]
set_option linter.unusedSectionVars false
set_option linter.unusedSimpArgs false
section
variable {P : Program} {p : Px} {σ : Env} {s : St} {w : World} {T : Tr AV} {a : Act}

theorem ldC2 (P : Program) (h : HR p σ s w) {b off n r κ : Nat} {l : AVs} (he : srcA.ldC' s b off n = some l) (hs : σ b = some (r, κ)) :
    ∃ xs : List Value, xs.length = n ∧ VRs σ l xs ∧ ∀ w2 : World, w2.heap = w.heap → (loadCells ⟨r, off, none⟩ n).run P w2 = .ok xs.toArray w2 := by
  unfold srcA.ldC' at he
  split at he
  · obtain rfl := (Option.some.inj he).symm
    exact ⟨[], rfl, by simp only [VRs], fun w2 _ => by simpa using run_loadCells_list (P := P) w2 ⟨r, off, none⟩ [] (by simp)⟩
  · split at he
    · rename_i hg
      obtain ⟨c, lo, hi, h1, h2, _⟩ := h.row hg hs
      obtain ⟨xs, h3, h4, h5⟩ := ldC_cells h2 _ off l he
      refine ⟨xs, h3, h4, fun w2 hw => ?_⟩
      rw [← h3]
      refine run_loadCells_list w2 ⟨r, off, none⟩ xs (fun j u hj => ?_)
      rw [add_none, cell_of_heap (by rw [hw]; exact h1)]
      exact h5 j u hj
    · cases he

theorem srcA_sound (P : Program) (h : HR p σ s w) {esz n : Nat} {v : AV} {l : AVs} (he : srcA esz s v = some (n, l)) {X : Value} (hx : VR σ v X) :
    Builtin.lenOf X = pure n ∧ ∃ xs : List Value, xs.length = n * esz ∧ VRs σ l xs ∧ ∀ w2 : World, w2.heap = w.heap → (Builtin.firstCells esz n X).run P w2 = .ok xs.toArray w2 := by
  unfold srcA at he
  split at he
  · obtain ⟨rfl, rfl⟩ := Prod.mk.inj (Option.some.inj he)
    simp only [VR] at hx
    subst hx
    exact ⟨rfl, [], by simp, by simp only [VRs], fun w2 _ => by simp [Builtin.firstCells]⟩
  · rename_i b off len cap
    split at he
    · rename_i l' hl
      obtain ⟨rfl, rfl⟩ := Prod.mk.inj (Option.some.inj he)
      simp only [VR] at hx
      obtain ⟨r, κ, e1, rfl⟩ := hx
      obtain ⟨xs, q1, q2, q3⟩ := ldC2 P h hl e1
      exact ⟨rfl, xs, q1, q2, q3⟩
    · cases he
  · rename_i b off len eo
    split at he
    · rename_i l' hl
      obtain ⟨rfl, rfl⟩ := Prod.mk.inj (Option.some.inj he)
      simp only [VR] at hx
      obtain ⟨r, κ, off, e1, e0, e3, rfl⟩ := hx
      replace hl := ldC'_off (fun h0 => slr_off e3 (Nat.pos_of_mul_pos_right h0)) hl
      obtain ⟨xs, q1, q2, q3⟩ := ldC2 P h hl e1
      exact ⟨rfl, xs, q1, q2, q3⟩
    · cases he
  · rename_i len m
    split at he
    · rename_i hz
      obtain ⟨rfl, rfl⟩ := Prod.mk.inj (Option.some.inj he)
      simp only [VR] at hx
      obtain ⟨bs, rfl, e1, e2⟩ := hx
      have hz := Nat.eq_of_beq_eq_true hz
      subst hz
      refine ⟨by simp only [Builtin.lenOf]; rw [e1], _, ?_, sbytes_str e1 e2, fun w2 _ => ?_⟩
      · simp; simpa using e1
      · have : bs.extract 0 len = bs := by
          rw [← e1]; exact ByteArray.extract_zero_size
        simp only [Builtin.firstCells, this, Sem.run_pure]
        congr 1
        apply Array.ext'
        simp
    · cases he
  · cases he

theorem run_app_in {t u e ty : TypeId} {d : TypeDesc} {i : TypeInfo} (ht : P.underlying t = some (.slice e)) (hu : P.underlying u = some d) (hd : (∃ e', d = .slice e') ∨ d = .string) (hi : P.info? e = some i) {X : Value} {n : Nat} (hl : Builtin.lenOf X = pure n)
    {xs : List Value} (hf : (Builtin.firstCells i.size n X).run P w = .ok xs.toArray w) {A : Addr} {len cap : Nat} (hroom : len + n ≤ cap) {w' : World} (hst : (storeCells (A.add (len * i.size)) xs).run P w = .ok () w') :
    (Builtin.append_ #[t, u] ty #[.slice (some A) len cap, X]).run P w = .ok (.slice (some A) (len + n) cap) w' := by
  rcases hd with ⟨e', rfl⟩ | rfl <;> simp [Builtin.append_, run_underlying ht, run_underlying hu, sizeOf, typeInfo, hi, hl, hroom, hf, hst]

theorem run_app_none {t u e ty : TypeId} {d : TypeDesc} {i : TypeInfo} (ht : P.underlying t = some (.slice e)) (hu : P.underlying u = some d) (hd : (∃ e', d = .slice e') ∨ d = .string) (hi : P.info? e = some i) {X : Value} (hl : Builtin.lenOf X = pure 0)
    {xs : List Value} (hf : (Builtin.firstCells i.size 0 X).run P w = .ok xs.toArray w) (hx : xs.length = 0) {A : Option Addr} {len cap : Nat} (hroom : len ≤ cap) :
    (Builtin.append_ #[t, u] ty #[.slice A len cap, X]).run P w = .ok (.slice A len cap) w := by
  have hx' : xs = [] := List.length_eq_zero_iff.1 hx
  subst hx'
  rcases hd with ⟨e', rfl⟩ | rfl <;> (cases A <;> simp [Builtin.append_, run_underlying ht, run_underlying hu, sizeOf, typeInfo, hi, hl, hroom, hf, storeCells])

theorem run_app_grow {t u e ty : TypeId} {d : TypeDesc} {i : TypeInfo} {z : Value} (ht : P.underlying t = some (.slice e)) (hu : P.underlying u = some d) (hd : (∃ e', d = .slice e') ∨ d = .string) (hi : P.info? e = some i) (hz : i.zero = some z) (hb : 0 < i.bytes) {X : Value} {n : Nat} (hl : Builtin.lenOf X = pure n)
    {xs : List Value} (hf : (Builtin.firstCells i.size n X).run P w.drew = .ok xs.toArray w.drew) {A : Option Addr} {len cap : Nat} (hno : cap < len + n) {ys : List Value} (ho : (Builtin.firstCells i.size len (.slice A len cap)).run P w.drew = .ok ys.toArray w.drew)
    (hfit : Builtin.nextslicecap (len + n) cap * i.bytes ≤ 281474976710656) :
    (Builtin.append_ #[t, u] ty #[.slice A len cap, X]).run P w = .ok (.slice (some ⟨w.heap.size, 0, none⟩) (len + n) (grownCap w (len + n) cap e))
      (w.drew.alloc (.cells (ys.toArray ++ xs.toArray ++ Builtin.zeroCells z.cells (grownCap w (len + n) cap e - (len + n))) e)) := by
  have hn : ¬ (len + n ≤ cap) := by omega
  have h48' : ¬ (281474976710656 < Builtin.nextslicecap (len + n) cap * i.bytes) := by omega
  have hb' : i.bytes ≠ 0 := by omega
  rcases hd with ⟨e', rfl⟩ | rfl <;> (simp [Builtin.append_, run_underlying ht, run_underlying hu, sizeOf, typeInfo, zeroValue, hi, hz, hl, hn, h48', hb', Question.forced, hf, ho, newRow, grownCap]; rw [← Array.append_assoc]; simp)

theorem nextcap_le (n c : Nat) (h : c < n) : Builtin.nextslicecap n c ≤ 2 * n + 1000 := by
  have gb : ∀ r c, c < n → Builtin.growBy n r c ≤ 2 * n + 1000 := by
    intro r
    induction r with
    | zero => intro c hc; simp only [Builtin.growBy]; omega
    | succ r ih =>
      intro c hc
      simp only [Builtin.growBy]
      split
      · omega
      · by_cases hc' : c + (c + 768) / 4 < n
        · exact ih _ hc'
        · cases r with
          | zero => simp only [Builtin.growBy]; omega
          | succ r => simp only [Builtin.growBy]; rw [if_pos (by omega)]; omega
  unfold Builtin.nextslicecap
  split
  · omega
  · split
    · omega
    · exact gb 4 c h

theorem grown_ge (w : World) (n c e : Nat) : n ≤ grownCap w n c e := by unfold grownCap; simp [Question.cut]

/-- The block that grew. -/
theorem grow_good (h : Rel P p σ T s a w) (hL : s.nxt < p.lim) {e esz need cap : Nat} {zl : List Value} {z : Value} (hz : z.cells.size = esz) {old new : AVs} {ys xs : List Value} (ho : VRs σ old ys) (hn : VRs σ new xs) (hlen : ys.length + xs.length = need * esz) :
    ∃ σ', σ' s.nxt = some (w.heap.size, grownCap w need cap e) ∧ Good p σ s w σ' (evNew e esz (stC new old.len (stC old 0 .leaf)) (need * esz) false 0 s)
      (w.drew.alloc (.cells (ys.toArray ++ xs.toArray ++ Builtin.zeroCells z.cells (grownCap w need cap e - need)) e)) := by
  have hdr : Rel P p σ T s a w.drew := ⟨h.t, h.h.drew, h.ng, h.n0, h.g0⟩
  have hge := grown_ge w need cap e
  have hsz : (ys.toArray ++ xs.toArray ++ Builtin.zeroCells z.cells (grownCap w need cap e - need)).size = grownCap w need cap e * esz := by
    simp only [Array.size_append, List.size_toArray, Builtin.zeroCells, Array.size_map, Array.size_range, hz]
    rw [hlen, ← Nat.add_mul]
    congr 1
    omega
  obtain ⟨σ', g1, g2, g3⟩ := HR.newRow hdr hL e esz (grownCap w need cap e) (c := ys.toArray ++ xs.toArray ++ Builtin.zeroCells z.cells (grownCap w need cap e - need)) (cells := stC new old.len (stC old 0 .leaf)) (used := need * esz) (ex := false)
    (fun σ' he => by
      have h1 := cellsOk_lay (ho.ext he)
      have h2 : cellsOk σ' (stC new old.len (stC old 0 .leaf)) (ys ++ xs).toArray := by
        have h3 : cellsOk σ' (stC old 0 .leaf) (ys ++ xs).toArray := by
          intro j a' hj
          obtain ⟨x, q1, q2⟩ := h1 j a' hj
          refine ⟨x, ?_, q2⟩
          rw [List.getElem?_toArray] at q1 ⊢
          rw [List.getElem?_append_left]
          · exact q1
          · rcases Nat.lt_or_ge j ys.length with h' | h'
            · exact h'
            · rw [List.getElem?_eq_none h'] at q1; cases q1
        have h4 := cellsOk_stC' (off := old.len) (hn.ext he) h3 (by rw [ho.len]; simp)
        have h5 : ovl (ys ++ xs).toArray old.len xs = (ys ++ xs).toArray := by
          rw [ho.len]
          have key : ∀ (xs zs : List Value), ovl (zs ++ xs).toArray zs.length xs = (zs ++ xs).toArray := by
            intro xs
            induction xs with
            | nil => intro zs; rfl
            | cons x xs ih =>
              intro zs
              have : (zs ++ x :: xs).toArray.setIfInBounds zs.length x = ((zs ++ [x]) ++ xs).toArray := by simp
              rw [ovl, this]
              have := ih (zs ++ [x])
              simp only [List.length_append, List.length_cons, List.length_nil] at this
              rw [this]
              simp
          exact key xs ys
        rwa [h5] at h4
      intro j a' hj
      obtain ⟨x, q1, q2⟩ := h2 j a' hj
      refine ⟨x, ?_, q2⟩
      have hjl : j < (ys ++ xs).toArray.size := by
        rcases Nat.lt_or_ge j (ys ++ xs).toArray.size with h' | h'
        · exact h'
        · rw [Array.getElem?_eq_none h'] at q1; cases q1
      rw [show ys.toArray ++ xs.toArray = (ys ++ xs).toArray from by simp, Array.getElem?_append_left hjl]
      exact q1)
    (by rw [hsz]; exact Nat.mul_le_mul_right _ hge) (fun e => by cases e) (fun _ => hsz) (fun _ j a' hj => by
      have l1 := ho.len
      have l2 := hn.len
      rcases stC_dom _ _ _ _ _ hj with hj | hj
      · omega
      · rcases stC_dom _ _ _ _ _ hj with hj | hj
        · omega
        · rw [Tr.get_leaf] at hj; cases hj)
  exact ⟨σ', g1, (Good.drew h.h).trans g3⟩

theorem growA_sound (h : Rel P p σ T s a w) {t u e ty : TypeId} {d : TypeDesc} {i : TypeInfo} {z : Value} (ht : P.underlying t = some (.slice e)) (hu : P.underlying u = some d) (hd : (∃ e', d = .slice e') ∨ d = .string) (hi : P.info? e = some i) (hz : i.zero = some z) (hzs : z.cells.size = i.size) (hb : 0 < i.bytes)
    {x : AV} {X : Value} (hx : VR σ x X) {n : Nat} {new : AVs} (hnew : srcA i.size s x = some (n, new)) {A : Option Addr} {len cap : Nat} {old : AVs} {ys : List Value} (ho : VRs σ old ys) (hys : (Builtin.firstCells i.size len (.slice A len cap)).run P w.drew = .ok ys.toArray w.drew) (hno : cap < len + n)
    {v : AV} {s' : St} (he : growA e i.size i.bytes old new (len + n) cap s = some (v, s')) (hL : s'.nxt ≤ p.lim) :
    ∃ r σ' w', (Builtin.append_ #[t, u] ty #[.slice A len cap, X]).run P w = .ok r w' ∧ VR σ' v r ∧ Good p σ s w σ' s' w' := by
  unfold growA at he
  split at he
  · rename_i h1
    split at he
    · rename_i h2
      obtain ⟨rfl, rfl⟩ := Prod.mk.inj (Option.some.inj he)
      obtain ⟨q1, xs, q2, q3, q4⟩ := srcA_sound P h.h hnew hx
      have q4 := q4 w.drew rfl
      have h2 := Nat.eq_of_beq_eq_true h2
      rw [ho.len, q3.len] at h2
      have hrun := run_app_grow (ty := ty) ht hu hd hi hz hb q1 q4 hno hys (Nat.le_of_ble_eq_true h1)
      obtain ⟨σ', g1, g2⟩ := grow_good h hL (e := e) (need := len + n) (cap := cap) (zl := []) hzs ho q3 h2
      refine ⟨_, σ', _, hrun, ?_, g2⟩
      simp only [VR]
      exact ⟨w.heap.size, _, _, g1, by simpa using grown_ge w (len + n) cap e, .inl rfl, rfl⟩
    · cases he
  · cases he

/-- append at the end of a row whose room is not known. -/
theorem amb_sound (h : Rel P p σ T s a w) (hL : s.nxt < p.lim) {t u e ty : TypeId} {d : TypeDesc} {i : TypeInfo} {z : Value} (ht : P.underlying t = some (.slice e)) (hu : P.underlying u = some d) (hd : (∃ e', d = .slice e') ∨ d = .string) (hi : P.info? e = some i) (hz : i.zero = some z) (hzs : z.cells.size = i.size) (hsz : 0 < i.size) (hb : 0 < i.bytes)
    {X : Value} {n : Nat} (hl : Builtin.lenOf X = pure n) {new : AVs} {xs : List Value} (hxl : xs.length = n * i.size) (hn : VRs σ new xs) (h1 : new.one = true) (hf : (Builtin.firstCells i.size n X).run P w = .ok xs.toArray w) (hf' : (Builtin.firstCells i.size n X).run P w.drew = .ok xs.toArray w.drew)
    {b len used fz : Nat} {cells : Tr AV} (hg : s.H.get b = some (.row e i.size cells used false fz)) (hfz : fz ≤ 1) (hu2 : len * i.size = used) {r κ : Nat} (hs : σ b = some (r, κ)) (hlen : len ≤ κ) (hn0 : p.n0 ≤ b) (hfit : (2 * (len + n) + 1000) * i.bytes ≤ 281474976710656) :
    ∃ x σ' w', (Builtin.append_ #[t, u] ty #[.slice (some ⟨r, 0, none⟩) len κ, X]).run P w = .ok x w' ∧ VR σ' (.slr s.nxt 0 (len + n) 0) x ∧
      Good p σ s w σ' { H := (s.H.set b none).set s.nxt (some (.row e i.size (stC new used cells) (used + new.len) false 1)), nxt := s.nxt + 1, W := s.W ||| 1 <<< b } w' := by
  obtain ⟨c, lo, hi', g1, g2, g3, g4, g5, g6, g7, g8⟩ := h.h.row hg hs
  have g5 := g5 rfl
  have g6 := g6 hfz
  have hnl := hn.len
  have hfr : σ s.nxt = none := h.h.fresh _ (Nat.le_refl _) hL
  by_cases hroom : len + n ≤ κ
  · -- there is room
    have hfits : used + xs.length ≤ c.size := by
      rw [hxl, ← hu2, ← Nat.add_mul, g5]; exact Nat.mul_le_mul_right _ hroom
    have hst := run_storeCells_cells (P := P) r used xs 0 w (fun j hj => by rw [cell_of_heap g1]; simp; omega) (fun j hj => by
      rw [frozen_of_heap g1]
      have := g6 (used + 0 + j) (by omega)
      simp only [Bool.and_eq_false_iff, decide_eq_false_iff_not]; omega) (hn.one h1)
    have hst' : (storeCells ((⟨r, 0, none⟩ : Addr).add (len * i.size)) xs).run P w = .ok () (w.setCells r used xs) := by
      rw [add_none, Nat.zero_add, hu2]; simpa using hst
    have hrun := run_app_in (ty := ty) ht hu hd hi hl hf hroom hst'
    have hold : ∀ x, x ≠ s.nxt → (σ.put s.nxt (r, κ)) x = σ x := fun x hx => by unfold Env.put; rw [if_neg hx]
    have hnew : (σ.put s.nxt (r, κ)) s.nxt = some (r, κ) := by unfold Env.put; rw [if_pos rfl]
    have hext : σ.Ext (σ.put s.nxt (r, κ)) := by
      intro x q hq
      by_cases hx : x = s.nxt
      · subst hx; rw [hfr] at hq; cases hq
      · rw [hold x hx]; exact hq
    have back : ∀ x k, ((s.H.set b none).set s.nxt (some (.row e i.size (stC new used cells) (used + new.len) false 1))).get x = some k → (x = s.nxt ∧ k = .row e i.size (stC new used cells) (used + new.len) false 1) ∨ (x ≠ s.nxt ∧ x ≠ b ∧ s.H.get x = some k) := by
      intro x k hx
      rw [Tr.get_set] at hx
      by_cases hxn : x = s.nxt
      · rw [if_pos hxn] at hx; exact .inl ⟨hxn, (Option.some.inj hx).symm⟩
      · rw [if_neg hxn, Tr.get_set] at hx
        by_cases hxb : x = b
        · rw [if_pos hxb] at hx; cases hx
        · rw [if_neg hxb] at hx; exact .inr ⟨hxn, hxb, hx⟩
    refine ⟨_, σ.put s.nxt (r, κ), _, hrun, ?_, hext, ?_, ?_, (fun x hx => by simp [Nat.testBit_or, hx]), ?_, ?_, Nat.le_succ _⟩
    · simp only [VR]; exact ⟨r, κ, _, hnew, by omega, .inl rfl, rfl⟩
    · refine ⟨?_, ?_, ?_, ?_, ?_, ?_, ?_, by rw [size_setCells]; exact h.h.base, Nat.le_succ_of_le h.n0, Nat.le_succ_of_le h.g0, fun x k hx => by
        rcases back x k hx with ⟨rfl, _⟩ | ⟨_, _, hx⟩
        · exact Nat.lt_succ_self _
        · exact Nat.lt_succ_of_lt (h.h.dom _ _ hx)⟩
      · intro x k hx
        rcases back x k hx with ⟨rfl, rfl⟩ | ⟨hxn, hxb, hx⟩
        · refine ⟨r, κ, _, hnew, heap_setCells r e _ xs used c w g1, _, lo, hi', rfl, cellsOk_stC' (hn.ext hext) (g2.ext hext) hfits, by rw [size_ovl, hnl]; exact hfits, (fun e => nomatch e), (fun _ => by rw [size_ovl]; exact g5),
            (fun _ => by rw [size_ovl]; exact g6), (fun e => nomatch e), fun j a' hj => ?_⟩
          rcases stC_dom _ _ _ _ _ hj with hj | hj
          · omega
          · have := g8 j a' hj; omega
        · obtain ⟨r', κ', o, e1, e2, e3⟩ := h.h.blk x k hx
          have hne : r' ≠ r := fun er => hxb (h.h.inj x b k _ r κ' κ hx hg (er ▸ e1) hs)
          exact ⟨r', κ', o, by rw [hold x hxn]; exact e1, by rw [heap_setCells_ne r xs used w r' hne]; exact e2, e3.ext hext⟩
      · intro x x' k k' r1 κ1 κ2 hx hx' e1 e2
        rcases back x k hx with ⟨rfl, _⟩ | ⟨hxn, hxb, hx⟩
        · rcases back x' k' hx' with ⟨rfl, _⟩ | ⟨hxn', hxb', hx'⟩
          · rfl
          · rw [hnew] at e1
            rw [hold x' hxn'] at e2
            obtain ⟨rfl, rfl⟩ := Prod.mk.inj (Option.some.inj e1)
            exact absurd (h.h.inj x' b k' _ r κ2 κ hx' hg e2 hs) hxb'
        · rcases back x' k' hx' with ⟨rfl, _⟩ | ⟨hxn', hxb', hx'⟩
          · rw [hnew] at e2
            rw [hold x hxn] at e1
            obtain ⟨rfl, rfl⟩ := Prod.mk.inj (Option.some.inj e2)
            exact absurd (h.h.inj x b k _ r κ1 κ hx hg e1 hs) hxb
          · rw [hold x hxn] at e1
            rw [hold x' hxn'] at e2
            exact h.h.inj x x' k k' r1 κ1 κ2 hx hx' e1 e2
      · intro x hx hxl
        have hx : s.nxt + 1 ≤ x := hx
        rw [hold x (by omega)]; exact h.h.fresh x (by omega) hxl
      · intro x r' κ' hx e1
        by_cases hxn : x = s.nxt
        · subst hxn
          rw [hnew] at e1
          obtain ⟨rfl, rfl⟩ := Prod.mk.inj (Option.some.inj e1)
          exact h.h.low b r κ hn0 hs
        · rw [hold x hxn] at e1; exact h.h.low x r' κ' hx e1
      · intro x r' κ' e1
        rw [size_setCells]
        by_cases hxn : x = s.nxt
        · subst hxn
          rw [hnew] at e1
          obtain ⟨rfl, rfl⟩ := Prod.mk.inj (Option.some.inj e1)
          exact h.h.lt b r κ hs
        · rw [hold x hxn] at e1; exact h.h.lt x r' κ' e1
      · intro x hx
        obtain ⟨κ', e1⟩ := h.h.glob x hx
        have := h.g0
        exact ⟨κ', by rw [hold x (by omega)]; exact e1⟩
      · intro x hx
        rcases testBit_or_of _ _ _ hx with hx | rfl
        · exact h.h.wlow x hx
        · exact hn0
    · obtain ⟨q1, q2, q3⟩ := rest_setCells r xs used w
      refine ⟨q1, q2, q3, by rw [size_setCells]; exact Nat.le_refl _, fun k hk hkn => heap_setCells_ne r xs used w k ?_⟩
      intro e1
      subst e1
      exact hkn b _ κ hg (testBit_or_self _ _) hs
    · intro x k q hx hq
      rcases back x k hx with ⟨rfl, _⟩ | ⟨_, _, hx⟩
      · rw [hfr] at hq; cases hq
      · exact ⟨_, hx⟩
    · intro x r' κ' h1 h2
      by_cases hxn : x = s.nxt
      · subst hxn
        rw [hnew] at h2
        obtain ⟨rfl, rfl⟩ := Prod.mk.inj (Option.some.inj h2)
        exact ⟨⟨Nat.le_refl _, Nat.lt_succ_self _⟩, .inr ⟨b, _, κ, hg, hs, testBit_or_self _ _⟩⟩
      · rw [hold x hxn, h1] at h2; cases h2
  · -- there is none
    have hold' : (Builtin.firstCells i.size len (.slice (some ⟨r, 0, none⟩) len κ)).run P w.drew = .ok (c.toList.take used).toArray w.drew := by
      have hl2 : (c.toList.take used).length = len * i.size := by rw [List.length_take, Array.length_toList]; omega
      refine run_firstCells_some w.drew i.size len ⟨r, 0, none⟩ len κ (c.toList.take used) hl2 (fun j v hj => ?_)
      rw [add_none, Nat.zero_add]
      have : w.drew.cell? ⟨r, j, none⟩ = c[j]? := cell_of_heap (w := w.drew) g1 j
      rw [this]
      rw [List.getElem?_take] at hj
      split at hj
      · simpa using hj
      · cases hj
    have hno : κ < len + n := by omega
    have hfit' : Builtin.nextslicecap (len + n) κ * i.bytes ≤ 281474976710656 := Nat.le_trans (Nat.mul_le_mul_right _ (nextcap_le _ _ hno)) hfit
    have hrun := run_app_grow (ty := ty) ht hu hd hi hz hb hl hf' hno hold' hfit'
    have hge := grown_ge w (len + n) κ e
    -- the state without the old block
    have hW : ∀ x, (s.W ||| 1 <<< b).testBit x = true → p.n0 ≤ x := by
      intro x hx
      rcases testBit_or_of _ _ _ hx with hx | rfl
      · exact h.h.wlow x hx
      · exact hn0
    have hR0 : HR p σ { H := s.H.set b none, nxt := s.nxt, W := s.W ||| 1 <<< b } w := by
      have back : ∀ x k, (s.H.set b none).get x = some k → s.H.get x = some k := by
        intro x k hx
        rw [Tr.get_set] at hx
        by_cases hxb : x = b
        · rw [if_pos hxb] at hx; cases hx
        · rwa [if_neg hxb] at hx
      exact ⟨fun x k hx => h.h.blk x k (back x k hx), fun x x' k k' r1 κ1 κ2 hx hx' => h.h.inj x x' k k' r1 κ1 κ2 (back x k hx) (back x' k' hx'), h.h.fresh, h.h.low, h.h.lt, h.h.glob, hW, h.h.base, h.n0, h.g0, fun x k hx => h.h.dom _ _ (back x k hx)⟩
    have hG0 : Good p σ s w σ { H := s.H.set b none, nxt := s.nxt, W := s.W ||| 1 <<< b } w.drew :=
      ⟨.refl _, hR0.drew, ⟨rfl, rfl, rfl, Nat.le_refl _, fun _ _ _ => rfl⟩, (fun x hx => by simp [Nat.testBit_or, hx]), (fun x k q hx _ => by
        rw [Tr.get_set] at hx
        by_cases hxb : x = b
        · rw [if_pos hxb] at hx; cases hx
        · rw [if_neg hxb] at hx; exact ⟨_, hx⟩), (fun b r κ h1 h2 => nw_same h1 h2), Nat.le_refl _⟩
    have hrel : Rel P p σ T { H := s.H.set b none, nxt := s.nxt, W := s.W ||| 1 <<< b } a w.drew := ⟨h.t, hR0.drew, h.ng, h.n0, h.g0⟩
    have hcl : (c.toList.take used).length = used := by rw [List.length_take, Array.length_toList]; omega
    have hsz2 : ((c.toList.take used).toArray ++ xs.toArray ++ Builtin.zeroCells z.cells (grownCap w (len + n) κ e - (len + n))).size = grownCap w (len + n) κ e * i.size := by
      simp only [Array.size_append, List.size_toArray, Builtin.zeroCells, Array.size_map, Array.size_range, hzs, hcl, hxl]
      rw [← hu2, ← Nat.add_mul, ← Nat.add_mul]
      congr 1
      omega
    have hG1 := hR0.drew.new (w := w.drew) h.n0 h.g0 hL (grownCap w (len + n) κ e) (.row e i.size (stC new used cells) (used + new.len) false 1)
      (.cells ((c.toList.take used).toArray ++ xs.toArray ++ Builtin.zeroCells z.cells (grownCap w (len + n) κ e - (len + n))) e) (by
        have hext : σ.Ext (Env.put σ s.nxt (w.drew.heap.size, grownCap w (len + n) κ e)) := by
          intro x q hq
          unfold Env.put
          by_cases hx : x = s.nxt
          · subst hx; rw [hfr] at hq; cases hq
          · rw [if_neg hx]; exact hq
        refine ⟨_, 0, 0, rfl, ?_, by rw [hsz2, hnl, hxl, ← hu2, ← Nat.add_mul]; exact Nat.mul_le_mul_right _ hge, (fun e => nomatch e), (fun _ => hsz2), (fun _ j _ => by omega), (fun e => nomatch e), fun j a' hj => ?_⟩
        · have h3 : cellsOk (Env.put σ s.nxt (w.drew.heap.size, grownCap w (len + n) κ e)) cells (c.toList.take used ++ xs).toArray := by
            intro j a' hj
            obtain ⟨x, q1, q2⟩ := (g2.ext hext) j a' hj
            have := g8 j a' hj
            refine ⟨x, ?_, q2⟩
            rw [List.getElem?_toArray, List.getElem?_append_left (by omega), List.getElem?_take, if_pos this]
            simpa using q1
          have h4 := cellsOk_stC' (off := used) (hn.ext hext) h3 (by rw [List.size_toArray, List.length_append, hcl]; exact Nat.le_refl _)
          have h5 : ovl (c.toList.take used ++ xs).toArray used xs = (c.toList.take used ++ xs).toArray := by
            have key : ∀ (xs zs : List Value), ovl (zs ++ xs).toArray zs.length xs = (zs ++ xs).toArray := by
              intro xs
              induction xs with
              | nil => intro zs; rfl
              | cons x xs ih =>
                intro zs
                have : (zs ++ x :: xs).toArray.setIfInBounds zs.length x = ((zs ++ [x]) ++ xs).toArray := by simp
                rw [ovl, this]
                have := ih (zs ++ [x])
                simp only [List.length_append, List.length_cons, List.length_nil] at this
                rw [this]
                simp
            have := key xs (c.toList.take used)
            rwa [hcl] at this
          rw [h5] at h4
          intro j a' hj
          obtain ⟨x, q1, q2⟩ := h4 j a' hj
          refine ⟨x, ?_, q2⟩
          have hjl : j < (c.toList.take used ++ xs).toArray.size := by
            rcases Nat.lt_or_ge j (c.toList.take used ++ xs).toArray.size with h' | h'
            · exact h'
            · rw [Array.getElem?_eq_none h'] at q1; cases q1
          rw [show (c.toList.take used).toArray ++ xs.toArray = (c.toList.take used ++ xs).toArray from by simp, Array.getElem?_append_left hjl]
          exact q1
        · rcases stC_dom _ _ _ _ _ hj with hj | hj
          · omega
          · have := g8 j a' hj; omega)
    refine ⟨_, _, _, hrun, ?_, hG0.trans hG1⟩
    simp only [VR]
    exact ⟨w.heap.size, grownCap w (len + n) κ e, _, by unfold Env.put; rw [if_pos rfl]; rfl, by omega, .inl rfl, rfl⟩
end
end Go.Ev
