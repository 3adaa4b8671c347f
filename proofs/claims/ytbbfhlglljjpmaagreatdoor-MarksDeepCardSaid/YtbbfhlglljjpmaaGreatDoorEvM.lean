import Derived.Test.YtbbfhlglljjpmaaGreatDoorEvL
import Derived.Lib.AppendZerosOnto
namespace Go.Ev
open Go
set_option linter.unusedVariables false
variable [Theta]
set_option linter.unusedSectionVars false
set_option linter.unusedSimpArgs false
section
variable {P : Program} {p : Px} {σ : Env} {s : St} {w : World} {T : Tr AV} {a : Act}

theorem evApp_sound (h : Rel P p σ T s a w) {t u e ty : TypeId} {d : TypeDesc} {i : TypeInfo} {z : Value} (ht : P.underlying t = some (.slice e)) (hu : P.underlying u = some d) (hd : (∃ e', d = .slice e') ∨ d = .string) (hi : P.info? e = some i) (hz : i.zero = some z) (hzs : z.cells.size = i.size) (hsz : 0 < i.size) (hb : 0 < i.bytes)
    {x y v : AV} {X Y : Value} (hx : VR σ x X) (hy : VR σ y Y) {s' : St} (he : evApp p.n0 e i.size i.bytes s x y = some (v, s')) (hL : s'.nxt ≤ p.lim) :
    ∃ r σ' w', (Builtin.append_ #[t, u] ty #[X, Y]).run P w = .ok r w' ∧ VR σ' v r ∧ Good p σ s w σ' s' w' := by
  unfold evApp at he
  split at he
  · cases he
  · rename_i n new hnew
    obtain ⟨q1, xs, q2, q3, q4⟩ := srcA_sound P h.h hnew hy
    have q4' := q4 w.drew rfl
    have q4 := q4 w rfl
    split at he
    · -- nothing comes
      have hrun : ∀ {A : Option Addr} {len cap : Nat}, len ≤ cap → (Builtin.append_ #[t, u] ty #[.slice A len cap, Y]).run P w = .ok (.slice A len cap) w := fun hle => run_app_none ht hu hd hi q1 q4 (by simpa using q2) hle
      split at he
      · obtain ⟨rfl, rfl⟩ := Prod.mk.inj (Option.some.inj he)
        have hx' := hx
        simp only [VR] at hx'
        subst hx'
        exact ⟨_, σ, w, hrun (Nat.le_refl _), hx, .refl h.h⟩
      · split at he
        · rename_i hle
          obtain ⟨rfl, rfl⟩ := Prod.mk.inj (Option.some.inj he)
          have hx' := hx
          simp only [VR] at hx'
          obtain ⟨r, κ, e1, rfl⟩ := hx'
          exact ⟨_, σ, w, hrun (Nat.le_of_ble_eq_true hle), hx, .refl h.h⟩
        · cases he
      · obtain ⟨rfl, rfl⟩ := Prod.mk.inj (Option.some.inj he)
        have hx' := hx
        simp only [VR] at hx'
        obtain ⟨r, κ, o', e1, e0, e3, rfl⟩ := hx'
        exact ⟨_, σ, w, hrun (by omega), hx, .refl h.h⟩
      · cases he
    · rename_i k hq1
      clear hq1
      split at he
      · simp only [VR] at hx
        subst hx
        exact growA_sound h ht hu hd hi hz hzs hb hy hnew (old := .nil) (ys := []) (by simp only [VRs]) (by simp [Builtin.firstCells]) (by omega) (by simpa using he) hL
      · rename_i b off len cap
        have hx0 := hx
        simp only [VR] at hx
        obtain ⟨r, κ, e1, rfl⟩ := hx
        split at he
        · rename_i hroom
          split at he
          · rename_i s2 hs2
            obtain ⟨rfl, rfl⟩ := Prod.mk.inj (Option.some.inj he)
            obtain ⟨w', r1, r2⟩ := evSt_sound P h.h hs2 e1 q3
            have hrun := run_app_in (ty := ty) (A := ⟨r, off, none⟩) (n := k + 1) ht hu hd hi q1 q4 (Nat.le_of_ble_eq_true hroom) (w' := w') (by rw [add_none]; exact r1)
            exact ⟨_, σ, w', hrun, by simp only [VR]; exact ⟨r, κ, e1, rfl⟩, r2⟩
          · cases he
        · rename_i hroom
          split at he
          · rename_i old hold
            obtain ⟨g1, ys, g2, g3, g4⟩ := srcA_sound P h.h hold hx0
            have g4 := g4 w.drew rfl
            have hm := (Sem.pure.inj g1)
            subst hm
            exact growA_sound h ht hu hd hi hz hzs hb hy hnew g3 g4 (Nat.lt_of_not_le fun hh => by rw [Nat.ble_eq_true_of_le hh] at hroom; cases hroom) he hL
          · cases he
      · rename_i b off len eo
        simp only [VR] at hx
        obtain ⟨r, κ, o', e1, e0, e3, rfl⟩ := hx
        split at he
        · cases he
        rename_i hl0
        obtain rfl := (slr_off2 e3 hl0).symm
        split at he
        · rename_i e' esz' cells used ex fz hg
          split at he
          · rename_i he'
            have he' := Nat.eq_of_beq_eq_true he'
            subst he'
            split at he
            · rename_i hesz
              have hesz := Nat.eq_of_beq_eq_true hesz
              subst hesz
              split at he
              · cases he
              · split at he
                · rename_i hfz
                  have hfz := Nat.le_of_ble_eq_true hfz
                  split at he
                  · rename_i hoff
                    have hoff := Nat.eq_of_beq_eq_true hoff
                    split at he
                    · rename_i hin
                      have hin := Nat.le_of_ble_eq_true hin
                      split at he
                      · rename_i s2 hs2
                        obtain ⟨rfl, rfl⟩ := Prod.mk.inj (Option.some.inj he)
                        obtain ⟨w', r1, r2⟩ := evSt_sound P h.h hs2 e1 q3
                        obtain ⟨c, lo, hi', g1, g2, g3, g4, g5, g6⟩ := h.h.row hg e1
                        have hroom : eo + (len + (k + 1)) ≤ κ := by
                          have h1 : (eo + (len + (k + 1))) * i.size ≤ κ * i.size := by
                            rw [← g5 rfl, Nat.add_mul, ← hoff]; omega
                          exact Nat.le_of_mul_le_mul_right h1 hsz
                        have hrun := run_app_in (ty := ty) (A := ⟨r, off, none⟩) (n := k + 1) (len := len) (cap := κ - eo) ht hu hd hi q1 q4 (by omega) (w' := w') (by rw [add_none]; exact r1)
                        exact ⟨_, σ, w', hrun, by simp only [VR]; exact ⟨r, κ, _, e1, hroom, .inl rfl, rfl⟩, r2⟩
                      · cases he
                    · split at he
                      · rename_i h00
                        have h00 := Nat.eq_of_beq_eq_true h00
                        have heo : eo = 0 := by
                          rw [h00] at hoff
                          rcases Nat.mul_eq_zero.1 hoff.symm with h' | h'
                          · exact h'
                          · omega
                        subst heo; subst h00
                        split at he
                        · rename_i hend
                          have hend := Nat.eq_of_beq_eq_true hend
                          split at he
                          · rename_i hnl
                            split at he
                            · rename_i hone
                              split at he
                              · rename_i hfit
                                split at he
                                · rename_i hn0
                                  obtain ⟨rfl, rfl⟩ := Prod.mk.inj (Option.some.inj he)
                                  exact amb_sound (n := k + 1) h hL ht hu hd hi hz hzs hsz hb q1 q2 q3 hone q4 q4' hg hfz hend e1 (by omega) (Nat.le_of_ble_eq_true hn0) (Nat.le_of_ble_eq_true hfit)
                                · cases he
                              · cases he
                            · cases he
                          · cases he
                        · cases he
                      · cases he
                  · cases he
                · cases he
            · cases he
          · cases he
        · cases he
      · cases he

theorem catA_sound : ∀ {z : AVs} {zs : List Value}, VRs σ z zs → ∀ {l : AVs} {xs : List Value}, VRs σ l xs → VRs σ (catA z l) (zs ++ xs)
  | .nil, zs, hz, l, xs, hl => by simp only [VRs] at hz; subst hz; exact hl
  | .cons a t, zs, hz, l, xs, hl => by
    simp only [VRs] at hz
    obtain ⟨x, r, rfl, h1, h2⟩ := hz
    simp only [catA, List.cons_append, VRs]
    exact ⟨x, _, rfl, h1, catA_sound h2 hl⟩
theorem zeroCells_succ (c : Array Value) (n : Nat) : (Builtin.zeroCells c (n + 1)).toList = c.toList ++ (Builtin.zeroCells c n).toList := by
  apply List.ext_getElem?
  intro j
  unfold Builtin.zeroCells
  rw [List.getElem?_append]
  simp only [Array.toList_map, Array.toList_range, List.getElem?_map, List.getElem?_range', Array.length_toList]
  split
  · rename_i hj
    rw [List.getElem?_range (by rw [Nat.succ_mul]; omega)]
    simp only [Option.map_some, Array.getElem?_toList, Nat.mod_eq_of_lt hj]
    rw [getElem!_pos c j hj, Array.getElem?_eq_getElem hj]
  · rename_i hj
    by_cases hn : j < (n + 1) * c.size
    · rw [List.getElem?_range hn, List.getElem?_range (by rw [Nat.succ_mul] at hn; omega)]
      simp only [Option.map_some]
      rw [← Nat.mod_eq_sub_mod (by omega)]
    · rw [List.getElem?_eq_none (by simpa using hn), List.getElem?_eq_none (by rw [Nat.succ_mul] at hn; simp; omega)]
theorem repA_sound {z : AVs} {zv : Value} (hz : VRs σ z zv.cells.toList) : ∀ m, VRs σ (repA z m) (Builtin.zeroCells zv.cells m).toList
  | 0 => by simp [repA, Builtin.zeroCells, VRs]
  | m + 1 => by
    rw [zeroCells_succ]
    exact catA_sound hz (repA_sound hz m)

theorem evAppz_sound (h : Rel P p σ T s a w) {t tn e ty : TypeId} {kn kq : IntKind} {i : TypeInfo} {zv : Value} (ht : P.underlying t = some (.slice e)) (hu : P.underlying tn = some (.int kn)) (hi : P.info? e = some i) (hz : i.zero = some zv) (hzs : zv.cells.size = i.size) (hsz : 0 < i.size)
    {z : AVs} (hzr : ∀ σ, VRs σ z zv.cells.toList) {x v : AV} {X : Value} (hx : VR σ x X) {m : Nat} {s' : St} (he : evAppz e i.size i.bytes z s x m = some (v, s')) (hL : s'.nxt ≤ p.lim) :
    ∃ r σ' w', (Builtin.append_ #[t, tn] ty #[X, .int kq (.ofNat m)]).run P w = .ok r w' ∧ VR σ' v r ∧ Good p σ s w σ' s' w' := by
  unfold evAppz at he
  split at he
  · cases he
  · split at he
    · cases he
    · rename_i hm0
      have hm0 : 0 < m := by simpa [Nat.blt_eq] using hm0
      split at he
      · cases he
      · rename_i h48
        have h48 := Nat.le_of_ble_eq_true h48
        have grow : ∀ {A : Option Addr} {len cap : Nat} {old : AVs} {ys : List Value}, VRs σ old ys → (Builtin.firstCells i.size len (.slice A len cap)).run P w.drew = .ok ys.toArray w.drew → ys.length = len * i.size → cap < len + m → len + m ≤ 9223372036854775807 → growA e i.size i.bytes old (repA z m) (len + m) cap s = some (v, s') →
            ∃ r σ' w', (Builtin.append_ #[t, tn] ty #[.slice A len cap, .int kq (.ofNat m)]).run P w = .ok r w' ∧ VR σ' v r ∧ Good p σ s w σ' s' w' := by
          intro A len cap old ys ho hys hyl hno h63 he
          unfold growA at he
          split at he
          · rename_i h1
            split at he
            · obtain ⟨rfl, rfl⟩ := Prod.mk.inj (Option.some.inj he)
              have hrun := Lib.run_append_grow_zeros (P := P) w t tn ty e i zv kq kn ht hu hi hz A len cap ys hys m hm0 hsz hno (by omega) h48 (Nat.le_of_ble_eq_true h1)
              have hxl : (Builtin.zeroCells zv.cells m).toList.length = m * i.size := by rw [Array.length_toList, size_zeroCells, hzs]
              obtain ⟨σ', g1, g2⟩ := grow_good h hL (e := e) (need := len + m) (cap := cap) (zl := []) hzs ho (repA_sound (hzr σ) m) (by rw [hyl, hxl, Nat.add_mul])
              refine ⟨_, σ', _, hrun, ?_, by simpa using g2⟩
              simp only [VR]
              exact ⟨w.heap.size, _, _, g1, by simpa using grown_ge w (len + m) cap e, .inl rfl, rfl⟩
            · cases he
          · cases he
        split at he
        · split at he
          · rename_i h63
            simp only [VR] at hx
            subst hx
            exact grow (A := none) (len := 0) (cap := 0) (old := .nil) (ys := []) (by simp only [VRs]) (by simp [Builtin.firstCells]) (by rw [Nat.zero_mul]; rfl) (by omega) (by have := Nat.le_of_ble_eq_true h63; omega) (by rw [Nat.zero_add]; exact he)
          · cases he
        · rename_i b off len cap
          have hx0 := hx
          simp only [VR] at hx
          obtain ⟨r, κ, e1, rfl⟩ := hx
          split at he
          · cases he
          · rename_i h63
            split at he
            · cases he
            · rename_i hroom
              split at he
              · rename_i old hold
                obtain ⟨g1, ys, g2, g3, g4⟩ := srcA_sound P h.h hold hx0
                have g4 := g4 w.drew rfl
                have hm := (Sem.pure.inj g1)
                subst hm
                exact grow g3 g4 g2 (Nat.lt_of_not_le fun hh => by rw [Nat.ble_eq_true_of_le hh] at hroom; cases hroom) (Nat.le_of_ble_eq_true h63) he
              · cases he
        · cases he

theorem snd_app (h : Rel P p σ T s a w) {o : Oper} {c : Call} (ho : o.op = .call c) (hb : c.callee = .builtin .append) {ai : AI} (hc : compOp P o = some ai) {v : AV} {s' : St} (he : evAI p.n0 ai T s = some (v, s')) (hL : s'.nxt ≤ p.lim) : Sound P p σ s w o a v s' := by
  unfold compOp at hc; rw [ho] at hc
  simp only [hb] at hc
  split at hc
  · rename_i t u x y h1 h2
    obtain ⟨x', y', hy1, hy2, hy3⟩ := oL_two h2
    have hat : c.argTypes = #[t, u] := Array.ext' h1
    have fin : ∀ {e : TypeId} {d : TypeDesc} (h3 : P.underlying t = some (.slice e)) (h4 : P.underlying u = some d) (hd : (∃ e', d = .slice e') ∨ d = .string) {i : TypeInfo} {z : AVs} (h5 : P.info? e = some i) (h6 : zOf P e = some z)
        (h7 : 0 < i.size ∧ 0 < i.bytes) (he : evAI p.n0 (.app e i.size i.bytes x y) T s = some (v, s')), Sound P p σ s w o a v s' := by
      intro e d h3 h4 hd i z h5 h6 h7 he
      obtain ⟨i', zv, q1, q2, q3, q4, q5⟩ := zOf_sound h6
      rw [h5] at q1
      obtain rfl := Option.some.inj q1
      simp only [evAI] at he
      split at he
      · cases he
      · rename_i X hX
        split at he
        · cases he
        · rename_i Y hY
          obtain ⟨r, σ', w', r1, r2, r3⟩ := evApp_sound (ty := o.type) h h3 h4 hd h5 q2 q5 h7.1 h7.2 (oo_sound h hy2 hX) (oo_sound h hy3 hY) he hL
          exact ⟨r, σ', w', .inl (run_builtin ho hb rfl (by rw [hat, hy1]; simpa using r1)), r2, r3⟩
    split at hc
    · rename_i e e' h3 h4
      split at hc
      · rename_i i z h5 h6
        split at hc
        · rename_i h7
          obtain rfl := (Option.some.inj hc).symm
          exact fin h3 h4 (.inl ⟨_, rfl⟩) h5 h6 h7 he
        · cases hc
      · cases hc
    · rename_i e h3 h4
      split at hc
      · rename_i i z h5 h6
        split at hc
        · rename_i h7
          obtain rfl := (Option.some.inj hc).symm
          exact fin h3 h4 (.inr rfl) h5 h6 h7 he
        · cases hc
      · cases hc
    · rename_i e kn h3 h4
      split at hc
      · rename_i i z h5 h6
        split at hc
        · rename_i h7
          obtain rfl := (Option.some.inj hc).symm
          obtain ⟨i', zv, q1, q2, q3, q4, q5⟩ := zOf_sound h6
          rw [h5] at q1
          obtain rfl := Option.some.inj q1
          simp only [evAI] at he
          split at he
          · cases he
          · rename_i X hX
            split at he
            · rename_i k m hY
              have hy := oo_sound h hy3 hY
              simp only [VR] at hy
              obtain ⟨r, σ', w', r1, r2, r3⟩ := evAppz_sound (ty := o.type) (kq := k) h h3 h4 h5 q2 q5 h7.1 q4 (oo_sound h hy2 hX) he hL
              exact ⟨r, σ', w', .inl (run_builtin ho hb rfl (by rw [hat, hy1]; simpa [hy] using r1)), r2, r3⟩
            · cases he
        · cases hc
      · cases hc
    · cases hc
  · cases hc

theorem lenA_sound {v : AV} {n : Nat} (h : lenA v = some n) {x : Value} (hx : VR σ v x) : (∃ bs, x = .string bs ∧ bs.size = n) ∨ (∃ A c, x = .slice A n c) := by
  unfold lenA at h
  split at h <;> first
    | contradiction
    | skip
  all_goals
    obtain rfl := Option.some.inj h
    simp only [VR] at hx
  · obtain ⟨bs, e1, e2, _⟩ := hx; exact .inl ⟨bs, e1, e2⟩
  · obtain ⟨_, _, _, e⟩ := hx; exact .inr ⟨_, _, e⟩
  · obtain ⟨_, _, _, _, _, _, e⟩ := hx; exact .inr ⟨_, _, e⟩
  · exact .inr ⟨_, _, hx⟩

theorem cpyCells_sound (P : Program) (h : HR p σ s w) {esz xl n : Nat} {x : AV} {l : AVs} (hx : lenA x = some xl) (hn : n ≤ xl) (he : evCpy.cells esz s x n = some l) {X : Value} (hv : VR σ x X) :
    Builtin.lenOf X = pure xl ∧ ∃ xs : List Value, xs.length = n * esz ∧ VRs σ l xs ∧ (Builtin.firstCells esz n X).run P w = .ok xs.toArray w := by
  unfold evCpy.cells at he
  split at he
  · rename_i b off len cap
    obtain rfl := Option.some.inj hx
    simp only [VR] at hv
    obtain ⟨r, κ, e1, rfl⟩ := hv
    obtain ⟨xs, q1, q2, q3⟩ := ldC2 P h he e1
    exact ⟨rfl, xs, q1, q2, q3 w rfl⟩
  · rename_i b off len eo
    obtain rfl := Option.some.inj hx
    simp only [VR] at hv
    obtain ⟨r, κ, off, e1, e0, e3, rfl⟩ := hv
    replace he := ldC'_off (fun h0 => slr_off e3 (Nat.lt_of_lt_of_le (Nat.pos_of_mul_pos_right h0) hn)) he
    obtain ⟨xs, q1, q2, q3⟩ := ldC2 P h he e1
    exact ⟨rfl, xs, q1, q2, q3 w rfl⟩
  · rename_i len m
    split at he
    · rename_i hz
      have hz := Nat.eq_of_beq_eq_true hz
      subst hz
      obtain rfl := Option.some.inj hx
      obtain rfl := (Option.some.inj he).symm
      simp only [VR] at hv
      obtain ⟨bs, rfl, e1, e2⟩ := hv
      have hl : bs.data.toList.length = len := by simpa using e1
      have ht : bval (bs.data.toList.take n) = m / 256 ^ (len - n) := by rw [bval_take _ _ (by omega), e2, hl]
      have hs := sbytes_sound (σ := σ) n (bs.data.toList.take n) .nil [] (by rw [List.length_take]; omega) (by simp only [VRs])
      rw [ht, List.append_nil] at hs
      refine ⟨by simp only [Builtin.lenOf]; rw [e1], _, ?_, hs, ?_⟩
      · rw [List.length_map, List.length_take]; omega
      · simp only [Builtin.firstCells, Sem.run_pure]
        congr 1
        apply Array.ext'
        simp [List.extract_eq_take_drop]
    · cases he
  · cases he

theorem snd_cpy (h : Rel P p σ T s a w) {o : Oper} {c : Call} (ho : o.op = .call c) (hb : c.callee = .builtin .copy) {ai : AI} (hc : compOp P o = some ai) {v : AV} {s' : St} (he : evAI p.n0 ai T s = some (v, s')) : Sound P p σ s w o a v s' := by
  unfold compOp at hc; rw [ho] at hc
  simp only [hb] at hc
  split at hc
  · rename_i t ts x y h1 h2
    have hts := types_cons h1
    obtain ⟨x', y', hy1, hy2, hy3⟩ := oL_two h2
    split at hc
    · rename_i e h3
      obtain ⟨n, hn, rfl⟩ := Option.map_eq_some_iff.1 hc
      obtain ⟨i, hi, hi2⟩ := szOf_eq hn
      simp only [evAI] at he
      split at he
      · cases he
      · rename_i D hD
        split at he
        · cases he
        · rename_i X hX
          have hd := oo_sound h hy2 hD
          have hx := oo_sound h hy3 hX
          unfold evCpy at he
          split at he
          · cases he
          · rename_i dl hdl
            split at he
            · cases he
            · rename_i xl hxl
              split at he
              · rename_i hmin
                -- nothing to copy
                have hlx : Builtin.lenOf (a.eval y') = pure xl := by
                  rcases lenA_sound hxl hx with ⟨bs, q1, q2⟩ | ⟨A, c', q1⟩
                  · rw [q1]; simp only [Builtin.lenOf]; rw [q2]
                  · rw [q1]; rfl
                have hf : (Builtin.firstCells n 0 (a.eval y')).run P w = .ok #[] w := by
                  rcases lenA_sound hxl hx with ⟨bs, q1, q2⟩ | ⟨A, c', q1⟩
                  · rw [q1]; simp [Builtin.firstCells]
                  · rw [q1]
                    cases A with
                    | none => simp [Builtin.firstCells]
                    | some ad => simpa [Builtin.firstCells] using run_loadCells_list (P := P) w ad [] (by simp)
                have fin : (∃ A c', a.eval x' = .slice A dl c') → (v, s') = (.i .i64 (.ofNat 0), s) → Sound P p σ s w o a v s' := by
                  rintro ⟨A, c', hA⟩ e
                  obtain ⟨rfl, rfl⟩ := Prod.mk.inj e
                  refine .same h (run_builtin ho hb rfl (r := .int .i64 (0 : Nat)) ?_) (by simp only [VR]; rfl)
                  have hmin' : xl.min dl = 0 := hmin
                  cases A with
                  | none => simp [Builtin.copy_, hts, hy1, run_underlying h3, hA, hlx, sizeOf, typeInfo, hi, hi2, hmin', hf, goInt]
                  | some ad => simp [Builtin.copy_, hts, hy1, run_underlying h3, hA, hlx, sizeOf, typeInfo, hi, hi2, hmin', hf, goInt, storeCells]
                split at he
                · cases he
                · rename_i hns
                  refine fin ?_ (Option.some.inj he).symm
                  rcases lenA_sound hdl hd with ⟨bs, q1, q2⟩ | ⟨A, c', q1⟩
                  · exfalso
                    cases D <;> simp only [lenA] at hdl <;> first
                      | cases hdl
                      | skip
                    · exact hns _ _ rfl
                    · rw [q1] at hd; simp only [VR] at hd; obtain ⟨_, _, _, g⟩ := hd; cases g
                    · rw [q1] at hd; simp only [VR] at hd; obtain ⟨_, _, _, _, _, _, g⟩ := hd; cases g
                    · rw [q1] at hd; simp only [VR] at hd; cases hd
                  · exact ⟨A, c', q1⟩
              · rename_i k hmin
                have hmin : xl.min dl = k + 1 := hmin
                split at he
                · cases he
                · rename_i l hl
                  have hkx : k + 1 ≤ xl := by rw [← hmin]; exact Nat.min_le_left _ _
                  obtain ⟨q1, xs, q2, q3, q4⟩ := cpyCells_sound P h.h hxl hkx hl hx
                  have fin : ∀ {b off r κ cap : Nat} {s2 : St}, evSt p.n0 b off l s = some s2 → σ b = some (r, κ) → a.eval x' = .slice (some ⟨r, off, none⟩) dl cap → (v, s') = (.i .i64 (.ofNat (k + 1)), s2) → Sound P p σ s w o a v s' := by
                    intro b off r κ cap s2 hs2 hs hA e
                    obtain ⟨rfl, rfl⟩ := Prod.mk.inj e
                    obtain ⟨w', r1, r2⟩ := evSt_sound P h.h hs2 hs q3
                    refine ⟨.int .i64 ((k + 1 : Nat) : Int), σ, w', .inl (run_builtin ho hb rfl ?_), by simp only [VR]; rfl, r2⟩
                    simp [Builtin.copy_, hts, hy1, run_underlying h3, hA, q1, sizeOf, typeInfo, hi, hi2, hmin, q4, r1, goInt]
                  split at he
                  · rename_i b off len cap
                    split at he
                    · rename_i s2 hs2
                      have hd' := hd
                      simp only [VR] at hd'
                      obtain ⟨r, κ, e1, e2⟩ := hd'
                      obtain rfl := Option.some.inj hdl
                      exact fin hs2 e1 e2 (Option.some.inj he).symm
                    · cases he
                  · rename_i b off len eo
                    split at he
                    · rename_i s2 hs2
                      have hd' := hd
                      simp only [VR] at hd'
                      obtain ⟨r, κ, o', e1, e0, e3, e2⟩ := hd'
                      obtain rfl := Option.some.inj hdl
                      obtain rfl := (slr_off e3 (by have := Nat.min_le_right xl len; have h' : min xl len = k + 1 := hmin; omega)).symm
                      exact fin hs2 e1 e2 (Option.some.inj he).symm
                    · cases he
                  · cases he
    · cases hc
  · cases hc

/-- Every operation that calls nothing. -/
theorem ai_sound (h : Rel P p σ T s a w) {o : Oper} {ai : AI} (hc : compOp P o = some ai) {v : AV} {s' : St} (he : evAI p.n0 ai T s = some (v, s')) (hL : s'.nxt ≤ p.lim) : Sound P p σ s w o a v s' := by
  cases ho : o.op with
  | move x => exact snd_mv h (.inl ho) hc he
  | assign x => exact snd_mv h (.inr ho) hc he
  | pick c x y => exact snd_pick h ho hc he
  | alloc e => exact snd_alloc h ho hc he hL
  | box e x => exact snd_box h ho hc he hL
  | build t ps => exact snd_build h ho hc he
  | buildSlice t n ps => exact snd_bsl h ho hc he hL
  | load t x => exact snd_load h ho hc he
  | store t x y => exact snd_store h ho hc he
  | nilCheck x => exact snd_nilc h ho hc he
  | binOp op t x y t' => exact snd_bin h ho hc he
  | unOp op t x => exact snd_un h ho hc he
  | convert t t' x => exact snd_convert h ho hc he hL
  | makeInterface t x => exact snd_mki h ho hc he
  | makeFunc f fi cs => exact snd_mkf h ho hc he
  | makeSlice t l c => exact snd_mks h ho hc he hL
  | slice t x lo hi mx => exact snd_slice h ho hc he
  | fieldAddr t x f => exact snd_fieldAddr h ho hc he
  | field t x f => exact snd_field h ho hc he
  | indexAddr t x i => exact snd_indexAddr h ho hc he
  | index t x i => exact snd_index h ho hc he
  | range t x => exact snd_rng h ho hc he hL
  | next x b => exact snd_nxt h ho hc he
  | extract x i => exact snd_ext h ho hc he
  | typeAssert x t t' b => exact snd_tas h ho hc he
  | call c =>
    have hc' := hc
    unfold compOp at hc'; rw [ho] at hc'
    dsimp only at hc'
    split at hc'
    · obtain ⟨l, _, rfl⟩ := Option.map_eq_some_iff.1 hc'; cases he
    · split at hc'
      · obtain rfl := (Option.some.inj hc').symm; cases he
      · cases hc'
    · split at hc'
      · obtain rfl := (Option.some.inj hc').symm; cases he
      · cases hc'
    · rename_i hb; exact snd_len h ho hb hc he
    · rename_i hb; exact snd_usd h ho hb hc he
    · rename_i hb; exact snd_ust h ho hb hc he
    · rename_i hb; exact snd_cap h ho hb hc he
    · rename_i hb; exact snd_min h ho hb hc he
    · rename_i hb; exact snd_max h ho hb hc he
    · rename_i hb; exact snd_app h ho hb hc he hL
    · rename_i hb; exact snd_cpy h ho hb hc he
    · cases hc'
  | _ => (unfold compOp at hc; rw [ho] at hc; cases hc)
end
end Go.Ev
