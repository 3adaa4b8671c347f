import Derived.Test.YtbbfhlglljjpmaaGreatDoorEvH
namespace Go.Ev
open Go
set_option linter.unusedVariables false
variable [Theta]
set_option linter.unusedSectionVars false
set_option linter.unusedSimpArgs false
section
variable {P : Program} {p : Px} {σ : Env} {s : St} {w : World} {T : Tr AV} {a : Act}

theorem beq_no {a b : Nat} (h : ¬ a = b) : Nat.beq a b = false := by
  cases e : Nat.beq a b with
  | false => rfl
  | true => exact absurd (Nat.eq_of_beq_eq_true e) h
/-! Slicing -/
theorem evOpt_sound (h : Rel P p σ T s a w) {x : Option Operand} {o : Option O} (ho : oOpt P x = some o) {d n : Nat} (he : evOpt T o d = some n) :
    (x = none ∧ o = none ∧ n = d) ∨ (∃ y z k, x = some y ∧ o = some z ∧ a.eval y = .int k (n : Int)) := by
  cases x with
  | none => obtain rfl := (Option.some.inj ho).symm; exact .inl ⟨rfl, rfl, (Option.some.inj he).symm⟩
  | some y =>
    simp only [oOpt] at ho
    obtain ⟨z, hz, rfl⟩ := Option.map_eq_some_iff.1 ho
    simp only [evOpt] at he
    split at he
    · rename_i v hv
      obtain ⟨k, hk⟩ := evNat_sound he (oo_sound h hz hv)
      exact .inr ⟨y, z, k, rfl, rfl, hk⟩
    · cases he

theorem run_bound (k : IntKind) (n y : Nat) (c : BoundsCode) (h : n ≤ y) : (Instr.sliceBound (.int k (n : Int)) y c).run P w = .ok n w := by
  simp [Instr.sliceBound, asIntOf, h]

/-- The bounds of x[l:h] (no third index): l ≤ h ≤ cap. -/
theorem run_bounds (sl : Bool) (len cap l h : Nat) (lo hi : Option Value) (hlo : (lo = none ∧ l = 0) ∨ ∃ k, lo = some (.int k (l : Int))) (hhi : (hi = none ∧ h = len) ∨ ∃ k, hi = some (.int k (h : Int))) (h1 : l ≤ h) (h2 : h ≤ cap) :
    (Instr.sliceBounds sl len cap lo hi none).run P w = .ok (l, h, cap) w := by
  rcases hlo with ⟨rfl, rfl⟩ | ⟨k, rfl⟩ <;> rcases hhi with ⟨rfl, rfl⟩ | ⟨k', rfl⟩ <;> simp [Instr.sliceBounds, run_bound, h1, h2]
theorem run_bounds3 (len cap l h m : Nat) (lo : Option Value) (k k' : IntKind) (hlo : (lo = none ∧ l = 0) ∨ ∃ k, lo = some (.int k (l : Int))) (h1 : l ≤ h) (h2 : h ≤ m) (h3 : m ≤ cap) :
    (Instr.sliceBounds true len cap lo (some (.int k (h : Int))) (some (.int k' (m : Int)))).run P w = .ok (l, h, m) w := by
  rcases hlo with ⟨rfl, rfl⟩ | ⟨k, rfl⟩ <;> simp [Instr.sliceBounds, run_bound, h1, h2, h3]

theorem evSlS_sound {v r : AV} {l h : Nat} (he : evSlS v l h = some r) {x : Value} (hx : VR σ v x) : ∃ bs : ByteArray, x = .string bs ∧ l ≤ h ∧ h ≤ bs.size ∧ VR σ r (.string (bs.extract l h)) := by
  unfold evSlS at he
  split at he
  · split at he
    · rename_i h1
      split at he
      · rename_i h2
        have h1 := Nat.le_of_ble_eq_true h1
        have h2 := Nat.le_of_ble_eq_true h2
        obtain rfl := (Option.some.inj he).symm
        simp only [VR] at hx
        obtain ⟨bs, e1, e2, e3⟩ := hx
        refine ⟨bs, e1, h1, by omega, ?_⟩
        simp only [VR]
        refine ⟨_, rfl, by simp; omega, ?_⟩
        have hl : bs.data.toList.length = bs.size := by simp
        have e : (bs.extract l h).data.toList = (bs.data.toList.take h).drop l := by
          rw [ByteArray.data_extract, Array.toList_extract, List.extract_eq_take_drop, List.take_drop]
          congr 2
          omega
        rw [e, bval_drop _ _ (by rw [List.length_take]; omega), bval_take _ _ (by omega), List.length_take, e3, hl, e2, Nat.min_eq_left h2]
      · cases he
    · cases he
  · cases he

theorem evSlL_sound {esz : Nat} {v r : AV} {l h : Nat} {m : Option Nat} (he : evSlL esz v l h m = some r) {x : Value} (hx : VR σ v x) :
    ∃ (A : Option Addr) (len cap : Nat), x = .slice A len cap ∧ lenA v = some len ∧ l ≤ h ∧ h ≤ m.getD cap ∧ m.getD cap ≤ cap ∧
      VR σ r (.slice (if m.getD cap = l then A else A.map (·.add (l * esz))) (h - l) (m.getD cap - l)) := by
  unfold evSlL at he
  split at he
  · rename_i b off len cap
    simp only [VR] at hx
    obtain ⟨q, κ, e1, e2⟩ := hx
    split at he
    · split at he
      · rename_i h1
        split at he
        · rename_i h2
          obtain rfl := (Option.some.inj he).symm
          refine ⟨_, _, _, e2, rfl, Nat.le_of_ble_eq_true h1, Nat.le_of_ble_eq_true h2, Nat.le_refl _, ?_⟩
          simp only [VR, Option.getD_none]
          refine ⟨q, κ, e1, ?_⟩
          by_cases hc : cap = l
          · rw [if_pos hc]; subst hc; simp
          · rw [if_neg hc, add_none_map]
            have : Nat.beq cap l = false := beq_no hc
            rw [this]
        · cases he
      · cases he
    · rename_i m
      split at he
      · rename_i h1
        split at he
        · rename_i h2
          split at he
          · rename_i h3
            obtain rfl := (Option.some.inj he).symm
            refine ⟨_, _, _, e2, rfl, Nat.le_of_ble_eq_true h1, Nat.le_of_ble_eq_true h2, Nat.le_of_ble_eq_true h3, ?_⟩
            simp only [VR, Option.getD_some]
            refine ⟨q, κ, e1, ?_⟩
            by_cases hc : m = l
            · rw [if_pos hc]; subst hc; simp
            · rw [if_neg hc, add_none_map]
              have : Nat.beq m l = false := beq_no hc
              rw [this]
          · cases he
        · cases he
      · cases he
  · rename_i b off len eo
    simp only [VR] at hx
    obtain ⟨q, κ, o', e1, e0, e3, e2⟩ := hx
    split at he
    · split at he
      · rename_i h1
        split at he
        · rename_i h2
          have h1 := Nat.le_of_ble_eq_true h1
          have h2 := Nat.le_of_ble_eq_true h2
          split at he
          · obtain rfl := (Option.some.inj he).symm
            refine ⟨_, _, _, e2, rfl, h1, by simp; omega, Nat.le_refl _, ?_⟩
            simp only [VR, Option.getD_none]
            refine ⟨q, κ, o', e1, by omega, e3.imp_right (fun ⟨a, b⟩ => ⟨by omega, b⟩), ?_⟩
            simp [add_none_map]
          · rename_i k _
            split at he
            · rename_i h3
              have h3 : k + 1 < len := by simpa [Nat.blt_eq] using h3
              obtain rfl := (Option.some.inj he).symm
              obtain rfl := (slr_off e3 (by omega)).symm
              refine ⟨_, _, _, e2, rfl, h1, by simp; omega, Nat.le_refl _, ?_⟩
              simp only [VR, Option.getD_none]
              refine ⟨q, κ, _, e1, by omega, .inl rfl, ?_⟩
              rw [if_neg (by omega), add_none_map, Nat.sub_sub]
            · rename_i h3
              have h3 : ¬ k + 1 < len := fun hh => by rw [show Nat.blt (k + 1) len = true from by simpa [Nat.blt_eq] using hh] at h3; cases h3
              obtain rfl := (Option.some.inj he).symm
              refine ⟨_, _, _, e2, rfl, h1, by simp; omega, Nat.le_refl _, ?_⟩
              simp only [VR, Option.getD_none]
              by_cases hc : κ - eo = k + 1
              · refine ⟨q, κ, o', e1, by omega, by simp, ?_⟩
                rw [if_pos hc, show h - (k + 1) = 0 by omega, Nat.sub_sub]
              · refine ⟨q, κ, o' + (k + 1) * esz, e1, by omega, by simp, ?_⟩
                rw [if_neg hc, add_none_map, show h - (k + 1) = 0 by omega, Nat.sub_sub]
        · cases he
      · cases he
    · rename_i m
      split at he
      · rename_i h1
        split at he
        · rename_i h2
          split at he
          · rename_i h3
            split at he
            · rename_i h4
              have h4 : 0 < len := by simpa [Nat.blt_eq] using h4
              obtain rfl := (slr_off e3 h4).symm
              have h3 := Nat.le_of_ble_eq_true h3
              obtain rfl := (Option.some.inj he).symm
              refine ⟨_, _, _, e2, rfl, Nat.le_of_ble_eq_true h1, Nat.le_of_ble_eq_true h2, by simp; omega, ?_⟩
              simp only [VR, Option.getD_some]
              refine ⟨q, κ, e1, ?_⟩
              by_cases hc : m = l
              · rw [if_pos hc]; subst hc; simp
              · rw [if_neg hc, add_none_map]
                have : Nat.beq m l = false := beq_no hc
                rw [this]
            · cases he
          · cases he
        · cases he
      · cases he
  · simp only [VR] at hx
    subst hx
    split at he
    · split at he
      · split at he
        · obtain rfl := (Option.some.inj he).symm
          exact ⟨_, _, _, rfl, rfl, by simp, by simp, by simp, by simp [VR]⟩
        · obtain rfl := (Option.some.inj he).symm
          exact ⟨_, _, _, rfl, rfl, by simp, by simp, by simp, by simp [VR]⟩
        · cases he
      · cases he
    · cases he
  · cases he
 where
  add_none_map {q off n : Nat} : Option.map (fun x : Addr => x.add n) (some ⟨q, off, none⟩) = some ⟨q, off + n, none⟩ := by simp [add_none]

theorem oOpt_eval {x : Option Operand} {o : Option O} {n d : Nat} (hq : (x = none ∧ o = none ∧ n = d) ∨ (∃ y z k, x = some y ∧ o = some z ∧ a.eval y = .int k (n : Int))) :
    (x.map a.eval = none ∧ n = d) ∨ ∃ k, x.map a.eval = some (.int k (n : Int)) := by
  rcases hq with ⟨rfl, _, rfl⟩ | ⟨y, z, k, rfl, _, e⟩
  · exact .inl ⟨rfl, rfl⟩
  · exact .inr ⟨k, by simp [e]⟩

theorem snd_slice (h : Rel P p σ T s a w) {o : Oper} {t : TypeId} {x : Operand} {lo hi mx : Option Operand} (ho : o.op = .slice t x lo hi mx) {ai : AI} (hc : compOp P o = some ai) {v : AV} {s' : St} (he : evAI p.n0 ai T s = some (v, s')) : Sound P p σ s w o a v s' := by
  unfold compOp at hc; rw [ho] at hc
  dsimp only at hc
  split at hc
  · rename_i x' lo' hi' h1 h2 h3 h4 h5
    obtain rfl := (Option.some.inj hc).symm
    have hmx : mx = none := by
      cases mx with
      | none => rfl
      | some y => simp only [oOpt] at h5; cases hq : oo P y <;> rw [hq] at h5 <;> cases h5
    subst hmx
    simp only [evAI] at he
    split at he
    · cases he
    · rename_i X hX
      split at he
      · cases he
      · rename_i n hn
        split at he
        · cases he
        · rename_i l hl
          split at he
          · cases he
          · rename_i q hq
            obtain ⟨hr, rfl⟩ := pure1_some he
            obtain ⟨bs, e1, e2, e3, e4⟩ := evSlS_sound hr (oo_sound h h2 hX)
            have hlo := oOpt_eval (evOpt_sound h h3 hl)
            have hhi := oOpt_eval (evOpt_sound h h4 hq)
            have hn' : n = bs.size := by
              have hv := oo_sound h h2 hX
              rw [e1] at hv
              unfold lenA at hn
              split at hn <;> (try simp only [VR] at hv)
              · obtain ⟨_, g1, g2, _⟩ := hv
                obtain rfl := Value.string.inj g1
                rw [g2]; exact (Option.some.inj hn).symm
              · obtain ⟨_, _, _, g⟩ := hv; cases g
              · obtain ⟨_, _, _, _, _, _, g⟩ := hv; cases g
              · cases hv
              · cases hn
            subst hn'
            have := run_bounds (P := P) (w := w) false bs.size bs.size l q _ _ hlo hhi e2 e3
            refine .same h (x := .string (bs.extract l q)) ?_ e4
            simp [execOp, ho, e1, Instr.sliceAt, Instr.slice, underlying, program, Sem.run, h1, this]
  · rename_i e x' lo' hi' mx' h1 h2 h3 h4 h5
    obtain ⟨n, hn, rfl⟩ := Option.map_eq_some_iff.1 hc
    obtain ⟨ti, hi1, hi2⟩ := szOf_eq hn
    simp only [evAI] at he
    split at he
    · cases he
    · rename_i X hX
      split at he
      · cases he
      · rename_i len hlen
        split at he
        · cases he
        · rename_i l hl
          split at he
          · cases he
          · rename_i q hq
            have hlo := oOpt_eval (evOpt_sound h h3 hl)
            have hhi := oOpt_eval (evOpt_sound h h4 hq)
            split at he
            · obtain ⟨hr, rfl⟩ := pure1_some he
              obtain ⟨A, len', cap, e1, e0, e2, e3, e4, e5⟩ := evSlL_sound hr (oo_sound h h2 hX)
              rw [hlen] at e0
              obtain rfl := Option.some.inj e0
              have hmx : mx = none := by
                cases mx with
                | none => rfl
                | some y => simp only [oOpt] at h5; cases hq : oo P y <;> rw [hq] at h5 <;> cases h5
              subst hmx
              simp only [Option.getD_none] at e3 e4 e5
              have := run_bounds (P := P) (w := w) true len cap l q _ _ hlo hhi e2 e3
              refine .same h ?_ e5
              simp [execOp, ho, e1, Instr.sliceAt, Instr.slice, underlying, program, Sem.run, h1, this, sizeOf, typeInfo, hi1, hi2]
            · rename_i m'
              split at he
              · cases he
              · rename_i hio
                split at he
                · cases he
                · rename_i m hm
                  obtain ⟨hr, rfl⟩ := pure1_some he
                  obtain ⟨A, len', cap, e1, e0, e2, e3, e4, e5⟩ := evSlL_sound hr (oo_sound h h2 hX)
                  have hmx := evOpt_sound h h5 hm
                  rcases hmx with ⟨_, g, _⟩ | ⟨y, z, k, rfl, _, hk⟩
                  · cases g
                  · rcases evOpt_sound h h4 hq with ⟨_, g, _⟩ | ⟨y', z', k', rfl, _, hk'⟩
                    · cases g
                    · simp only [Option.getD_some] at e3 e4 e5
                      have := run_bounds3 (P := P) (w := w) len' cap l q m _ k' k hlo e2 e3 e4
                      refine .same h ?_ e5
                      simp [execOp, ho, e1, Instr.sliceAt, Instr.slice, underlying, program, Sem.run, h1, this, sizeOf, typeInfo, hi1, hi2, hk, hk']
  · rename_i len e x' lo' hi' h1 h2 h3 h4 h5
    obtain ⟨n, hn, rfl⟩ := Option.map_eq_some_iff.1 hc
    obtain ⟨ti, hi1, hi2⟩ := szOf_eq hn
    have hmx : mx = none := by
      cases mx with
      | none => rfl
      | some y => simp only [oOpt] at h5; cases hq : oo P y <;> rw [hq] at h5 <;> cases h5
    subst hmx
    simp only [evAI] at he
    split at he
    · rename_i b off hX
      split at he
      · cases he
      · rename_i l hl
        split at he
        · cases he
        · rename_i q hq
          obtain ⟨hr, rfl⟩ := pure1_some he
          have hlo := oOpt_eval (evOpt_sound h h3 hl)
          have hhi := oOpt_eval (evOpt_sound h h4 hq)
          have hx := oo_sound h h2 hX
          simp only [VR] at hx
          obtain ⟨r, κ, g1, g2⟩ := hx
          obtain ⟨A, len', cap, e1, e0, e2, e3, e4, e5⟩ := evSlL_sound (σ := σ) (x := .slice (some ⟨r, off, none⟩) len len) hr (by simp only [VR]; exact ⟨r, κ, g1, rfl⟩)
          obtain ⟨rfl, rfl, rfl⟩ := Value.slice.inj e1
          simp only [Option.getD_none] at e3 e4 e5
          have := run_bounds (P := P) (w := w) false len len l q _ _ hlo hhi e2 e3
          refine .same h ?_ e5
          simp [execOp, ho, g2, Instr.sliceAt, Instr.sureAddr, underlying, program, Sem.run, h1, this, sizeOf, typeInfo, hi1, hi2]
          split <;> simp_all
    · cases he
  · cases hc
end
end Go.Ev
