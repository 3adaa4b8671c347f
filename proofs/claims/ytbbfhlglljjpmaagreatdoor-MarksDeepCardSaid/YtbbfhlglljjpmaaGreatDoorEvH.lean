import Derived.Test.YtbbfhlglljjpmaaGreatDoorEvG
namespace Go.Ev
open Go
set_option linter.unusedVariables false
variable [Theta]
set_option linter.unusedSectionVars false
set_option linter.unusedSimpArgs false
section
variable {P : Program} {p : Px} {σ : Env} {s : St} {w : World} {T : Tr AV} {a : Act}

theorem nth_sound : ∀ {l : AVs} {xs : List Value} {i : Nat} {v : AV}, VRs σ l xs → nth l i = some v → ∃ x, xs[i]? = some x ∧ VR σ v x
  | .nil, xs, i, v, h, e => by cases e
  | .cons y l, xs, i, v, h, e => by
    simp only [VRs] at h
    obtain ⟨z, zs, rfl, h1, h2⟩ := h
    cases i with
    | zero => obtain rfl := Option.some.inj e; exact ⟨z, rfl, h1⟩
    | succ i => obtain ⟨x, q1, q2⟩ := nth_sound h2 (i := i) e; exact ⟨x, by simpa using q1, q2⟩
theorem dropA_sound : ∀ (n : Nat) {l : AVs} {xs : List Value}, VRs σ l xs → VRs σ (dropA n l) (xs.drop n)
  | 0, l, xs, h => by simpa [dropA] using h
  | n + 1, .nil, xs, h => by simp only [VRs] at h; subst h; simp [dropA, VRs]
  | n + 1, .cons y l, xs, h => by
    simp only [VRs] at h
    obtain ⟨z, zs, rfl, h1, h2⟩ := h
    simpa [dropA] using dropA_sound n h2
theorem takeA_sound : ∀ (n : Nat) {l r : AVs} {xs : List Value}, VRs σ l xs → takeA n l = some r → VRs σ r (xs.take n) ∧ n ≤ xs.length
  | 0, l, r, xs, h, e => by obtain rfl := (Option.some.inj e).symm; simp [VRs]
  | n + 1, .nil, r, xs, h, e => by cases e
  | n + 1, .cons y l, r, xs, h, e => by
    simp only [VRs] at h
    obtain ⟨z, zs, rfl, h1, h2⟩ := h
    simp only [takeA] at e
    split at e
    · cases e
    · rename_i q hq
      obtain rfl := (Option.some.inj e).symm
      obtain ⟨h3, h4⟩ := takeA_sound n h2 hq
      refine ⟨?_, by simp; omega⟩
      simp only [VRs, List.take_succ_cons]
      exact ⟨z, _, rfl, h1, h3⟩

theorem snd_fieldAddr (h : Rel P p σ T s a w) {o : Oper} {t : TypeId} {x : Operand} {f : Nat} (ho : o.op = .fieldAddr t x f) {ai : AI} (hc : compOp P o = some ai) {v : AV} {s' : St} (he : evAI p.n0 ai T s = some (v, s')) : Sound P p σ s w o a v s' := by
  unfold compOp at hc; rw [ho] at hc
  dsimp only at hc
  split at hc
  · rename_i fs x' h1 h2
    split at hc
    · rename_i fd h3
      split at hc
      · rename_i n h4
        obtain ⟨i, hi, hi2⟩ := szOf_eq h4
        obtain rfl := (Option.some.inj hc).symm
        simp only [evAI] at he
        split at he
        · rename_i b o' hX
          obtain ⟨rfl, rfl⟩ := Prod.mk.inj (Option.some.inj he)
          have hx := oo_sound h h2 hX
          simp only [VR] at hx
          obtain ⟨r, κ, e1, e2⟩ := hx
          refine .same h (x := .pointer (some ⟨r, o' + fd.offset, none⟩)) ?_ (by simp only [VR]; exact ⟨r, κ, e1, rfl⟩)
          simp [execOp, ho, e2, Instr.fieldAt, Instr.sureAddr, underlying, program, Sem.run, h1, h3, fieldPlace, sizeOf, typeInfo, hi, hi2, add_none]
        · cases he
      · cases hc
    · cases hc
  · cases hc

theorem run_part_one {t : TypeId} {d : TypeDesc} (hd : P.underlying t = some d) (ha : aggD d = false) {cs : Array Value} {off : Nat} {x : Value} (hx : cs[off]? = some x) : (part t cs off).run P w = .ok x w := by
  cases d <;> first
    | (simp [aggD] at ha; done)
    | simp [part, isAgg, underlying, program, Sem.run, hd, hx]
theorem run_part_agg {t : TypeId} {d : TypeDesc} (hd : P.underlying t = some d) (ha : aggD d = true) {i : TypeInfo} (hi : P.info? t = some i) {cs : Array Value} {off : Nat} :
    (part t cs off).run P w = .ok (.agg (cs.extract off (off + i.size))) w := by
  cases d <;> first
    | (simp [aggD] at ha; done)
    | simp [part, isAgg, underlying, program, Sem.run, hd, sizeOf, typeInfo, hi]

theorem part_agg_VR {l r : AVs} {vs : Array Value} {off n : Nat} (hv : VRs σ l vs.toList) (ht : takeA n (dropA off l) = some r) : VR σ (.agg r) (.agg (vs.extract off (off + n))) := by
  obtain ⟨q1, q2⟩ := takeA_sound n (dropA_sound off hv) ht
  simp only [VR]
  refine ⟨_, rfl, ?_⟩
  rw [Array.toList_extract, List.extract_eq_take_drop]
  rwa [show off + n - off = n from by omega]

theorem snd_field (h : Rel P p σ T s a w) {o : Oper} {t : TypeId} {x : Operand} {f : Nat} (ho : o.op = .field t x f) {ai : AI} (hc : compOp P o = some ai) {v : AV} {s' : St} (he : evAI p.n0 ai T s = some (v, s')) : Sound P p σ s w o a v s' := by
  unfold compOp at hc; rw [ho] at hc
  dsimp only at hc
  split at hc
  · rename_i fs x' h1 h2
    split at hc
    · rename_i fd h3
      split at hc
      · rename_i d n h4 h5
        obtain ⟨i, hi, hi2⟩ := szOf_eq h5
        obtain rfl := (Option.some.inj hc).symm
        by_cases hd : aggD d = true
        · rw [if_pos hd] at he
          simp only [evAI] at he
          split at he
          · rename_i l hX
            split at he
            · rename_i r hr
              obtain ⟨rfl, rfl⟩ := Prod.mk.inj (Option.some.inj he)
              have hx := oo_sound h h2 hX
              simp only [VR] at hx
              obtain ⟨vs, e1, e2⟩ := hx
              subst hi2
              refine .same h (x := .agg (vs.extract fd.offset (fd.offset + i.size))) ?_ (part_agg_VR e2 hr)
              have := run_part_agg (P := P) (w := w) h4 hd hi (cs := vs) (off := fd.offset)
              simp [execOp, ho, e1, Instr.field, underlying, program, Sem.run, h1, h3, asAgg, this]
            · cases he
          · cases he
        · rw [if_neg hd] at he
          simp only [evAI] at he
          split at he
          · rename_i l hX
            obtain ⟨hr, rfl⟩ := pure1_some he
            have hx := oo_sound h h2 hX
            simp only [VR] at hx
            obtain ⟨vs, e1, e2⟩ := hx
            obtain ⟨x, q1, q2⟩ := nth_sound e2 hr
            refine .same h (x := x) ?_ q2
            have := run_part_one (P := P) (w := w) h4 (by simpa using hd) (cs := vs) (off := fd.offset) (x := x) (by simpa using q1)
            simp [execOp, ho, e1, Instr.field, underlying, program, Sem.run, h1, h3, asAgg, this]
          · cases he
      · cases hc
    · cases hc
  · cases hc

theorem evNat_sound {v : AV} {n : Nat} (h : evNat v = some n) {x : Value} (hv : VR σ v x) : ∃ k, x = .int k (n : Int) := by
  unfold evNat at h
  split at h
  · obtain rfl := Option.some.inj h
    simp only [VR] at hv
    exact ⟨_, hv⟩
  · cases h

theorem snd_indexAddr (h : Rel P p σ T s a w) {o : Oper} {t : TypeId} {x y : Operand} (ho : o.op = .indexAddr t x y) {ai : AI} (hc : compOp P o = some ai) {v : AV} {s' : St} (he : evAI p.n0 ai T s = some (v, s')) : Sound P p σ s w o a v s' := by
  unfold compOp at hc; rw [ho] at hc
  dsimp only at hc
  split at hc
  · rename_i e x' y' h1 h2 h3
    obtain ⟨n, hn, rfl⟩ := Option.map_eq_some_iff.1 hc
    obtain ⟨ti, hi, hi2⟩ := szOf_eq hn
    simp only [evAI] at he
    split at he
    · cases he
    · rename_i Y hY
      split at he
      · cases he
      · rename_i i hin
        obtain ⟨k, hk⟩ := evNat_sound hin (oo_sound h h3 hY)
        split at he
        · rename_i b off len cap hX
          split at he
          · rename_i hlt
            obtain ⟨rfl, rfl⟩ := Prod.mk.inj (Option.some.inj he)
            have hlt : i < len := by simpa [Nat.blt_eq] using hlt
            have hx := oo_sound h h2 hX
            simp only [VR] at hx
            obtain ⟨r, κ, e1, e2⟩ := hx
            refine .same h (x := .pointer (some ⟨r, off + i * n, none⟩)) ?_ (by simp only [VR]; exact ⟨r, κ, e1, rfl⟩)
            simp [execOp, ho, e2, hk, Instr.indexAt, asIntOf, underlying, program, Sem.run, h1, sizeOf, typeInfo, hi, hi2, add_none, hlt]
          · cases he
        · rename_i b off len cap hX
          split at he
          · rename_i hlt
            obtain ⟨rfl, rfl⟩ := Prod.mk.inj (Option.some.inj he)
            have hlt : i < len := by simpa [Nat.blt_eq] using hlt
            have hx := oo_sound h h2 hX
            simp only [VR] at hx
            obtain ⟨r, κ, o', e1, e0, e3, e2⟩ := hx
            obtain rfl := (slr_off e3 (by omega)).symm
            refine .same h (x := .pointer (some ⟨r, off + i * n, none⟩)) ?_ (by simp only [VR]; exact ⟨r, κ, e1, rfl⟩)
            simp [execOp, ho, e2, hk, Instr.indexAt, asIntOf, underlying, program, Sem.run, h1, sizeOf, typeInfo, hi, hi2, add_none, hlt]
          · cases he
        · cases he
  · rename_i len e x' y' h1 h2 h3
    obtain ⟨n, hn, rfl⟩ := Option.map_eq_some_iff.1 hc
    obtain ⟨ti, hi, hi2⟩ := szOf_eq hn
    simp only [evAI] at he
    split at he
    · cases he
    · rename_i Y hY
      split at he
      · cases he
      · rename_i i hin
        obtain ⟨k, hk⟩ := evNat_sound hin (oo_sound h h3 hY)
        split at he
        · rename_i b off hX
          split at he
          · rename_i hlt
            obtain ⟨rfl, rfl⟩ := Prod.mk.inj (Option.some.inj he)
            have hlt : i < len := by simpa [Nat.blt_eq] using hlt
            have hx := oo_sound h h2 hX
            simp only [VR] at hx
            obtain ⟨r, κ, e1, e2⟩ := hx
            refine .same h (x := .pointer (some ⟨r, off + i * n, none⟩)) ?_ (by simp only [VR]; exact ⟨r, κ, e1, rfl⟩)
            simp [execOp, ho, e2, hk, Instr.indexAt, Instr.sureAddr, asIntOf, underlying, program, Sem.run, h1, sizeOf, typeInfo, hi, hi2, add_none, hlt]
          · cases he
        · cases he
  · cases hc

theorem snd_index (h : Rel P p σ T s a w) {o : Oper} {t : TypeId} {x y : Operand} (ho : o.op = .index t x y) {ai : AI} (hc : compOp P o = some ai) {v : AV} {s' : St} (he : evAI p.n0 ai T s = some (v, s')) : Sound P p σ s w o a v s' := by
  unfold compOp at hc; rw [ho] at hc
  dsimp only at hc
  split at hc
  · rename_i x' y' h1 h2 h3
    obtain rfl := (Option.some.inj hc).symm
    simp only [evAI] at he
    split at he
    · cases he
    · rename_i Y hY
      split at he
      · cases he
      · rename_i i hin
        obtain ⟨k, hk⟩ := evNat_sound hin (oo_sound h h3 hY)
        split at he
        · rename_i len n hX
          split at he
          · rename_i hlt
            obtain ⟨rfl, rfl⟩ := Prod.mk.inj (Option.some.inj he)
            have hlt : i < len := by simpa [Nat.blt_eq] using hlt
            have hx := oo_sound h h2 hX
            simp only [VR] at hx
            obtain ⟨bs, e1, e2, e3⟩ := hx
            have hl : i < bs.data.toList.length := by simpa [e2] using hlt
            have hb := bval_get bs.data.toList i hl
            rw [e3, show bs.data.toList.length = len from by simpa using e2] at hb
            have hbi : bs[i]? = some bs.data.toList[i] := by
              rw [getElem?_pos bs i (by omega)]; rfl
            refine .same h (x := .int .u8 (bs.data.toList[i]).toNat) ?_ (by simp only [VR]; rw [hb]; rfl)
            simp [execOp, ho, e1, hk, Instr.index, asIntOf, underlying, program, Sem.run, h1, hbi]
          · cases he
        · cases he
  · rename_i len e x' y' h1 h2 h3
    split at hc
    · rename_i d n h4 h5
      obtain ⟨ti, hi, hi2⟩ := szOf_eq h5
      obtain rfl := (Option.some.inj hc).symm
      simp only [evAI] at he
      split at he
      · cases he
      · rename_i Y hY
        split at he
        · cases he
        · rename_i i hin
          obtain ⟨k, hk⟩ := evNat_sound hin (oo_sound h h3 hY)
          split at he
          · rename_i l hX
            split at he
            · rename_i hlt
              have hlt : i < len := by simpa [Nat.blt_eq] using hlt
              have hx := oo_sound h h2 hX
              simp only [VR] at hx
              obtain ⟨vs, e1, e2⟩ := hx
              cases hd : aggD d with
              | true =>
                rw [hd] at he
                dsimp only at he
                split at he
                · rename_i r hr
                  obtain ⟨rfl, rfl⟩ := Prod.mk.inj (Option.some.inj he)
                  refine .same h (x := .agg (vs.extract (i * n) (i * n + n))) ?_ (part_agg_VR e2 hr)
                  have := run_part_agg (P := P) (w := w) h4 hd hi (cs := vs) (off := i * n)
                  rw [hi2] at this
                  simp [execOp, ho, e1, hk, Instr.index, asIntOf, underlying, program, Sem.run, h1, sizeOf, typeInfo, hi, hi2, hlt, this]
                · cases he
              | false =>
                rw [hd] at he
                dsimp only at he
                obtain ⟨hr, rfl⟩ := pure1_some he
                obtain ⟨x, q1, q2⟩ := nth_sound e2 hr
                refine .same h (x := x) ?_ q2
                have := run_part_one (P := P) (w := w) h4 hd (cs := vs) (off := i * n) (x := x) (by simpa using q1)
                simp [execOp, ho, e1, hk, Instr.index, asIntOf, underlying, program, Sem.run, h1, sizeOf, typeInfo, hi, hi2, hlt, this]
            · cases he
          · cases he
    · cases hc
  · cases hc

theorem snd_ext (h : Rel P p σ T s a w) {o : Oper} {x : Operand} {i : Nat} (ho : o.op = .extract x i) {ai : AI} (hc : compOp P o = some ai) {v : AV} {s' : St} (he : evAI p.n0 ai T s = some (v, s')) : Sound P p σ s w o a v s' := by
  unfold compOp at hc; rw [ho] at hc
  obtain ⟨x', h1, rfl⟩ := Option.map_eq_some_iff.1 hc
  simp only [evAI] at he
  split at he
  · rename_i l hX
    obtain ⟨hr, rfl⟩ := pure1_some he
    have hx := oo_sound h h1 hX
    simp only [VR] at hx
    obtain ⟨vs, e1, e2⟩ := hx
    obtain ⟨x, q1, q2⟩ := nth_sound e2 hr
    refine .same h (x := x) ?_ q2
    have : vs[i]? = some x := by simpa using q1
    simp [execOp, ho, e1, Instr.extract, this]
  · cases he
end
end Go.Ev
