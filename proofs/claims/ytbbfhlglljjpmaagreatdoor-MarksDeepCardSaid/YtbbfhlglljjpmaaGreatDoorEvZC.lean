import Derived.Test.YtbbfhlglljjpmaaGreatDoorEvZB
namespace Go.Ev
open Go
set_option linter.unusedVariables false
set_option linter.unusedSectionVars false
set_option linter.unusedSimpArgs false
/-- sync.Once's Do, not yet done, the lock free; the function is a method value of gF. -/
noncomputable def onceY (doF gF : Nat) : YT := fun n0 call f l s => match Nat.beq f doF with
  | false => none
  | true => match l with
    | .cons (.p b o) (.cons (.fm g (.cons (.p qb qo) .nil)) .nil) => match Nat.beq g gF with
      | false => none
      | true => match evLd1 s (.p b o) with
        | some (.i .u32 (.ofNat 0)) => match evLd1 s (.p b (o + 1)) with
          | some (.i .i32 (.ofNat 0)) => match evSt n0 b (o + 1) (.cons (.i .i32 (.ofNat 1)) .nil) s with
            | none => none
            | some s1 => match call g (.cons (.p qb qo) .nil) s1 with
              | none => none
              | some (.tup .nil, s2) => match evLd1 s2 (.p b o) with
                | some (.i .u32 (.ofNat 0)) => match evLd1 s2 (.p b (o + 1)) with
                  | some (.i .i32 (.ofNat 1)) => match evSt n0 b o (.cons (.i .u32 (.ofNat 1)) .nil) s2 with
                    | none => none
                    | some s3 => match evSt n0 b (o + 1) (.cons (.i .i32 (.ofNat 0)) .nil) s3 with
                      | none => none
                      | some s4 => some (.tup .nil, s4)
                  | _ => none
                | _ => none
              | some _ => none
          | _ => none
        | _ => none
    | _ => none
/-- The contract of Do that this wants. -/
def OnceOK (P : Program) (doF gF : Nat) : Prop := ∀ (b off : Nat) (q : Addr) (w : World) (R : World → Prop),
  w.cell? ⟨b, off, none⟩ = some (.int .u32 0) → w.cell? ⟨b, off + 1, none⟩ = some (.int .i32 0) → w.frozen? ⟨b, off, none⟩ = false → w.frozen? ⟨b, off + 1, none⟩ = false →
  (Calls P gF #[.pointer (some q)] (w.setCell ⟨b, off + 1, none⟩ (.int .i32 1)) fun e w2 => e = .returned (.tuple #[]) ∧ w2.cell? ⟨b, off, none⟩ = some (.int .u32 0) ∧ w2.cell? ⟨b, off + 1, none⟩ = some (.int .i32 1) ∧ w2.frozen? ⟨b, off, none⟩ = false ∧ w2.frozen? ⟨b, off + 1, none⟩ = false ∧
    R ((w2.drew.setCell ⟨b, off, none⟩ (.int .u32 1)).setCell ⟨b, off + 1, none⟩ (.int .i32 0))) →
  Calls P doF #[.pointer (some ⟨b, off, none⟩), .func (.func gF) #[.pointer (some q)] #[]] w fun e w' => e = .returned (.tuple #[]) ∧ R w'
section
variable {P : Program} [Theta] {p : Px} {σ : Env} {s : St} {w : World}
theorem st1_sound (P : Program) (h : HR p σ s w) {b off : Nat} {v : AV} {s' : St} (he : evSt p.n0 b off (.cons v .nil) s = some s') {r κ : Nat} (hs : σ b = some (r, κ)) {x : Value} (hv : VR σ v x) :
    (∀ j y, w.cell? ⟨r, j, none⟩ = some y → w.frozen? ⟨r, j, none⟩ = false) ∧ Good p σ s w σ s' (w.setCell ⟨r, off, none⟩ x) := by
  have hvs : VRs σ (.cons v .nil) [x] := by simp only [VRs]; exact ⟨_, _, rfl, hv, rfl⟩
  unfold evSt at he
  split at he
  · rename_i h0
    split at he
    · rename_i e esz cells used ex fz hg
      split at he
      · rename_i hz
        split at he
        · rename_i h1
          split at he
          · rename_i h2
            obtain rfl := (Option.some.inj he).symm
            have hz := Nat.le_of_ble_eq_true hz
            have h2 := Nat.le_of_ble_eq_true h2
            obtain ⟨q1, q2⟩ := h.store P hg hz hs (Nat.le_of_ble_eq_true h0) hvs h1 h2
            obtain ⟨c, lo, hi, g1, g2, g3, g4, g5, g6, g7, g8⟩ := h.row hg hs
            simp only [AVs.len] at h2
            refine ⟨fun j y hj => ?_, q2⟩
            rw [cell_of_heap g1] at hj
            have hjl : j < c.size := by
              rcases Nat.lt_or_ge j c.size with h' | h'
              · exact h'
              · rw [Array.getElem?_eq_none h'] at hj; cases hj
            rw [frozen_of_heap g1]
            have := g6 hz j hjl
            simp only [Bool.and_eq_false_iff, decide_eq_false_iff_not]
            omega
          · cases he
        · cases he
      · cases he
    · cases he
  · cases he
theorem ld1_sound (h : HR p σ s w) {b off : Nat} {v : AV} (he : evLd1 s (.p b off) = some v) {r κ : Nat} (hs : σ b = some (r, κ)) : ∃ x, w.cell? ⟨r, off, none⟩ = some x ∧ VR σ v x := by
  unfold evLd1 at he
  dsimp only at he
  split at he
  · rename_i hg
    exact h.ld hg hs he
  · cases he
theorem onceY_ok {doF gF : Nat} (hO : OnceOK P doF gF) (eD : EntOK P doF) (eG : EntOK P gF) : YOK P (onceY doF gF) := by
  intro n0 call hcall f l s v s' h
  unfold onceY at h
  split at h
  · cases h
  rename_i hf
  obtain rfl := Nat.eq_of_beq_eq_true hf
  split at h
  · rename_i b o g qb qo
    split at h
    · cases h
    rename_i hg
    obtain rfl := Nat.eq_of_beq_eq_true hg
    split at h
    · rename_i hd0
      split at h
      · rename_i hm0
        split at h
        · cases h
        rename_i s1 hs1
        split at h
        · cases h
        · rename_i s2 hs2
          split at h
          · rename_i hd2
            split at h
            · rename_i hm2
              split at h
              · cases h
              rename_i s3 hs3
              split at h
              · cases h
              rename_i s4 hs4
              obtain ⟨rfl, rfl⟩ := Prod.mk.inj (Option.some.inj h)
              have n1 := evSt_nxt hs1
              have n3 := evSt_nxt hs3
              have n4 := evSt_nxt hs4
              obtain ⟨c1, c2⟩ := hcall _ _ _ _ _ hs2
              refine ⟨by omega, fun p hp hgl hL σ vs w hvs hH => ?_⟩
              subst hp
              simp only [VRs, VR] at hvs
              obtain ⟨x, xs, rfl, ⟨r, κ, e1, rfl⟩, y, ys, rfl, ⟨fv, rfl, q, qs, hfe, ⟨qr, qκ, eq1, rfl⟩, rfl⟩, rfl⟩ := hvs
              obtain rfl : fv = #[.pointer (some ⟨qr, qo, none⟩)] := by simpa using congrArg List.toArray hfe
              obtain ⟨x0, k0, v0⟩ := ld1_sound hH hd0 e1
              obtain ⟨x1, k1, v1⟩ := ld1_sound hH hm0 e1
              simp only [VR] at v0 v1
              subst v0; subst v1
              obtain ⟨z1, G1⟩ := st1_sound P hH hs1 e1 (x := .int .i32 1) (by simp only [VR]; rfl)
              have hin := c2 p rfl hgl (by omega) σ [.pointer (some ⟨qr, qo, none⟩)] _ (by simp only [VRs, VR]; exact ⟨_, _, rfl, ⟨qr, qκ, G1.ext _ _ eq1, rfl⟩, rfl⟩) G1.hr
              have hin' : Calls P g #[.pointer (some ⟨qr, qo, none⟩)] (w.setCell ⟨r, o + 1, none⟩ (.int .i32 1)) fun e w' => ∃ x, e = .returned x ∧ ∃ σ', VR σ' (.tup .nil) x ∧ Good p σ s1 (w.setCell ⟨r, o + 1, none⟩ (.int .i32 1)) σ' s2 w' := by
                rcases hin with ⟨x, w', g1, _⟩ | ⟨_, g2⟩
                · rw [eG] at g1; cases g1
                · simpa using g2
              refine .inr ⟨eD _ _, ?_⟩
              refine (hO r o ⟨qr, qo, none⟩ w (fun w' => ∃ σ', Good p σ s w σ' s4 w') k0 k1 (z1 _ _ k0) (z1 _ _ k1) (hin'.mono ?_)).mono ?_
              · rintro e w2 ⟨x, rfl, σ', hx, G2⟩
                simp only [VR, VRs] at hx
                obtain ⟨vs, rfl, hvs⟩ := hx
                have hvs : vs = #[] := by simpa using hvs
                subst hvs
                have e2 := G2.ext _ _ e1
                obtain ⟨y0, m0, u0⟩ := ld1_sound G2.hr hd2 e2
                obtain ⟨y1, m1, u1⟩ := ld1_sound G2.hr hm2 e2
                simp only [VR] at u0 u1
                subst u0; subst u1
                obtain ⟨z2, _⟩ := st1_sound P G2.hr hs3 e2 (x := .int .u32 1) (by simp only [VR]; rfl)
                obtain ⟨_, G3⟩ := st1_sound P G2.hr.drew hs3 e2 (x := .int .u32 1) (by simp only [VR]; rfl)
                obtain ⟨_, G4⟩ := st1_sound P G3.hr hs4 e2 (x := .int .i32 0) (by simp only [VR]; rfl)
                exact ⟨rfl, m0, m1, z2 _ _ m0, z2 _ _ m1, σ', (G1.trans G2).trans (((Good.drew G2.hr).trans G3).trans G4)⟩
              · rintro e w' ⟨rfl, σ', G⟩
                exact ⟨_, rfl, σ', by simp only [VR, VRs]; exact ⟨_, rfl, rfl⟩, G⟩
            · cases h
          · cases h
        · cases h
      · cases h
    · cases h
  · cases h
end
end Go.Ev
