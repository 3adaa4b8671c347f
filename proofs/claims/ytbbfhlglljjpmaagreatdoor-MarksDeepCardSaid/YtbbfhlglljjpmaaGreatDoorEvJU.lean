import Derived.Test.YtbbfhlglljjpmaaGreatDoorEvJ
import Derived.Lib.Builder
namespace Go.Ev
open Go
set_option linter.unusedVariables false
variable [Theta]
set_option linter.unusedSectionVars false
set_option linter.unusedSimpArgs false
section
variable {P : Program} {p : Px} {σ : Env} {s : St} {w : World} {T : Tr AV} {a : Act}

theorem run_convert_ok {o : Oper} {src dst : TypeId} {x : Operand} (ho : o.op = .convert src dst x) {r : Value} {w' : World} (hr : (convert src dst (a.eval x)).run P w = .ok r w') : (execOp a.eval o).run P w = .ok (.value r) w' := by
  simp only [execOp, ho]
  exact run_val hr

theorem row_shape {r e lo hi : Nat} {c : Array Value} (h : w.heap[r]? = some (.cells c e (lo, hi))) : w.shape? r = some (e, c.size) := by
  simp [World.shape?, h]

theorem snd_cvu (h : Rel P p σ T s a w) {o : Oper} {src dst : TypeId} {x : Operand} (ho : o.op = .convert src dst x) {t : TypeId} {j : TypeInfo} (h1 : P.underlying src = some (.pointer t)) (h2 : P.underlying dst = some .unsafePointer) (h3 : P.info? t = some j) (h4 : j.size ≠ 0)
    {x' : O} (hx' : oo P x = some x') {v : AV} {s' : St} (he : evAI p.n0 (.cvp x') T s = some (v, s')) : Sound P p σ s w o a v s' := by
  simp only [evAI] at he
  split at he
  · rename_i b off hX
    have hx := oo_sound h hx' hX
    split at he
    · rename_i e esz cells used ex fz hg
      split at he
      · rename_i hlt
        have hlt : off < used := by simpa [Nat.blt_eq] using hlt
        obtain ⟨rfl, rfl⟩ := Prod.mk.inj (Option.some.inj he)
        have hxx := hx
        simp only [VR] at hxx
        obtain ⟨r, κ, e1, e2⟩ := hxx
        obtain ⟨c, lo, hi, g1, g2, g3, _⟩ := h.h.row hg e1
        refine .same h (run_convert_ok ho ?_) hx
        rw [e2]
        exact Lib.run_to_unsafe (P := P) w ⟨r, off, none⟩ h1 h2 h3 h4 (row_shape g1) (Nat.lt_of_lt_of_le hlt g3)
      · cases he
    · cases he
  · cases he
theorem snd_cvq (h : Rel P p σ T s a w) {o : Oper} {src dst : TypeId} {x : Operand} (ho : o.op = .convert src dst x) {t : TypeId} {j : TypeInfo} (h1 : P.underlying src = some .unsafePointer) (h2 : P.underlying dst = some (.pointer t)) (h3 : P.info? t = some j)
    {x' : O} (hx' : oo P x = some x') {v : AV} {s' : St} (he : evAI p.n0 (.cvq (fun e n off => liesAt P P.depth e (n / P.cellsOf e) off t 1) x') T s = some (v, s')) : Sound P p σ s w o a v s' := by
  simp only [evAI] at he
  split at he
  · rename_i b off hX
    have hx := oo_sound h hx' hX
    split at he
    · rename_i e esz cells used fz hg
      split at he
      · rename_i hl
        obtain ⟨rfl, rfl⟩ := Prod.mk.inj (Option.some.inj he)
        have hxx := hx
        simp only [VR] at hxx
        obtain ⟨r, κ, e1, e2⟩ := hxx
        obtain ⟨c, lo, hi, g1, g2, g3, g4, _⟩ := h.h.row hg e1
        refine .same h (run_convert_ok ho ?_) hx
        rw [e2]
        exact Lib.run_from_unsafe (P := P) w ⟨r, off, none⟩ h1 h2 h3 (row_shape g1) (by rw [g4 rfl]; exact hl)
      · cases he
    · cases he
  · cases he

end
end Go.Ev
