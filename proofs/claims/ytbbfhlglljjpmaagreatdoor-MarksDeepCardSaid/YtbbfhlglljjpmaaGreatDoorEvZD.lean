import Derived.Test.YtbbfhlglljjpmaaGreatDoorEvZC
import Derived.Lib.MakeNoZero
namespace Go.Ev
open Go
set_option linter.unusedVariables false
/-- One plug-in behind another. -/
noncomputable def orY (A B : YT) : YT := fun n0 call f l s => match A n0 call f l s with
  | some r => some r
  | none => B n0 call f l s
/-- bytealg.MakeNoZero: a new row of bytes that are not known. -/
noncomputable def mkY (mk e : Nat) : YT := fun n0 call f l s => match Nat.beq f mk with
  | false => none
  | true => match l with
    | .cons (.i .i64 (.ofNat n)) .nil => match Nat.ble n 1099511627776 with
      | true => some (.slr s.nxt 0 n 0, evNew e 1 .leaf n false 0 s)
      | false => none
    | _ => none
def MkOK (P : Program) (mk e : Nat) : Prop := ∀ (n : Nat) (w : World), n ≤ 1099511627776 →
  ∃ cs : Array Value, (callFunc mk #[.int .i64 n]).run P w = .ok (.value (.slice (some ⟨w.heap.size, 0, none⟩) n cs.size)) (w.drew.drew.alloc (.cells cs e)) ∧ n ≤ cs.size
section
variable {P : Program} [Theta]
theorem orY_ok {A B : YT} (hA : YOK P A) (hB : YOK P B) : YOK P (orY A B) := by
  intro n0 call hc f l s v s' h
  unfold orY at h
  split at h
  · rename_i r hr
    obtain rfl := Option.some.inj h
    exact hA n0 call hc f l s v s' hr
  · exact hB n0 call hc f l s v s' h
theorem mkY_ok {mk e : Nat} (hM : MkOK P mk e) : YOK P (mkY mk e) := by
  intro n0 call hc f l s v s' h
  unfold mkY at h
  split at h
  · cases h
  rename_i hf
  obtain rfl := Nat.eq_of_beq_eq_true hf
  split at h
  · rename_i n
    split at h
    · rename_i hn
      have hn := Nat.le_of_ble_eq_true hn
      obtain ⟨rfl, rfl⟩ := Prod.mk.inj (Option.some.inj h)
      refine ⟨Nat.le_succ _, fun p hp hg hL σ vs w hvs hH => ?_⟩
      simp only [VRs, VR] at hvs
      obtain ⟨x, xs, rfl, rfl, rfl⟩ := hvs
      obtain ⟨cs, hrun, hcs⟩ := hM n w hn
      have hG := hH.drew.drew.new (w := w.drew.drew) hH.n0 hH.g0 (show s.nxt < p.lim from hL) cs.size (.row e 1 .leaf n false 0) (.cells cs e)
        ⟨cs, 0, 0, rfl, (fun j a ha => by rw [Tr.get_leaf] at ha; cases ha), hcs, (fun h => by cases h), (fun _ => by simp), (fun _ j hj => by omega), (fun _ j => by omega), (fun j a ha => by rw [Tr.get_leaf] at ha; cases ha)⟩
      refine .inl ⟨_, _, hrun, σ.put s.nxt (w.heap.size, cs.size), ?_, ((Good.drew hH).trans (Good.drew hH.drew)).trans hG⟩
      simp only [VR]
      exact ⟨w.heap.size, cs.size, _, by unfold Env.put; rw [if_pos rfl], by omega, .inl rfl, rfl⟩
    · cases h
  · cases h
omit [Theta] in
theorem mkOK_of {mk : FuncId} {fn : Func} {ps : Array TypeId} {t e : TypeId} (hf : P.funcs[mk]? = some fn) (hname : (fn.name == "runtime.NumGoroutine") = false) (hb : fn.body.isNone = true) (hn : Extern.findNext fn = none)
    (he : Extern.find fn = some (Extern.BytealgMakeNoZero.makeNoZero ps #[t])) (ht : P.underlying t = some (.slice e)) : MkOK P mk e := by
  intro n w hn'
  obtain ⟨cs, h1, h2, _⟩ := Lib.run_makeNoZero (P := P) w ps t e ht n (by omega)
  exact ⟨cs, by rw [run_callFunc_extern hf hname hb hn he, h1]; rfl, h2⟩
end
end Go.Ev
