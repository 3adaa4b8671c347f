import Derived.Test.YtbbfhlglljjpmaaGreatDoorEvX
import Derived.Lib.Bytealg
namespace Go.Ev
open Go
set_option linter.unusedVariables false
variable [Theta]
set_option linter.unusedSectionVars false
set_option linter.unusedSimpArgs false

noncomputable def fnd (p : Nat → Bool) (n : Nat) : Nat → Option Nat :=
  Nat.rec (motive := fun _ => Nat → Option Nat) (fun _ => none) (fun _ ih i => match p i with
    | true => some i
    | false => ih (i + 1)) n
theorem fnd_eq (p : Nat → Bool) : ∀ (n i : Nat), fnd p n i = ((List.range n).find? (fun j => p (i + j))).map (i + ·)
  | 0, i => rfl
  | n + 1, i => by
    have e : fnd p (n + 1) i = (match p i with
      | true => some i
      | false => fnd p n (i + 1)) := rfl
    rw [e, Lib.find_range_succ, fnd_eq p n (i + 1)]
    simp only [Nat.add_zero]
    cases hp : p i with
    | true => simp
    | false =>
      simp only [Bool.false_eq_true, if_false, Option.map_map]
      congr 1
      · funext j; simp; omega
      · congr 1; funext j; congr 1; omega

/-- strings' extern functions: IndexByteString, cmpstring. -/
noncomputable def xIdx (l : AVs) : Option AV := match l with
  | .cons (.s len n) (.cons (.i .u8 (.ofNat c)) .nil) => match Nat.blt c 256 with
    | true => match fnd (fun i => Nat.beq (n / 256 ^ (len - 1 - i) % 256) c) len 0 with
      | some i => some (.i .i64 (.ofNat i))
      | none => some (.i .i64 (.negSucc 0))
    | false => none
  | _ => none
def xCmp (l : AVs) : Option AV := match l with
  | .cons (.s l1 n1) (.cons (.s l2 n2) .nil) => match slt l1 n1 l2 n2 with
    | true => some (.i .i64 (.negSucc 0))
    | false => match seq l1 n1 l2 n2 with
      | true => some (.i .i64 (.ofNat 0))
      | false => some (.i .i64 (.ofNat 1))
  | _ => none

theorem cmp_less : ∀ (a b : List UInt8), Lib.compareBytes a b = if Op.bytesLess a b = true then -1 else if (a == b) = true then 0 else 1
  | [], [] => rfl
  | [], _ :: _ => rfl
  | _ :: _, [] => rfl
  | a :: as, b :: bs => by
    have ih := cmp_less as bs
    simp only [Lib.compareBytes, Op.bytesLess, List.cons_beq_cons]
    by_cases h1 : a < b
    · simp [h1]
    · by_cases h2 : b < a
      · have hne : (a == b) = false := by
          rw [beq_eq_false_iff_ne]; intro e; subst e; exact h1 h2
        simp [h1, h2, hne]
      · have he : a = b := by
          have h1' : ¬ a.toNat < b.toNat := fun h => h1 (UInt8.lt_iff_toNat_lt.2 h)
          have h2' : ¬ b.toNat < a.toNat := fun h => h2 (UInt8.lt_iff_toNat_lt.2 h)
          exact UInt8.toNat_inj.1 (by omega)
        subst he
        simp [h1, ih]

section
variable {P : Program} {σ : Env} {w : World}
theorem xIdx_sound {l : AVs} {v : AV} (h : xIdx l = some v) {vs : List Value} (hv : VRs σ l vs) : ∃ x, (Extern.BytealgIndexByte.indexByte vs.toArray).run P w = .ok x w ∧ VR σ v x := by
  unfold xIdx at h
  split at h
  · rename_i len n c
    simp only [VRs, VR] at hv
    obtain ⟨x, xs, rfl, ⟨bs, rfl, e1, e2⟩, y, ys, rfl, rfl, rfl⟩ := hv
    split at h
    · rename_i hc
      have hc : c < 256 := by simpa [Nat.blt_eq] using hc
      refine ⟨_, run_indexByte_string bs _ w, ?_⟩
      have hp : ∀ i, i < bs.size → (bs[i]! == (Int.ofNat c).toNat.toUInt8) = Nat.beq (n / 256 ^ (len - 1 - i) % 256) c := by
        intro i hi
        have hl : i < bs.data.toList.length := by simpa using hi
        have hg := bval_get bs.data.toList i hl
        have hlen : bs.data.toList.length = len := by simpa using e1
        rw [e2] at hg
        simp only [hlen] at hg
        rw [← hg]
        have hb : bs[i]! = bs.data.toList[i] := by
          rw [getElem!_pos bs i hi]; rfl
        rw [hb, Bool.eq_iff_iff, beq_iff_eq, Nat.beq_eq]
        constructor
        · intro e
          rw [e]
          simp
          omega
        · intro e
          apply UInt8.toNat_inj.1
          rw [e]
          simp
          omega
      have hf : (List.range bs.size).find? (fun i => bs[i]! == (Int.ofNat c).toNat.toUInt8) = fnd (fun i => Nat.beq (n / 256 ^ (len - 1 - i) % 256) c) len 0 := by
        rw [fnd_eq, ← e1]
        simp only [Nat.zero_add]
        rw [show (fun x : Nat => x) = id from rfl, Option.map_id, id]
        refine Lib.find_congr (fun i hi => ?_)
        rw [hp i (List.mem_range.1 hi), e1]
      unfold firstIdx
      rw [hf]
      split at h
      · rename_i i hi
        obtain rfl := Option.some.inj h
        rw [hi]
        simp only [VR]; rfl
      · rename_i hi
        obtain rfl := Option.some.inj h
        rw [hi]
        simp only [VR]; rfl
    · cases h
  · cases h
theorem xCmp_sound {l : AVs} {v : AV} (h : xCmp l = some v) {vs : List Value} (hv : VRs σ l vs) : ∃ x, (Extern.BytealgCompare.compare vs.toArray).run P w = .ok x w ∧ VR σ v x := by
  unfold xCmp at h
  split at h
  · rename_i l1 n1 l2 n2
    simp only [VRs, VR] at hv
    obtain ⟨x, xs, rfl, ⟨bs, rfl, e1, e2⟩, y, ys, rfl, ⟨bs', rfl, e1', e2'⟩, rfl⟩ := hv
    refine ⟨_, Lib.run_compareString bs bs' w, ?_⟩
    rw [cmp_less]
    have q1 := slt_eq bs bs'
    have q2 := seq_eq bs bs'
    rw [e1, e2, e1', e2', ByteArray.toList_eq, ByteArray.toList_eq] at q1 q2
    rw [← q1, ← q2]
    split at h
    · rename_i hh
      obtain rfl := Option.some.inj h
      simp only [VR, hh, if_true]; rfl
    · rename_i hh
      rw [hh]
      split at h
      · rename_i hh'
        obtain rfl := Option.some.inj h
        simp only [VR, hh', if_true]; rfl
      · rename_i hh'
        obtain rfl := Option.some.inj h
        simp only [VR, hh']; rfl
  · cases h

/-- An extern function, by its number. -/
theorem extern_does {f : FuncId} {fn : Func} {e : Array Value → Sem Value} (hf : P.funcs[f]? = some fn) (hname : (fn.name == "runtime.NumGoroutine") = false) (hb : fn.body.isNone = true) (hn : Extern.findNext fn = none) (he : Extern.find fn = some e)
    {vs : Array Value} {R : Value → World → Prop} {x : Value} (h : (e vs).run P w = .ok x w) (hR : R x w) : Does P f vs w R :=
  .inl ⟨x, w, by rw [run_callFunc_extern hf hname hb hn he, h]; rfl, hR⟩
end
end Go.Ev
