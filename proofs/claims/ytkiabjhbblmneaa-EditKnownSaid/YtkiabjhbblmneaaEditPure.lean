import Derived.Test.YtkiabjhbblmneaaEditSpec
open Go Go.RowKit Go.Kb
namespace Go.Ed

theorem step_in (b : List UInt8) (x : Ed) (h0 : 0 ≤ x.fr) (h1 : x.fr ≤ x.to) (h2 : x.to ≤ b.length) : ((stepE b x).length : Int) = b.length - (x.to - x.fr) + x.put.size := by
  unfold stepE
  rw [List.length_append, List.length_append, List.length_take, List.length_drop, bl_len]
  omega

theorem near_app (f : Nat) : ∀ (b : List UInt8) (l : List Ed), b.length + 50 * f ≤ 8000 → (appE b (nearE f b.length l)).2 = 0 ∧ (appE b (nearE f b.length l)).1.length ≤ b.length + 50 * f := by
  induction f with
  | zero => intro b l h; cases l <;> simp [nearE, appE]
  | succ f ih =>
    intro b l h
    cases l with
    | nil => simp [nearE, appE]
    | cons x l =>
      have hr := near1_range (b.length : Int) x (by omega)
      have hs := near1_size (b.length : Int) x
      have hst := step_in b (near1 b.length x) hr.1 hr.2.1 hr.2.2
      have hn : near2 b.length x = ((stepE b (near1 b.length x)).length : Int) := by unfold near2; omega
      have := ih (stepE b (near1 b.length x)) l (by omega)
      rw [nearE, appE, if_neg (by omega), if_neg (by omega), hn]
      refine ⟨this.1, ?_⟩
      have := this.2
      omega

theorem appE_append (a c : List Ed) : ∀ b : List UInt8, (appE b a).2 = 0 → appE b (a ++ c) = appE (appE b a).1 c := by
  induction a with
  | nil => intro b _; rfl
  | cons x a ih =>
    intro b h
    rw [appE] at h
    rw [List.cons_append, appE, appE]
    split at h
    · simp at h
    · rename_i h1
      split at h
      · simp at h
      · rename_i h2
        rw [if_neg h1, if_neg h2]
        rw [if_neg h1, if_neg h2]
        exact ih _ h

theorem appE_pre (a c : List Ed) : ∀ b : List UInt8, (appE b (a ++ c)).2 = 0 → (appE b a).2 = 0 := by
  induction a with
  | nil => intro b _; rfl
  | cons x a ih =>
    intro b h
    rw [List.cons_append, appE] at h
    rw [appE]
    split at h
    · simp at h
    · rename_i h1
      split at h
      · simp at h
      · rename_i h2
        rw [if_neg h1, if_neg h2]
        exact ih _ h

/-! what is between -/
theorem cpre_take (A B : List UInt8) : A.take (cpre A B) = B.take (cpre A B) := by
  induction A generalizing B with
  | nil => simp [cpre]
  | cons a as ih =>
    cases B with
    | nil => simp [cpre]
    | cons b bs =>
      simp only [cpre]
      split
      · rename_i h
        subst h
        simp only [List.take_succ_cons]
        rw [ih bs]
      · simp
theorem cpre_take_le {A B : List UInt8} {k : Nat} (h : k ≤ cpre A B) : A.take k = B.take k := by
  have h1 : A.take k = (A.take (cpre A B)).take k := by rw [List.take_take, Nat.min_eq_left h]
  have h2 : B.take k = (B.take (cpre A B)).take k := by rw [List.take_take, Nat.min_eq_left h]
  rw [h1, h2, cpre_take]
theorem cpre_self (A : List UInt8) : cpre A A = A.length := by
  induction A with
  | nil => rfl
  | cons a as ih => simp [cpre, ih]
theorem cpre_comm (A : List UInt8) : ∀ B, cpre A B = cpre B A := by
  induction A with
  | nil => intro B; cases B <;> rfl
  | cons a as ih =>
    intro B
    cases B with
    | nil => rfl
    | cons b bs =>
      simp only [cpre, ih bs]
      by_cases h : a = b
      · rw [if_pos h, if_pos h.symm]
      · rw [if_neg h, if_neg (fun e => h e.symm)]
theorem cpre_differ (A : List UInt8) : ∀ B, cpre A B < A.length → cpre A B < B.length → A[cpre A B]? ≠ B[cpre A B]? := by
  induction A with
  | nil => intro B h; simp at h
  | cons a as ih =>
    intro B h1 h2
    cases B with
    | nil => simp at h2
    | cons b bs =>
      simp only [cpre] at h1 h2 ⊢
      by_cases h : a = b
      · subst h
        simp only [if_true, List.length_cons, List.getElem?_cons_succ] at h1 h2 ⊢
        exact ih bs (by omega) (by omega)
      · simp only [if_neg h, List.getElem?_cons_zero]
        simpa using h

theorem betN_comm (a b : ByteArray) : betN a b = betN b a := cpre_comm _ _
theorem betK_comm (a b : ByteArray) : betK a b = betK b a := by
  unfold betK
  rw [cpre_comm, betN_comm, Nat.min_comm a.size]

/-- The end that both have. -/
theorem betK_drop (a b : ByteArray) : a.data.toList.drop (a.size - betK a b) = b.data.toList.drop (b.size - betK a b) := by
  have h : a.data.toList.reverse.take (betK a b) = b.data.toList.reverse.take (betK a b) := cpre_take_le (by unfold betK; omega)
  rw [List.take_reverse, List.take_reverse, bl_len, bl_len] at h
  exact List.reverse_inj.1 h
theorem bet_put (a b : ByteArray) : (betw a b).put.data.toList = (b.data.toList.take (b.size - betK a b)).drop (betN a b) := by
  unfold betw
  rw [bl_extract]
theorem bet_step (a b : ByteArray) : stepE a.data.toList (betw a b) = b.data.toList := by
  have hk := betK_le a b
  have hn := betN_le a b
  unfold stepE
  rw [bet_put]
  have e1 : (betw a b).fr.toNat = betN a b := by simp [betw]
  have e2 : (betw a b).to.toNat = a.size - betK a b := by simp [betw]
  rw [e1, e2, betK_drop, show a.data.toList.take (betN a b) = b.data.toList.take (betN a b) from cpre_take _ _]
  have h3 : b.data.toList.take (betN a b) = (b.data.toList.take (b.size - betK a b)).take (betN a b) := by
    rw [List.take_take, Nat.min_eq_left (by omega)]
  rw [h3, List.take_append_drop, List.take_append_drop]
theorem bet_in (a b : ByteArray) : 0 ≤ (betw a b).fr ∧ (betw a b).fr ≤ (betw a b).to ∧ (betw a b).to ≤ a.size := by
  have hk := betK_le a b
  simp only [betw]
  omega
theorem bet_apply (a b : ByteArray) (l : List Ed) (hb : b.size ≤ 8000) : appE a.data.toList (betw a b :: l) = appE b.data.toList l := by
  have h := bet_in a b
  rw [appE, if_neg (by rw [bl_len]; omega), bet_step, if_neg (by rw [bl_len]; omega)]
theorem bet_put_size (a b : ByteArray) : (betw a b).put.size = b.size - betK a b - betN a b := by
  rw [← bl_len, bet_put, List.length_drop, List.length_take, bl_len]
  omega
theorem bet_self (a : ByteArray) : betw a a = ⟨a.size, a.size, ⟨#[]⟩⟩ := by
  have hn : betN a a = a.size := by unfold betN; rw [cpre_self, bl_len]
  have hk : betK a a = 0 := by have := betK_le a a; omega
  have hp := bet_put a a
  rw [hk, hn, Nat.sub_zero, ← bl_len, List.take_length, List.drop_length] at hp
  have hp' : (betw a a).put = ⟨#[]⟩ := bl_ext hp
  have : betw a a = ⟨(betw a a).fr, (betw a a).to, (betw a a).put⟩ := rfl
  rw [this, hp']
  simp only [betw, hn, hk, Nat.sub_zero]

end Go.Ed
