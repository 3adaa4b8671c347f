import Derived.Test.YtkiabjhbblmneaaEditPure2
open Go Go.RowKit Go.Kb
namespace Go.Ed

theorem cellsE_take (l : List Ed) : ∀ k, cellsE (l.take k) = (cellsE l).take (k * 3) := by
  induction l with
  | nil => intro k; simp [cellsE]
  | cons x l ih =>
    intro k
    cases k with
    | zero => simp [cellsE]
    | succ k =>
      have := ih k
      simp only [cellsE, List.take_succ_cons, List.flatMap_cons] at this ⊢
      rw [this, show (k + 1) * 3 = (encE x).length + k * 3 by rw [encE_length]; omega, List.take_length_add_append]
theorem cellsE_drop (l : List Ed) : ∀ k, cellsE (l.drop k) = (cellsE l).drop (k * 3) := by
  induction l with
  | nil => intro k; simp [cellsE]
  | cons x l ih =>
    intro k
    cases k with
    | zero => simp
    | succ k =>
      have := ih k
      simp only [cellsE, List.drop_succ_cons, List.flatMap_cons] at this ⊢
      rw [this, show (k + 1) * 3 = (encE x).length + k * 3 by rw [encE_length]; omega, List.drop_append, List.drop_of_length_le (l := encE x) (by omega), List.nil_append, Nat.add_sub_cancel_left]

theorem appE_len (l : List Ed) : ∀ b : List UInt8, b.length ≤ 8000 → (appE b l).1.length ≤ 8000 := by
  induction l with
  | nil => intro b h; exact h
  | cons x l ih =>
    intro b h
    rw [appE]
    split
    · exact Nat.zero_le _
    · split
      · exact Nat.zero_le _
      · exact ih _ (by omega)

/-- Parts of near edits. -/
theorem parts (s : List UInt8) (NE : List Ed) (K : Nat) (h0 : (appE s NE).2 = 0) :
    (appE s (NE.take K)).2 = 0 ∧ appE (appE s (NE.take K)).1 (NE.drop K) = appE s NE := by
  have e : NE.take K ++ NE.drop K = NE := List.take_append_drop K NE
  have h1 : (appE s (NE.take K)).2 = 0 := appE_pre (NE.take K) (NE.drop K) s (by rw [e]; exact h0)
  exact ⟨h1, by rw [← appE_append (NE.take K) (NE.drop K) s h1, e]⟩
theorem parts_bad (s : List UInt8) (NE : List Ed) (K : Nat) (h1 : (appE s (NE.take K)).2 = 0) (z : Ed) (hz : z.to > (appE s (NE.take K)).1.length) :
    appE s (NE.take K ++ z :: NE.drop K) = ([], 1) := by
  rw [appE_append _ _ _ h1, appE, if_pos (.inr (.inr hz))]

end Go.Ed
