import Derived.Test.YtkiabjhbblmneaaBase
import Derived.Deep.Slices
import Derived.Deep.Fields
import Derived.ChangeSame
import Derived.ProofKit
open Go Go.ChangeShapes Go.WideShapes Go.RowKit
namespace Go.Kb

theorem flat_get {α : Type} (rows : List (List α)) (k : Nat) (hk : ∀ r ∈ rows, r.length = k) : ∀ (i : Nat) (r : List α), rows[i]? = some r → ∀ j, j < k → rows.flatten[i * k + j]? = r[j]? := by
  induction rows with
  | nil => intro i r h; simp at h
  | cons r0 rows ih =>
    intro i r h j hj
    have h0 := hk r0 (by simp)
    cases i with
    | zero =>
      simp at h
      subst h
      rw [List.flatten_cons, List.getElem?_append_left (by omega)]
      simp
    | succ i =>
      simp only [List.getElem?_cons_succ] at h
      rw [List.flatten_cons, List.getElem?_append_right (by rw [h0, Nat.succ_mul]; omega), h0, show (i + 1) * k + j - k = i * k + j by rw [Nat.succ_mul]; omega]
      exact ih (fun r hr => hk r (by simp [hr])) i r h j hj
theorem flat_len {α : Type} (rows : List (List α)) (k : Nat) (hk : ∀ r ∈ rows, r.length = k) : rows.flatten.length = rows.length * k := by
  induction rows with
  | nil => simp
  | cons r0 rows ih =>
    rw [List.flatten_cons, List.length_append, hk r0 (by simp), ih (fun r hr => hk r (by simp [hr])), List.length_cons, Nat.succ_mul]
    omega

theorem add_add' (ad : Addr) (i j : Nat) : (ad.add i).add j = ad.add (i + j) := by
  unfold Addr.add
  by_cases hi : i = 0
  · subst hi; simp
  · by_cases hj : j = 0
    · subst hj; simp
    · rw [if_neg hi, if_neg hj, if_neg (by omega)]; simp [Nat.add_assoc]

/-- An argument's slice: its elements' cells, row by row. -/
theorem open_rows {H : Type} {enc : TypeId × Value → H} {P : Program} {w : World} {t e : TypeId} (ht : P.underlying t = some (.slice e)) (k : Nat) (hC : P.cellsOf e = k) (Q : List Value → Prop)
    (hQ : ∀ (n : Nat) (cs : List Value) (y : DataW H × List MemPlace), DataW.trod enc P w 0 (fun _ => true) true n e cs = some y → Q cs)
    {a : Option Addr} {len cap : Nat} {d : DataW H} {p : List MemPlace} (h : DataW.Trod enc P w 0 (fun _ => true) true t (.slice a len cap) d p) :
    ∃ rows : List (List Value), rows.length = len ∧ (∀ r ∈ rows, Q r ∧ r.length = k) ∧ len ≤ cap ∧ cap ≤ maxLen ∧ (a = none → len = 0 ∧ cap = 0) ∧
      ∀ ad, a = some ad → ∀ j u, rows.flatten[j]? = some u → w.cell? (ad.add j) = some u := by
  obtain ⟨fuel, hf⟩ := h
  rcases Go.Deep.open_slice ht hf with ⟨hcs, _⟩ | ⟨ad, len', cap', m, n, D, Pl, hcs, _, hl, hm, hmm, _, hall⟩
  · simp [Value.cells] at hcs
    obtain ⟨rfl, rfl, rfl⟩ := hcs
    exact ⟨[], rfl, (fun r hr => by cases hr), Nat.le_refl _, by simp [maxLen], (fun _ => ⟨rfl, rfl⟩), (fun _ e => by cases e)⟩
  · simp [Value.cells] at hcs
    obtain ⟨rfl, rfl, rfl⟩ := hcs
    have hmc : m = cap := by simpa using hmm
    rw [hC] at hall
    have hch : ∀ i : Nat, ∃ cs : List Value, i < len → (w.cells? 0 (ad.add (i * k)) k = some cs ∧ Q cs) := by
      intro i
      by_cases hi : i < len
      · obtain ⟨cs', h1, h2⟩ := hall i (by omega)
        exact ⟨cs', fun _ => ⟨h1, hQ _ _ _ h2⟩⟩
      · exact ⟨[], fun h => absurd h hi⟩
    obtain ⟨f, hfs⟩ := Classical.axiomOfChoice hch
    have hlen : ∀ r ∈ (List.range len).map f, r.length = k := by
      intro r hr
      obtain ⟨i, hi, rfl⟩ := List.mem_map.1 hr
      exact (World.cells?_some (hfs i (List.mem_range.1 hi)).1).2.1
    refine ⟨(List.range len).map f, by simp, ?_, hl, hm, (fun e => by cases e), ?_⟩
    · intro r hr
      refine ⟨?_, hlen r hr⟩
      obtain ⟨i, hi, rfl⟩ := List.mem_map.1 hr
      exact (hfs i (List.mem_range.1 hi)).2
    · intro ad' e j u hu
      injection e with e
      subst e
      have hj : j < len * k := by
        have := (List.getElem?_eq_some_iff.1 hu).1
        rw [flat_len _ k hlen] at this
        simpa using this
      have hk0 : 0 < k := by
        rcases Nat.eq_zero_or_pos k with h0 | h0
        · subst h0; omega
        · exact h0
      have hdm := Nat.div_add_mod j k
      have hq : j / k < len := Nat.div_lt_of_lt_mul (by rw [Nat.mul_comm]; exact hj)
      have hr : j % k < k := Nat.mod_lt _ hk0
      have e1 : j = j / k * k + j % k := by rw [Nat.mul_comm]; exact hdm.symm
      rw [e1, flat_get _ k hlen (j / k) (f (j / k)) (by rw [List.getElem?_map, List.getElem?_range hq]; rfl) _ hr] at hu
      have := (World.cells?_some (hfs (j / k) hq).1).2.2 (j % k) hr
      rw [add_add', ← e1] at this
      rw [this]
      exact hu

theorem field_cell {H : Type} {enc : TypeId × Value → H} {P : Program} {w : World} {e : TypeId} {fs : Array Field} (he : P.underlying e = some (.struct fs)) {n : Nat} {cs : List Value} {y : DataW H × List MemPlace}
    (h : DataW.trod enc P w 0 (fun _ => true) true n e cs = some y) (j : Nat) (f : Field) (hj : fs[j]? = some f) : ∃ m z, DataW.trod enc P w 0 (fun _ => true) true m f.type ((cs.drop f.offset).take (P.cellsOf f.type)) = some z := by
  obtain ⟨xs, m, _, _, _, hl, hg⟩ := DataW.trod_struct he h
  have := hg j f hj
  have hlt : j < xs.length := by rw [hl]; exact (Array.getElem?_eq_some_iff.1 hj).1
  rw [List.getElem?_eq_getElem hlt] at this
  exact ⟨m, _, this⟩

end Go.Kb
