import Derived.Test.YtkiabjhbblmneaaBase
open Go Go.RowKit Go.Kb
namespace Go.Ed

structure Ed where
  fr : Int
  to : Int
  put : ByteArray

def encE (x : Ed) : List Value := [.int .i64 x.fr, .int .i64 x.to, .string x.put]
def cellsE (l : List Ed) : List Value := l.flatMap encE
def stepE (b : List UInt8) (x : Ed) : List UInt8 := b.take x.fr.toNat ++ x.put.data.toList ++ b.drop x.to.toNat
def appE : List UInt8 → List Ed → List UInt8 × Int
  | b, [] => (b, 0)
  | b, x :: l => if x.fr < 0 ∨ x.to < x.fr ∨ x.to > b.length then ([], 1) else if (stepE b x).length > 8000 then ([], 5) else appE (stepE b x) l

theorem encE_length (x : Ed) : (encE x).length = 3 := rfl
theorem cellsE_length (l : List Ed) : (cellsE l).length = l.length * 3 := by
  induction l with
  | nil => rfl
  | cons x l ih => simp only [cellsE, List.flatMap_cons, List.length_append, List.length_cons] at ih ⊢; rw [ih, encE_length]; omega
theorem cellsE_get (l : List Ed) : ∀ (k : Nat) (x : Ed), l[k]? = some x → ∀ f, f < 3 → (cellsE l)[k * 3 + f]? = (encE x)[f]? := by
  induction l with
  | nil => intro k x h; simp at h
  | cons y l ih =>
    intro k x h f hf
    cases k with
    | zero =>
      simp at h
      subst h
      simp only [cellsE, List.flatMap_cons]
      rw [List.getElem?_append_left (by rw [encE_length]; omega)]
      simp
    | succ k =>
      simp only [List.getElem?_cons_succ] at h
      have := ih k x h f hf
      simp only [cellsE, List.flatMap_cons] at this ⊢
      rw [List.getElem?_append_right (by rw [encE_length]; omega), encE_length, show (k + 1) * 3 + f - 3 = k * 3 + f by omega]
      exact this

theorem read3 {w : World} {A : Option Addr} {n c : Nat} {l : List Ed} (h : RV w 3 A n c (cellsE l)) (k : Nat) (hk : k < n) :
    ∃ ad x, A = some ad ∧ l[k]? = some x ∧ w.cell? (ad.add (k * 3)) = some (.int .i64 x.fr) ∧ w.cell? ⟨(ad.add (k * 3)).block, (ad.add (k * 3)).off + 1, none⟩ = some (.int .i64 x.to) ∧ w.cell? ⟨(ad.add (k * 3)).block, (ad.add (k * 3)).off + 2, none⟩ = some (.string x.put) := by
  have hl : l.length = n := by have := h.len; rw [cellsE_length] at this; omega
  cases A with
  | none => have := (h.nil rfl).1; omega
  | some ad =>
    have hx : l[k]? = some l[k] := List.getElem?_eq_getElem (by omega)
    have g : ∀ f, 0 < f → (⟨(ad.add (k * 3)).block, (ad.add (k * 3)).off + f, none⟩ : Addr) = ad.add (k * 3 + f) := by
      intro f hf
      unfold Addr.add
      by_cases h0 : k * 3 = 0
      · rw [if_pos h0, h0, if_neg (by omega)]; simp
      · rw [if_neg h0, if_neg (by omega)]; simp [Nat.add_assoc]
    refine ⟨ad, l[k], rfl, hx, ?_, ?_, ?_⟩
    · exact h.cell ad rfl (k * 3 + 0) _ (by rw [cellsE_get l k _ hx 0 (by omega)]; rfl)
    · rw [g 1 (by omega)]; exact h.cell ad rfl (k * 3 + 1) _ (by rw [cellsE_get l k _ hx 1 (by omega)]; rfl)
    · rw [g 2 (by omega)]; exact h.cell ad rfl (k * 3 + 2) _ (by rw [cellsE_get l k _ hx 2 (by omega)]; rfl)

theorem drop_at (l : List Ed) (k : Nat) (x : Ed) (h : l[k]? = some x) : l.drop k = x :: l.drop (k + 1) := by
  obtain ⟨hk, rfl⟩ := List.getElem?_eq_some_iff.1 h
  exact List.drop_eq_getElem_cons hk
theorem app_bad {l : List Ed} {k : Nat} {x : Ed} (h : l[k]? = some x) (bs : List UInt8) (hb : x.fr < 0 ∨ x.to < x.fr ∨ x.to > bs.length) : appE bs (l.drop k) = ([], 1) := by
  rw [drop_at l k x h, appE, if_pos hb]
theorem app_long {l : List Ed} {k : Nat} {x : Ed} (h : l[k]? = some x) (bs : List UInt8) (hb : ¬ (x.fr < 0 ∨ x.to < x.fr ∨ x.to > bs.length)) (hl : (stepE bs x).length > 8000) : appE bs (l.drop k) = ([], 5) := by
  rw [drop_at l k x h, appE, if_neg hb, if_pos hl]
theorem app_next {l : List Ed} {k : Nat} {x : Ed} (h : l[k]? = some x) (bs : List UInt8) (hb : ¬ (x.fr < 0 ∨ x.to < x.fr ∨ x.to > bs.length)) (hl : ¬ (stepE bs x).length > 8000) : appE bs (l.drop k) = appE (stepE bs x) (l.drop (k + 1)) := by
  rw [drop_at l k x h, appE, if_neg hb, if_neg hl]
theorem app_end {l : List Ed} {k : Nat} (h : l.length ≤ k) (bs : List UInt8) : appE bs (l.drop k) = (bs, 0) := by
  rw [List.drop_of_length_le h, appE]
theorem step_cells (bs : List UInt8) (x : Ed) : (stepE bs x).map eB = (bs.map eB).take x.fr.toNat ++ x.put.data.toList.map eB ++ (bs.map eB).drop x.to.toNat := by
  simp [stepE]

def stepS (t : ByteArray) (x : Ed) : ByteArray := t.extract 0 x.fr.toNat ++ x.put ++ t.extract x.to.toNat t.size
theorem stepS_list (t : ByteArray) (x : Ed) : (stepS t x).data.toList = stepE t.data.toList x := by
  unfold stepS stepE
  rw [bl_app, bl_app, bl_extract, bl_extract, ← bl_len t, List.take_length, List.drop_zero]
theorem stepS_size (t : ByteArray) (x : Ed) : (stepS t x).size = (stepE t.data.toList x).length := by
  rw [← stepS_list t x]; rfl
theorem stepE_len (t : ByteArray) (x : Ed) : (stepE t.data.toList x).length = min x.fr.toNat t.size + x.put.size + (t.size - x.to.toNat) := by
  unfold stepE
  rw [List.length_append, List.length_append, List.length_take, List.length_drop, bl_len, bl_len]
theorem stepE_le (b : List UInt8) (x : Ed) : (stepE b x).length ≤ b.length + x.put.size + b.length := by
  unfold stepE
  rw [List.length_append, List.length_append, List.length_take, List.length_drop, bl_len]
  omega


/-! ### Between -/
def cpre : List UInt8 → List UInt8 → Nat
  | a :: as, b :: bs => if a = b then cpre as bs + 1 else 0
  | _, _ => 0
theorem cpre_le (A B : List UInt8) : cpre A B ≤ A.length ∧ cpre A B ≤ B.length := by
  induction A generalizing B with
  | nil => simp [cpre]
  | cons a as ih =>
    cases B with
    | nil => simp [cpre]
    | cons b bs =>
      simp only [cpre, List.length_cons]
      have := ih bs
      split <;> omega
def CP (A B : List UInt8) (i : Nat) : Prop := cpre A B = i + cpre (A.drop i) (B.drop i)
theorem CP_zero (A B : List UInt8) : CP A B 0 := by simp [CP]
theorem CP_next {A B : List UInt8} {i : Nat} (h : CP A B i) (x : UInt8) (h1 : A[i]? = some x) (h2 : B[i]? = some x) : CP A B (i + 1) := by
  unfold CP at h ⊢
  obtain ⟨ha, rfl⟩ := List.getElem?_eq_some_iff.1 h1
  obtain ⟨hb, hxb⟩ := List.getElem?_eq_some_iff.1 h2
  rw [List.drop_eq_getElem_cons ha, List.drop_eq_getElem_cons hb, cpre, if_pos hxb.symm] at h
  omega
theorem CP_ne {A B : List UInt8} {i : Nat} (h : CP A B i) (x y : UInt8) (h1 : A[i]? = some x) (h2 : B[i]? = some y) (hne : ¬ x = y) : cpre A B = i := by
  unfold CP at h
  obtain ⟨ha, rfl⟩ := List.getElem?_eq_some_iff.1 h1
  obtain ⟨hb, rfl⟩ := List.getElem?_eq_some_iff.1 h2
  rw [List.drop_eq_getElem_cons ha, List.drop_eq_getElem_cons hb, cpre, if_neg hne] at h
  omega
theorem CP_end {A B : List UInt8} {i : Nat} (h : CP A B i) (hi : A.length ≤ i ∨ B.length ≤ i) : cpre A B = i := by
  unfold CP at h
  rcases hi with hi | hi
  · rw [List.drop_of_length_le hi] at h
    simp [cpre] at h
    exact h
  · rw [List.drop_of_length_le hi] at h
    rw [h]
    cases A.drop i <;> simp [cpre]
theorem CP_le {A B : List UInt8} {i : Nat} (h : CP A B i) : i ≤ cpre A B := by unfold CP at h; omega

def betN (a b : ByteArray) : Nat := cpre a.data.toList b.data.toList
def betK (a b : ByteArray) : Nat := min (cpre a.data.toList.reverse b.data.toList.reverse) (min a.size b.size - betN a b)
def betw (a b : ByteArray) : Ed := ⟨betN a b, ((a.size - betK a b : Nat) : Int), b.extract (betN a b) (b.size - betK a b)⟩
theorem betN_le (a b : ByteArray) : betN a b ≤ a.size ∧ betN a b ≤ b.size := cpre_le _ _
theorem betK_le (a b : ByteArray) : betK a b + betN a b ≤ a.size ∧ betK a b + betN a b ≤ b.size := by
  have := betN_le a b
  unfold betK
  omega
theorem bl_get (a : ByteArray) (i : Nat) (h : i < a.size) : a.data.toList[i]? = some a[i] := by
  rw [List.getElem?_eq_getElem (by exact h)]
  rfl
theorem bl_rget (a : ByteArray) (i : Nat) (h : i < a.size) (j : Nat) (hj : j = a.size - 1 - i) (h' : j < a.size) : a.data.toList.reverse[i]? = some a[j] := by
  rw [List.getElem?_reverse (by exact h), bl_len, ← hj]
  exact bl_get a j h'


/-! ### near -/
def wit (at_ n : Int) : Int := if at_.tmod n < 0 then at_.tmod n + n else at_.tmod n
theorem wit_range (a n : Int) (h : 0 < n) : 0 ≤ wit a n ∧ wit a n < n := by
  unfold wit
  have h1 := Int.tmod_lt_of_pos a h
  have h2 : -n < a.tmod n := by
    have := Int.tmod_lt_of_pos (-a) h
    rw [Int.neg_tmod] at this
    omega
  split <;> omega
def near1 (n : Int) (x : Ed) : Ed := ⟨min (wit x.fr (n + 1)) (wit x.to (n + 1)), max (wit x.fr (n + 1)) (wit x.to (n + 1)), x.put.extract 0 (min x.put.size 50)⟩
def near2 (n : Int) (x : Ed) : Int := n - ((near1 n x).to - (near1 n x).fr) + (near1 n x).put.size
def nearE : Nat → Int → List Ed → List Ed
  | 0, _, _ => []
  | _, _, [] => []
  | f + 1, n, x :: l => near1 n x :: nearE f (near2 n x) l
theorem near1_size (n : Int) (x : Ed) : (near1 n x).put.size ≤ 50 := by
  unfold near1
  rw [← bl_len, bl_extract, List.length_drop, List.length_take]
  omega
theorem near1_range (n : Int) (x : Ed) (h : 0 ≤ n) : 0 ≤ (near1 n x).fr ∧ (near1 n x).fr ≤ (near1 n x).to ∧ (near1 n x).to ≤ n := by
  have h1 := wit_range x.fr (n + 1) (by omega)
  have h2 := wit_range x.to (n + 1) (by omega)
  unfold near1
  simp only
  omega
theorem near2_range (n : Int) (x : Ed) (h : 0 ≤ n) : 0 ≤ near2 n x ∧ near2 n x ≤ n + 50 := by
  have h1 := near1_range n x h
  have h2 := near1_size n x
  unfold near2
  omega
theorem near_next (f : Nat) (n : Int) (l : List Ed) (k : Nat) (x : Ed) (h : l[k]? = some x) : nearE (f + 1) n (l.drop k) = near1 n x :: nearE f (near2 n x) (l.drop (k + 1)) := by
  rw [drop_at l k x h, nearE]
theorem near_end (f : Nat) (n : Int) (l : List Ed) (k : Nat) (h : f = 0 ∨ l.length ≤ k) : nearE f n (l.drop k) = [] := by
  rcases h with rfl | h
  · cases l.drop k <;> rfl
  · rw [List.drop_of_length_le h]
    cases f <;> rfl
theorem cellsE_append (a b : List Ed) : cellsE (a ++ b) = cellsE a ++ cellsE b := by simp [cellsE]
theorem cellsE_one (l : List Ed) : ∀ u ∈ cellsE l, u.oneCell' = true := by
  intro u hu
  simp only [cellsE, List.mem_flatMap, encE] at hu
  obtain ⟨x, _, hx⟩ := hu
  simp at hx
  rcases hx with rfl | rfl | rfl <;> rfl

end Go.Ed
