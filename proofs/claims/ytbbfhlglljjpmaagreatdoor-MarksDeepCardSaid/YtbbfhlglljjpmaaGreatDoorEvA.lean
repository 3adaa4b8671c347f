import Derived.WalkKit
import Derived.KernelRfl
namespace Go.Ev
open Go
set_option linter.unusedVariables false

/-! Tries over Nat -/
inductive Tr (α : Type) where
  | leaf
  | node (v : Option α) (l r : Tr α)

noncomputable def Tr.get {α : Type} (t : Tr α) : Nat → Option α :=
  Tr.rec (motive := fun _ => Nat → Option α) (fun _ => none) (fun v _ _ gl gr i => Nat.rec (motive := fun _ => Option α) v (fun k _ => Nat.rec (motive := fun _ => Option α) (gl (k / 2)) (fun _ _ => gr (k / 2)) (k % 2)) i) t
noncomputable def Tr.sing {α : Type} (f : Nat) : Nat → Option α → Tr α :=
  Nat.rec (motive := fun _ => Nat → Option α → Tr α) (fun _ _ => .leaf) (fun _ ih i x => Nat.rec (motive := fun _ => Tr α) (.node x .leaf .leaf) (fun k _ => Nat.rec (motive := fun _ => Tr α) (.node none (ih (k / 2) x) .leaf) (fun _ _ => .node none .leaf (ih (k / 2) x)) (k % 2)) i) f
noncomputable def Tr.set {α : Type} (t : Tr α) : Nat → Option α → Tr α :=
  Tr.rec (motive := fun _ => Nat → Option α → Tr α) (fun i x => Tr.sing (i + 1) i x) (fun v l r sl sr i x => Nat.rec (motive := fun _ => Tr α) (.node x l r) (fun k _ => Nat.rec (motive := fun _ => Tr α) (.node v (sl (k / 2) x) r) (fun _ _ => .node v l (sr (k / 2) x)) (k % 2)) i) t

section
variable {α : Type}
theorem Tr.get_leaf (i : Nat) : (Tr.leaf : Tr α).get i = none := rfl
theorem Tr.get_node_zero (v : Option α) (l r : Tr α) : (Tr.node v l r).get 0 = v := rfl
theorem Tr.get_node_even (v : Option α) (l r : Tr α) (k : Nat) (h : k % 2 = 0) : (Tr.node v l r).get (k + 1) = l.get (k / 2) := by
  show (Nat.rec (motive := fun _ => Option α) (l.get (k / 2)) (fun _ _ => r.get (k / 2)) (k % 2) : Option α) = _
  rw [h]; rfl
theorem Tr.get_node_odd (v : Option α) (l r : Tr α) (k : Nat) (h : k % 2 = 1) : (Tr.node v l r).get (k + 1) = r.get (k / 2) := by
  show (Nat.rec (motive := fun _ => Option α) (l.get (k / 2)) (fun _ _ => r.get (k / 2)) (k % 2) : Option α) = _
  rw [h]; rfl
theorem Tr.sing_zero (f : Nat) (x : Option α) : Tr.sing (f + 1) 0 x = .node x .leaf .leaf := rfl
theorem Tr.sing_even (f k : Nat) (x : Option α) (h : k % 2 = 0) : Tr.sing (f + 1) (k + 1) x = .node none (Tr.sing f (k / 2) x) .leaf := by
  show (Nat.rec (motive := fun _ => Tr α) (.node none (Tr.sing f (k / 2) x) .leaf) (fun _ _ => .node none .leaf (Tr.sing f (k / 2) x)) (k % 2) : Tr α) = _
  rw [h]; rfl
theorem Tr.sing_odd (f k : Nat) (x : Option α) (h : k % 2 = 1) : Tr.sing (f + 1) (k + 1) x = .node none .leaf (Tr.sing f (k / 2) x) := by
  show (Nat.rec (motive := fun _ => Tr α) (.node none (Tr.sing f (k / 2) x) .leaf) (fun _ _ => .node none .leaf (Tr.sing f (k / 2) x)) (k % 2) : Tr α) = _
  rw [h]; rfl
theorem Tr.set_leaf (i : Nat) (x : Option α) : (Tr.leaf : Tr α).set i x = Tr.sing (i + 1) i x := rfl
theorem Tr.set_node_zero (v : Option α) (l r : Tr α) (x : Option α) : (Tr.node v l r).set 0 x = .node x l r := rfl
theorem Tr.set_node_even (v : Option α) (l r : Tr α) (k : Nat) (x : Option α) (h : k % 2 = 0) : (Tr.node v l r).set (k + 1) x = .node v (l.set (k / 2) x) r := by
  show (Nat.rec (motive := fun _ => Tr α) (.node v (l.set (k / 2) x) r) (fun _ _ => .node v l (r.set (k / 2) x)) (k % 2) : Tr α) = _
  rw [h]; rfl
theorem Tr.set_node_odd (v : Option α) (l r : Tr α) (k : Nat) (x : Option α) (h : k % 2 = 1) : (Tr.node v l r).set (k + 1) x = .node v l (r.set (k / 2) x) := by
  show (Nat.rec (motive := fun _ => Tr α) (.node v (l.set (k / 2) x) r) (fun _ _ => .node v l (r.set (k / 2) x)) (k % 2) : Tr α) = _
  rw [h]; rfl

theorem Tr.get_sing (f : Nat) : ∀ (i j : Nat) (x : Option α), i < f → (Tr.sing f i x).get j = if j = i then x else none := by
  induction f with
  | zero => intro i j x h; omega
  | succ f ih =>
    intro i j x h
    cases i with
    | zero =>
      rw [Tr.sing_zero]
      cases j with
      | zero => rfl
      | succ j =>
        rw [if_neg (by omega)]
        rcases Nat.mod_two_eq_zero_or_one j with e | e
        · rw [Tr.get_node_even _ _ _ _ e]; rfl
        · rw [Tr.get_node_odd _ _ _ _ e]; rfl
    | succ k =>
      rcases Nat.mod_two_eq_zero_or_one k with e | e
      · rw [Tr.sing_even _ _ _ e]
        cases j with
        | zero => rw [if_neg (by omega)]; rfl
        | succ j =>
          rcases Nat.mod_two_eq_zero_or_one j with e' | e'
          · rw [Tr.get_node_even _ _ _ _ e', ih _ _ _ (by omega)]
            by_cases hh : j = k
            · rw [if_pos (by omega), if_pos (by omega)]
            · rw [if_neg (by omega), if_neg (by omega)]
          · rw [Tr.get_node_odd _ _ _ _ e', if_neg (by omega)]; rfl
      · rw [Tr.sing_odd _ _ _ e]
        cases j with
        | zero => rw [if_neg (by omega)]; rfl
        | succ j =>
          rcases Nat.mod_two_eq_zero_or_one j with e' | e'
          · rw [Tr.get_node_even _ _ _ _ e', if_neg (by omega)]; rfl
          · rw [Tr.get_node_odd _ _ _ _ e', ih _ _ _ (by omega)]
            by_cases hh : j = k
            · rw [if_pos (by omega), if_pos (by omega)]
            · rw [if_neg (by omega), if_neg (by omega)]

theorem Tr.get_set (t : Tr α) : ∀ (i j : Nat) (x : Option α), (t.set i x).get j = if j = i then x else t.get j := by
  induction t with
  | leaf =>
    intro i j x
    rw [Tr.set_leaf, Tr.get_sing _ _ _ _ (by omega)]; rfl
  | node v l r ihl ihr =>
    intro i j x
    cases i with
    | zero =>
      rw [Tr.set_node_zero]
      cases j with
      | zero => rfl
      | succ j =>
        rw [if_neg (by omega)]
        rcases Nat.mod_two_eq_zero_or_one j with e | e
        · rw [Tr.get_node_even _ _ _ _ e, Tr.get_node_even _ _ _ _ e]
        · rw [Tr.get_node_odd _ _ _ _ e, Tr.get_node_odd _ _ _ _ e]
    | succ k =>
      rcases Nat.mod_two_eq_zero_or_one k with e | e
      · rw [Tr.set_node_even _ _ _ _ _ e]
        cases j with
        | zero => rw [if_neg (by omega)]; rfl
        | succ j =>
          rcases Nat.mod_two_eq_zero_or_one j with e' | e'
          · rw [Tr.get_node_even _ _ _ _ e', ihl, Tr.get_node_even _ _ _ _ e']
            by_cases hh : j = k
            · rw [if_pos (by omega), if_pos (by omega)]
            · rw [if_neg (by omega), if_neg (by omega)]
          · rw [Tr.get_node_odd _ _ _ _ e', if_neg (by omega), Tr.get_node_odd _ _ _ _ e']
      · rw [Tr.set_node_odd _ _ _ _ _ e]
        cases j with
        | zero => rw [if_neg (by omega)]; rfl
        | succ j =>
          rcases Nat.mod_two_eq_zero_or_one j with e' | e'
          · rw [Tr.get_node_even _ _ _ _ e', if_neg (by omega), Tr.get_node_even _ _ _ _ e']
          · rw [Tr.get_node_odd _ _ _ _ e', ihr, Tr.get_node_odd _ _ _ _ e']
            by_cases hh : j = k
            · rw [if_pos (by omega), if_pos (by omega)]
            · rw [if_neg (by omega), if_neg (by omega)]
end

/-! Bytes as one number -/
def bval : List UInt8 → Nat
  | [] => 0
  | x :: xs => x.toNat * 256 ^ xs.length + bval xs

theorem bval_lt (l : List UInt8) : bval l < 256 ^ l.length := by
  induction l with
  | nil => simp [bval]
  | cons x xs ih =>
    have hx : x.toNat < 256 := x.toNat_lt
    simp only [bval, List.length_cons, Nat.pow_succ]
    have : x.toNat * 256 ^ xs.length ≤ 255 * 256 ^ xs.length := Nat.mul_le_mul_right _ (by omega)
    omega
theorem bval_append (a b : List UInt8) : bval (a ++ b) = bval a * 256 ^ b.length + bval b := by
  induction a with
  | nil => simp [bval]
  | cons x xs ih =>
    simp only [List.cons_append, bval, ih, List.length_append, Nat.pow_add, Nat.add_mul, Nat.mul_assoc, Nat.add_assoc]
theorem bval_inj : ∀ (a b : List UInt8), a.length = b.length → bval a = bval b → a = b := by
  intro a
  induction a with
  | nil => intro b h _; cases b <;> simp_all
  | cons x xs ih =>
    intro b h e
    cases b with
    | nil => simp at h
    | cons y ys =>
      simp only [List.length_cons, Nat.add_right_cancel_iff] at h
      simp only [bval, h] at e
      have h1 := bval_lt xs
      have h2 := bval_lt ys
      rw [h] at h1
      have hpos : 0 < 256 ^ ys.length := Nat.pow_pos (by omega)
      have hd : x.toNat = y.toNat := by
        have e1 : (x.toNat * 256 ^ ys.length + bval xs) / 256 ^ ys.length = x.toNat := by
          rw [Nat.mul_comm, Nat.mul_add_div hpos, Nat.div_eq_of_lt h1]; rfl
        have e2 : (y.toNat * 256 ^ ys.length + bval ys) / 256 ^ ys.length = y.toNat := by
          rw [Nat.mul_comm, Nat.mul_add_div hpos, Nat.div_eq_of_lt h2]; rfl
        rw [← e1, ← e2, e]
      have hx : x = y := UInt8.toNat_inj.1 hd
      subst hx
      rw [ih ys h (by omega)]
theorem bval_drop (l : List UInt8) (k : Nat) (h : k ≤ l.length) : bval (l.drop k) = bval l % 256 ^ (l.length - k) := by
  have e := bval_append (l.take k) (l.drop k)
  rw [List.take_append_drop, List.length_drop] at e
  have hl := bval_lt (l.drop k)
  rw [List.length_drop] at hl
  rw [e, Nat.mul_comm, Nat.mul_add_mod, Nat.mod_eq_of_lt hl]
theorem bval_take (l : List UInt8) (k : Nat) (h : k ≤ l.length) : bval (l.take k) = bval l / 256 ^ (l.length - k) := by
  have e := bval_append (l.take k) (l.drop k)
  rw [List.take_append_drop, List.length_drop] at e
  have hl := bval_lt (l.drop k)
  rw [List.length_drop] at hl
  rw [e, Nat.mul_comm, Nat.mul_add_div (Nat.pow_pos (by omega)), Nat.div_eq_of_lt hl]; rfl
theorem bval_get (l : List UInt8) (k : Nat) (h : k < l.length) : (l[k]).toNat = bval l / 256 ^ (l.length - 1 - k) % 256 := by
  have h1 := bval_take l (k + 1) h
  have h2 : l.take (k + 1) = l.take k ++ [l[k]] := by rw [List.take_succ_eq_append_getElem h]
  rw [show l.length - 1 - k = l.length - (k + 1) from by omega, ← h1, h2, bval_append]
  have hx : (l[k]).toNat < 256 := (l[k]).toNat_lt
  simp only [List.length_cons, List.length_nil, bval, Nat.pow_zero, Nat.mul_one, Nat.add_zero]
  omega

/-! Lexicographic order -/
theorem bytesLess_val : ∀ (a b : List UInt8) (m : Nat), a.length ≤ m → b.length ≤ m →
    Op.bytesLess a b = (decide (bval a * 256 ^ (m - a.length) < bval b * 256 ^ (m - b.length)) || (decide (bval a * 256 ^ (m - a.length) = bval b * 256 ^ (m - b.length)) && decide (a.length < b.length))) := by
  intro a
  induction a with
  | nil =>
    intro b m _ hb
    cases b with
    | nil => simp [Op.bytesLess, bval]
    | cons y ys =>
      simp only [Op.bytesLess, bval, List.length_nil, List.length_cons, Nat.zero_mul]
      by_cases h : 0 < (y.toNat * 256 ^ ys.length + bval ys) * 256 ^ (m - (ys.length + 1))
      · simp [h]
      · simp; omega
  | cons x xs ih =>
    intro b m ha hb
    cases b with
    | nil => simp [Op.bytesLess, bval]
    | cons y ys =>
      simp only [List.length_cons] at ha hb
      obtain ⟨m, rfl⟩ : ∃ k, m = k + 1 := ⟨m - 1, by omega⟩
      have ih' := ih ys m (by omega) (by omega)
      simp only [Op.bytesLess, bval, List.length_cons, Nat.add_sub_add_right]
      rw [ih']
      have ea : (x.toNat * 256 ^ xs.length + bval xs) * 256 ^ (m - xs.length) = x.toNat * 256 ^ m + bval xs * 256 ^ (m - xs.length) := by
        rw [Nat.add_mul, Nat.mul_assoc, ← Nat.pow_add, show xs.length + (m - xs.length) = m from by omega]
      have eb : (y.toNat * 256 ^ ys.length + bval ys) * 256 ^ (m - ys.length) = y.toNat * 256 ^ m + bval ys * 256 ^ (m - ys.length) := by
        rw [Nat.add_mul, Nat.mul_assoc, ← Nat.pow_add, show ys.length + (m - ys.length) = m from by omega]
      have la : bval xs * 256 ^ (m - xs.length) < 256 ^ m := by
        have h1 := bval_lt xs
        calc bval xs * 256 ^ (m - xs.length) < 256 ^ xs.length * 256 ^ (m - xs.length) := Nat.mul_lt_mul_of_pos_right h1 (Nat.pow_pos (by omega))
          _ = 256 ^ m := by rw [← Nat.pow_add, show xs.length + (m - xs.length) = m from by omega]
      have lb : bval ys * 256 ^ (m - ys.length) < 256 ^ m := by
        have h1 := bval_lt ys
        calc bval ys * 256 ^ (m - ys.length) < 256 ^ ys.length * 256 ^ (m - ys.length) := Nat.mul_lt_mul_of_pos_right h1 (Nat.pow_pos (by omega))
          _ = 256 ^ m := by rw [← Nat.pow_add, show ys.length + (m - ys.length) = m from by omega]
      rw [ea, eb]
      generalize bval xs * 256 ^ (m - xs.length) = p at *
      generalize bval ys * 256 ^ (m - ys.length) = q at *
      generalize 256 ^ m = M at *
      have hxy : decide (x < y) = decide (x.toNat < y.toNat) := by rw [decide_eq_decide]; exact UInt8.lt_iff_toNat_lt
      have hxe : (x == y) = decide (x.toNat = y.toNat) := by
        rw [Bool.eq_iff_iff]; simp [← UInt8.toNat_inj]
      rw [hxy, hxe]
      generalize x.toNat = u
      generalize y.toNat = v
      rcases Nat.lt_trichotomy u v with h | h | h
      · have : (u + 1) * M ≤ v * M := Nat.mul_le_mul_right _ h
        rw [Nat.add_mul] at this
        have e1 : decide (u < v) = true := by simpa using h
        have e2 : decide (u * M + p < v * M + q) = true := by simp; omega
        rw [e1, e2]; simp
      · subst h
        simp
      · have : (v + 1) * M ≤ u * M := Nat.mul_le_mul_right _ h
        rw [Nat.add_mul] at this
        have e1 : decide (u < v) = false := by simp; omega
        have e2 : decide (u = v) = false := by simp; omega
        have e3 : decide (u * M + p < v * M + q) = false := by simp; omega
        have e4 : decide (u * M + p = v * M + q) = false := by simp; omega
        rw [e1, e2, e3, e4]; simp

/-! Values -/
mutual
inductive AV where
  | b (x : Bool)
  | i (k : IntKind) (n : Int)
  | s (len n : Nat)
  | p (blk off : Nat)
  | nilp
  | sl (blk off len cap : Nat)
  | slr (blk off len eo : Nat)
  | nils
  | f (fn : Nat) (c : AVs)
  | fm (fn : Nat) (c : AVs)
  | nilf
  | agg (l : AVs)
  | tup (l : AVs)
  | nili
  | ifc (t : Nat) (v : AV)
  | opq (i : Nat)
  | bm (m : String) (t : Nat) (v : AV)
inductive AVs where
  | nil
  | cons (h : AV) (t : AVs)
end

/-- Where blocks lie, and how many elements they may bear. -/
abbrev Env := Nat → Option (Nat × Nat)
def Env.Ext (σ σ' : Env) : Prop := ∀ b p, σ b = some p → σ' b = some p
theorem Env.Ext.refl (σ : Env) : σ.Ext σ := fun _ _ h => h
theorem Env.Ext.trans {a b c : Env} (h : a.Ext b) (k : b.Ext c) : a.Ext c := fun x p e => k x p (h x p e)

theorem slr_off {o' off len : Nat} (h : o' = off ∨ len = 0 ∧ off = 18446744073709551616) (h0 : 0 < len) : o' = off := by rcases h with h | ⟨h, _⟩ <;> omega
theorem slr_off2 {o' off len : Nat} (h : o' = off ∨ len = 0 ∧ off = 18446744073709551616) (h0 : Nat.beq off 18446744073709551616 = false) : o' = off := by
  rcases h with h | ⟨_, h⟩
  · exact h
  · subst h; cases h0
/-- Numbers that are not known while evaluating. -/
class Theta where
  th : Nat → Int
variable [Theta]

mutual
def VR (σ : Env) : AV → Value → Prop
  | .b x, v => v = .bool x
  | .i k n, v => v = .int k n
  | .s len n, v => ∃ bs : ByteArray, v = .string bs ∧ bs.size = len ∧ bval bs.data.toList = n
  | .p b off, v => ∃ r κ, σ b = some (r, κ) ∧ v = .pointer (some ⟨r, off, none⟩)
  | .nilp, v => v = .pointer none
  | .sl b off len cap, v => ∃ r κ, σ b = some (r, κ) ∧ v = .slice (some ⟨r, off, none⟩) len cap
  | .slr b off len eo, v => ∃ r κ o', σ b = some (r, κ) ∧ eo + len ≤ κ ∧ (o' = off ∨ len = 0 ∧ off = 18446744073709551616) ∧ v = .slice (some ⟨r, o', none⟩) len (κ - eo)
  | .nils, v => v = .slice none 0 0
  | .f fn c, v => ∃ vs : Array Value, v = .func (.func fn) #[] vs ∧ VRs σ c vs.toList
  | .fm fn c, v => ∃ vs : Array Value, v = .func (.func fn) vs #[] ∧ VRs σ c vs.toList
  | .nilf, v => v = .nilFunc
  | .agg l, v => ∃ vs : Array Value, v = .agg vs ∧ VRs σ l vs.toList
  | .tup l, v => ∃ vs : Array Value, v = .tuple vs ∧ VRs σ l vs.toList
  | .nili, v => v = .nilIface
  | .ifc t a, v => ∃ x, v = .iface t x ∧ VR σ a x
  | .opq i, v => v = .int .i64 (Theta.th i)
  | .bm m t a, v => ∃ x, v = .func (.method m) #[.iface t x] #[] ∧ VR σ a x
def VRs (σ : Env) : AVs → List Value → Prop
  | .nil, l => l = []
  | .cons h t, l => ∃ x xs, l = x :: xs ∧ VR σ h x ∧ VRs σ t xs
end

mutual
theorem VR.ext {σ σ' : Env} (h : σ.Ext σ') : ∀ (a : AV) (v : Value), VR σ a v → VR σ' a v
  | .b x, v, e => by simp only [VR] at e ⊢; exact e
  | .i k n, v, e => by simp only [VR] at e ⊢; exact e
  | .s len n, v, e => by simp only [VR] at e ⊢; exact e
  | .p b off, v, e => by simp only [VR] at e ⊢; obtain ⟨r, κ, e1, e2⟩ := e; exact ⟨r, κ, h _ _ e1, e2⟩
  | .nilp, v, e => by simp only [VR] at e ⊢; exact e
  | .sl b off len cap, v, e => by simp only [VR] at e ⊢; obtain ⟨r, κ, e1, e2⟩ := e; exact ⟨r, κ, h _ _ e1, e2⟩
  | .slr b off len eo, v, e => by simp only [VR] at e ⊢; obtain ⟨r, κ, o', e1, e2⟩ := e; exact ⟨r, κ, o', h _ _ e1, e2⟩
  | .nils, v, e => by simp only [VR] at e ⊢; exact e
  | .f fn c, v, e => by simp only [VR] at e ⊢; obtain ⟨vs, e1, e2⟩ := e; exact ⟨vs, e1, VRs.ext h c _ e2⟩
  | .fm fn c, v, e => by simp only [VR] at e ⊢; obtain ⟨vs, e1, e2⟩ := e; exact ⟨vs, e1, VRs.ext h c _ e2⟩
  | .nilf, v, e => by simp only [VR] at e ⊢; exact e
  | .agg l, v, e => by simp only [VR] at e ⊢; obtain ⟨vs, e1, e2⟩ := e; exact ⟨vs, e1, VRs.ext h l _ e2⟩
  | .tup l, v, e => by simp only [VR] at e ⊢; obtain ⟨vs, e1, e2⟩ := e; exact ⟨vs, e1, VRs.ext h l _ e2⟩
  | .nili, v, e => by simp only [VR] at e ⊢; exact e
  | .ifc t a, v, e => by simp only [VR] at e ⊢; obtain ⟨x, e1, e2⟩ := e; exact ⟨x, e1, VR.ext h a _ e2⟩
  | .opq i, v, e => by simp only [VR] at e ⊢; exact e
  | .bm m t a, v, e => by simp only [VR] at e ⊢; obtain ⟨x, e1, e2⟩ := e; exact ⟨x, e1, VR.ext h a _ e2⟩
theorem VRs.ext {σ σ' : Env} (h : σ.Ext σ') : ∀ (a : AVs) (l : List Value), VRs σ a l → VRs σ' a l
  | .nil, l, e => by simp only [VRs] at e ⊢; exact e
  | .cons x xs, l, e => by simp only [VRs] at e ⊢; obtain ⟨y, ys, e1, e2, e3⟩ := e; exact ⟨y, ys, e1, VR.ext h x _ e2, VRs.ext h xs _ e3⟩
end
end Go.Ev
