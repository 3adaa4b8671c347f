import Derived.Test.YtbbfhlglljjpmaaGreatDoorEvO
namespace Go.Ev
open Go
set_option linter.unusedVariables false
variable [Theta]
set_option linter.unusedSectionVars false
set_option linter.unusedSimpArgs false

/-- What one operation of a drawn region did. -/
structure DR where
  lo : Nat
  hi : Nat
  W : Nat
  cls : Nat
  rb : Nat
  H : Tr Blk
  d : Option Nat
  v : AV

noncomputable def cpR (H' : Tr Blk) (n : Nat) : Nat → Tr Blk → Tr Blk :=
  Nat.rec (motive := fun _ => Nat → Tr Blk → Tr Blk) (fun _ H => H) (fun _ ih b H => ih (b + 1) (H.set b (H'.get b))) n
noncomputable def cpB (H' : Tr Blk) (fuel : Nat) : Nat → Tr Blk → Tr Blk :=
  Nat.rec (motive := fun _ => Nat → Tr Blk → Tr Blk) (fun _ H => H) (fun _ ih W H => match Nat.beq W 0 with
    | true => H
    | false => ih (W % 2 ^ Nat.log2 W) (H.set (Nat.log2 W) (H'.get (Nat.log2 W)))) fuel
noncomputable def apD (r : DR) (H : Tr Blk) : Tr Blk := cpB r.H r.W r.W (cpR r.H (r.hi - r.lo) r.lo H)
def DR.touch (r : DR) (b : Nat) : Prop := (r.lo ≤ b ∧ b < r.hi) ∨ r.W.testBit b = true

theorem cpR_get (H' : Tr Blk) : ∀ (n lo : Nat) (H : Tr Blk) (b : Nat), (cpR H' n lo H).get b = if lo ≤ b ∧ b < lo + n then H'.get b else H.get b
  | 0, lo, H, b => by rw [if_neg (by omega)]; rfl
  | n + 1, lo, H, b => by
    have e : cpR H' (n + 1) lo H = cpR H' n (lo + 1) (H.set lo (H'.get lo)) := rfl
    rw [e, cpR_get H' n, Tr.get_set]
    by_cases h1 : lo + 1 ≤ b ∧ b < lo + 1 + n
    · rw [if_pos h1, if_pos (by omega)]
    · rw [if_neg h1]
      by_cases h2 : b = lo
      · subst h2; rw [if_pos rfl, if_pos (by omega)]
      · rw [if_neg h2, if_neg (by omega)]

theorem testBit_log2 {W : Nat} (h : W ≠ 0) (b : Nat) : W.testBit b = (decide (b = W.log2) || (W % 2 ^ W.log2).testBit b) := by
  rw [Nat.testBit_mod_two_pow]
  by_cases hb : b = W.log2
  · subst hb; simp [Nat.testBit_log2 h]
  · by_cases hlt : b < W.log2
    · simp [hb, hlt]
    · have hge : W.log2 < b := by omega
      have : W < 2 ^ b := by
        have h1 : W < 2 ^ (W.log2 + 1) := Nat.lt_log2_self
        exact Nat.lt_of_lt_of_le h1 (Nat.pow_le_pow_right (by omega) hge)
      simp [hb, hlt, Nat.testBit_lt_two_pow this]

theorem cpB_get (H' : Tr Blk) : ∀ (fuel W : Nat) (H : Tr Blk) (b : Nat), W ≤ fuel → (cpB H' fuel W H).get b = if W.testBit b = true then H'.get b else H.get b
  | 0, W, H, b, h => by
    obtain rfl : W = 0 := by omega
    simp; rfl
  | fuel + 1, W, H, b, h => by
    have e : cpB H' (fuel + 1) W H = (match Nat.beq W 0 with
      | true => H
      | false => cpB H' fuel (W % 2 ^ Nat.log2 W) (H.set (Nat.log2 W) (H'.get (Nat.log2 W)))) := rfl
    rw [e]
    split
    · rename_i h0
      have h0 := Nat.eq_of_beq_eq_true h0
      subst h0
      simp
    · rename_i h0
      have h0 : W ≠ 0 := fun e => by subst e; cases h0
      have hlt : W % 2 ^ Nat.log2 W < W := by
        have h1 : W % 2 ^ Nat.log2 W < 2 ^ Nat.log2 W := Nat.mod_lt _ (Nat.pow_pos (by omega))
        have h2 : 2 ^ Nat.log2 W ≤ W := Nat.log2_self_le h0
        omega
      rw [cpB_get H' fuel _ _ _ (by omega), Tr.get_set, testBit_log2 h0]
      by_cases h1 : (W % 2 ^ W.log2).testBit b = true
      · simp [h1]
      · by_cases h2 : b = W.log2
        · simp [h1, h2]
        · simp [h1, h2]

theorem apD_get (r : DR) (H : Tr Blk) (hle : r.lo ≤ r.hi) (b : Nat) : (r.touch b → (apD r H).get b = r.H.get b) ∧ (¬ r.touch b → (apD r H).get b = H.get b) := by
  unfold apD DR.touch
  rw [cpB_get _ _ _ _ _ (Nat.le_refl _), cpR_get]
  constructor
  · rintro (h | h)
    · rw [if_pos (by omega : r.lo ≤ b ∧ b < r.lo + (r.hi - r.lo))]; simp
    · rw [if_pos h]
  · intro h
    rw [if_neg (fun hh => h (.inr hh)), if_neg (fun hh => h (.inl (by omega)))]

noncomputable def foldH (l : List DR) : Nat → (Nat → Bool) → Tr Blk → Tr Blk :=
  List.rec (motive := fun _ => Nat → (Nat → Bool) → Tr Blk → Tr Blk) (fun _ _ H => H) (fun r _ ih i S H => match S i with
    | true => ih (i + 1) S (apD r H)
    | false => ih (i + 1) S H) l
noncomputable def foldT (l : List DR) : Nat → (Nat → Bool) → Tr AV → Tr AV :=
  List.rec (motive := fun _ => Nat → (Nat → Bool) → Tr AV → Tr AV) (fun _ _ T => T) (fun r _ ih i S T => match S i with
    | true => ih (i + 1) S (putT T r.d r.v)
    | false => ih (i + 1) S T) l
noncomputable def eraseL (l : List Nat) (T : Tr AV) : Tr AV :=
  List.rec (motive := fun _ => Tr AV) T (fun t _ ih => ih.set t none) l
theorem eraseL_get : ∀ (l : List Nat) (T : Tr AV) (t : Nat), (eraseL l T).get t = if t ∈ l then none else T.get t
  | [], T, t => by simp; rfl
  | x :: l, T, t => by
    have e : eraseL (x :: l) T = (eraseL l T).set x none := rfl
    rw [e, Tr.get_set, eraseL_get l]
    by_cases h : t = x
    · simp [h]
    · simp [h]

/-- The frame and the heap that an operation sees. -/
noncomputable def baseT (o : DOp) (prev : List DR) (T0 : Tr AV) : Tr AV := eraseL o.er (foldT prev 0 (fun i => o.bef.testBit i) T0)
noncomputable def baseH (cls rb : Nat) (o : DOp) (prev : List DR) (H0 : Tr Blk) : Tr Blk := match cls with
  | 0 => .leaf
  | 1 => Tr.leaf.set rb ((foldH prev 0 (fun i => o.bef.testBit i) H0).get rb)
  | _ => foldH prev 0 (fun i => o.bef.testBit i) H0
/-- How much of the heap an operation reads. -/
noncomputable def clsOf (T : Tr AV) (ai : AI) : Nat × Nat := match ai with
  | .bin _ _ x _ => match evO T x with
    | some (.p _ _) => (2, 0)
    | _ => (0, 0)
  | .mv _ => (0, 0) | .pick _ _ _ => (0, 0) | .un _ _ => (0, 0)
  | .ld1 a => match evO T a with
    | some (.p b _) => (1, b)
    | _ => (0, 0)
  | .ldn _ a => match evO T a with
    | some (.p b _) => (1, b)
    | _ => (0, 0)
  | .fa _ _ => (0, 0) | .fl1 _ _ => (0, 0) | .fln _ _ _ => (0, 0) | .ia _ _ _ => (0, 0) | .iaa _ _ _ _ => (0, 0) | .ixs _ _ => (0, 0) | .ixa _ _ _ _ _ => (0, 0)
  | .sls _ _ _ => (0, 0) | .sll _ _ _ _ _ => (0, 0) | .sla _ _ _ _ _ _ => (0, 0) | .box _ _ => (0, 0) | .alc _ _ => (0, 0) | .bld _ _ => (0, 0) | .bsl _ _ _ _ _ => (0, 0)
  | .ext _ _ => (0, 0) | .bls _ => (0, 0) | .bll _ => (0, 0) | .bcap _ => (0, 0) | .bmn _ _ => (0, 0) | .bmx _ _ => (0, 0) | .mks _ _ _ _ _ _ => (0, 0)
  | .cvi _ _ => (0, 0) | .cid _ => (0, 0) | .nilc _ _ => (0, 0) | .mkf _ _ => (0, 0) | .mki _ _ => (0, 0) | .mkb _ _ => (0, 0) | .bni _ _ => (0, 0)
  | _ => (2, 0)

def rdOK (r : DR) (W : Nat) : Bool := match r.cls with
  | 0 => true
  | 1 => !(W.testBit r.rb)
  | _ => Nat.beq W 0
def pairOK (r q : DR) : Bool :=
  (match Nat.beq (r.W &&& q.W) 0 with | false => false | true => match Nat.beq (r.W >>> q.lo % 2 ^ (q.hi - q.lo)) 0 with | false => false | true => match Nat.beq (q.W >>> r.lo % 2 ^ (r.hi - r.lo)) 0 with
    | false => false
    | true => match rdOK r q.W with
      | false => false
      | true => rdOK q r.W)
noncomputable def pairsOK (l : List DR) (r : DR) (bef : Nat) : Nat → Bool :=
  List.rec (motive := fun _ => Nat → Bool) (fun _ => true) (fun q _ ih i => match bef.testBit i with
    | true => ih (i + 1)
    | false => match pairOK q r with
      | true => ih (i + 1)
      | false => false) l

noncomputable def evD (call : CallT) (n0 : Nat) (T0 : Tr AV) (H0 : Tr Blk) (l : List DOp) : List DR → Nat → Option (List DR) :=
  List.rec (motive := fun _ => List DR → Nat → Option (List DR)) (fun prev _ => some prev) (fun o _ ih prev nxt =>
    match wants (baseT o prev T0) o.op.g with
    | none => none
    | some false => match pairsOK prev ⟨nxt, nxt, 0, 0, 0, .leaf, o.op.d, .tup .nil⟩ o.bef 0 with
      | true => ih (prev ++ [⟨nxt, nxt, 0, 0, 0, .leaf, o.op.d, .tup .nil⟩]) nxt
      | false => none
    | some true => match evOp call n0 o.op.ai (baseT o prev T0) { H := baseH (clsOf (baseT o prev T0) o.op.ai).1 (clsOf (baseT o prev T0) o.op.ai).2 o prev H0, nxt := nxt, W := 0 } with
      | none => none
      | some (v, s') => match pairsOK prev ⟨nxt, s'.nxt, s'.W % 2 ^ nxt, (clsOf (baseT o prev T0) o.op.ai).1, (clsOf (baseT o prev T0) o.op.ai).2, s'.H, o.op.d, v⟩ o.bef 0 with
        | true => ih (prev ++ [⟨nxt, s'.nxt, s'.W % 2 ^ nxt, (clsOf (baseT o prev T0) o.op.ai).1, (clsOf (baseT o prev T0) o.op.ai).2, s'.H, o.op.d, v⟩]) s'.nxt
        | false => none) l
noncomputable def orW (l : List DR) (W : Nat) : Nat := List.rec (motive := fun _ => Nat) W (fun r _ ih => ih ||| r.W) l
noncomputable def lastHi (l : List DR) : Nat → Nat := List.rec (motive := fun _ => Nat → Nat) (fun n => n) (fun r _ ih _ => ih r.hi) l
/-- A region that draws its order. -/
noncomputable def evDraw (call : CallT) (n0 : Nat) (l : List DOp) (T : Tr AV) (s : St) : Option (Tr AV × St) := match evD call n0 T s.H l [] s.nxt with
  | none => none
  | some rs => some (foldT rs 0 (fun _ => true) T, { H := foldH rs 0 (fun _ => true) s.H, nxt := lastHi rs s.nxt, W := orW rs s.W })

/-! Compiling -/
/-- Edges lead back, and 'bef' is closed. -/
def befOK (ops : Array Oper) (bef : List Nat) : Bool :=
  (List.range ops.size).all fun j => match ops[j]? with
    | none => false
    | some o => (o.after.toList.all fun e => !Region.binds .any e || (decide (e.on < j))) &&
      ((List.range ops.size).all fun i => !((bef.getD j 0).testBit i) || (decide (i < j) && Nat.beq (bef.getD i 0 ||| bef.getD j 0) (bef.getD j 0) && o.after.toList.any fun e => Region.binds .any e && (decide (e.on = i) || (bef.getD e.on 0).testBit i)))
/-- No two operations that are not ordered write one temporary; 'er' holds those that others may write. -/
def erOf (ops : Array Oper) (bef : List Nat) (j : Nat) : List Nat :=
  (List.range ops.size).filterMap fun i => if i = j || (bef.getD j 0).testBit i || (bef.getD i 0).testBit j then none else (ops[i]?).bind (·.dst)
def dstOK (ops : Array Oper) (bef : List Nat) : Bool :=
  (List.range ops.size).all fun j => (List.range ops.size).all fun i => i == j || (bef.getD j 0).testBit i || (bef.getD i 0).testBit j || (match (ops[i]?).bind (·.dst), (ops[j]?).bind (·.dst) with
    | some x, some y => x != y
    | _, _ => true)
def compD (P : Program) (nt : Nat) (ops : Array Oper) (bef : List Nat) : Nat → List AOp → List DOp
  | _, [] => []
  | j, a :: l => ⟨a, bef.getD j 0, erOf ops bef j⟩ :: compD P nt ops bef (j + 1) l
def compC (P : Program) (nt : Nat) : Code → Option AC
  | .skip => some .skip
  | .ret => some .ret
  | .exit n => some (.exit n)
  | .goto n => some (.goto n)
  | .label n => some (.lbl n)
  | .region _ ops false => (compL P nt ops ops.toList).map .reg
  | .region _ ops true => if befOK ops (Region.before ops).toList && dstOK ops (Region.before ops).toList && Region.noSelect ops then (compL P nt ops ops.toList).map fun l => .dreg (compD P nt ops (Region.before ops).toList 0 l) else some .bad
  | .seq a b => match compC P nt a, compC P nt b with
    | some a, some b => some (.seq a b)
    | _, _ => none
  | .cond c a b => match oo P c, compC P nt a, compC P nt b with
    | some c, some a, some b => some (.cond c a b)
    | _, _, _ => none
  | .block n c => (compC P nt c).map (.blk n)
  | .loop c => (compC P nt c).map .loop
  | .scope c => (compC P nt c).map .scope
  | _ => some .bad
end Go.Ev
