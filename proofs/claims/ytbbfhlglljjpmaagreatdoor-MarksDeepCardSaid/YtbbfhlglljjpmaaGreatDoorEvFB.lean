import Derived.Test.YtbbfhlglljjpmaaGreatDoorEvFA
namespace Go.Ev
open Go
set_option linter.unusedVariables false

/-! The fast evaluator's operations are the evaluator's. -/
theorem pathF_succ (f k : Nat) : pathF (f + 1) (k + 1) = Nat.rec (motive := fun _ => Pa) (.l (pathF f (k / 2))) (fun _ _ => .r (pathF f (k / 2))) (k % 2) := rfl
theorem pathF_eq : ∀ (i f : Nat), i < f → pathF f i = pathOf i := by
  intro i
  induction i using Nat.strongRecOn with
  | _ i ih =>
    intro f hf
    obtain ⟨f, rfl⟩ : ∃ g, f = g + 1 := ⟨f - 1, by omega⟩
    cases i with
    | zero => rfl
    | succ k =>
      show pathF (f + 1) (k + 1) = pathF (k + 1 + 1) (k + 1)
      rw [pathF_succ, pathF_succ, ih (k / 2) (by omega) f (by omega), ih (k / 2) (by omega) (k + 1) (by omega)]
theorem path_even (k : Nat) (h : k % 2 = 0) : pathOf (k + 1) = .l (pathOf (k / 2)) := by
  show pathF (k + 1 + 1) (k + 1) = _
  rw [pathF_succ, h, pathF_eq _ _ (by omega)]
  rfl
theorem path_odd (k : Nat) (h : k % 2 = 1) : pathOf (k + 1) = .r (pathOf (k / 2)) := by
  show pathF (k + 1 + 1) (k + 1) = _
  rw [pathF_succ, h, pathF_eq _ _ (by omega)]
  rfl
theorem sing_fuel {α : Type} (x : Option α) : ∀ (i f : Nat), i < f → Tr.sing f i x = (Tr.leaf : Tr α).set i x := by
  intro i
  induction i using Nat.strongRecOn with
  | _ i ih =>
    intro f hf
    obtain ⟨f, rfl⟩ : ∃ g, f = g + 1 := ⟨f - 1, by omega⟩
    cases i with
    | zero => rfl
    | succ k =>
      rw [Tr.set_leaf]
      rcases Nat.mod_two_eq_zero_or_one k with e | e
      · rw [Tr.sing_even _ _ _ e, Tr.sing_even _ _ _ e, ih (k / 2) (by omega) f (by omega), ih (k / 2) (by omega) (k + 1) (by omega)]
      · rw [Tr.sing_odd _ _ _ e, Tr.sing_odd _ _ _ e, ih (k / 2) (by omega) f (by omega), ih (k / 2) (by omega) (k + 1) (by omega)]
theorem leaf_set_even {α : Type} (k : Nat) (x : Option α) (h : k % 2 = 0) : (Tr.leaf : Tr α).set (k + 1) x = .node none ((Tr.leaf : Tr α).set (k / 2) x) .leaf := by
  rw [Tr.set_leaf, Tr.sing_even _ _ _ h, sing_fuel _ _ _ (by omega)]
theorem leaf_set_odd {α : Type} (k : Nat) (x : Option α) (h : k % 2 = 1) : (Tr.leaf : Tr α).set (k + 1) x = .node none .leaf ((Tr.leaf : Tr α).set (k / 2) x) := by
  rw [Tr.set_leaf, Tr.sing_odd _ _ _ h, sing_fuel _ _ _ (by omega)]
theorem getA_eq : ∀ (i : Nat) (T : Tr AV), getA i T = T.get i := by
  intro i
  induction i using Nat.strongRecOn with
  | _ i ih =>
    intro T
    cases i with
    | zero => cases T <;> rfl
    | succ k =>
      rcases Nat.mod_two_eq_zero_or_one k with e | e
      · show (getPA (pathOf (k + 1))).get T = _
        rw [path_even k e]
        show getA (k / 2) (leftA T) = _
        rw [ih _ (by omega)]
        cases T with
        | leaf => rfl
        | node v l r => rw [Tr.get_node_even _ _ _ _ e]; rfl
      · show (getPA (pathOf (k + 1))).get T = _
        rw [path_odd k e]
        show getA (k / 2) (rightA T) = _
        rw [ih _ (by omega)]
        cases T with
        | leaf => rfl
        | node v l r => rw [Tr.get_node_odd _ _ _ _ e]; rfl
theorem getB_eq : ∀ (i : Nat) (T : Tr Blk), getB i T = T.get i := by
  intro i
  induction i using Nat.strongRecOn with
  | _ i ih =>
    intro T
    cases i with
    | zero => cases T <;> rfl
    | succ k =>
      rcases Nat.mod_two_eq_zero_or_one k with e | e
      · show (getPB (pathOf (k + 1))).get T = _
        rw [path_even k e]
        show getB (k / 2) (leftB T) = _
        rw [ih _ (by omega)]
        cases T with
        | leaf => rfl
        | node v l r => rw [Tr.get_node_even _ _ _ _ e]; rfl
      · show (getPB (pathOf (k + 1))).get T = _
        rw [path_odd k e]
        show getB (k / 2) (rightB T) = _
        rw [ih _ (by omega)]
        cases T with
        | leaf => rfl
        | node v l r => rw [Tr.get_node_odd _ _ _ _ e]; rfl
theorem setA_eq : ∀ (i : Nat) (v : Option AV) (T : Tr AV), setA i v T = T.set i v := by
  intro i
  induction i using Nat.strongRecOn with
  | _ i ih =>
    intro v T
    cases i with
    | zero => cases T <;> rfl
    | succ k =>
      rcases Nat.mod_two_eq_zero_or_one k with e | e
      · show (setPA (pathOf (k + 1))).set v T = _
        rw [path_even k e]
        cases T with
        | leaf =>
          show Tr.node none (setA (k / 2) v .leaf) .leaf = _
          rw [ih _ (by omega), leaf_set_even _ _ e]
        | node w l r =>
          show Tr.node w (setA (k / 2) v l) r = _
          rw [ih _ (by omega), Tr.set_node_even _ _ _ _ _ e]
      · show (setPA (pathOf (k + 1))).set v T = _
        rw [path_odd k e]
        cases T with
        | leaf =>
          show Tr.node none .leaf (setA (k / 2) v .leaf) = _
          rw [ih _ (by omega), leaf_set_odd _ _ e]
        | node w l r =>
          show Tr.node w l (setA (k / 2) v r) = _
          rw [ih _ (by omega), Tr.set_node_odd _ _ _ _ _ e]
theorem setB_eq : ∀ (i : Nat) (v : Option Blk) (T : Tr Blk), setB i v T = T.set i v := by
  intro i
  induction i using Nat.strongRecOn with
  | _ i ih =>
    intro v T
    cases i with
    | zero => cases T <;> rfl
    | succ k =>
      rcases Nat.mod_two_eq_zero_or_one k with e | e
      · show (setPB (pathOf (k + 1))).set v T = _
        rw [path_even k e]
        cases T with
        | leaf =>
          show Tr.node none (setB (k / 2) v .leaf) .leaf = _
          rw [ih _ (by omega), leaf_set_even _ _ e]
        | node w l r =>
          show Tr.node w (setB (k / 2) v l) r = _
          rw [ih _ (by omega), Tr.set_node_even _ _ _ _ _ e]
      · show (setPB (pathOf (k + 1))).set v T = _
        rw [path_odd k e]
        cases T with
        | leaf =>
          show Tr.node none .leaf (setB (k / 2) v .leaf) = _
          rw [ih _ (by omega), leaf_set_odd _ _ e]
        | node w l r =>
          show Tr.node w l (setB (k / 2) v r) = _
          rw [ih _ (by omega), Tr.set_node_odd _ _ _ _ _ e]
theorem evOf_eq (o : O) (T : Tr AV) : evOf o T = evO T o := by
  cases o with
  | t n => exact getA_eq n T
  | c v => rfl
  | g n => rfl
  | f n => rfl
theorem evOsf_eq (T : Tr AV) : ∀ (l : List O) (k : AVs → RO), evOsf l T k = match evOs T l with
    | none => none
    | some vs => k vs
  | [], k => rfl
  | o :: l, k => by
    show onV (evOf o T) (fun v => evOsf l T fun vs => k (.cons v vs)) = match (match evO T o with
      | none => none
      | some v => match evOs T l with
        | none => none
        | some vs => some (.cons v vs)) with
      | none => none
      | some vs => k vs
    rw [evOf_eq]
    cases evO T o with
    | none => rfl
    | some v =>
      show evOsf l T (fun vs => k (.cons v vs)) = _
      rw [evOsf_eq T l]
      cases evOs T l <;> rfl
theorem lenA'_eq : ∀ l : AVs, lenA' l = l.len
  | .nil => rfl
  | .cons a t => by show lenA' t + 1 = t.len + 1; rw [lenA'_eq t]
theorem oneV_eq (a : AV) : oneV a = a.one := by cases a <;> rfl
theorem oneA_eq : ∀ l : AVs, oneA l = l.one
  | .nil => rfl
  | .cons a t => by
    show (Bool.rec false (oneA t) (oneV a) : Bool) = (a.one && t.one)
    rw [oneA_eq t, oneV_eq]
    cases a.one <;> rfl
theorem cellsF_eq (a : AV) : cellsF a = cellsOf a := by cases a <;> rfl
theorem nthF_eq : ∀ (i : Nat) (l : AVs), nthF i l = nth l i
  | 0, .nil => rfl
  | 0, .cons a t => rfl
  | i + 1, .nil => by
    show nthF i .nil = none
    rw [nthF_eq i .nil]; rfl
  | i + 1, .cons a t => nthF_eq i t
theorem dropF_eq : ∀ (i : Nat) (l : AVs), dropF i l = dropA i l
  | 0, l => by cases l <;> rfl
  | i + 1, .nil => by
    show dropF i .nil = .nil
    rw [dropF_eq i .nil]; cases i <;> rfl
  | i + 1, .cons a t => dropF_eq i t
theorem takeF_eq : ∀ (i : Nat) (l : AVs) (k : AVs → RO), takeF i l k = match takeA i l with
    | none => none
    | some r => k r
  | 0, l, k => by cases l <;> rfl
  | i + 1, .nil, k => rfl
  | i + 1, .cons a t, k => by
    show takeF i t (fun r => k (.cons a r)) = match (match takeA i t with
      | none => none
      | some r => some (.cons a r)) with
      | none => none
      | some r => k r
    rw [takeF_eq i t]
    cases takeA i t <;> rfl
theorem ldC_s (t : Tr AV) (n off : Nat) : ldC t (n + 1) off = match t.get off with
    | none => none
    | some a => match ldC t n (off + 1) with
      | none => none
      | some l => some (.cons a l) := rfl
theorem ldF_eq (c : Tr AV) : ∀ (n off : Nat) (k : AVs → RO), ldF n off c k = match ldC c n off with
    | none => none
    | some l => k l
  | 0, off, k => rfl
  | n + 1, off, k => by
    show onV (getA off c) (fun a => ldF n (off + 1) c fun l => k (.cons a l)) = _
    rw [ldC_s, getA_eq]
    cases c.get off with
    | none => rfl
    | some a =>
      show ldF n (off + 1) c (fun l => k (.cons a l)) = _
      rw [ldF_eq c n]
      cases ldC c n (off + 1) <;> rfl
theorem stF_eq : ∀ (l : AVs) (off : Nat) (t : Tr AV), stF l off t = stC l off t
  | .nil, off, t => rfl
  | .cons a l, off, t => by
    show stF l (off + 1) (setA off (some a) t) = stC l (off + 1) (t.set off (some a))
    rw [setA_eq, stF_eq l]
theorem ikEq_eq (k k' : IntKind) : ikEq k k' = decide (k = k') := by cases k <;> cases k' <;> rfl
theorem ifS_eq {p : Prop} [Decidable p] (x : Option AV) : ifS (decide p) x = if p then x else none := by
  by_cases h : p
  · rw [if_pos h, decide_eq_true h]; rfl
  · rw [if_neg h, decide_eq_false h]; rfl
theorem limF_eq (k : IntKind) : limF k = lim k := by cases k <;> rfl
theorem wrF_eq (k : IntKind) (n : Int) : wrF k n = wr k n := by
  cases n with
  | negSucc m => rfl
  | ofNat m =>
    show (Bool.rec (k.wrap (.ofNat m)) (.ofNat m) (Nat.ble (m + 1) (limF k)) : Int) = match Nat.ble (m + 1) (lim k) with
      | true => .ofNat m
      | false => k.wrap (.ofNat m)
    rw [limF_eq]
    cases Nat.ble (m + 1) (lim k) <;> rfl
theorem addF_eq (a b : Int) : addF a b = a + b := by cases a <;> cases b <;> rfl
theorem mulF_eq (a b : Int) : mulF a b = a * b := by cases a <;> cases b <;> rfl
theorem subF_eq (a b : Int) : subF a b = a - b := by
  cases a with
  | negSucc m => rfl
  | ofNat m =>
    cases b with
    | ofNat n =>
      show (Bool.rec (Int.negSucc (n - m - 1)) (Int.ofNat (m - n)) (Nat.ble n m) : Int) = _
      cases h : Nat.ble n m with
      | true =>
        have := Nat.le_of_ble_eq_true h
        show Int.ofNat (m - n) = Int.ofNat m - Int.ofNat n
        simp only [Int.ofNat_eq_natCast]; omega
      | false =>
        have : ¬ n ≤ m := fun hh => by rw [Nat.ble_eq_true_of_le hh] at h; cases h
        show Int.negSucc (n - m - 1) = Int.ofNat m - Int.ofNat n
        simp only [Int.ofNat_eq_natCast, Int.negSucc_eq]; omega
    | negSucc n =>
      show Int.ofNat (m + (n + 1)) = Int.ofNat m - Int.negSucc n
      simp only [Int.ofNat_eq_natCast, Int.negSucc_eq]; omega
theorem ieqF_eq (a b : Int) : ieqF a b = ieq a b := by cases a <;> cases b <;> rfl
theorem ileF_eq (a b : Int) : ileF a b = ile a b := by cases a <;> cases b <;> rfl
theorem notF_eq (b : Bool) : notF b = !b := by cases b <;> rfl
theorem iOp_eq (op : BinOp) (k : IntKind) (a : Int) (k' : IntKind) (b : Int) : iOp op k a k' b = match op with
    | .shl => shiftBin .shl k a b
    | .shr => shiftBin .shr k a b
    | op => if k = k' then intBin op k a b else none := by
  cases op
  case shl => rfl
  case shr => rfl
  case add => show ifS (ikEq k k') (some (.i k (wrF k (addF a b)))) = if k = k' then _ else none; rw [ikEq_eq, ifS_eq, wrF_eq, addF_eq]; rfl
  case sub => show ifS (ikEq k k') (some (.i k (wrF k (subF a b)))) = if k = k' then _ else none; rw [ikEq_eq, ifS_eq, wrF_eq, subF_eq]; rfl
  case mul => show ifS (ikEq k k') (some (.i k (wrF k (mulF a b)))) = if k = k' then _ else none; rw [ikEq_eq, ifS_eq, wrF_eq, mulF_eq]; rfl
  case eql => show ifS (ikEq k k') (some (.b (ieqF a b))) = if k = k' then _ else none; rw [ikEq_eq, ifS_eq, ieqF_eq]; rfl
  case neq => show ifS (ikEq k k') (some (.b (notF (ieqF a b)))) = if k = k' then _ else none; rw [ikEq_eq, ifS_eq, notF_eq, ieqF_eq]; rfl
  case lss => show ifS (ikEq k k') (some (.b (notF (ileF b a)))) = if k = k' then _ else none; rw [ikEq_eq, ifS_eq, notF_eq, ileF_eq]; rfl
  case leq => show ifS (ikEq k k') (some (.b (ileF a b))) = if k = k' then _ else none; rw [ikEq_eq, ifS_eq, ileF_eq]; rfl
  case gtr => show ifS (ikEq k k') (some (.b (notF (ileF a b)))) = if k = k' then _ else none; rw [ikEq_eq, ifS_eq, notF_eq, ileF_eq]; rfl
  case geq => show ifS (ikEq k k') (some (.b (ileF b a))) = if k = k' then _ else none; rw [ikEq_eq, ifS_eq, ileF_eq]; rfl
  all_goals
    show ifS (ikEq k k') (intBin _ k a b) = if k = k' then _ else none
    rw [ikEq_eq, ifS_eq]
theorem seqF_eq (l1 n1 l2 n2 : Nat) : seqF l1 n1 l2 n2 = seq l1 n1 l2 n2 := by
  show (Bool.rec false (Nat.beq n1 n2) (Nat.beq l1 l2) : Bool) = match Nat.beq l1 l2 with
    | true => Nat.beq n1 n2
    | false => false
  cases Nat.beq l1 l2 <;> rfl
theorem sOp_eq (op : BinOp) (l1 n1 l2 n2 : Nat) : sOp op l1 n1 l2 n2 = strBin op l1 n1 l2 n2 := by
  cases op
  case add =>
    show ifS (Nat.ble (l1 + l2) 9223372036854775807) (some (.s (l1 + l2) (n1 * 256 ^ l2 + n2))) = match Nat.ble (l1 + l2) 9223372036854775807 with
      | true => some (.s (l1 + l2) (n1 * 256 ^ l2 + n2))
      | false => none
    cases Nat.ble (l1 + l2) 9223372036854775807 <;> rfl
  case eql => show some (AV.b (seqF l1 n1 l2 n2)) = some (.b (seq l1 n1 l2 n2)); rw [seqF_eq]
  case neq => show some (AV.b (notF (seqF l1 n1 l2 n2))) = some (.b (!(seq l1 n1 l2 n2))); rw [seqF_eq, notF_eq]
  all_goals rfl
theorem binF_eq (x : AV) (op : BinOp) (ek : EK) (s : St) (y : AV) : binF x op ek s y = evBin op ek s x y := by
  cases x
  case i k a =>
    cases y
    case i k' b => show iOp op k a k' b = _; rw [iOp_eq]; rfl
    all_goals rfl
  case s l n =>
    cases y
    case s l' n' => exact sOp_eq op l n l' n'
    all_goals rfl
  all_goals rfl
theorem unF_eq (op : UnOp) (x : AV) : unF op x = evUn op x := by
  cases op <;> cases x <;> try rfl
  rename_i b; show some (AV.b (notF b)) = _; rw [notF_eq]; rfl
theorem offF_eq (c l off esz : Nat) : offF c l off esz = match Nat.beq c l with | true => off | false => off + l * esz := by
  show (Bool.rec (off + l * esz) off (Nat.beq c l) : Nat) = _
  cases Nat.beq c l <;> rfl
theorem slF_eq (v : AV) (esz l h : Nat) (m : Option Nat) : slF v esz l h m = evSlL esz v l h m := by
  cases v
  case sl b off len cap =>
    cases m with
    | none =>
      show ifS (Nat.ble l h) (ifS (Nat.ble h cap) (some (.sl b (offF cap l off esz) (h - l) (cap - l)))) = match Nat.ble l h with
        | true => match Nat.ble h cap with
          | true => some (.sl b (match Nat.beq cap l with | true => off | false => off + l * esz) (h - l) (cap - l))
          | false => none
        | false => none
      rw [offF_eq]
      cases Nat.ble l h with
      | false => rfl
      | true => cases Nat.ble h cap <;> rfl
    | some m =>
      show ifS (Nat.ble l h) (ifS (Nat.ble h m) (ifS (Nat.ble m cap) (some (.sl b (offF m l off esz) (h - l) (m - l))))) = match Nat.ble l h with
        | true => match Nat.ble h m with
          | true => match Nat.ble m cap with
            | true => some (.sl b (match Nat.beq m l with | true => off | false => off + l * esz) (h - l) (m - l))
            | false => none
          | false => none
        | false => none
      rw [offF_eq]
      cases Nat.ble l h with
      | false => rfl
      | true =>
        cases Nat.ble h m with
        | false => rfl
        | true => cases Nat.ble m cap <;> rfl
  case slr b off len eo =>
    cases m with
    | none =>
      show ifS (Nat.ble l h) (ifS (Nat.ble h len) (Nat.rec (motive := fun _ => Option AV) (some (.slr b off h eo)) (fun k _ => Bool.rec (motive := fun _ => Option AV) (some (.slr b 18446744073709551616 0 (eo + (k + 1)))) (some (.slr b (off + (k + 1) * esz) (h - (k + 1)) (eo + (k + 1)))) (Nat.ble (k + 1 + 1) len)) l)) = match Nat.ble l h with
        | true => match Nat.ble h len with
          | true => match l with
            | 0 => some (.slr b off h eo)
            | k + 1 => match Nat.blt (k + 1) len with
              | true => some (.slr b (off + (k + 1) * esz) (h - (k + 1)) (eo + (k + 1)))
              | false => some (.slr b 18446744073709551616 0 (eo + (k + 1)))
          | false => none
        | false => none
      cases Nat.ble l h with
      | false => rfl
      | true =>
        cases Nat.ble h len with
        | false => rfl
        | true =>
          cases l with
          | zero => rfl
          | succ k =>
            show Bool.rec (motive := fun _ => Option AV) (some (.slr b 18446744073709551616 0 (eo + (k + 1)))) (some (.slr b (off + (k + 1) * esz) (h - (k + 1)) (eo + (k + 1)))) (Nat.ble (k + 1 + 1) len) = match Nat.ble (k + 1 + 1) len with
              | true => some (.slr b (off + (k + 1) * esz) (h - (k + 1)) (eo + (k + 1)))
              | false => some (.slr b 18446744073709551616 0 (eo + (k + 1)))
            cases Nat.ble (k + 1 + 1) len <;> rfl
    | some m =>
      show ifS (Nat.ble l h) (ifS (Nat.ble h m) (ifS (Nat.ble m len) (ifS (Nat.ble 1 len) (some (.sl b (offF m l off esz) (h - l) (m - l)))))) = match Nat.ble l h with
        | true => match Nat.ble h m with
          | true => match Nat.ble m len with
            | true => match Nat.ble 1 len with
              | true => some (.sl b (match Nat.beq m l with | true => off | false => off + l * esz) (h - l) (m - l))
              | false => none
            | false => none
          | false => none
        | false => none
      rw [offF_eq]
      cases Nat.ble l h with
      | false => rfl
      | true =>
        cases Nat.ble h m with
        | false => rfl
        | true => cases Nat.ble m len <;> (try cases Nat.ble 1 len) <;> rfl
  all_goals rfl
theorem newF_eq (e esz : Nat) (cells : Tr AV) (used : Nat) (ex : Bool) (fz : Nat) (s : St) : newF e esz cells used ex fz s = evNew e esz cells used ex fz s := by
  unfold newF evNew
  rw [setB_eq]
theorem thenB_eq (b : Bool) (x : RO) : thenB b x = match b with | true => x | false => none := by cases b <;> rfl
theorem stK_eq (n0 b off : Nat) (l : AVs) (s : St) (k : St → RO) : stK n0 b off l s k = match evSt n0 b off l s with
    | none => none
    | some s' => k s' := by
  unfold stK evSt
  rw [getB_eq]
  cases Nat.ble n0 b with
  | false => rfl
  | true =>
    show onRow (s.H.get b) _ = _
    rcases s.H.get b with _ | blk
    · rfl
    · cases blk with
      | iter a b c => rfl
      | row e esz cells used ex fz =>
        dsimp only
        show thenB (Nat.ble fz 1) (thenB (oneA l) (thenB (Nat.ble (off + lenA' l) used) (k { H := setB b (some (.row e esz (stF l off cells) used ex fz)) s.H, nxt := s.nxt, W := s.W ||| 1 <<< b }))) = _
        rw [oneA_eq, lenA'_eq, setB_eq, stF_eq]
        cases Nat.ble fz 1 with
        | false => rfl
        | true =>
          cases l.one with
          | false => rfl
          | true => cases Nat.ble (off + l.len) used <;> rfl
theorem ldK_eq (s : St) (b off n : Nat) (k : AVs → RO) : ldK s b off n k = match srcA.ldC' s b off n with
    | none => none
    | some l => k l := by
  cases n with
  | zero => rfl
  | succ n =>
    show onRow (getB b s.H) (fun _ _ cells _ _ _ => ldF (n + 1) off cells k) = match (match s.H.get b with
      | some (.row _ _ cells _ _ _) => ldC cells (n + 1) off
      | _ => none) with
      | none => none
      | some l => k l
    rw [getB_eq]
    rcases s.H.get b with _ | blk
    · rfl
    · cases blk with
      | iter a b c => rfl
      | row e esz cells used ex fz => exact ldF_eq cells (n + 1) off k
theorem sbF_eq : ∀ (l n : Nat) (acc : AVs), sbF l n acc = sbytes l n acc
  | 0, n, acc => rfl
  | l + 1, n, acc => sbF_eq l _ _
theorem srcF_eq (v : AV) (esz : Nat) (s : St) (k : Nat → AVs → RO) : srcF v esz s k = match srcA esz s v with
    | none => none
    | some (n, l) => k n l := by
  cases v
  case nils => rfl
  case sl b o n c =>
    show ldK s b o (n * esz) (fun l => k n l) = match (match srcA.ldC' s b o (n * esz) with
      | some l => some (n, l)
      | none => none) with
      | none => none
      | some (n, l) => k n l
    rw [ldK_eq]
    cases srcA.ldC' s b o (n * esz) <;> rfl
  case slr b o n c =>
    show ldK s b o (n * esz) (fun l => k n l) = match (match srcA.ldC' s b o (n * esz) with
      | some l => some (n, l)
      | none => none) with
      | none => none
      | some (n, l) => k n l
    rw [ldK_eq]
    cases srcA.ldC' s b o (n * esz) <;> rfl
  case s l n =>
    show thenB (Nat.beq esz 1) (k l (sbF l n .nil)) = match (match Nat.beq esz 1 with
      | true => some (l, sbytes l n .nil)
      | false => none) with
      | none => none
      | some (n, l) => k n l
    rw [sbF_eq]
    cases Nat.beq esz 1 <;> rfl
  all_goals rfl
theorem grF_eq (e esz bytes : Nat) (old new : AVs) (need cap : Nat) (s : St) (k : RK) : grF e esz bytes old new need cap s k = onRes (growA e esz bytes old new need cap s) k := by
  unfold grF growA
  rw [lenA'_eq, lenA'_eq, newF_eq, stF_eq, stF_eq]
  show thenB (Nat.ble (Builtin.nextslicecap need cap * bytes) 281474976710656) (thenB (Nat.beq (old.len + new.len) (need * esz)) _) = _
  cases Nat.ble (Builtin.nextslicecap need cap * bytes) 281474976710656 with
  | false => rfl
  | true => cases Nat.beq (old.len + new.len) (need * esz) <;> rfl
theorem onRes_st {o : Option St} {f : St → AV} (k : RK) : onRes (match o with | some s' => some (f s', s') | none => none) k = match o with | none => none | some s' => k (f s') s' := by cases o <;> rfl
theorem apF_eq (n0 e esz bytes : Nat) (s : St) (v x : AV) (k : RK) :
    (srcF x esz s fun m new => Nat.rec (motive := fun _ => RO) (ap0 v s k) (fun j _ => apF v n0 e esz bytes s (Nat.succ j) new k) m) = onRes (evApp n0 e esz bytes s v x) k := by
  rw [srcF_eq]
  unfold evApp
  rcases srcA esz s x with _ | ⟨m, new⟩
  · rfl
  · dsimp only
    cases m with
    | zero =>
      show ap0 v s k = _
      cases v
      case sl b o l c =>
        show thenB (Nat.ble l c) (k (.sl b o l c) s) = onRes (match Nat.ble l c with | true => some (AV.sl b o l c, s) | false => none) k
        cases Nat.ble l c <;> rfl
      all_goals rfl
    | succ j =>
      show apF v n0 e esz bytes s (j + 1) new k = _
      cases v
      case nils => exact grF_eq e esz bytes .nil new (j + 1) 0 s k
      case sl b off len cap =>
        show (Bool.rec (ldK s b off (len * esz) fun old => grF e esz bytes old new (len + (j + 1)) cap s k) (stK n0 b (off + len * esz) new s fun s' => k (.sl b off (len + (j + 1)) cap) s') (Nat.ble (len + (j + 1)) cap) : RO) = onRes (match Nat.ble (len + (j + 1)) cap with
          | true => match evSt n0 b (off + len * esz) new s with
            | some s' => some (.sl b off (len + (j + 1)) cap, s')
            | none => none
          | false => match srcA esz s (.sl b off len cap) with
            | some (_, old) => growA e esz bytes old new (len + (j + 1)) cap s
            | none => none) k
        cases Nat.ble (len + (j + 1)) cap with
        | true =>
          show stK n0 b (off + len * esz) new s (fun s' => k (.sl b off (len + (j + 1)) cap) s') = _
          rw [stK_eq]
          cases evSt n0 b (off + len * esz) new s <;> rfl
        | false =>
          show ldK s b off (len * esz) (fun old => grF e esz bytes old new (len + (j + 1)) cap s k) = onRes (match (match srcA.ldC' s b off (len * esz) with
            | some l => some (len, l)
            | none => none) with
            | some (_, old) => growA e esz bytes old new (len + (j + 1)) cap s
            | none => none) k
          rw [ldK_eq]
          cases srcA.ldC' s b off (len * esz) with
          | none => rfl
          | some old => exact grF_eq _ _ _ _ _ _ _ _ _
      case slr b off len eo =>
        show thenB (notF (Nat.beq off 18446744073709551616)) (onRow (getB b s.H) _) = onRes (match Nat.beq off 18446744073709551616 with
          | true => none
          | false => _) k
        cases Nat.beq off 18446744073709551616 with
        | true => rfl
        | false =>
        show onRow (getB b s.H) _ = _
        rw [getB_eq]
        dsimp only
        rcases s.H.get b with _ | blk
        · rfl
        · cases blk with
          | iter p q r => rfl
          | row e' esz' cells used ex fz =>
            dsimp only
            show thenB (Nat.beq e e') (thenB (Nat.beq esz esz') (thenB (notF ex) (thenB (Nat.ble fz 1) (thenB (Nat.beq off (eo * esz)) (Bool.rec (motive := fun _ => RO) (thenB (Nat.beq off 0) (thenB (Nat.beq (len * esz) used) (thenB (Nat.beq (lenA' new) ((j + 1) * esz)) (thenB (oneA new) (thenB (Nat.ble ((2 * (len + (j + 1)) + 1000) * bytes) 281474976710656) (thenB (Nat.ble n0 b) (k (.slr s.nxt 0 (len + (j + 1)) 0) { H := setB s.nxt (some (.row e esz (stF new used cells) (used + lenA' new) false 1)) (setB b none s.H), nxt := s.nxt + 1, W := s.W ||| 1 <<< b }))))))) (stK n0 b (off + len * esz) new s fun s' => k (.slr b off (len + (j + 1)) eo) s') (Nat.ble (off + (len + (j + 1)) * esz) used)))))) = _
            rw [stK_eq, oneA_eq, lenA'_eq, setB_eq, setB_eq, stF_eq]
            cases Nat.beq e e' with
            | false => rfl
            | true =>
            cases Nat.beq esz esz' with
            | false => rfl
            | true =>
            cases ex with
            | true => rfl
            | false =>
            cases Nat.ble fz 1 with
            | false => rfl
            | true =>
            cases Nat.beq off (eo * esz) with
            | false => rfl
            | true =>
            cases Nat.ble (off + (len + (j + 1)) * esz) used with
            | true => cases evSt n0 b (off + len * esz) new s <;> rfl
            | false =>
            cases Nat.beq off 0 with
            | false => rfl
            | true =>
            cases Nat.beq (len * esz) used with
            | false => rfl
            | true =>
            cases Nat.beq new.len ((j + 1) * esz) with
            | false => rfl
            | true =>
            cases new.one with
            | false => rfl
            | true =>
            cases Nat.ble ((2 * (len + (j + 1)) + 1000) * bytes) 281474976710656 with
            | false => rfl
            | true => cases Nat.ble n0 b <;> rfl
      all_goals rfl
theorem sofF_eq : ∀ (l : AVs) (a n : Nat), sofF l a n = sofA l a n
  | .nil, a, n => rfl
  | .cons v t, a, n => by
    show sofK v a n (sofF t) = _
    cases v
    case i k m =>
      cases k
      case u8 =>
        cases m with
        | negSucc m => rfl
        | ofNat b =>
          show (Bool.rec none (sofF t (a + 1) (n * 256 + b)) (Nat.ble (b + 1) 256) : Option (Nat × Nat)) = match Nat.ble (b + 1) 256 with
            | true => sofA t (a + 1) (n * 256 + b)
            | false => none
          rw [sofF_eq t]
          cases Nat.ble (b + 1) 256 <;> rfl
      all_goals rfl
    all_goals rfl
end Go.Ev
