import Derived.Test.YtbbfhlglljjpmaaGreatDoorEvFE
namespace Go.Ev
open Go
set_option linter.unusedVariables false

theorem putF_eq (d : Option Nat) (v : AV) (T : Tr AV) : putF d v T = putT T d v := by
  cases d with
  | none => rfl
  | some d => exact setA_eq d (some v) T
theorem evOpsF_eq (call : CallT) (n0 : Nat) : ∀ (l : List AOp) (T : Tr AV) (s : St), evOpsF l call n0 T s = evOps call n0 l T s
  | [], T, s => rfl
  | ⟨d, g, ai⟩ :: l, T, s => by
    have ih := evOpsF_eq call n0 l
    have e1 : fOp ai call n0 T s (fun v s' => evOpsF l call n0 (putF d v T) s') = match evOp call n0 ai T s with
        | none => none
        | some (v, s') => evOps call n0 l (putT T d v) s' := by
      rw [fOp_eq]
      rcases evOp call n0 ai T s with _ | ⟨v, s'⟩
      · rfl
      · show evOpsF l call n0 (putF d v T) s' = _
        rw [putF_eq, ih]
    have e2 : evOpsF l call n0 (putF d (.tup .nil) T) s = evOps call n0 l (putT T d (.tup .nil)) s := by rw [putF_eq, ih]
    have e3 : evOps call n0 (⟨d, g, ai⟩ :: l) T s = match (match wants T g with
      | none => none
      | some true => match evOp call n0 ai T s with
        | none => none
        | some (v, s') => some (putT T d v, s')
      | some false => some (putT T d (.tup .nil), s)) with
      | none => none
      | some (T', s') => evOps call n0 l T' s' := rfl
    rw [e3]
    clear e3
    cases g with
    | none =>
      show fOp ai call n0 T s (fun v s' => evOpsF l call n0 (putF d v T) s') = _
      rw [e1]
      show _ = match (match evOp call n0 ai T s with
        | none => none
        | some (v, s') => some (putT T d v, s')) with
        | none => none
        | some (T', s') => evOps call n0 l T' s'
      rcases evOp call n0 ai T s with _ | ⟨v, s'⟩ <;> rfl
    | some q =>
      obtain ⟨t, w⟩ := q
      show wO (getA t T) w (fOp ai call n0 T s fun v s' => evOpsF l call n0 (putF d v T) s') (evOpsF l call n0 (putF d (.tup .nil) T) s) = _
      rw [e1, e2, getA_eq]
      have e4 : wants T (some (t, w)) = match T.get t with
        | none => none
        | some (.b x) => some (match w with | true => x | false => !x)
        | some _ => some false := rfl
      rw [e4]
      rcases T.get t with _ | v
      · rfl
      · cases v <;> try rfl
        rename_i x
        cases x <;> cases w <;> first | rfl | (dsimp only [Bool.not]; rcases evOp call n0 ai T s with _ | ⟨v, s'⟩ <;> rfl)

/-! Regions that draw their order -/
theorem bitF_eq (n i : Nat) : bitF n i = n.testBit i := by
  rw [Nat.testBit_eq_decide_div_mod_eq]
  show Nat.beq (n / 2 ^ i % 2) 1 = decide (n / 2 ^ i % 2 = 1)
  by_cases h : n / 2 ^ i % 2 = 1
  · rw [h]; rfl
  · rw [decide_eq_false h]
    cases hb : Nat.beq (n / 2 ^ i % 2) 1 with
    | false => rfl
    | true => exact absurd (Nat.eq_of_beq_eq_true hb) h
theorem foldTF_eq (S : Nat) : ∀ (l : List DR) (i : Nat) (T : Tr AV), foldTF l i S T = foldT l i (fun i => S.testBit i) T
  | [], i, T => rfl
  | r :: l, i, T => by
    show (Bool.rec (foldTF l (i + 1) S T) (foldTF l (i + 1) S (putF r.d r.v T)) (bitF S i) : Tr AV) = match S.testBit i with
      | true => foldT l (i + 1) (fun i => S.testBit i) (putT T r.d r.v)
      | false => foldT l (i + 1) (fun i => S.testBit i) T
    rw [bitF_eq, foldTF_eq S l, foldTF_eq S l, putF_eq]
    cases S.testBit i <;> rfl
theorem foldTA_eq : ∀ (l : List DR) (i : Nat) (T : Tr AV), foldTA l T = foldT l i (fun _ => true) T
  | [], i, T => rfl
  | r :: l, i, T => by
    show foldTA l (putF r.d r.v T) = foldT l (i + 1) (fun _ => true) (putT T r.d r.v)
    rw [putF_eq, foldTA_eq l (i + 1)]
theorem cpRF_eq (H' : Tr Blk) : ∀ (n b : Nat) (H : Tr Blk), cpRF H' n b H = cpR H' n b H
  | 0, b, H => rfl
  | n + 1, b, H => by
    show cpRF H' n (b + 1) (setB b (getB b H') H) = cpR H' n (b + 1) (H.set b (H'.get b))
    rw [setB_eq, getB_eq, cpRF_eq H' n]
theorem cpBF_eq (H' : Tr Blk) : ∀ (n W : Nat) (H : Tr Blk), cpBF H' n W H = cpB H' n W H
  | 0, W, H => rfl
  | n + 1, W, H => by
    show (Bool.rec (cpBF H' n (W % 2 ^ Nat.log2 W) (setB (Nat.log2 W) (getB (Nat.log2 W) H') H)) H (Nat.beq W 0) : Tr Blk) = match Nat.beq W 0 with
      | true => H
      | false => cpB H' n (W % 2 ^ Nat.log2 W) (H.set (Nat.log2 W) (H'.get (Nat.log2 W)))
    rw [setB_eq, getB_eq, cpBF_eq H' n]
    cases Nat.beq W 0 <;> rfl
theorem apDF_eq (r : DR) (H : Tr Blk) : apDF r H = apD r H := by
  show cpBF r.H r.W r.W (cpRF r.H (r.hi - r.lo) r.lo H) = _
  rw [cpBF_eq, cpRF_eq]; rfl
theorem foldHF_eq (S : Nat) : ∀ (l : List DR) (i : Nat) (H : Tr Blk), foldHF l i S H = foldH l i (fun i => S.testBit i) H
  | [], i, H => rfl
  | r :: l, i, H => by
    show (Bool.rec (foldHF l (i + 1) S H) (foldHF l (i + 1) S (apDF r H)) (bitF S i) : Tr Blk) = match S.testBit i with
      | true => foldH l (i + 1) (fun i => S.testBit i) (apD r H)
      | false => foldH l (i + 1) (fun i => S.testBit i) H
    rw [bitF_eq, foldHF_eq S l, foldHF_eq S l, apDF_eq]
    cases S.testBit i <;> rfl
theorem foldHA_eq : ∀ (l : List DR) (i : Nat) (H : Tr Blk), foldHA l H = foldH l i (fun _ => true) H
  | [], i, H => rfl
  | r :: l, i, H => by
    show foldHA l (apDF r H) = foldH l (i + 1) (fun _ => true) (apD r H)
    rw [apDF_eq, foldHA_eq l (i + 1)]
theorem eraseF_eq : ∀ (l : List Nat) (T : Tr AV), eraseF l T = eraseL l T
  | [], T => rfl
  | t :: l, T => by
    show setA t none (eraseF l T) = (eraseL l T).set t none
    rw [setA_eq, eraseF_eq l]
theorem baseTF_eq (o : DOp) (prev : List DR) (T0 : Tr AV) : baseTF o prev T0 = baseT o prev T0 := by
  unfold baseTF baseT
  rw [eraseF_eq, foldTF_eq]
theorem hcls_eq (cls rb : Nat) (o : DOp) (prev : List DR) (H0 : Tr Blk) : hcls cls rb o.bef prev H0 = baseH cls rb o prev H0 := by
  rcases cls with _ | _ | c
  · rfl
  · show setB rb (getB rb (foldHF prev 0 o.bef H0)) .leaf = Tr.leaf.set rb ((foldH prev 0 (fun i => o.bef.testBit i) H0).get rb)
    rw [setB_eq, getB_eq, foldHF_eq]
  · exact foldHF_eq _ _ _ _
theorem andF_eq (a b : Bool) : andF a b = (a && b) := by cases a <;> rfl
theorem rdOKF_eq (r : DR) (W : Nat) : rdOKF r W = rdOK r W := by
  obtain ⟨lo, hi, W0, cls, rb, H, d, v⟩ := r
  rcases cls with _ | _ | c
  · rfl
  · show notF (bitF W rb) = !(W.testBit rb)
    rw [notF_eq, bitF_eq]
  · rfl
theorem pairOKF_eq (r q : DR) : pairOKF r q = pairOK r q := by
  show andF (Nat.beq (r.W &&& q.W) 0) (andF (Nat.beq (r.W / 2 ^ q.lo % 2 ^ (q.hi - q.lo)) 0) (andF (Nat.beq (q.W / 2 ^ r.lo % 2 ^ (r.hi - r.lo)) 0) (andF (rdOKF r q.W) (rdOKF q r.W)))) = _
  unfold pairOK
  rw [rdOKF_eq, rdOKF_eq, Nat.shiftRight_eq_div_pow, Nat.shiftRight_eq_div_pow]
  cases Nat.beq (r.W &&& q.W) 0 with
  | false => rfl
  | true =>
    cases Nat.beq (r.W / 2 ^ q.lo % 2 ^ (q.hi - q.lo)) 0 with
    | false => rfl
    | true =>
      cases Nat.beq (q.W / 2 ^ r.lo % 2 ^ (r.hi - r.lo)) 0 with
      | false => rfl
      | true => cases rdOK r q.W <;> rfl
theorem pairsOKF_eq (r : DR) (bef : Nat) : ∀ (l : List DR) (i : Nat), pairsOKF l r bef i = pairsOK l r bef i
  | [], i => rfl
  | q :: l, i => by
    show (Bool.rec (andF (pairOKF q r) (pairsOKF l r bef (i + 1))) (pairsOKF l r bef (i + 1)) (bitF bef i) : Bool) = match bef.testBit i with
      | true => pairsOK l r bef (i + 1)
      | false => match pairOK q r with
        | true => pairsOK l r bef (i + 1)
        | false => false
    rw [bitF_eq, pairsOKF_eq r bef l, pairOKF_eq]
    cases bef.testBit i with
    | true => rfl
    | false => cases pairOK q r <;> rfl
theorem snocF_eq (r : DR) : ∀ l : List DR, snocF l r = l ++ [r]
  | [] => rfl
  | a :: l => by show a :: snocF l r = _; rw [snocF_eq r l]; rfl
theorem clsF_eq (ai : AI) (T : Tr AV) : clsF ai T = clsOf T ai := by
  cases ai
  case ld1 a =>
    show clP (evOf a T) = match evO T a with
      | some (.p b _) => (1, b)
      | _ => (0, 0)
    rw [evOf_eq]
    rcases evO T a with _ | v
    · rfl
    · cases v <;> rfl
  case ldn n a =>
    show clP (evOf a T) = match evO T a with
      | some (.p b _) => (1, b)
      | _ => (0, 0)
    rw [evOf_eq]
    rcases evO T a with _ | v
    · rfl
    · cases v <;> rfl
  case bin op ek x y =>
    show clB (evOf x T) = match evO T x with
      | some (.p _ _) => (2, 0)
      | _ => (0, 0)
    rw [evOf_eq]
    rcases evO T x with _ | v
    · rfl
    · cases v <;> rfl
  all_goals rfl
theorem onKeep_eq (ai : AI) (call : CallT) (n0 : Nat) (T : Tr AV) (s : St) (k : AV → St → Option (List DR)) : onKeep (fOp ai call n0 T s keepV) k = match evOp call n0 ai T s with
    | none => none
    | some (v, s') => k v s' := by
  rw [fOp_eq]
  rcases evOp call n0 ai T s with _ | ⟨v, s'⟩ <;> rfl
theorem evDF_eq (call : CallT) (n0 : Nat) (T0 : Tr AV) (H0 : Tr Blk) : ∀ (l : List DOp) (prev : List DR) (nxt : Nat), evDF l call n0 T0 H0 prev nxt = evD call n0 T0 H0 l prev nxt
  | [], prev, nxt => rfl
  | o :: l, prev, nxt => by
    have ih := evDF_eq call n0 T0 H0 l
    have e2 : dgo ⟨nxt, nxt, 0, 0, 0, .leaf, o.op.d, .tup .nil⟩ o.bef prev (evDF l call n0 T0 H0) = match pairsOK prev ⟨nxt, nxt, 0, 0, 0, .leaf, o.op.d, .tup .nil⟩ o.bef 0 with
        | true => evD call n0 T0 H0 l (prev ++ [⟨nxt, nxt, 0, 0, 0, .leaf, o.op.d, .tup .nil⟩]) nxt
        | false => none := by
      unfold dgo
      rw [pairsOKF_eq, snocF_eq, ih]
      cases pairsOK prev ⟨nxt, nxt, 0, 0, 0, .leaf, o.op.d, .tup .nil⟩ o.bef 0 <;> rfl
    have e1 : drun o.op.d o.bef nxt prev H0 (evDF l call n0 T0 H0) o.op.ai call n0 (baseTF o prev T0) (clsF o.op.ai (baseTF o prev T0)) = match evOp call n0 o.op.ai (baseT o prev T0) { H := baseH (clsOf (baseT o prev T0) o.op.ai).1 (clsOf (baseT o prev T0) o.op.ai).2 o prev H0, nxt := nxt, W := 0 } with
        | none => none
        | some (v, s') => match pairsOK prev ⟨nxt, s'.nxt, s'.W % 2 ^ nxt, (clsOf (baseT o prev T0) o.op.ai).1, (clsOf (baseT o prev T0) o.op.ai).2, s'.H, o.op.d, v⟩ o.bef 0 with
          | true => evD call n0 T0 H0 l (prev ++ [⟨nxt, s'.nxt, s'.W % 2 ^ nxt, (clsOf (baseT o prev T0) o.op.ai).1, (clsOf (baseT o prev T0) o.op.ai).2, s'.H, o.op.d, v⟩]) s'.nxt
          | false => none := by
      rw [baseTF_eq, clsF_eq]
      generalize clsOf (baseT o prev T0) o.op.ai = c
      obtain ⟨cls, rb⟩ := c
      show onKeep (fOp o.op.ai call n0 (baseT o prev T0) { H := hcls cls rb o.bef prev H0, nxt := nxt, W := 0 } keepV) _ = _
      rw [onKeep_eq, hcls_eq]
      dsimp only
      rcases evOp call n0 o.op.ai (baseT o prev T0) { H := baseH cls rb o prev H0, nxt := nxt, W := 0 } with _ | ⟨v, s'⟩
      · rfl
      · show dgo ⟨nxt, s'.nxt, s'.W % 2 ^ nxt, cls, rb, s'.H, o.op.d, v⟩ o.bef prev (evDF l call n0 T0 H0) = _
        unfold dgo
        rw [pairsOKF_eq, snocF_eq, ih]
        dsimp only
        cases pairsOK prev ⟨nxt, s'.nxt, s'.W % 2 ^ nxt, cls, rb, s'.H, o.op.d, v⟩ o.bef 0 <;> rfl
    show dwants o.op.g (baseTF o prev T0) (drun o.op.d o.bef nxt prev H0 (evDF l call n0 T0 H0) o.op.ai call n0 (baseTF o prev T0) (clsF o.op.ai (baseTF o prev T0))) (dgo ⟨nxt, nxt, 0, 0, 0, .leaf, o.op.d, .tup .nil⟩ o.bef prev (evDF l call n0 T0 H0)) = _
    rw [e1, e2, baseTF_eq]
    have e3 : evD call n0 T0 H0 (o :: l) prev nxt = match wants (baseT o prev T0) o.op.g with
      | none => none
      | some false => match pairsOK prev ⟨nxt, nxt, 0, 0, 0, .leaf, o.op.d, .tup .nil⟩ o.bef 0 with
        | true => evD call n0 T0 H0 l (prev ++ [⟨nxt, nxt, 0, 0, 0, .leaf, o.op.d, .tup .nil⟩]) nxt
        | false => none
      | some true => match evOp call n0 o.op.ai (baseT o prev T0) { H := baseH (clsOf (baseT o prev T0) o.op.ai).1 (clsOf (baseT o prev T0) o.op.ai).2 o prev H0, nxt := nxt, W := 0 } with
        | none => none
        | some (v, s') => match pairsOK prev ⟨nxt, s'.nxt, s'.W % 2 ^ nxt, (clsOf (baseT o prev T0) o.op.ai).1, (clsOf (baseT o prev T0) o.op.ai).2, s'.H, o.op.d, v⟩ o.bef 0 with
          | true => evD call n0 T0 H0 l (prev ++ [⟨nxt, s'.nxt, s'.W % 2 ^ nxt, (clsOf (baseT o prev T0) o.op.ai).1, (clsOf (baseT o prev T0) o.op.ai).2, s'.H, o.op.d, v⟩]) s'.nxt
          | false => none := rfl
    rw [e3]
    generalize (match evOp call n0 o.op.ai (baseT o prev T0) { H := baseH (clsOf (baseT o prev T0) o.op.ai).1 (clsOf (baseT o prev T0) o.op.ai).2 o prev H0, nxt := nxt, W := 0 } with
        | none => none
        | some (v, s') => match pairsOK prev ⟨nxt, s'.nxt, s'.W % 2 ^ nxt, (clsOf (baseT o prev T0) o.op.ai).1, (clsOf (baseT o prev T0) o.op.ai).2, s'.H, o.op.d, v⟩ o.bef 0 with
          | true => evD call n0 T0 H0 l (prev ++ [⟨nxt, s'.nxt, s'.W % 2 ^ nxt, (clsOf (baseT o prev T0) o.op.ai).1, (clsOf (baseT o prev T0) o.op.ai).2, s'.H, o.op.d, v⟩]) s'.nxt
          | false => none : Option (List DR)) = A
    generalize (match pairsOK prev ⟨nxt, nxt, 0, 0, 0, .leaf, o.op.d, .tup .nil⟩ o.bef 0 with
        | true => evD call n0 T0 H0 l (prev ++ [⟨nxt, nxt, 0, 0, 0, .leaf, o.op.d, .tup .nil⟩]) nxt
        | false => none : Option (List DR)) = B
    generalize baseT o prev T0 = T
    rcases o.op.g with _ | ⟨t, w⟩
    · rfl
    · show (Option.rec none (fun v => dwAV v w A B) (getA t T) : Option (List DR)) = match (match T.get t with
        | none => none
        | some (.b x) => some (match w with | true => x | false => !x)
        | some _ => some false) with
        | none => none
        | some false => B
        | some true => A
      rw [getA_eq]
      rcases T.get t with _ | v
      · rfl
      · cases v <;> try rfl
        rename_i x
        cases x <;> cases w <;> rfl
theorem orWF_eq : ∀ (l : List DR) (W : Nat), orWF l W = orW l W
  | [], W => rfl
  | r :: l, W => by show orWF l W ||| r.W = orW l W ||| r.W; rw [orWF_eq l]
theorem evDrawF_eq (call : CallT) (n0 : Nat) (l : List DOp) (T : Tr AV) (s : St) : evDrawF l call n0 T s = evDraw call n0 l T s := by
  unfold evDrawF evDraw
  rw [evDF_eq]
  cases evD call n0 T s.H l [] s.nxt with
  | none => rfl
  | some rs =>
    show some (foldTA rs T, _) = some (_, _)
    rw [foldTA_eq rs 0, foldHA_eq rs 0, orWF_eq]

/-! Control -/
theorem evCF_eq (call : CallT) (n0 : Nat) (more : AC → Tr AV → St → RR) (c : AC) : ∀ (T : Tr AV) (s : St), evCF c call n0 more T s = evC call n0 more c T s := by
  induction c with
  | skip => intro T s; rfl
  | ret => intro T s; rfl
  | exit n => intro T s; rfl
  | goto n => intro T s; rfl
  | lbl n => intro T s; rfl
  | bad => intro T s; rfl
  | reg l =>
    intro T s
    show onRO (evOpsF l call n0 T s) _ = match evOps call n0 l T s with
      | none => .no
      | some (T', s') => .ok .nrm T' s'
    rw [evOpsF_eq]
    rcases evOps call n0 l T s with _ | ⟨T', s'⟩ <;> rfl
  | dreg l =>
    intro T s
    show onRO (evDrawF l call n0 T s) _ = match evDraw call n0 l T s with
      | none => .no
      | some (T', s') => .ok .nrm T' s'
    rw [evDrawF_eq]
    rcases evDraw call n0 l T s with _ | ⟨T', s'⟩ <;> rfl
  | seq a b iha ihb =>
    intro T s
    show onRR (evCF a call n0 more T s) (fun e T' s' => eNrm e T' s' (evCF b call n0 more T' s')) = match evC call n0 more a T s with
      | .no => .no
      | .ok e T' s' => match e with
        | .nrm => evC call n0 more b T' s'
        | e => .ok e T' s'
    rw [iha]
    rcases evC call n0 more a T s with _ | ⟨e, T', s'⟩
    · rfl
    · show eNrm e T' s' (evCF b call n0 more T' s') = _
      rw [ihb]
      cases e <;> rfl
  | cond c a b iha ihb =>
    intro T s
    show rO (evOf c T) (evCF a call n0 more T s) (evCF b call n0 more T s) = match evO T c with
      | some (.b true) => evC call n0 more a T s
      | some (.b false) => evC call n0 more b T s
      | _ => .no
    rw [evOf_eq, iha, ihb]
    rcases evO T c with _ | v
    · rfl
    · cases v <;> try rfl
      rename_i x
      cases x <;> rfl
  | blk n c ih =>
    intro T s
    show onRR (evCF c call n0 more T s) (fun e T' s' => eBlk n e T' s') = match evC call n0 more c T s with
      | .no => .no
      | .ok e T' s' => match e with
        | .exit m => match Nat.beq m n with
          | true => .ok .nrm T' s'
          | false => .ok (.exit m) T' s'
        | e => .ok e T' s'
    rw [ih]
    rcases evC call n0 more c T s with _ | ⟨e, T', s'⟩
    · rfl
    · cases e <;> try rfl
      rename_i m
      show (Bool.rec (RR.ok (.exit m) T' s') (.ok .nrm T' s') (Nat.beq m n) : RR) = match Nat.beq m n with
        | true => .ok .nrm T' s'
        | false => .ok (.exit m) T' s'
      cases Nat.beq m n <;> rfl
  | loop c ih =>
    intro T s
    show onRR (evCF c call n0 more T s) (fun e T' s' => eNrm e T' s' (more (.loop c) T' s')) = match evC call n0 more c T s with
      | .no => .no
      | .ok e T' s' => match e with
        | .nrm => more (.loop c) T' s'
        | e => .ok e T' s'
    rw [ih]
    rcases evC call n0 more c T s with _ | ⟨e, T', s'⟩
    · rfl
    · cases e <;> rfl
  | scope c ih =>
    intro T s
    show onRR (evCF c call n0 more T s) (fun e T' s' => eGo c more e T' s') = match evC call n0 more c T s with
      | .no => .no
      | .ok e T' s' => match e with
        | .goto l => match findL c l with
          | some r => more (.inscope c r) T' s'
          | none => .ok (.goto l) T' s'
        | e => .ok e T' s'
    rw [ih]
    rcases evC call n0 more c T s with _ | ⟨e, T', s'⟩
    · rfl
    · cases e <;> try rfl
      rename_i l
      show onAC (findL c l) (fun r => more (.inscope c r) T' s') (.ok (.goto l) T' s') = match findL c l with
          | some r => more (.inscope c r) T' s'
          | none => .ok (.goto l) T' s'
      cases findL c l <;> rfl
  | inscope c r ihc ihr =>
    intro T s
    show onRR (evCF r call n0 more T s) (fun e T' s' => eGo c more e T' s') = match evC call n0 more r T s with
      | .no => .no
      | .ok e T' s' => match e with
        | .goto l => match findL c l with
          | some r => more (.inscope c r) T' s'
          | none => .ok (.goto l) T' s'
        | e => .ok e T' s'
    rw [ihr]
    rcases evC call n0 more r T s with _ | ⟨e, T', s'⟩
    · rfl
    · cases e <;> try rfl
      rename_i l
      show onAC (findL c l) (fun r => more (.inscope c r) T' s') (.ok (.goto l) T' s') = match findL c l with
          | some r => more (.inscope c r) T' s'
          | none => .ok (.goto l) T' s'
      cases findL c l <;> rfl
theorem callFF_eq (X : Nat → AVs → Option AV) (F : Nat → Option AF) (more : AC → Tr AV → St → RR) : callFF X F more = callF X F more := by
  funext f l s
  unfold callFF callF
  cases X f l with
  | some v => rfl
  | none =>
    show onAF (F f) more l s = _
    cases F f with
    | none => rfl
    | some af =>
      show runF af more l s = _
      unfold runF
      rw [stF_eq]
      dsimp only
      rcases more af.body (stC l 0 .leaf) s with _ | ⟨e, T, s'⟩
      · rfl
      · show eEnd e (resF af T s') = _
        have h : resF af T s' = match evRes af.res T s' with
            | none => none
            | some v => some (v, s') := by
          unfold resF
          cases evRes af.res T s' <;> rfl
        rw [h]
        cases e <;> rfl
theorem callGF_eq (Y : YT) (n0 : Nat) (X : Nat → AVs → Option AV) (F : Nat → Option AF) (more : AC → Tr AV → St → RR) : callGF Y n0 X F more = callG Y n0 X F more := by
  funext f l s
  unfold callGF callG
  rw [callFF_eq]
  cases Y n0 (callF X F more) f l s <;> rfl
theorem evNF_eq (Y : YT) (X : Nat → AVs → Option AV) (F : Nat → Option AF) (n0 : Nat) : ∀ n, evNF Y X F n0 n = evNY Y X F n0 n
  | 0 => rfl
  | n + 1 => by
    funext c T s
    show evCF c (callGF Y n0 X F (evNF Y X F n0 n)) n0 (evNF Y X F n0 n) T s = evC (callG Y n0 X F (evNY Y X F n0 n)) n0 (evNY Y X F n0 n) c T s
    rw [callGF_eq, evNF_eq Y X F n0 n, evCF_eq]
theorem evCallF_eq (Y : YT) (X : Nat → AVs → Option AV) (F : Nat → Option AF) (n0 n : Nat) : evCallF Y X F n0 n = evCallY Y X F n0 n := by
  unfold evCallF evCallY
  rw [callFF_eq, evNF_eq]
theorem evCallK_eq (Y : YT) (X : Nat → AVs → Option AV) (P : Program) (n0 n : Nat) : evCallF Y X (kF P) n0 n = evCallY Y X (compF P) n0 n := by
  rw [evCallF_eq, kF_eq]
end Go.Ev
