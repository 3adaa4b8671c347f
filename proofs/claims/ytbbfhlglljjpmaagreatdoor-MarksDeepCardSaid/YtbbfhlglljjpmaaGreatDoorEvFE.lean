import Derived.Test.YtbbfhlglljjpmaaGreatDoorEvFB
import Derived.Test.YtbbfhlglljjpmaaGreatDoorEvFD
namespace Go.Ev
open Go
set_option linter.unusedVariables false

/-! Operations -/
theorem onOpt_eq (o : Option O) (T : Tr AV) (d : Nat) (k : Nat → RO) : onOpt o T d k = match evOpt T o d with
    | none => none
    | some n => k n := by
  cases o with
  | none => rfl
  | some x =>
    show onN (evOf x T) k = match (match evO T x with
      | some v => evNat v
      | none => none) with
      | none => none
      | some n => k n
    rw [evOf_eq]
    rcases evO T x with _ | v
    · rfl
    · cases v <;> try rfl
      rename_i kk n
      cases n <;> rfl
theorem onN_eq (o : Option AV) (k : Nat → RO) : onN o k = match o with
    | none => none
    | some v => match evNat v with
      | none => none
      | some n => k n := by
  rcases o with _ | v
  · rfl
  · cases v <;> try rfl
    rename_i kk n
    cases n <;> rfl
theorem thenB_some (b : Bool) (v : AV) (s : St) (k : RK) : thenB b (k v s) = onRes (match b with | true => some (v, s) | false => none) k := by cases b <;> rfl
set_option maxHeartbeats 1000000 in
theorem fOp_eq (ai : AI) (call : CallT) (n0 : Nat) (T : Tr AV) (s : St) (k : RK) : fOp ai call n0 T s k = onRes (evOp call n0 ai T s) k := by
  cases ai
  case mv x =>
    show onV (evOf x T) (fun v => k v s) = onRes (pure1 s (evO T x)) k
    rw [evOf_eq]; cases evO T x <;> rfl
  case pick c a b =>
    show onB (evOf c T) (onV (evOf a T) fun v => k v s) (onV (evOf b T) fun v => k v s) = onRes (evAI n0 (.pick c a b) T s) k
    rw [evOf_eq, evOf_eq, evOf_eq]
    simp only [evAI]
    rcases evO T c with _ | v
    · rfl
    · cases v <;> try rfl
      rename_i x
      cases x
      · cases evO T b <;> rfl
      · cases evO T a <;> rfl
  case bin op ek x y =>
    show onV (evOf x T) (fun a => onV (evOf y T) fun b => onV (binF a op ek s b) fun v => k v s) = onRes (evAI n0 (.bin op ek x y) T s) k
    rw [evOf_eq, evOf_eq]
    simp only [evAI]
    cases evO T x with
    | none => rfl
    | some a =>
      cases evO T y with
      | none => rfl
      | some b =>
        show onV (binF a op ek s b) (fun v => k v s) = onRes (pure1 s (evBin op ek s a b)) k
        rw [binF_eq]; cases evBin op ek s a b <;> rfl
  case un op x =>
    show onV (evOf x T) (fun a => onV (unF op a) fun v => k v s) = onRes (evAI n0 (.un op x) T s) k
    rw [evOf_eq]
    simp only [evAI]
    cases evO T x with
    | none => rfl
    | some a =>
      show onV (unF op a) (fun v => k v s) = onRes (pure1 s (evUn op a)) k
      rw [unF_eq]; cases evUn op a <;> rfl
  case ld1 a =>
    show onP (evOf a T) (fun b o => onRow (getB b s.H) fun _ _ cells _ _ _ => onV (getA o cells) fun v => k v s) = onRes (evAI n0 (.ld1 a) T s) k
    rw [evOf_eq]
    simp only [evAI]
    rcases evO T a with _ | v
    · rfl
    · cases v <;> try rfl
      rename_i b o
      show onRow (getB b s.H) (fun _ _ cells _ _ _ => onV (getA o cells) fun v => k v s) = onRes (pure1 s (match s.H.get b with
        | some (.row _ _ cells _ _ _) => cells.get o
        | _ => none)) k
      rw [getB_eq]
      rcases s.H.get b with _ | blk
      · rfl
      · cases blk with
        | iter p q r => rfl
        | row e esz cells used ex fz =>
          show onV (getA o cells) (fun v => k v s) = onRes (pure1 s (cells.get o)) k
          rw [getA_eq]; cases cells.get o <;> rfl
  case ldn n a =>
    show onP (evOf a T) (fun b o => onRow (getB b s.H) fun _ _ cells _ _ _ => ldF n o cells fun l => k (.agg l) s) = onRes (evAI n0 (.ldn n a) T s) k
    rw [evOf_eq]
    simp only [evAI]
    rcases evO T a with _ | v
    · rfl
    · cases v <;> try rfl
      rename_i b o
      show onRow (getB b s.H) (fun _ _ cells _ _ _ => ldF n o cells fun l => k (.agg l) s) = onRes (match (match s.H.get b with
        | some (.row _ _ cells _ _ _) => ldC cells n o
        | _ => none) with
        | none => none
        | some l => some (.agg l, s)) k
      rw [getB_eq]
      rcases s.H.get b with _ | blk
      · rfl
      · cases blk with
        | iter p q r => rfl
        | row e esz cells used ex fz =>
          show ldF n o cells (fun l => k (.agg l) s) = _
          rw [ldF_eq]; dsimp only; cases ldC cells n o <;> rfl
  case st n a v =>
    show onP (evOf a T) (fun b off => onV (evOf v T) fun v => thenB (Nat.beq (lenA' (cellsF v)) n) (stK n0 b off (cellsF v) s fun s' => k (.tup .nil) s')) = onRes (evAI n0 (.st n a v) T s) k
    rw [evOf_eq, evOf_eq]
    simp only [evAI]
    rcases evO T a with _ | w
    · rfl
    · cases w <;> try rfl
      rename_i b off
      cases evO T v with
      | none => rfl
      | some v =>
        show thenB (Nat.beq (lenA' (cellsF v)) n) (stK n0 b off (cellsF v) s fun s' => k (.tup .nil) s') = onRes (match Nat.beq (cellsOf v).len n with
          | true => match evSt n0 b off (cellsOf v) s with
            | some s' => some (.tup .nil, s')
            | none => none
          | false => none) k
        rw [stK_eq, lenA'_eq, cellsF_eq]
        cases Nat.beq (cellsOf v).len n with
        | false => rfl
        | true => cases evSt n0 b off (cellsOf v) s <;> rfl
  case fa off a =>
    show onP (evOf a T) (fun b o => k (.p b (o + off)) s) = onRes (evAI n0 (.fa off a) T s) k
    rw [evOf_eq]
    simp only [evAI]
    rcases evO T a with _ | v
    · rfl
    · cases v <;> rfl
  case fl1 off x =>
    show onAgg (evOf x T) (fun l => onV (nthF off l) fun v => k v s) = onRes (evAI n0 (.fl1 off x) T s) k
    rw [evOf_eq]
    simp only [evAI]
    rcases evO T x with _ | v
    · rfl
    · cases v <;> try rfl
      rename_i l
      show onV (nthF off l) (fun v => k v s) = onRes (pure1 s (nth l off)) k
      rw [nthF_eq]; cases nth l off <;> rfl
  case fln off n x =>
    show onAgg (evOf x T) (fun l => takeF n (dropF off l) fun r => k (.agg r) s) = onRes (evAI n0 (.fln off n x) T s) k
    rw [evOf_eq]
    simp only [evAI]
    rcases evO T x with _ | v
    · rfl
    · cases v <;> try rfl
      rename_i l
      show takeF n (dropF off l) (fun r => k (.agg r) s) = onRes (match takeA n (dropA off l) with
        | some r => some (.agg r, s)
        | none => none) k
      rw [takeF_eq, dropF_eq]; cases takeA n (dropA off l) <;> rfl
  case ia esz x i =>
    show onN (evOf i T) (fun i => onSl (evOf x T) fun b off len => thenB (Nat.ble (i + 1) len) (k (.p b (off + i * esz)) s)) = onRes (evAI n0 (.ia esz x i) T s) k
    rw [evOf_eq, evOf_eq, onN_eq]
    simp only [evAI]
    cases evO T i with
    | none => rfl
    | some i =>
      dsimp only
      cases evNat i with
      | none => rfl
      | some i =>
        dsimp only
        rcases evO T x with _ | v
        · rfl
        · cases v <;> try rfl
          · exact thenB_some _ _ _ _
          · exact thenB_some _ _ _ _
  case iaa len esz x i =>
    show onN (evOf i T) (fun i => onP (evOf x T) fun b off => thenB (Nat.ble (i + 1) len) (k (.p b (off + i * esz)) s)) = onRes (evAI n0 (.iaa len esz x i) T s) k
    rw [evOf_eq, evOf_eq, onN_eq]
    simp only [evAI]
    cases evO T i with
    | none => rfl
    | some i =>
      dsimp only
      cases evNat i with
      | none => rfl
      | some i =>
        dsimp only
        rcases evO T x with _ | v
        · rfl
        · cases v <;> try rfl
          exact thenB_some _ _ _ _
  case ixs x i =>
    show onN (evOf i T) (fun i => onS (evOf x T) fun len n => thenB (Nat.ble (i + 1) len) (k (.i .u8 (.ofNat (n / 256 ^ (len - 1 - i) % 256))) s)) = onRes (evAI n0 (.ixs x i) T s) k
    rw [evOf_eq, evOf_eq, onN_eq]
    simp only [evAI]
    cases evO T i with
    | none => rfl
    | some i =>
      dsimp only
      cases evNat i with
      | none => rfl
      | some i =>
        dsimp only
        rcases evO T x with _ | v
        · rfl
        · cases v <;> try rfl
          exact thenB_some _ _ _ _
  case sls x lo hi =>
    show onS (evOf x T) (fun len n => onOpt lo T 0 fun l => onOpt hi T len fun h => thenB (Nat.ble l h) (thenB (Nat.ble h len) (k (.s (h - l) (n / 256 ^ (len - h) % 256 ^ (h - l))) s))) = onRes (evAI n0 (.sls x lo hi) T s) k
    rw [evOf_eq]
    simp only [evAI]
    rcases evO T x with _ | v
    · rfl
    · cases v
      case s len n =>
        show onOpt lo T 0 (fun l => onOpt hi T len fun h => thenB (Nat.ble l h) (thenB (Nat.ble h len) (k (.s (h - l) (n / 256 ^ (len - h) % 256 ^ (h - l))) s))) = onRes (match evOpt T lo 0 with
          | none => none
          | some l => match evOpt T hi len with
            | none => none
            | some h => pure1 s (match Nat.ble l h with
              | true => match Nat.ble h len with
                | true => some (.s (h - l) (n / 256 ^ (len - h) % 256 ^ (h - l)))
                | false => none
              | false => none)) k
        rw [onOpt_eq]
        cases evOpt T lo 0 with
        | none => rfl
        | some l =>
          dsimp only
          rw [onOpt_eq]
          cases evOpt T hi len with
          | none => rfl
          | some h =>
            dsimp only
            cases Nat.ble l h with
            | false => rfl
            | true => cases Nat.ble h len <;> rfl
      case sl b off len cap =>
        show (none : RO) = onRes (match evOpt T lo 0 with
          | none => none
          | some l => match evOpt T hi len with
            | none => none
            | some h => pure1 s none) k
        cases evOpt T lo 0 with
        | none => rfl
        | some l => dsimp only; cases evOpt T hi len <;> rfl
      case slr b off len eo =>
        show (none : RO) = onRes (match evOpt T lo 0 with
          | none => none
          | some l => match evOpt T hi len with
            | none => none
            | some h => pure1 s none) k
        cases evOpt T lo 0 with
        | none => rfl
        | some l => dsimp only; cases evOpt T hi len <;> rfl
      case nils =>
        show (none : RO) = onRes (match evOpt T lo 0 with
          | none => none
          | some l => match evOpt T hi 0 with
            | none => none
            | some h => pure1 s none) k
        cases evOpt T lo 0 with
        | none => rfl
        | some l => dsimp only; cases evOpt T hi 0 <;> rfl
      all_goals rfl
  case ext x i =>
    show onTup (evOf x T) (fun l => onV (nthF i l) fun v => k v s) = onRes (evAI n0 (.ext x i) T s) k
    rw [evOf_eq]
    simp only [evAI]
    rcases evO T x with _ | v
    · rfl
    · cases v <;> try rfl
      rename_i l
      show onV (nthF i l) (fun v => k v s) = onRes (pure1 s (nth l i)) k
      rw [nthF_eq]; cases nth l i <;> rfl
  case call f args =>
    show evOsf args T (fun l => onRes (call f l s) k) = onRes (match evOs T args with
      | none => none
      | some l => call f l s) k
    rw [evOsf_eq]; cases evOs T args <;> rfl
  case bls x =>
    show onS (evOf x T) (fun len _ => k (.i .i64 (.ofNat len)) s) = onRes (evAI n0 (.bls x) T s) k
    rw [evOf_eq]
    simp only [evAI]
    rcases evO T x with _ | v
    · rfl
    · cases v <;> rfl
  case bll x =>
    show onLen (evOf x T) (fun len => k (.i .i64 (.ofNat len)) s) = onRes (evAI n0 (.bll x) T s) k
    rw [evOf_eq]
    simp only [evAI]
    rcases evO T x with _ | v
    · rfl
    · cases v <;> rfl
  case box e v =>
    show onV (evOf v T) (fun v => k (.p s.nxt 0) (newF e 0 (stF (cellsF v) 0 .leaf) (lenA' (cellsF v)) true 0 s)) = onRes (evAI n0 (.box e v) T s) k
    rw [evOf_eq]
    simp only [evAI]
    cases evO T v with
    | none => rfl
    | some v =>
      show k (.p s.nxt 0) (newF e 0 (stF (cellsF v) 0 .leaf) (lenA' (cellsF v)) true 0 s) = k (.p s.nxt 0) (evNew e 0 (stC (cellsOf v) 0 .leaf) (cellsOf v).len true 0 s)
      rw [newF_eq, stF_eq, lenA'_eq, cellsF_eq]
  case app e esz bytes x y =>
    show onV (evOf x T) (fun v => onV (evOf y T) fun x => srcF x esz s fun m new => Nat.rec (motive := fun _ => RO) (ap0 v s k) (fun j _ => apF v n0 e esz bytes s (Nat.succ j) new k) m) = onRes (evAI n0 (.app e esz bytes x y) T s) k
    rw [evOf_eq, evOf_eq]
    simp only [evAI]
    cases evO T x with
    | none => rfl
    | some v =>
      cases evO T y with
      | none => rfl
      | some x => exact apF_eq n0 e esz bytes s v x k
  case cvi kk x =>
    show onI (evOf x T) (fun _ n => k (.i kk (wrF kk n)) s) = onRes (evAI n0 (.cvi kk x) T s) k
    rw [evOf_eq]
    simp only [evAI]
    rcases evO T x with _ | v
    · rfl
    · cases v <;> try rfl
      rename_i k' n
      show k (.i kk (wrF kk n)) s = k (.i kk (wr kk n)) s
      rw [wrF_eq]
  case cid x =>
    show onS (evOf x T) (fun l n => k (.s l n) s) = onRes (evAI n0 (.cid x) T s) k
    rw [evOf_eq]
    simp only [evAI]
    rcases evO T x with _ | v
    · rfl
    · cases v <;> rfl
  case nilc mk x =>
    show onV (evOf x T) (fun v => avNil v mk s k) = onRes (evAI n0 (.nilc mk x) T s) k
    rw [evOf_eq]
    simp only [evAI]
    rcases evO T x with _ | v
    · rfl
    · cases v <;> try rfl
      exact thenB_some _ _ _ _
  case cbs e x =>
    show onS (evOf x T) (fun l n => thenB (Nat.ble (l + 1) 1099511627776) (k (.slr s.nxt 0 l 0) (newF e 1 (stF (sbF l n .nil) 0 .leaf) l false 1 s))) = onRes (evAI n0 (.cbs e x) T s) k
    rw [evOf_eq]
    simp only [evAI]
    rcases evO T x with _ | v
    · rfl
    · cases v <;> try rfl
      rename_i l n
      dsimp only
      show thenB (Nat.ble (l + 1) 1099511627776) (k (.slr s.nxt 0 l 0) (newF e 1 (stF (sbF l n .nil) 0 .leaf) l false 1 s)) = onRes (match Nat.ble (l + 1) 1099511627776 with
        | true => some (.slr s.nxt 0 l 0, evNew e 1 (stC (sbytes l n .nil) 0 .leaf) l false 1 s)
        | false => none) k
      rw [newF_eq, stF_eq, sbF_eq]
      cases Nat.ble (l + 1) 1099511627776 <;> rfl
  case csb x =>
    show onV (evOf x T) (fun v => avCsb v s k) = onRes (evAI n0 (.csb x) T s) k
    rw [evOf_eq]
    simp only [evAI]
    rcases evO T x with _ | v
    · rfl
    · cases v <;> try rfl
      · rename_i b o n c
        show ldK s b o n (fun l => onSof (sofF l 0 0) fun a w => k (.s a w) s) = onRes (match srcA.ldC' s b o n with
          | none => none
          | some l => match sofA l 0 0 with
            | some (a, n) => some (.s a n, s)
            | none => none) k
        rw [ldK_eq]
        cases srcA.ldC' s b o n with
        | none => rfl
        | some l => dsimp only; rw [sofF_eq]; rcases sofA l 0 0 with _ | ⟨a, m⟩ <;> rfl
      · rename_i b o n c
        show ldK s b o n (fun l => onSof (sofF l 0 0) fun a w => k (.s a w) s) = onRes (match srcA.ldC' s b o n with
          | none => none
          | some l => match sofA l 0 0 with
            | some (a, n) => some (.s a n, s)
            | none => none) k
        rw [ldK_eq]
        cases srcA.ldC' s b o n with
        | none => rfl
        | some l => dsimp only; rw [sofF_eq]; rcases sofA l 0 0 with _ | ⟨a, m⟩ <;> rfl
  case mkf f cap =>
    show evOsf cap T (fun l => k (.f f l) s) = onRes (evAI n0 (.mkf f cap) T s) k
    rw [evOsf_eq]
    simp only [evAI]
    cases evOs T cap <;> rfl
  case mki t x =>
    show onV (evOf x T) (fun v => k (.ifc t v) s) = onRes (evAI n0 (.mki t x) T s) k
    rw [evOf_eq]
    simp only [evAI]
    cases evO T x <;> rfl
  all_goals rfl
end Go.Ev
