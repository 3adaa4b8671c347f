import Derived.Test.YtbbfhlglljjpmaaGreatDoorEvFC
namespace Go.Ev
open Go
set_option linter.unusedVariables false
def k_move (P : Program) (x : Operand) : Option AI := (oo P x).map .mv
def k_assign (P : Program) (x : Operand) : Option AI := (oo P x).map .mv
def k_pick (P : Program) (c : Operand) (a : Operand) (b : Operand) : Option AI := match oo P c, oo P a, oo P b with
    | some c, some a, some b => some (.pick c a b)
    | _, _, _ => none
def k_alloc (P : Program) (e : TypeId) : Option AI := (zOf P e).map (.alc e)
def k_box (P : Program) (e : TypeId) (x : Operand) : Option AI := (oo P x).map (.box e)
def k_build (P : Program) (t : TypeId) (parts : Array (Nat × Operand)) : Option AI := match P.underlying t, zOf P t with
    | some (.struct fs), some z => if fs.all (fun f => (szOf P f.type).isSome) then (prtS P fs parts.toList).map (.bld z) else none
    | some (.array _ e), some z => match szOf P e with
      | some n => (prtA P n parts.toList).map (.bld z)
      | none => none
    | _, _ => none
def k_buildSlice (P : Program) (t : TypeId) (len : Nat) (parts : Array (Nat × Operand)) : Option AI := match P.underlying t with
    | some (.slice e) => match szOf P e, zOf P e with
      | some n, some z => if len * n ≤ 2 ^ 24 then (prtA P n parts.toList).map (.bsl e n len z) else none
      | _, _ => none
    | _ => none
def k_load (P : Program) (t : TypeId) (a : Operand) : Option AI := match P.underlying t, szOf P t, oo P a with
    | some d, some n, some a => some (if aggD d then .ldn n a else .ld1 a)
    | _, _, _ => none
def k_store (P : Program) (t : TypeId) (a : Operand) (v : Operand) : Option AI := match szOf P t, oo P a, oo P v with
    | some n, some a, some v => some (.st n a v)
    | _, _, _ => none
def k_nilCheck (P : Program) (x : Operand) : Option AI := (oo P x).map (.nilc fun nm t => (methF P nm t).isSome)
def k_binOp (P : Program) (op : BinOp) (xt : TypeId) (x : Operand) (y : Operand) (_u4 : TypeId) : Option AI := binC P op xt x y
def k_unOp (P : Program) (op : UnOp) (_u1 : TypeId) (x : Operand) : Option AI := (oo P x).map (.un op)
def k_convert (P : Program) (src : TypeId) (dst : TypeId) (x : Operand) : Option AI := match P.underlying src, P.underlying dst, oo P x with
    | some (.int _), some (.int k), some x => some (.cvi k x)
    | some .string, some .string, some x => some (.cid x)
    | some .string, some (.slice e), some x => match P.underlying e, szOf P e with
      | some (.int .u8), some 1 => some (.cbs e x)
      | _, _ => none
    | some (.pointer t), some .unsafePointer, some x => match szOf P t with
      | some (_ + 1) => some (.cvp x)
      | _ => none
    | some .unsafePointer, some (.pointer t), some x => match szOf P t with
      | some _ => some (.cvq (fun e n off => liesAt P P.depth e (n / P.cellsOf e) off t 1) x)
      | none => none
    | some (.slice e), some .string, some x => match P.underlying e with
      | some (.int .u8) => some (.csb x)
      | _ => none
    | _, _, _ => none
def k_makeInterface (P : Program) (t : TypeId) (x : Operand) : Option AI := match P.underlying t, oo P x with
    | some (.interface _), _ => none
    | some _, some x => some (.mki t x)
    | _, _ => none
def k_makeFunc (P : Program) (fn : Fn) (fi : Array Operand) (cs : Array Operand) : Option AI := match fn with
    | .func f => if fi.isEmpty then (oL P cs.toList).map (.mkf f) else if cs.isEmpty then (oL P fi.toList).map (.mkm f) else none
    | .method nm => match fi.toList, cs.toList with
      | [x], [] => (oo P x).map (.mkb nm)
      | _, _ => none
    | _ => none
def k_makeSlice (P : Program) (t : TypeId) (l : Operand) (c : Operand) : Option AI := match P.underlying t, oo P l, oo P c with
    | some (.slice e), some l, some c => match P.info? e, zOf P e with
      | some i, some z => some (.mks e i.size i.bytes z l c)
      | _, _ => none
    | _, _, _ => none
def k_slice (P : Program) (t : TypeId) (x : Operand) (lo : Option Operand) (hi : Option Operand) (mx : Option Operand) : Option AI := match P.underlying t, oo P x, oOpt P lo, oOpt P hi, oOpt P mx with
    | some .string, some x, some lo, some hi, some none => some (.sls x lo hi)
    | some (.slice e), some x, some lo, some hi, some mx => (szOf P e).map fun n => .sll n x lo hi mx
    | some (.array len e), some x, some lo, some hi, some none => (szOf P e).map fun n => .sla len n x lo hi none
    | _, _, _, _, _ => none
def k_fieldAddr (P : Program) (t : TypeId) (x : Operand) (f : Nat) : Option AI := match P.underlying t, oo P x with
    | some (.struct fs), some x => match fs[f]? with
      | some fd => match szOf P fd.type with
        | some (_ + 1) => some (.fa fd.offset x)
        | _ => none
      | none => none
    | _, _ => none
def k_field (P : Program) (t : TypeId) (x : Operand) (f : Nat) : Option AI := match P.underlying t, oo P x with
    | some (.struct fs), some x => match fs[f]? with
      | some fd => match P.underlying fd.type, szOf P fd.type with
        | some d, some n => some (if aggD d then .fln fd.offset n x else .fl1 fd.offset x)
        | _, _ => none
      | none => none
    | _, _ => none
def k_indexAddr (P : Program) (t : TypeId) (x : Operand) (i : Operand) : Option AI := match P.underlying t, oo P x, oo P i with
    | some (.slice e), some x, some i => (szOf P e).map fun n => .ia n x i
    | some (.array len e), some x, some i => (szOf P e).map fun n => .iaa len n x i
    | _, _, _ => none
def k_index (P : Program) (t : TypeId) (x : Operand) (i : Operand) : Option AI := match P.underlying t, oo P x, oo P i with
    | some .string, some x, some i => some (.ixs x i)
    | some (.array len e), some x, some i => match P.underlying e, szOf P e with
      | some d, some n => some (.ixa len n (aggD d) x i)
      | _, _ => none
    | _, _, _ => none
def k_range (P : Program) (t : TypeId) (x : Operand) : Option AI := match P.underlying t, oo P x with
    | some .string, some x => some (.rng x)
    | _, _ => none
def k_next (P : Program) (x : Operand) (isS : Bool) : Option AI := if isS then (oo P x).map .nxt else none
def k_typeAssert (P : Program) (x : Operand) (_u1 : TypeId) (t : TypeId) (ok : Bool) : Option AI := match P.underlying t, oo P x, zV P t with
    | some (.interface want), some x, some .nili => some (.tai (implF P want) ok x)
    | some (.interface _), _, _ => none
    | some _, some x, some z => some (.tac t ok z x)
    | _, _, _ => none
def k_extract (P : Program) (x : Operand) (i : Nat) : Option AI := (oo P x).map fun x => .ext x i
def k_call (P : Program) (c : Call) : Option AI := match c.callee with
    | .value (.func f) => (oL P c.args.toList).map (.call f)
    | .value x => match oo P x, oL P c.args.toList with
      | some x, some l => some (.calv x l)
      | _, _ => none
    | .invoke x name => match oo P x, oL P c.args.toList with
      | some x, some l => some (.inv (methF P name) x l)
      | _, _ => none
    | .builtin .len => match c.argTypes.toList, oL P c.args.toList with
      | t :: _, some [x] => match P.underlying t with
        | some .string => some (.bls x)
        | some (.slice _) => some (.bll x)
        | some (.array n _) => some (.mv (.c (.i .i64 (.ofNat n))))
        | _ => none
      | _, _ => none
    | .builtin .unsafeSliceData => match oL P c.args.toList with
      | some [x] => some (.usd x)
      | _ => none
    | .builtin .unsafeString => match c.argTypes.toList, oL P c.args.toList with
      | [pt, _], some [x, n] => match P.underlying pt with
        | some (.pointer e) => if P.cellsOf e = 1 then some (.ust e x n) else none
        | _ => none
      | _, _ => none
    | .builtin .cap => match c.argTypes.toList, oL P c.args.toList with
      | t :: _, some [x] => match P.underlying t with
        | some (.slice _) => some (.bcap x)
        | _ => none
      | _, _ => none
    | .builtin .min => match oL P c.args.toList with
      | some [x, y] => some (.bmn x y)
      | _ => none
    | .builtin .max => match oL P c.args.toList with
      | some [x, y] => some (.bmx x y)
      | _ => none
    | .builtin .append => match c.argTypes.toList, oL P c.args.toList with
      | [t, u], some [x, y] => match P.underlying t, P.underlying u with
        | some (.slice e), some (.slice _) => match P.info? e, zOf P e with
          | some i, some _ => if 0 < i.size ∧ 0 < i.bytes then some (.app e i.size i.bytes x y) else none
          | _, _ => none
        | some (.slice e), some .string => match P.info? e, zOf P e with
          | some i, some _ => if 0 < i.size ∧ 0 < i.bytes then some (.app e i.size i.bytes x y) else none
          | _, _ => none
        | some (.slice e), some (.int _) => match P.info? e, zOf P e with
          | some i, some z => if 0 < i.size ∧ 0 < i.bytes then some (.appz e i.size i.bytes z x y) else none
          | _, _ => none
        | _, _ => none
      | _, _ => none
    | .builtin .copy => match c.argTypes.toList, oL P c.args.toList with
      | t :: _, some [x, y] => match P.underlying t with
        | some (.slice e) => (szOf P e).map fun n => .cpy n x y
        | _ => none
      | _, _ => none
    | _ => none
noncomputable def kOp (o : Op) : Program → Option AI := Op.rec (motive := fun _ => Program → Option AI) (fun x1 P => k_move P x1) (fun x1 P => k_assign P x1) (fun c1 a1 b1 P => k_pick P c1 a1 b1) (fun e1 P => k_alloc P e1) (fun e1 v1 P => k_box P e1 v1) (fun t1 p1 P => k_build P t1 p1) (fun t1 n1 p1 P => k_buildSlice P t1 n1 p1) (fun _ _ _ _ _ => none) (fun t1 a1 P => k_load P t1 a1) (fun t1 a1 b1 P => k_store P t1 a1 b1) (fun _ _ => none) (fun _ _ => none) (fun x1 P => k_nilCheck P x1) (fun op1 t1 x1 y1 u1 P => k_binOp P op1 t1 x1 y1 u1) (fun op1 t1 x1 P => k_unOp P op1 t1 x1) (fun s1 d1 x1 P => k_convert P s1 d1 x1) (fun _ _ _ => none) (fun t1 x1 P => k_makeInterface P t1 x1) (fun f1 a1 b1 P => k_makeFunc P f1 a1 b1) (fun _ _ _ => none) (fun _ _ _ => none) (fun t1 l1 c1 P => k_makeSlice P t1 l1 c1) (fun t1 x1 a1 b1 c1 P => k_slice P t1 x1 a1 b1 c1) (fun t1 x1 f1 P => k_fieldAddr P t1 x1 f1) (fun t1 x1 f1 P => k_field P t1 x1 f1) (fun t1 x1 i1 P => k_indexAddr P t1 x1 i1) (fun t1 x1 i1 P => k_index P t1 x1 i1) (fun _ _ _ _ _ => none) (fun _ _ _ _ _ => none) (fun _ _ _ _ => none) (fun _ _ _ _ _ => none) (fun t1 x1 P => k_range P t1 x1) (fun x1 b1 P => k_next P x1 b1) (fun _ _ => none) (fun x1 t1 u1 b1 P => k_typeAssert P x1 t1 u1 b1) (fun x1 i1 P => k_extract P x1 i1) (fun c1 P => k_call P c1) (fun _ _ => none) (fun _ _ => none) (fun _ _ => none) (fun _ _ _ => none) (fun _ _ _ _ => none) (fun _ _ _ => none) o
theorem kOp_eq (P : Program) (o : Oper) : kOp o.op P = compOp P o := by
  obtain ⟨d, op, t, p, a, g⟩ := o
  cases op <;> rfl
abbrev GT := Option (Nat × Bool)
noncomputable def gBad (o : Option AI) : AI := Option.rec (motive := fun _ => AI) .bad (fun a => a) o
theorem gBad_eq (o : Option AI) : gBad o = o.getD .bad := by cases o <;> rfl
noncomputable def kGd (ops : Array Oper) (g : GT) : Option GT := Option.rec (motive := fun _ => Option GT) (some none) (fun q => compGd ops (some q)) g
theorem kGd_eq (ops : Array Oper) (g : GT) : kGd ops g = compGd ops g := by cases g <;> rfl
noncomputable def kD (P : Program) (nt : Nat) (op : Op) (g : GT) (d : Option Nat) : Option AOp := Option.rec (motive := fun _ => Option AOp) (some ⟨none, g, gBad (kOp op P)⟩) (fun d => Bool.rec (motive := fun _ => Option AOp) none (some ⟨some d, g, gBad (kOp op P)⟩) (Nat.ble (Nat.succ d) nt)) d
noncomputable def kA (P : Program) (nt : Nat) (ops : Array Oper) (o : Oper) : Option AOp := Option.rec (motive := fun _ => Option AOp) none (fun g => kD P nt o.op g o.dst) (kGd ops o.guard)
theorem kA_eq (P : Program) (nt : Nat) (ops : Array Oper) (o : Oper) : kA P nt ops o = compA P nt ops o := by
  unfold kA compA
  rw [kGd_eq]
  cases compGd ops o.guard with
  | none => rfl
  | some g =>
    show kD P nt o.op g o.dst = _
    unfold kD
    rw [gBad_eq, kOp_eq]
    cases o.dst with
    | none => rfl
    | some d =>
      show (Bool.rec none (some (⟨some d, g, (compOp P o).getD .bad⟩ : AOp)) (Nat.ble (d + 1) nt) : Option AOp) = if d < nt then _ else _
      by_cases h : d < nt
      · rw [if_pos h, Nat.ble_eq_true_of_le h]
      · rw [if_neg h]
        cases hb : Nat.ble (d + 1) nt with
        | false => rfl
        | true => exact absurd (Nat.le_of_ble_eq_true hb) h
noncomputable def kL (P : Program) (nt : Nat) (ops : Array Oper) (l : List Oper) : Option (List AOp) := List.rec (motive := fun _ => Option (List AOp)) (some []) (fun o _ ih => Option.rec (motive := fun _ => Option (List AOp)) none (fun a => Option.rec (motive := fun _ => Option (List AOp)) none (fun l => some (a :: l)) ih) (kA P nt ops o)) l
theorem kL_eq (P : Program) (nt : Nat) (ops : Array Oper) : ∀ l, kL P nt ops l = compL P nt ops l
  | [] => rfl
  | o :: r => by
    show (Option.rec none (fun a => Option.rec none (fun l => some (a :: l)) (kL P nt ops r)) (kA P nt ops o) : Option (List AOp)) = _
    rw [kL_eq P nt ops r, kA_eq, show compL P nt ops (o :: r) = (match compA P nt ops o with
      | none => none
      | some a => match compL P nt ops r with
        | none => none
        | some l => some (a :: l)) from rfl]
    cases compA P nt ops o with
    | none => rfl
    | some a => cases compL P nt ops r <;> rfl
abbrev KT := Program → Nat → Option AC
noncomputable def mapC (o : Option AC) : (AC → AC) → Option AC := Option.rec (motive := fun _ => (AC → AC) → Option AC) (fun _ => none) (fun c f => some (f c)) o
noncomputable def bindC (o : Option AC) : (AC → Option AC) → Option AC := Option.rec (motive := fun _ => (AC → Option AC) → Option AC) (fun _ => none) (fun c f => f c) o
noncomputable def regC (o : Option (List AOp)) : Option AC := Option.rec (motive := fun _ => Option AC) none (fun l => some (.reg l)) o
noncomputable def kC (c : Code) : KT := Code.rec (motive := fun _ => KT)
    (fun _ _ => some .skip)
    (fun id ops d P nt => Bool.rec (motive := fun _ => Option AC) (regC (kL P nt ops ops.toList)) (compC P nt (.region id ops true)) d)
    (fun _ _ iha ihb P nt => bindC (iha P nt) fun a => bindC (ihb P nt) fun b => some (.seq a b))
    (fun c _ _ iha ihb P nt => Option.rec (motive := fun _ => Option AC) none (fun c => bindC (iha P nt) fun a => bindC (ihb P nt) fun b => some (.cond c a b)) (oo P c))
    (fun n _ ih P nt => mapC (ih P nt) (.blk n))
    (fun _ ih P nt => mapC (ih P nt) .loop)
    (fun _ _ _ _ _ _ _ _ => some .bad)
    (fun n _ _ => some (.exit n))
    (fun _ ih P nt => mapC (ih P nt) .scope)
    (fun n _ _ => some (.lbl n))
    (fun n _ _ => some (.goto n))
    (fun _ _ => some .ret)
    (fun _ _ _ => some .bad) c
theorem kC_eq (P : Program) (nt : Nat) (c : Code) : kC c P nt = compC P nt c := by
  induction c with
  | skip => rfl
  | region id ops d =>
    cases d with
    | true => rfl
    | false =>
      show regC (kL P nt ops ops.toList) = (compL P nt ops ops.toList).map .reg
      rw [kL_eq]
      cases compL P nt ops ops.toList <;> rfl
  | seq a b iha ihb =>
    show bindC (kC a P nt) _ = _
    rw [iha]
    show bindC (compC P nt a) (fun x => bindC (kC b P nt) fun y => some (.seq x y)) = _
    rw [ihb, show compC P nt (.seq a b) = (match compC P nt a, compC P nt b with
      | some a, some b => some (.seq a b)
      | _, _ => none) from rfl]
    cases compC P nt a with
    | none => rfl
    | some x => cases compC P nt b <;> rfl
  | cond c a b iha ihb =>
    show (Option.rec none (fun c => bindC (kC a P nt) fun a => bindC (kC b P nt) fun b => some (.cond c a b)) (oo P c) : Option AC) = _
    rw [iha, ihb, show compC P nt (.cond c a b) = (match oo P c, compC P nt a, compC P nt b with
      | some c, some a, some b => some (.cond c a b)
      | _, _, _ => none) from rfl]
    cases oo P c with
    | none => rfl
    | some x =>
      cases compC P nt a with
      | none => rfl
      | some x => cases compC P nt b <;> rfl
  | block n c ih =>
    show mapC (kC c P nt) _ = _
    rw [ih, show compC P nt (.block n c) = (compC P nt c).map (.blk n) from rfl]
    cases compC P nt c <;> rfl
  | loop c ih =>
    show mapC (kC c P nt) _ = _
    rw [ih, show compC P nt (.loop c) = (compC P nt c).map .loop from rfl]
    cases compC P nt c <;> rfl
  | rangeFunc f p a b iha ihb => rfl
  | exit n => rfl
  | scope c ih =>
    show mapC (kC c P nt) _ = _
    rw [ih, show compC P nt (.scope c) = (compC P nt c).map .scope from rfl]
    cases compC P nt c <;> rfl
  | label n => rfl
  | goto n => rfl
  | ret => rfl
  | refuse w => rfl
noncomputable def kB (P : Program) (fn : Func) (c : Code) : Option AF := Option.rec (motive := fun _ => Option AF) none (fun body => Option.rec (motive := fun _ => Option AF) none (fun res => some ⟨body, res⟩) (compR P fn.results.toList)) (kC c P fn.ntmps)
noncomputable def kF (P : Program) (f : Nat) : Option AF := Option.rec (motive := fun _ => Option AF) none (fun fn => Bool.rec (motive := fun _ => Option AF) (Option.rec (motive := fun _ => Option AF) none (fun c => kB P fn c) fn.body) none (fn.name == "runtime.NumGoroutine")) P.funcs[f]?
theorem kF_eq (P : Program) : kF P = compF P := by
  funext f
  unfold kF compF
  cases P.funcs[f]? with
  | none => rfl
  | some fn =>
    show (Bool.rec (Option.rec none (fun c => kB P fn c) fn.body) none (fn.name == "runtime.NumGoroutine") : Option AF) = match fn.name == "runtime.NumGoroutine" with | true => none | false => _
    cases fn.name == "runtime.NumGoroutine" with
    | true => rfl
    | false =>
      show (Option.rec none (fun c => kB P fn c) fn.body : Option AF) = match fn.body with | none => none | some code => _
      cases fn.body with
      | none => rfl
      | some c =>
        show kB P fn c = match compC P fn.ntmps c with | none => none | some body => _
        unfold kB
        rw [kC_eq]
        cases compC P fn.ntmps c with
        | none => rfl
        | some b => cases compR P fn.results.toList <;> rfl
end Go.Ev
