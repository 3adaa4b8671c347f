import Derived.Test.YtbbfhlglljjpmaaGreatDoorEvFA
namespace Go.Ev
open Go
set_option linter.unusedVariables false
abbrev MoreT := AC → Tr AV → St → RR
abbrev CT := CallT → Nat → MoreT → Tr AV → St → RR
/-! Regions that draw their order -/
noncomputable def bitF (n i : Nat) : Bool := Nat.beq (Nat.mod (Nat.div n (Nat.pow 2 i)) 2) 1
noncomputable def keepV (v : AV) (s : St) : RO := some (.node (some v) .leaf .leaf, s)
noncomputable def foldTF (l : List DR) : Nat → Nat → Tr AV → Tr AV :=
  List.rec (motive := fun _ => Nat → Nat → Tr AV → Tr AV) (fun _ _ T => T) (fun r _ ih i S T => Bool.rec (motive := fun _ => Tr AV) (ih (Nat.succ i) S T) (ih (Nat.succ i) S (putF r.d r.v T)) (bitF S i)) l
noncomputable def cpRF (H' : Tr Blk) (n : Nat) : Nat → Tr Blk → Tr Blk :=
  Nat.rec (motive := fun _ => Nat → Tr Blk → Tr Blk) (fun _ H => H) (fun _ ih b H => ih (Nat.succ b) (setB b (getB b H') H)) n
noncomputable def cpBF (H' : Tr Blk) (fuel : Nat) : Nat → Tr Blk → Tr Blk :=
  Nat.rec (motive := fun _ => Nat → Tr Blk → Tr Blk) (fun _ H => H) (fun _ ih W H => Bool.rec (motive := fun _ => Tr Blk) (ih (Nat.mod W (Nat.pow 2 (Nat.log2 W))) (setB (Nat.log2 W) (getB (Nat.log2 W) H') H)) H (Nat.beq W 0)) fuel
noncomputable def apDF (r : DR) (H : Tr Blk) : Tr Blk := cpBF r.H r.W r.W (cpRF r.H (Nat.sub r.hi r.lo) r.lo H)
noncomputable def foldHF (l : List DR) : Nat → Nat → Tr Blk → Tr Blk :=
  List.rec (motive := fun _ => Nat → Nat → Tr Blk → Tr Blk) (fun _ _ H => H) (fun r _ ih i S H => Bool.rec (motive := fun _ => Tr Blk) (ih (Nat.succ i) S H) (ih (Nat.succ i) S (apDF r H)) (bitF S i)) l
noncomputable def foldTA (l : List DR) : Tr AV → Tr AV :=
  List.rec (motive := fun _ => Tr AV → Tr AV) (fun T => T) (fun r _ ih T => ih (putF r.d r.v T)) l
noncomputable def foldHA (l : List DR) : Tr Blk → Tr Blk :=
  List.rec (motive := fun _ => Tr Blk → Tr Blk) (fun H => H) (fun r _ ih H => ih (apDF r H)) l
noncomputable def eraseF (l : List Nat) : Tr AV → Tr AV :=
  List.rec (motive := fun _ => Tr AV → Tr AV) (fun T => T) (fun t _ ih T => setA t none (ih T)) l
noncomputable def baseTF (o : DOp) (prev : List DR) (T0 : Tr AV) : Tr AV := eraseF o.er (foldTF prev 0 o.bef T0)
noncomputable def hcls (cls rb bef : Nat) (prev : List DR) (H0 : Tr Blk) : Tr Blk :=
  Nat.rec (motive := fun _ => Tr Blk) .leaf (fun m _ => Nat.rec (motive := fun _ => Tr Blk) (setB rb (getB rb (foldHF prev 0 bef H0)) .leaf) (fun _ _ => foldHF prev 0 bef H0) m) cls
noncomputable def rdOKF (r : DR) (W : Nat) : Bool := Nat.rec (motive := fun _ => Bool) true (fun m _ => Nat.rec (motive := fun _ => Bool) (notF (bitF W r.rb)) (fun _ _ => Nat.beq W 0) m) r.cls
noncomputable def andF (a : Bool) : Bool → Bool := Bool.rec (motive := fun _ => Bool → Bool) (fun _ => false) (fun b => b) a
noncomputable def pairOKF (r q : DR) : Bool :=
  andF (Nat.beq (Nat.land r.W q.W) 0) (andF (Nat.beq (Nat.mod (Nat.div r.W (Nat.pow 2 q.lo)) (Nat.pow 2 (Nat.sub q.hi q.lo))) 0) (andF (Nat.beq (Nat.mod (Nat.div q.W (Nat.pow 2 r.lo)) (Nat.pow 2 (Nat.sub r.hi r.lo))) 0) (andF (rdOKF r q.W) (rdOKF q r.W))))
noncomputable def pairsOKF (l : List DR) (r : DR) (bef : Nat) : Nat → Bool :=
  List.rec (motive := fun _ => Nat → Bool) (fun _ => true) (fun q _ ih i => Bool.rec (motive := fun _ => Bool) (andF (pairOKF q r) (ih (Nat.succ i))) (ih (Nat.succ i)) (bitF bef i)) l
noncomputable def snocF (l : List DR) (r : DR) : List DR := List.rec (motive := fun _ => List DR) [r] (fun a _ ih => a :: ih) l
noncomputable def clP (o : Option AV) : Nat × Nat := Option.rec (motive := fun _ => Nat × Nat) (0, 0) (fun v => AV.rec (motive_1 := fun _ => Nat × Nat) (motive_2 := fun _ => Unit) (fun _ => (0, 0)) (fun _ _ => (0, 0)) (fun _ _ => (0, 0)) (fun b _ => (1, b)) ((0, 0)) (fun _ _ _ _ => (0, 0)) (fun _ _ _ _ => (0, 0)) ((0, 0)) (fun _ _ _ => (0, 0)) (fun _ _ _ => (0, 0)) ((0, 0)) (fun _ _ => (0, 0)) (fun _ _ => (0, 0)) ((0, 0)) (fun _ _ _ => (0, 0)) (fun _ => (0, 0)) (fun _ _ _ _ => (0, 0)) () (fun _ _ _ _ => ()) v) o
noncomputable def clB (o : Option AV) : Nat × Nat := Option.rec (motive := fun _ => Nat × Nat) (0, 0) (fun v => AV.rec (motive_1 := fun _ => Nat × Nat) (motive_2 := fun _ => Unit) (fun _ => (0, 0)) (fun _ _ => (0, 0)) (fun _ _ => (0, 0)) (fun _ _ => (2, 0)) ((0, 0)) (fun _ _ _ _ => (0, 0)) (fun _ _ _ _ => (0, 0)) ((0, 0)) (fun _ _ _ => (0, 0)) (fun _ _ _ => (0, 0)) ((0, 0)) (fun _ _ => (0, 0)) (fun _ _ => (0, 0)) ((0, 0)) (fun _ _ _ => (0, 0)) (fun _ => (0, 0)) (fun _ _ _ _ => (0, 0)) () (fun _ _ _ _ => ()) v) o
structure Cl where
  run : Tr AV → Nat × Nat
noncomputable def cbx (ai : AI) : Cl := AI.rec (motive := fun _ => Cl) (fun _ => ⟨fun T => (0, 0)⟩) (fun _ _ _ => ⟨fun T => (0, 0)⟩) (fun _ _ x _ => ⟨fun T => clB (evOf x T)⟩) (fun _ _ => ⟨fun T => (0, 0)⟩) (fun a => ⟨fun T => clP (evOf a T)⟩) (fun _ a => ⟨fun T => clP (evOf a T)⟩) (fun _ _ _ => ⟨fun T => (2, 0)⟩) (fun _ _ => ⟨fun T => (0, 0)⟩) (fun _ _ => ⟨fun T => (0, 0)⟩) (fun _ _ _ => ⟨fun T => (0, 0)⟩) (fun _ _ _ => ⟨fun T => (0, 0)⟩) (fun _ _ _ _ => ⟨fun T => (0, 0)⟩) (fun _ _ => ⟨fun T => (0, 0)⟩) (fun _ _ _ _ _ => ⟨fun T => (0, 0)⟩) (fun _ _ _ => ⟨fun T => (0, 0)⟩) (fun _ _ _ _ _ => ⟨fun T => (0, 0)⟩) (fun _ _ _ _ _ _ => ⟨fun T => (0, 0)⟩) (fun _ _ => ⟨fun T => (0, 0)⟩) (fun _ _ => ⟨fun T => (0, 0)⟩) (fun _ _ => ⟨fun T => (0, 0)⟩) (fun _ _ _ _ _ => ⟨fun T => (0, 0)⟩) (fun _ _ => ⟨fun T => (0, 0)⟩) (fun _ _ => ⟨fun T => (2, 0)⟩) (fun _ _ => ⟨fun T => (2, 0)⟩) (fun _ => ⟨fun T => (0, 0)⟩) (fun _ => ⟨fun T => (0, 0)⟩) (fun _ => ⟨fun T => (0, 0)⟩) (fun _ _ => ⟨fun T => (0, 0)⟩) (fun _ _ => ⟨fun T => (0, 0)⟩) (fun _ _ _ _ _ => ⟨fun T => (2, 0)⟩) (fun _ _ _ _ _ _ => ⟨fun T => (2, 0)⟩) (fun _ _ _ => ⟨fun T => (2, 0)⟩) (fun _ _ _ _ _ _ => ⟨fun T => (0, 0)⟩) (fun _ _ => ⟨fun T => (0, 0)⟩) (fun _ => ⟨fun T => (0, 0)⟩) (fun _ => ⟨fun T => (2, 0)⟩) (fun _ _ => ⟨fun T => (2, 0)⟩) (fun _ _ => ⟨fun T => (0, 0)⟩) (fun _ _ => ⟨fun T => (0, 0)⟩) (fun _ _ => ⟨fun T => (2, 0)⟩) (fun _ _ _ => ⟨fun T => (2, 0)⟩) (fun _ _ _ _ => ⟨fun T => (2, 0)⟩) (fun _ _ _ => ⟨fun T => (2, 0)⟩) (fun _ _ => ⟨fun T => (0, 0)⟩) (fun _ _ => ⟨fun T => (0, 0)⟩) (fun _ _ => ⟨fun T => (0, 0)⟩) (fun _ => ⟨fun T => (2, 0)⟩) (fun _ _ => ⟨fun T => (2, 0)⟩) (fun _ => ⟨fun T => (2, 0)⟩) (fun _ _ _ => ⟨fun T => (2, 0)⟩) (fun _ => ⟨fun T => (2, 0)⟩) (fun _ => ⟨fun T => (2, 0)⟩) ⟨fun T => (2, 0)⟩ ai
noncomputable def clsF (ai : AI) (T : Tr AV) : Nat × Nat := (cbx ai).run T
abbrev DT := CallT → Nat → Tr AV → Tr Blk → List DR → Nat → Option (List DR)
noncomputable def dthen (b : Bool) : Option (List DR) → Option (List DR) := Bool.rec (motive := fun _ => Option (List DR) → Option (List DR)) (fun _ => none) (fun x => x) b
noncomputable def onKeep (o : RO) : (AV → St → Option (List DR)) → Option (List DR) := Option.rec (motive := fun _ => (AV → St → Option (List DR)) → Option (List DR)) (fun _ => none) (fun q => Prod.rec (motive := fun _ => (AV → St → Option (List DR)) → Option (List DR)) (fun T s k => Option.rec (motive := fun _ => Option (List DR)) none (fun v => k v s) (rootA T)) q) o
noncomputable def dgo (r : DR) (bef : Nat) (prev : List DR) (ih : List DR → Nat → Option (List DR)) : Option (List DR) := dthen (pairsOKF prev r bef 0) (ih (snocF prev r) r.hi)
noncomputable def drun (d : Option Nat) (bef nxt : Nat) (prev : List DR) (H0 : Tr Blk) (ih : List DR → Nat → Option (List DR)) (ai : AI) (call : CallT) (n0 : Nat) (T : Tr AV) (c : Nat × Nat) : Option (List DR) := Prod.rec (motive := fun _ => Option (List DR)) (fun cls rb => onKeep (fOp ai call n0 T { H := hcls cls rb bef prev H0, nxt := nxt, W := 0 } keepV) fun v s' => dgo ⟨nxt, s'.nxt, Nat.mod s'.W (Nat.pow 2 nxt), cls, rb, s'.H, d, v⟩ bef prev ih) c
noncomputable def dwB (b w : Bool) : Option (List DR) → Option (List DR) → Option (List DR) := Bool.rec (motive := fun _ => Option (List DR) → Option (List DR) → Option (List DR)) (fun x y => Bool.rec (motive := fun _ => Option (List DR)) x y b) (fun x y => Bool.rec (motive := fun _ => Option (List DR)) y x b) w
noncomputable def dwAV (v : AV) : Bool → Option (List DR) → Option (List DR) → Option (List DR) := AV.rec (motive_1 := fun _ => Bool → Option (List DR) → Option (List DR) → Option (List DR)) (motive_2 := fun _ => Unit) (fun b => fun w => dwB b w) (fun _ _ => fun _ _ y => y) (fun _ _ => fun _ _ y => y) (fun _ _ => fun _ _ y => y) (fun _ _ y => y) (fun _ _ _ _ => fun _ _ y => y) (fun _ _ _ _ => fun _ _ y => y) (fun _ _ y => y) (fun _ _ _ => fun _ _ y => y) (fun _ _ _ => fun _ _ y => y) (fun _ _ y => y) (fun _ _ => fun _ _ y => y) (fun _ _ => fun _ _ y => y) (fun _ _ y => y) (fun _ _ _ => fun _ _ y => y) (fun _ => fun _ _ y => y) (fun _ _ _ _ => fun _ _ y => y) () (fun _ _ _ _ => ()) v
noncomputable def dwants (g : Option (Nat × Bool)) : Tr AV → Option (List DR) → Option (List DR) → Option (List DR) := Option.rec (motive := fun _ => Tr AV → Option (List DR) → Option (List DR) → Option (List DR)) (fun _ x _ => x) (fun q => Prod.rec (motive := fun _ => Tr AV → Option (List DR) → Option (List DR) → Option (List DR)) (fun t w T x y => Option.rec (motive := fun _ => Option (List DR)) none (fun v => dwAV v w x y) (getA t T)) q) g
noncomputable def dstep (o : DOp) (ih : DT) : DT := fun call n0 T0 H0 prev nxt => dwants o.op.g (baseTF o prev T0)
  (drun o.op.d o.bef nxt prev H0 (ih call n0 T0 H0) o.op.ai call n0 (baseTF o prev T0) (clsF o.op.ai (baseTF o prev T0)))
  (dgo ⟨nxt, nxt, 0, 0, 0, .leaf, o.op.d, .tup .nil⟩ o.bef prev (ih call n0 T0 H0))
noncomputable def evDF (l : List DOp) : DT := List.rec (motive := fun _ => DT) (fun _ _ _ _ prev _ => some prev) (fun o _ ih => dstep o ih) l
noncomputable def orWF (l : List DR) : Nat → Nat := List.rec (motive := fun _ => Nat → Nat) (fun W => W) (fun r _ ih W => Nat.lor (ih W) r.W) l
noncomputable def onDR (o : Option (List DR)) : (List DR → RO) → RO := Option.rec (motive := fun _ => (List DR → RO) → RO) (fun _ => none) (fun l k => k l) o
noncomputable def evDrawF (l : List DOp) (call : CallT) (n0 : Nat) (T : Tr AV) (s : St) : RO := onDR (evDF l call n0 T s.H [] s.nxt) fun rs => some (foldTA rs T, { H := foldHA rs s.H, nxt := lastHi rs s.nxt, W := orWF rs s.W })
/-! Control -/
noncomputable def onRO (o : RO) : (Tr AV → St → RR) → RR := Option.rec (motive := fun _ => (Tr AV → St → RR) → RR) (fun _ => .no) (fun q => Prod.rec (motive := fun _ => (Tr AV → St → RR) → RR) (fun T s k => k T s) q) o
noncomputable def onRR (o : RR) : (EX → Tr AV → St → RR) → RR := RR.rec (motive := fun _ => (EX → Tr AV → St → RR) → RR) (fun _ => .no) (fun e T s k => k e T s) o
noncomputable def rB (b : Bool) : RR → RR → RR := Bool.rec (motive := fun _ => RR → RR → RR) (fun _ y => y) (fun x _ => x) b
noncomputable def rAV (v : AV) : RR → RR → RR := AV.rec (motive_1 := fun _ => RR → RR → RR) (motive_2 := fun _ => Unit) (fun b => rB b) (fun _ _ => fun _ _ => .no) (fun _ _ => fun _ _ => .no) (fun _ _ => fun _ _ => .no) (fun _ _ => .no) (fun _ _ _ _ => fun _ _ => .no) (fun _ _ _ _ => fun _ _ => .no) (fun _ _ => .no) (fun _ _ _ => fun _ _ => .no) (fun _ _ _ => fun _ _ => .no) (fun _ _ => .no) (fun _ _ => fun _ _ => .no) (fun _ _ => fun _ _ => .no) (fun _ _ => .no) (fun _ _ _ => fun _ _ => .no) (fun _ => fun _ _ => .no) (fun _ _ _ _ => fun _ _ => .no) () (fun _ _ _ _ => ()) v
noncomputable def rO (o : Option AV) : RR → RR → RR := Option.rec (motive := fun _ => RR → RR → RR) (fun _ _ => .no) rAV o
noncomputable def eNrm (e : EX) : Tr AV → St → RR → RR := EX.rec (motive := fun _ => Tr AV → St → RR → RR) (fun _ _ x => x) (fun T s _ => .ok .ret T s) (fun n T s _ => .ok (.exit n) T s) (fun n T s _ => .ok (.goto n) T s) e
noncomputable def eBlk (n : Nat) (e : EX) : Tr AV → St → RR := EX.rec (motive := fun _ => Tr AV → St → RR) (fun T s => .ok .nrm T s) (fun T s => .ok .ret T s) (fun m T s => Bool.rec (motive := fun _ => RR) (.ok (.exit m) T s) (.ok .nrm T s) (Nat.beq m n)) (fun n T s => .ok (.goto n) T s) e
noncomputable def onAC (o : Option AC) : (AC → RR) → RR → RR := Option.rec (motive := fun _ => (AC → RR) → RR → RR) (fun _ d => d) (fun r k _ => k r) o
noncomputable def eGo (c : AC) (more : MoreT) (e : EX) : Tr AV → St → RR := EX.rec (motive := fun _ => Tr AV → St → RR) (fun T s => .ok .nrm T s) (fun T s => .ok .ret T s) (fun m T s => .ok (.exit m) T s) (fun l T s => onAC (findL c l) (fun r => more (.inscope c r) T s) (.ok (.goto l) T s)) e
structure Cb where
  run : CT
noncomputable def c_seq (a b : Cb) : CT := fun call n0 more T s => onRR (a.run call n0 more T s) fun e T' s' => eNrm e T' s' (b.run call n0 more T' s')
noncomputable def c_cond (c : GbA) (a b : Cb) : CT := fun call n0 more T s => rO (c.get T) (a.run call n0 more T s) (b.run call n0 more T s)
noncomputable def c_blk (n : Nat) (a : Cb) : CT := fun call n0 more T s => onRR (a.run call n0 more T s) fun e T' s' => eBlk n e T' s'
noncomputable def c_loop (c : AC) (a : Cb) : CT := fun call n0 more T s => onRR (a.run call n0 more T s) fun e T' s' => eNrm e T' s' (more (.loop c) T' s')
noncomputable def c_scope (c : AC) (a : Cb) : CT := fun call n0 more T s => onRR (a.run call n0 more T s) fun e T' s' => eGo c more e T' s'
noncomputable def c_reg (l : Lb) : CT := fun call n0 _ T s => onRO (l.run call n0 T s) fun T' s' => .ok .nrm T' s'
noncomputable def c_dreg (l : List DOp) : CT := fun call n0 _ T s => onRO (evDrawF l call n0 T s) fun T' s' => .ok .nrm T' s'
noncomputable def cbox (c : AC) : Cb := AC.rec (motive := fun _ => Cb)
    ⟨fun _ _ _ T s => .ok .nrm T s⟩
    ⟨fun _ _ _ T s => .ok .ret T s⟩
    (fun n => ⟨fun _ _ _ T s => .ok (.exit n) T s⟩)
    (fun n => ⟨fun _ _ _ T s => .ok (.goto n) T s⟩)
    (fun _ => ⟨fun _ _ _ T s => .ok .nrm T s⟩)
    (fun l => ⟨c_reg (lbx l)⟩)
    (fun l => ⟨c_dreg l⟩)
    (fun _ _ iha ihb => ⟨c_seq iha ihb⟩)
    (fun c _ _ iha ihb => ⟨c_cond (obx c) iha ihb⟩)
    (fun n _ ih => ⟨c_blk n ih⟩)
    (fun c ih => ⟨c_loop c ih⟩)
    (fun c ih => ⟨c_scope c ih⟩)
    (fun c _ _ ihr => ⟨c_scope c ihr⟩)
    ⟨fun _ _ _ _ _ => .no⟩ c
noncomputable def evCF (c : AC) : CT := fun call n0 more T s => (cbox c).run call n0 more T s
abbrev QT := Option (AV × St)
noncomputable def onVq (o : Option AV) : (AV → QT) → QT := Option.rec (motive := fun _ => (AV → QT) → QT) (fun _ => none) (fun v k => k v) o
noncomputable def resF (f : AF) (T : Tr AV) (s : St) : QT := onVq (evRes f.res T s) fun v => some (v, s)
noncomputable def eEnd (e : EX) : QT → QT := EX.rec (motive := fun _ => QT → QT) (fun x => x) (fun x => x) (fun _ _ => none) (fun _ _ => none) e
noncomputable def onRRq (o : RR) : (EX → Tr AV → St → QT) → QT := RR.rec (motive := fun _ => (EX → Tr AV → St → QT) → QT) (fun _ => none) (fun e T s k => k e T s) o
noncomputable def runF (af : AF) (more : MoreT) (l : AVs) (s : St) : QT := onRRq (more af.body (stF l 0 .leaf) s) fun e T s' => eEnd e (resF af T s')
noncomputable def onAF (o : Option AF) : MoreT → AVs → St → QT := Option.rec (motive := fun _ => MoreT → AVs → St → QT) (fun _ _ _ => none) (fun af => runF af) o
noncomputable def plugF (o : Option AV) : QT → St → QT := Option.rec (motive := fun _ => QT → St → QT) (fun x _ => x) (fun v _ s => some (v, s)) o
noncomputable def callFF (X : Nat → AVs → Option AV) (F : Nat → Option AF) (more : MoreT) (f : Nat) (l : AVs) (s : St) : QT := plugF (X f l) (onAF (F f) more l s) s
noncomputable def orQ (o : QT) : QT → QT := Option.rec (motive := fun _ => QT → QT) (fun x => x) (fun q _ => some q) o
noncomputable def callGF (Y : YT) (n0 : Nat) (X : Nat → AVs → Option AV) (F : Nat → Option AF) (more : MoreT) (f : Nat) (l : AVs) (s : St) : QT := orQ (Y n0 (callFF X F more) f l s) (callFF X F more f l s)
noncomputable def evNF (Y : YT) (X : Nat → AVs → Option AV) (F : Nat → Option AF) (n0 : Nat) (n : Nat) : MoreT :=
  Nat.rec (motive := fun _ => MoreT) (fun _ _ _ => .no) (fun _ ih c => evCF c (callGF Y n0 X F ih) n0 ih) n
noncomputable def evCallF (Y : YT) (X : Nat → AVs → Option AV) (F : Nat → Option AF) (n0 n : Nat) : CallT := callFF X F (evNF Y X F n0 n)
end Go.Ev
