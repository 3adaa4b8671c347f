import Derived.Test.YtbbfhlglljjpmaaGreatDoorEvZB
namespace Go.Ev
open Go
set_option linter.unusedVariables false
abbrev RO := Option (Tr AV × St)
abbrev RK := AV → St → RO
inductive Pa where
  | z
  | l (p : Pa)
  | r (p : Pa)
noncomputable def pathF (f : Nat) : Nat → Pa := Nat.rec (motive := fun _ => Nat → Pa) (fun _ => .z) (fun _ ih i => Nat.rec (motive := fun _ => Pa) .z (fun k _ => Nat.rec (motive := fun _ => Pa) (.l (ih (Nat.div k 2))) (fun _ _ => .r (ih (Nat.div k 2))) (Nat.mod k 2)) i) f
noncomputable def pathOf (i : Nat) : Pa := pathF (Nat.succ i) i
noncomputable def rootA (T : Tr AV) : Option AV := Tr.rec (motive := fun _ => Option AV) none (fun v _ _ _ _ => v) T
noncomputable def leftA (T : Tr AV) : Tr AV := Tr.rec (motive := fun _ => Tr AV) .leaf (fun _ l _ _ _ => l) T
noncomputable def rightA (T : Tr AV) : Tr AV := Tr.rec (motive := fun _ => Tr AV) .leaf (fun _ _ r _ _ => r) T
structure GbA where
  get : Tr AV → Option AV
structure SbA where
  set : Option AV → Tr AV → Tr AV
noncomputable def glA (b : GbA) (T : Tr AV) : Option AV := b.get (leftA T)
noncomputable def grA (b : GbA) (T : Tr AV) : Option AV := b.get (rightA T)
noncomputable def szA (v : Option AV) (T : Tr AV) : Tr AV := Tr.rec (motive := fun _ => Tr AV) (.node v .leaf .leaf) (fun _ l r _ _ => .node v l r) T
noncomputable def slA (b : SbA) (v : Option AV) (T : Tr AV) : Tr AV := Tr.rec (motive := fun _ => Tr AV) (.node none (b.set v .leaf) .leaf) (fun w l r _ _ => .node w (b.set v l) r) T
noncomputable def srA (b : SbA) (v : Option AV) (T : Tr AV) : Tr AV := Tr.rec (motive := fun _ => Tr AV) (.node none .leaf (b.set v .leaf)) (fun w l r _ _ => .node w l (b.set v r)) T
noncomputable def getPA (p : Pa) : GbA := Pa.rec (motive := fun _ => GbA) ⟨rootA⟩ (fun _ ih => ⟨glA ih⟩) (fun _ ih => ⟨grA ih⟩) p
noncomputable def setPA (p : Pa) : SbA := Pa.rec (motive := fun _ => SbA) ⟨szA⟩ (fun _ ih => ⟨slA ih⟩) (fun _ ih => ⟨srA ih⟩) p
noncomputable def getA (i : Nat) (T : Tr AV) : Option AV := (getPA (pathOf i)).get T
noncomputable def setA (i : Nat) (v : Option AV) (T : Tr AV) : Tr AV := (setPA (pathOf i)).set v T
noncomputable def rootB (T : Tr Blk) : Option Blk := Tr.rec (motive := fun _ => Option Blk) none (fun v _ _ _ _ => v) T
noncomputable def leftB (T : Tr Blk) : Tr Blk := Tr.rec (motive := fun _ => Tr Blk) .leaf (fun _ l _ _ _ => l) T
noncomputable def rightB (T : Tr Blk) : Tr Blk := Tr.rec (motive := fun _ => Tr Blk) .leaf (fun _ _ r _ _ => r) T
structure GbB where
  get : Tr Blk → Option Blk
structure SbB where
  set : Option Blk → Tr Blk → Tr Blk
noncomputable def glB (b : GbB) (T : Tr Blk) : Option Blk := b.get (leftB T)
noncomputable def grB (b : GbB) (T : Tr Blk) : Option Blk := b.get (rightB T)
noncomputable def szB (v : Option Blk) (T : Tr Blk) : Tr Blk := Tr.rec (motive := fun _ => Tr Blk) (.node v .leaf .leaf) (fun _ l r _ _ => .node v l r) T
noncomputable def slB (b : SbB) (v : Option Blk) (T : Tr Blk) : Tr Blk := Tr.rec (motive := fun _ => Tr Blk) (.node none (b.set v .leaf) .leaf) (fun w l r _ _ => .node w (b.set v l) r) T
noncomputable def srB (b : SbB) (v : Option Blk) (T : Tr Blk) : Tr Blk := Tr.rec (motive := fun _ => Tr Blk) (.node none .leaf (b.set v .leaf)) (fun w l r _ _ => .node w l (b.set v r)) T
noncomputable def getPB (p : Pa) : GbB := Pa.rec (motive := fun _ => GbB) ⟨rootB⟩ (fun _ ih => ⟨glB ih⟩) (fun _ ih => ⟨grB ih⟩) p
noncomputable def setPB (p : Pa) : SbB := Pa.rec (motive := fun _ => SbB) ⟨szB⟩ (fun _ ih => ⟨slB ih⟩) (fun _ ih => ⟨srB ih⟩) p
noncomputable def getB (i : Nat) (T : Tr Blk) : Option Blk := (getPB (pathOf i)).get T
noncomputable def setB (i : Nat) (v : Option Blk) (T : Tr Blk) : Tr Blk := (setPB (pathOf i)).set v T
noncomputable def obx (o : O) : GbA := O.rec (motive := fun _ => GbA) (fun n => getPA (pathOf n)) (fun v => ⟨fun _ => some v⟩) (fun n => ⟨fun _ => some (.p n 0)⟩) (fun f => ⟨fun _ => some (.f f .nil)⟩) o
noncomputable def evOf (o : O) (T : Tr AV) : Option AV := (obx o).get T
noncomputable def thenB (b : Bool) : RO → RO := Bool.rec (motive := fun _ => RO → RO) (fun _ => none) (fun x => x) b
noncomputable def onV (o : Option AV) : (AV → RO) → RO := Option.rec (motive := fun _ => (AV → RO) → RO) (fun _ => none) (fun a k => k a) o
noncomputable def avI (a : AV) : (IntKind → Int → RO) → RO := AV.rec (motive_1 := fun _ => (IntKind → Int → RO) → RO) (motive_2 := fun _ => Unit) (fun _ => fun _ => none) (fun k n => fun f => f k n) (fun _ _ => fun _ => none) (fun _ _ => fun _ => none) (fun _ => none) (fun _ _ _ _ => fun _ => none) (fun _ _ _ _ => fun _ => none) (fun _ => none) (fun _ _ _ => fun _ => none) (fun _ _ _ => fun _ => none) (fun _ => none) (fun _ _ => fun _ => none) (fun _ _ => fun _ => none) (fun _ => none) (fun _ _ _ => fun _ => none) (fun _ => fun _ => none) (fun _ _ _ _ => fun _ => none) () (fun _ _ _ _ => ()) a
noncomputable def onI (o : Option AV) : (IntKind → Int → RO) → RO := Option.rec (motive := fun _ => (IntKind → Int → RO) → RO) (fun _ => none) avI o
noncomputable def intN (n : Int) : (Nat → RO) → RO := Int.rec (motive := fun _ => (Nat → RO) → RO) (fun m f => f m) (fun _ _ => none) n
noncomputable def avN (a : AV) : (Nat → RO) → RO := AV.rec (motive_1 := fun _ => (Nat → RO) → RO) (motive_2 := fun _ => Unit) (fun _ => fun _ => none) (fun _ n => intN n) (fun _ _ => fun _ => none) (fun _ _ => fun _ => none) (fun _ => none) (fun _ _ _ _ => fun _ => none) (fun _ _ _ _ => fun _ => none) (fun _ => none) (fun _ _ _ => fun _ => none) (fun _ _ _ => fun _ => none) (fun _ => none) (fun _ _ => fun _ => none) (fun _ _ => fun _ => none) (fun _ => none) (fun _ _ _ => fun _ => none) (fun _ => fun _ => none) (fun _ _ _ _ => fun _ => none) () (fun _ _ _ _ => ()) a
noncomputable def onN (o : Option AV) : (Nat → RO) → RO := Option.rec (motive := fun _ => (Nat → RO) → RO) (fun _ => none) avN o
noncomputable def avP (a : AV) : (Nat → Nat → RO) → RO := AV.rec (motive_1 := fun _ => (Nat → Nat → RO) → RO) (motive_2 := fun _ => Unit) (fun _ => fun _ => none) (fun _ _ => fun _ => none) (fun _ _ => fun _ => none) (fun b o => fun f => f b o) (fun _ => none) (fun _ _ _ _ => fun _ => none) (fun _ _ _ _ => fun _ => none) (fun _ => none) (fun _ _ _ => fun _ => none) (fun _ _ _ => fun _ => none) (fun _ => none) (fun _ _ => fun _ => none) (fun _ _ => fun _ => none) (fun _ => none) (fun _ _ _ => fun _ => none) (fun _ => fun _ => none) (fun _ _ _ _ => fun _ => none) () (fun _ _ _ _ => ()) a
noncomputable def onP (o : Option AV) : (Nat → Nat → RO) → RO := Option.rec (motive := fun _ => (Nat → Nat → RO) → RO) (fun _ => none) avP o
noncomputable def avS (a : AV) : (Nat → Nat → RO) → RO := AV.rec (motive_1 := fun _ => (Nat → Nat → RO) → RO) (motive_2 := fun _ => Unit) (fun _ => fun _ => none) (fun _ _ => fun _ => none) (fun l n => fun f => f l n) (fun _ _ => fun _ => none) (fun _ => none) (fun _ _ _ _ => fun _ => none) (fun _ _ _ _ => fun _ => none) (fun _ => none) (fun _ _ _ => fun _ => none) (fun _ _ _ => fun _ => none) (fun _ => none) (fun _ _ => fun _ => none) (fun _ _ => fun _ => none) (fun _ => none) (fun _ _ _ => fun _ => none) (fun _ => fun _ => none) (fun _ _ _ _ => fun _ => none) () (fun _ _ _ _ => ()) a
noncomputable def onS (o : Option AV) : (Nat → Nat → RO) → RO := Option.rec (motive := fun _ => (Nat → Nat → RO) → RO) (fun _ => none) avS o
noncomputable def avSl (a : AV) : (Nat → Nat → Nat → RO) → RO := AV.rec (motive_1 := fun _ => (Nat → Nat → Nat → RO) → RO) (motive_2 := fun _ => Unit) (fun _ => fun _ => none) (fun _ _ => fun _ => none) (fun _ _ => fun _ => none) (fun _ _ => fun _ => none) (fun _ => none) (fun b o l _ => fun f => f b o l) (fun b o l _ => fun f => f b o l) (fun _ => none) (fun _ _ _ => fun _ => none) (fun _ _ _ => fun _ => none) (fun _ => none) (fun _ _ => fun _ => none) (fun _ _ => fun _ => none) (fun _ => none) (fun _ _ _ => fun _ => none) (fun _ => fun _ => none) (fun _ _ _ _ => fun _ => none) () (fun _ _ _ _ => ()) a
noncomputable def onSl (o : Option AV) : (Nat → Nat → Nat → RO) → RO := Option.rec (motive := fun _ => (Nat → Nat → Nat → RO) → RO) (fun _ => none) avSl o
noncomputable def avLen (a : AV) : (Nat → RO) → RO := AV.rec (motive_1 := fun _ => (Nat → RO) → RO) (motive_2 := fun _ => Unit) (fun _ => fun _ => none) (fun _ _ => fun _ => none) (fun _ _ => fun _ => none) (fun _ _ => fun _ => none) (fun _ => none) (fun _ _ l _ => fun f => f l) (fun _ _ l _ => fun f => f l) (fun f => f 0) (fun _ _ _ => fun _ => none) (fun _ _ _ => fun _ => none) (fun _ => none) (fun _ _ => fun _ => none) (fun _ _ => fun _ => none) (fun _ => none) (fun _ _ _ => fun _ => none) (fun _ => fun _ => none) (fun _ _ _ _ => fun _ => none) () (fun _ _ _ _ => ()) a
noncomputable def onLen (o : Option AV) : (Nat → RO) → RO := Option.rec (motive := fun _ => (Nat → RO) → RO) (fun _ => none) avLen o
noncomputable def avLenS (a : AV) : (Nat → RO) → RO := AV.rec (motive_1 := fun _ => (Nat → RO) → RO) (motive_2 := fun _ => Unit) (fun _ => fun _ => none) (fun _ _ => fun _ => none) (fun l _ => fun f => f l) (fun _ _ => fun _ => none) (fun _ => none) (fun _ _ l _ => fun f => f l) (fun _ _ l _ => fun f => f l) (fun f => f 0) (fun _ _ _ => fun _ => none) (fun _ _ _ => fun _ => none) (fun _ => none) (fun _ _ => fun _ => none) (fun _ _ => fun _ => none) (fun _ => none) (fun _ _ _ => fun _ => none) (fun _ => fun _ => none) (fun _ _ _ _ => fun _ => none) () (fun _ _ _ _ => ()) a
noncomputable def onLenS (o : Option AV) : (Nat → RO) → RO := Option.rec (motive := fun _ => (Nat → RO) → RO) (fun _ => none) avLenS o
noncomputable def avAgg (a : AV) : (AVs → RO) → RO := AV.rec (motive_1 := fun _ => (AVs → RO) → RO) (motive_2 := fun _ => Unit) (fun _ => fun _ => none) (fun _ _ => fun _ => none) (fun _ _ => fun _ => none) (fun _ _ => fun _ => none) (fun _ => none) (fun _ _ _ _ => fun _ => none) (fun _ _ _ _ => fun _ => none) (fun _ => none) (fun _ _ _ => fun _ => none) (fun _ _ _ => fun _ => none) (fun _ => none) (fun l _ => fun f => f l) (fun _ _ => fun _ => none) (fun _ => none) (fun _ _ _ => fun _ => none) (fun _ => fun _ => none) (fun _ _ _ _ => fun _ => none) () (fun _ _ _ _ => ()) a
noncomputable def onAgg (o : Option AV) : (AVs → RO) → RO := Option.rec (motive := fun _ => (AVs → RO) → RO) (fun _ => none) avAgg o
noncomputable def avTup (a : AV) : (AVs → RO) → RO := AV.rec (motive_1 := fun _ => (AVs → RO) → RO) (motive_2 := fun _ => Unit) (fun _ => fun _ => none) (fun _ _ => fun _ => none) (fun _ _ => fun _ => none) (fun _ _ => fun _ => none) (fun _ => none) (fun _ _ _ _ => fun _ => none) (fun _ _ _ _ => fun _ => none) (fun _ => none) (fun _ _ _ => fun _ => none) (fun _ _ _ => fun _ => none) (fun _ => none) (fun _ _ => fun _ => none) (fun l _ => fun f => f l) (fun _ => none) (fun _ _ _ => fun _ => none) (fun _ => fun _ => none) (fun _ _ _ _ => fun _ => none) () (fun _ _ _ _ => ()) a
noncomputable def onTup (o : Option AV) : (AVs → RO) → RO := Option.rec (motive := fun _ => (AVs → RO) → RO) (fun _ => none) avTup o
noncomputable def bT (b : Bool) : RO → RO → RO := Bool.rec (motive := fun _ => RO → RO → RO) (fun _ y => y) (fun x _ => x) b
noncomputable def avB (a : AV) : RO → RO → RO := AV.rec (motive_1 := fun _ => RO → RO → RO) (motive_2 := fun _ => Unit) (fun b => bT b) (fun _ _ => fun _ _ => none) (fun _ _ => fun _ _ => none) (fun _ _ => fun _ _ => none) (fun _ _ => none) (fun _ _ _ _ => fun _ _ => none) (fun _ _ _ _ => fun _ _ => none) (fun _ _ => none) (fun _ _ _ => fun _ _ => none) (fun _ _ _ => fun _ _ => none) (fun _ _ => none) (fun _ _ => fun _ _ => none) (fun _ _ => fun _ _ => none) (fun _ _ => none) (fun _ _ _ => fun _ _ => none) (fun _ => fun _ _ => none) (fun _ _ _ _ => fun _ _ => none) () (fun _ _ _ _ => ()) a
noncomputable def onB (o : Option AV) : RO → RO → RO := Option.rec (motive := fun _ => RO → RO → RO) (fun _ _ => none) avB o
noncomputable def blkRow (b : Blk) : (Nat → Nat → Tr AV → Nat → Bool → Nat → RO) → RO := Blk.rec (motive := fun _ => (Nat → Nat → Tr AV → Nat → Bool → Nat → RO) → RO) (fun e z c u x f k => k e z c u x f) (fun _ _ _ _ => none) b
noncomputable def onRow (o : Option Blk) : (Nat → Nat → Tr AV → Nat → Bool → Nat → RO) → RO := Option.rec (motive := fun _ => (Nat → Nat → Tr AV → Nat → Bool → Nat → RO) → RO) (fun _ => none) blkRow o
noncomputable def onRes (o : Option (AV × St)) : RK → RO := Option.rec (motive := fun _ => RK → RO) (fun _ => none) (fun q => Prod.rec (motive := fun _ => RK → RO) (fun v s k => k v s) q) o
noncomputable def onOpt (o : Option O) : Tr AV → Nat → (Nat → RO) → RO := Option.rec (motive := fun _ => Tr AV → Nat → (Nat → RO) → RO) (fun _ d k => k d) (fun o T _ k => onN (evOf o T) k) o
noncomputable def evOsf (l : List O) : Tr AV → (AVs → RO) → RO := List.rec (motive := fun _ => Tr AV → (AVs → RO) → RO) (fun _ k => k .nil) (fun o _ ih T k => onV (evOf o T) fun v => ih T fun vs => k (.cons v vs)) l
noncomputable def lenA' (l : AVs) : Nat := AVs.rec (motive_1 := fun _ => Unit) (motive_2 := fun _ => Nat) (fun _ => ()) (fun _ _ => ()) (fun _ _ => ()) (fun _ _ => ()) () (fun _ _ _ _ => ()) (fun _ _ _ _ => ()) () (fun _ _ _ => ()) (fun _ _ _ => ()) () (fun _ _ => ()) (fun _ _ => ()) () (fun _ _ _ => ()) (fun _ => ()) (fun _ _ _ _ => ()) (0) (fun _ _ _ n => Nat.succ n) l
noncomputable def oneV (a : AV) : Bool := AV.rec (motive_1 := fun _ => Bool) (motive_2 := fun _ => Unit) (fun _ => true) (fun _ _ => true) (fun _ _ => true) (fun _ _ => true) (true) (fun _ _ _ _ => true) (fun _ _ _ _ => true) (true) (fun _ _ _ => true) (fun _ _ _ => true) (true) (fun _ _ => false) (fun _ _ => false) (true) (fun _ _ _ => true) (fun _ => true) (fun _ _ _ _ => true) () (fun _ _ _ _ => ()) a
noncomputable def oneA (l : AVs) : Bool := AVs.rec (motive_1 := fun _ => Unit) (motive_2 := fun _ => Bool) (fun _ => ()) (fun _ _ => ()) (fun _ _ => ()) (fun _ _ => ()) () (fun _ _ _ _ => ()) (fun _ _ _ _ => ()) () (fun _ _ _ => ()) (fun _ _ _ => ()) () (fun _ _ => ()) (fun _ _ => ()) () (fun _ _ _ => ()) (fun _ => ()) (fun _ _ _ _ => ()) (true) (fun a _ _ r => Bool.rec (motive := fun _ => Bool) false r (oneV a)) l
noncomputable def cellsF (a : AV) : AVs := AV.rec (motive_1 := fun _ => AVs) (motive_2 := fun _ => Unit) (fun _ => .cons a .nil) (fun _ _ => .cons a .nil) (fun _ _ => .cons a .nil) (fun _ _ => .cons a .nil) (.cons a .nil) (fun _ _ _ _ => .cons a .nil) (fun _ _ _ _ => .cons a .nil) (.cons a .nil) (fun _ _ _ => .cons a .nil) (fun _ _ _ => .cons a .nil) (.cons a .nil) (fun l _ => l) (fun _ _ => .cons a .nil) (.cons a .nil) (fun _ _ _ => .cons a .nil) (fun _ => .cons a .nil) (fun _ _ _ _ => .cons a .nil) () (fun _ _ _ _ => ()) a
noncomputable def hdA (l : AVs) : Option AV := AVs.rec (motive_1 := fun _ => Unit) (motive_2 := fun _ => Option AV) (fun _ => ()) (fun _ _ => ()) (fun _ _ => ()) (fun _ _ => ()) () (fun _ _ _ _ => ()) (fun _ _ _ _ => ()) () (fun _ _ _ => ()) (fun _ _ _ => ()) () (fun _ _ => ()) (fun _ _ => ()) () (fun _ _ _ => ()) (fun _ => ()) (fun _ _ _ _ => ()) (none) (fun a _ _ _ => some a) l
noncomputable def tlA (l : AVs) : AVs := AVs.rec (motive_1 := fun _ => Unit) (motive_2 := fun _ => AVs) (fun _ => ()) (fun _ _ => ()) (fun _ _ => ()) (fun _ _ => ()) () (fun _ _ _ _ => ()) (fun _ _ _ _ => ()) () (fun _ _ _ => ()) (fun _ _ _ => ()) () (fun _ _ => ()) (fun _ _ => ()) () (fun _ _ _ => ()) (fun _ => ()) (fun _ _ _ _ => ()) (.nil) (fun _ t _ _ => t) l
noncomputable def nthF (i : Nat) : AVs → Option AV := Nat.rec (motive := fun _ => AVs → Option AV) hdA (fun _ ih l => ih (tlA l)) i
noncomputable def dropF (i : Nat) : AVs → AVs := Nat.rec (motive := fun _ => AVs → AVs) (fun l => l) (fun _ ih l => ih (tlA l)) i
noncomputable def takeF (i : Nat) : AVs → (AVs → RO) → RO := Nat.rec (motive := fun _ => AVs → (AVs → RO) → RO) (fun _ k => k .nil) (fun _ ih l k => onV (hdA l) fun a => ih (tlA l) fun r => k (.cons a r)) i
noncomputable def ldF (n : Nat) : Nat → Tr AV → (AVs → RO) → RO := Nat.rec (motive := fun _ => Nat → Tr AV → (AVs → RO) → RO) (fun _ _ k => k .nil) (fun _ ih off c k => onV (getA off c) fun a => ih (Nat.succ off) c fun l => k (.cons a l)) n
noncomputable def stF (l : AVs) : Nat → Tr AV → Tr AV := AVs.rec (motive_1 := fun _ => Unit) (motive_2 := fun _ => Nat → Tr AV → Tr AV) (fun _ => ()) (fun _ _ => ()) (fun _ _ => ()) (fun _ _ => ()) () (fun _ _ _ _ => ()) (fun _ _ _ _ => ()) () (fun _ _ _ => ()) (fun _ _ _ => ()) () (fun _ _ => ()) (fun _ _ => ()) () (fun _ _ _ => ()) (fun _ => ()) (fun _ _ _ _ => ()) (fun _ t => t) (fun a _ _ ih off t => ih (Nat.succ off) (setA off (some a) t)) l
noncomputable def limF (k : IntKind) : Nat := IntKind.rec (motive := fun _ => Nat) 128 32768 2147483648 9223372036854775808 256 65536 4294967296 18446744073709551616 k
noncomputable def ikEq (k : IntKind) : IntKind → Bool := IntKind.rec (motive := fun _ => IntKind → Bool) (fun k => IntKind.rec (motive := fun _ => Bool) true false false false false false false false k) (fun k => IntKind.rec (motive := fun _ => Bool) false true false false false false false false k) (fun k => IntKind.rec (motive := fun _ => Bool) false false true false false false false false k) (fun k => IntKind.rec (motive := fun _ => Bool) false false false true false false false false k) (fun k => IntKind.rec (motive := fun _ => Bool) false false false false true false false false k) (fun k => IntKind.rec (motive := fun _ => Bool) false false false false false true false false k) (fun k => IntKind.rec (motive := fun _ => Bool) false false false false false false true false k) (fun k => IntKind.rec (motive := fun _ => Bool) false false false false false false false true k) k
noncomputable def wrF (k : IntKind) (n : Int) : Int := Int.rec (motive := fun _ => IntKind → Int) (fun m k => Bool.rec (motive := fun _ => Int) (k.wrap (.ofNat m)) (.ofNat m) (Nat.ble (Nat.succ m) (limF k))) (fun m k => wr k (.negSucc m)) n k
noncomputable def addF (a : Int) : Int → Int := Int.rec (motive := fun _ => Int → Int) (fun m b => Int.rec (motive := fun _ => Int) (fun n => .ofNat (Nat.add m n)) (fun n => Int.add (.ofNat m) (.negSucc n)) b) (fun m b => Int.add (.negSucc m) b) a
noncomputable def subF (a : Int) : Int → Int := Int.rec (motive := fun _ => Int → Int) (fun m b => Int.rec (motive := fun _ => Int) (fun n => Bool.rec (motive := fun _ => Int) (.negSucc (Nat.sub (Nat.sub n m) 1)) (.ofNat (Nat.sub m n)) (Nat.ble n m)) (fun n => .ofNat (Nat.add m (Nat.succ n))) b) (fun m b => Int.sub (.negSucc m) b) a
noncomputable def mulF (a : Int) : Int → Int := Int.rec (motive := fun _ => Int → Int) (fun m b => Int.rec (motive := fun _ => Int) (fun n => .ofNat (Nat.mul m n)) (fun n => Int.mul (.ofNat m) (.negSucc n)) b) (fun m b => Int.mul (.negSucc m) b) a
noncomputable def ieqF (a : Int) : Int → Bool := Int.rec (motive := fun _ => Int → Bool) (fun m b => Int.rec (motive := fun _ => Bool) (fun n => Nat.beq m n) (fun _ => false) b) (fun m b => Int.rec (motive := fun _ => Bool) (fun _ => false) (fun n => Nat.beq m n) b) a
noncomputable def ileF (a : Int) : Int → Bool := Int.rec (motive := fun _ => Int → Bool) (fun m b => Int.rec (motive := fun _ => Bool) (fun n => Nat.ble m n) (fun _ => false) b) (fun m b => Int.rec (motive := fun _ => Bool) (fun _ => true) (fun n => Nat.ble n m) b) a
noncomputable def notF (b : Bool) : Bool := Bool.rec (motive := fun _ => Bool) true false b
noncomputable def ifS (b : Bool) : Option AV → Option AV := Bool.rec (motive := fun _ => Option AV → Option AV) (fun _ => none) (fun x => x) b
noncomputable def i_add (k : IntKind) (a : Int) (k' : IntKind) (b : Int) : Option AV := ifS (ikEq k k') (some (.i k (wrF k (addF a b))))
noncomputable def i_sub (k : IntKind) (a : Int) (k' : IntKind) (b : Int) : Option AV := ifS (ikEq k k') (some (.i k (wrF k (subF a b))))
noncomputable def i_mul (k : IntKind) (a : Int) (k' : IntKind) (b : Int) : Option AV := ifS (ikEq k k') (some (.i k (wrF k (mulF a b))))
noncomputable def i_eql (k : IntKind) (a : Int) (k' : IntKind) (b : Int) : Option AV := ifS (ikEq k k') (some (.b (ieqF a b)))
noncomputable def i_neq (k : IntKind) (a : Int) (k' : IntKind) (b : Int) : Option AV := ifS (ikEq k k') (some (.b (notF (ieqF a b))))
noncomputable def i_lss (k : IntKind) (a : Int) (k' : IntKind) (b : Int) : Option AV := ifS (ikEq k k') (some (.b (notF (ileF b a))))
noncomputable def i_leq (k : IntKind) (a : Int) (k' : IntKind) (b : Int) : Option AV := ifS (ikEq k k') (some (.b (ileF a b)))
noncomputable def i_gtr (k : IntKind) (a : Int) (k' : IntKind) (b : Int) : Option AV := ifS (ikEq k k') (some (.b (notF (ileF a b))))
noncomputable def i_geq (k : IntKind) (a : Int) (k' : IntKind) (b : Int) : Option AV := ifS (ikEq k k') (some (.b (ileF b a)))
noncomputable def i_quo (k : IntKind) (a : Int) (k' : IntKind) (b : Int) : Option AV := ifS (ikEq k k') (intBin .quo k a b)
noncomputable def i_rem (k : IntKind) (a : Int) (k' : IntKind) (b : Int) : Option AV := ifS (ikEq k k') (intBin .rem k a b)
noncomputable def i_and (k : IntKind) (a : Int) (k' : IntKind) (b : Int) : Option AV := ifS (ikEq k k') (intBin .and k a b)
noncomputable def i_or (k : IntKind) (a : Int) (k' : IntKind) (b : Int) : Option AV := ifS (ikEq k k') (intBin .or k a b)
noncomputable def i_xor (k : IntKind) (a : Int) (k' : IntKind) (b : Int) : Option AV := ifS (ikEq k k') (intBin .xor k a b)
noncomputable def i_andNot (k : IntKind) (a : Int) (k' : IntKind) (b : Int) : Option AV := ifS (ikEq k k') (intBin .andNot k a b)
noncomputable def i_shl (k : IntKind) (a : Int) (k' : IntKind) (b : Int) : Option AV := shiftBin .shl k a b
noncomputable def i_shr (k : IntKind) (a : Int) (k' : IntKind) (b : Int) : Option AV := shiftBin .shr k a b
structure Ib where
  run : IntKind → Int → IntKind → Int → Option AV
noncomputable def ibx (op : BinOp) : Ib := BinOp.rec (motive := fun _ => Ib) ⟨i_add⟩ ⟨i_sub⟩ ⟨i_mul⟩ ⟨i_quo⟩ ⟨i_rem⟩ ⟨i_and⟩ ⟨i_or⟩ ⟨i_xor⟩ ⟨i_shl⟩ ⟨i_shr⟩ ⟨i_andNot⟩ ⟨i_eql⟩ ⟨i_neq⟩ ⟨i_lss⟩ ⟨i_leq⟩ ⟨i_gtr⟩ ⟨i_geq⟩ op
noncomputable def iOp (op : BinOp) (k : IntKind) (a : Int) (k' : IntKind) (b : Int) : Option AV := (ibx op).run k a k' b
noncomputable def seqF (l1 n1 l2 n2 : Nat) : Bool := Bool.rec (motive := fun _ => Bool) false (Nat.beq n1 n2) (Nat.beq l1 l2)
noncomputable def s_add (l1 n1 l2 n2 : Nat) : Option AV := ifS (Nat.ble (Nat.add l1 l2) 9223372036854775807) (some (.s (Nat.add l1 l2) (Nat.add (Nat.mul n1 (Nat.pow 256 l2)) n2)))
noncomputable def s_eql (l1 n1 l2 n2 : Nat) : Option AV := some (.b (seqF l1 n1 l2 n2))
noncomputable def s_neq (l1 n1 l2 n2 : Nat) : Option AV := some (.b (notF (seqF l1 n1 l2 n2)))
noncomputable def s_sub (l1 n1 l2 n2 : Nat) : Option AV := strBin .sub l1 n1 l2 n2
noncomputable def s_mul (l1 n1 l2 n2 : Nat) : Option AV := strBin .mul l1 n1 l2 n2
noncomputable def s_quo (l1 n1 l2 n2 : Nat) : Option AV := strBin .quo l1 n1 l2 n2
noncomputable def s_rem (l1 n1 l2 n2 : Nat) : Option AV := strBin .rem l1 n1 l2 n2
noncomputable def s_and (l1 n1 l2 n2 : Nat) : Option AV := strBin .and l1 n1 l2 n2
noncomputable def s_or (l1 n1 l2 n2 : Nat) : Option AV := strBin .or l1 n1 l2 n2
noncomputable def s_xor (l1 n1 l2 n2 : Nat) : Option AV := strBin .xor l1 n1 l2 n2
noncomputable def s_shl (l1 n1 l2 n2 : Nat) : Option AV := strBin .shl l1 n1 l2 n2
noncomputable def s_shr (l1 n1 l2 n2 : Nat) : Option AV := strBin .shr l1 n1 l2 n2
noncomputable def s_andNot (l1 n1 l2 n2 : Nat) : Option AV := strBin .andNot l1 n1 l2 n2
noncomputable def s_lss (l1 n1 l2 n2 : Nat) : Option AV := strBin .lss l1 n1 l2 n2
noncomputable def s_leq (l1 n1 l2 n2 : Nat) : Option AV := strBin .leq l1 n1 l2 n2
noncomputable def s_gtr (l1 n1 l2 n2 : Nat) : Option AV := strBin .gtr l1 n1 l2 n2
noncomputable def s_geq (l1 n1 l2 n2 : Nat) : Option AV := strBin .geq l1 n1 l2 n2
structure Sb where
  run : Nat → Nat → Nat → Nat → Option AV
noncomputable def sbx (op : BinOp) : Sb := BinOp.rec (motive := fun _ => Sb) ⟨s_add⟩ ⟨s_sub⟩ ⟨s_mul⟩ ⟨s_quo⟩ ⟨s_rem⟩ ⟨s_and⟩ ⟨s_or⟩ ⟨s_xor⟩ ⟨s_shl⟩ ⟨s_shr⟩ ⟨s_andNot⟩ ⟨s_eql⟩ ⟨s_neq⟩ ⟨s_lss⟩ ⟨s_leq⟩ ⟨s_gtr⟩ ⟨s_geq⟩ op
noncomputable def sOp (op : BinOp) (l1 n1 l2 n2 : Nat) : Option AV := (sbx op).run l1 n1 l2 n2
noncomputable def binI (y : AV) : BinOp → IntKind → Int → Option AV := AV.rec (motive_1 := fun _ => BinOp → IntKind → Int → Option AV) (motive_2 := fun _ => Unit) (fun _ => fun _ _ _ => none) (fun k' b => fun op k a => iOp op k a k' b) (fun _ _ => fun _ _ _ => none) (fun _ _ => fun _ _ _ => none) (fun _ _ _ => none) (fun _ _ _ _ => fun _ _ _ => none) (fun _ _ _ _ => fun _ _ _ => none) (fun _ _ _ => none) (fun _ _ _ => fun _ _ _ => none) (fun _ _ _ => fun _ _ _ => none) (fun _ _ _ => none) (fun _ _ => fun _ _ _ => none) (fun _ _ => fun _ _ _ => none) (fun _ _ _ => none) (fun _ _ _ => fun _ _ _ => none) (fun _ => fun _ _ _ => none) (fun _ _ _ _ => fun _ _ _ => none) () (fun _ _ _ _ => ()) y
noncomputable def binS (y : AV) : BinOp → Nat → Nat → Option AV := AV.rec (motive_1 := fun _ => BinOp → Nat → Nat → Option AV) (motive_2 := fun _ => Unit) (fun _ => fun _ _ _ => none) (fun _ _ => fun _ _ _ => none) (fun l2 n2 => fun op l1 n1 => sOp op l1 n1 l2 n2) (fun _ _ => fun _ _ _ => none) (fun _ _ _ => none) (fun _ _ _ _ => fun _ _ _ => none) (fun _ _ _ _ => fun _ _ _ => none) (fun _ _ _ => none) (fun _ _ _ => fun _ _ _ => none) (fun _ _ _ => fun _ _ _ => none) (fun _ _ _ => none) (fun _ _ => fun _ _ _ => none) (fun _ _ => fun _ _ _ => none) (fun _ _ _ => none) (fun _ _ _ => fun _ _ _ => none) (fun _ => fun _ _ _ => none) (fun _ _ _ _ => fun _ _ _ => none) () (fun _ _ _ _ => ()) y
noncomputable def binF (x : AV) : BinOp → EK → St → AV → Option AV := AV.rec (motive_1 := fun _ => BinOp → EK → St → AV → Option AV) (motive_2 := fun _ => Unit) (fun _ => fun op ek s y => evBin op ek s x y) (fun k a => fun op _ _ y => binI y op k a) (fun l n => fun op _ _ y => binS y op l n) (fun _ _ => fun op ek s y => evBin op ek s x y) (fun op ek s y => evBin op ek s x y) (fun _ _ _ _ => fun op ek s y => evBin op ek s x y) (fun _ _ _ _ => fun op ek s y => evBin op ek s x y) (fun op ek s y => evBin op ek s x y) (fun _ _ _ => fun op ek s y => evBin op ek s x y) (fun _ _ _ => fun op ek s y => evBin op ek s x y) (fun op ek s y => evBin op ek s x y) (fun _ _ => fun op ek s y => evBin op ek s x y) (fun _ _ => fun op ek s y => evBin op ek s x y) (fun op ek s y => evBin op ek s x y) (fun _ _ _ => fun op ek s y => evBin op ek s x y) (fun _ => fun op ek s y => evBin op ek s x y) (fun _ _ _ _ => fun op ek s y => evBin op ek s x y) () (fun _ _ _ _ => ()) x
noncomputable def notV (x : AV) : Option AV := AV.rec (motive_1 := fun _ => Option AV) (motive_2 := fun _ => Unit) (fun b => some (.b (notF b))) (fun _ _ => none) (fun _ _ => none) (fun _ _ => none) (none) (fun _ _ _ _ => none) (fun _ _ _ _ => none) (none) (fun _ _ _ => none) (fun _ _ _ => none) (none) (fun _ _ => none) (fun _ _ => none) (none) (fun _ _ _ => none) (fun _ => none) (fun _ _ _ _ => none) () (fun _ _ _ _ => ()) x
noncomputable def negV (x : AV) : Option AV := AV.rec (motive_1 := fun _ => Option AV) (motive_2 := fun _ => Unit) (fun _ => none) (fun k n => some (.i k (wr k (0 - n)))) (fun _ _ => none) (fun _ _ => none) (none) (fun _ _ _ _ => none) (fun _ _ _ _ => none) (none) (fun _ _ _ => none) (fun _ _ _ => none) (none) (fun _ _ => none) (fun _ _ => none) (none) (fun _ _ _ => none) (fun _ => none) (fun _ _ _ _ => none) () (fun _ _ _ _ => ()) x
noncomputable def unF (op : UnOp) : AV → Option AV := UnOp.rec (motive := fun _ => AV → Option AV) negV (fun _ => none) notV (fun _ => none) op
noncomputable def offF (c l off esz : Nat) : Nat := Bool.rec (motive := fun _ => Nat) (Nat.add off (Nat.mul l esz)) off (Nat.beq c l)
noncomputable def sl_sl (b off len cap esz l h : Nat) (m : Option Nat) : Option AV := Option.rec (motive := fun _ => Option AV) (ifS (Nat.ble l h) (ifS (Nat.ble h cap) (some (.sl b (offF cap l off esz) (Nat.sub h l) (Nat.sub cap l))))) (fun m => ifS (Nat.ble l h) (ifS (Nat.ble h m) (ifS (Nat.ble m cap) (some (.sl b (offF m l off esz) (Nat.sub h l) (Nat.sub m l)))))) m
noncomputable def sl_slr (b off len eo esz l h : Nat) (m : Option Nat) : Option AV := Option.rec (motive := fun _ => Option AV) (ifS (Nat.ble l h) (ifS (Nat.ble h len) (Nat.rec (motive := fun _ => Option AV) (some (.slr b off h eo)) (fun k _ => Bool.rec (motive := fun _ => Option AV) (some (.slr b 18446744073709551616 0 (Nat.add eo (Nat.succ k)))) (some (.slr b (Nat.add off (Nat.mul (Nat.succ k) esz)) (Nat.sub h (Nat.succ k)) (Nat.add eo (Nat.succ k)))) (Nat.ble (Nat.succ (Nat.succ k)) len)) l))) (fun m => ifS (Nat.ble l h) (ifS (Nat.ble h m) (ifS (Nat.ble m len) (ifS (Nat.ble 1 len) (some (.sl b (offF m l off esz) (Nat.sub h l) (Nat.sub m l))))))) m
noncomputable def sl_nils (esz l h : Nat) (m : Option Nat) : Option AV := evSlL esz .nils l h m
noncomputable def slF (v : AV) : Nat → Nat → Nat → Option Nat → Option AV := AV.rec (motive_1 := fun _ => Nat → Nat → Nat → Option Nat → Option AV) (motive_2 := fun _ => Unit) (fun _ => fun _ _ _ _ => none) (fun _ _ => fun _ _ _ _ => none) (fun _ _ => fun _ _ _ _ => none) (fun _ _ => fun _ _ _ _ => none) (fun _ _ _ _ => none) (fun b o n c => sl_sl b o n c) (fun b o n c => sl_slr b o n c) (sl_nils) (fun _ _ _ => fun _ _ _ _ => none) (fun _ _ _ => fun _ _ _ _ => none) (fun _ _ _ _ => none) (fun _ _ => fun _ _ _ _ => none) (fun _ _ => fun _ _ _ _ => none) (fun _ _ _ _ => none) (fun _ _ _ => fun _ _ _ _ => none) (fun _ => fun _ _ _ _ => none) (fun _ _ _ _ => fun _ _ _ _ => none) () (fun _ _ _ _ => ()) v
noncomputable def newF (e esz : Nat) (cells : Tr AV) (used : Nat) (ex : Bool) (fz : Nat) (s : St) : St := { H := setB s.nxt (some (.row e esz cells used ex fz)) s.H, nxt := Nat.succ s.nxt, W := s.W }
noncomputable def stK (n0 b off : Nat) (l : AVs) (s : St) (k : St → RO) : RO := thenB (Nat.ble n0 b) (onRow (getB b s.H) fun e esz cells used ex fz => thenB (Nat.ble fz 1) (thenB (oneA l) (thenB (Nat.ble (Nat.add off (lenA' l)) used) (k { H := setB b (some (.row e esz (stF l off cells) used ex fz)) s.H, nxt := s.nxt, W := Nat.lor s.W (Nat.shiftLeft 1 b) }))))
noncomputable def ldK (s : St) (b off n : Nat) (k : AVs → RO) : RO := Nat.rec (motive := fun _ => RO) (k .nil) (fun m _ => onRow (getB b s.H) fun _ _ cells _ _ _ => ldF (Nat.succ m) off cells k) n
noncomputable def sbF (l : Nat) : Nat → AVs → AVs := Nat.rec (motive := fun _ => Nat → AVs → AVs) (fun _ acc => acc) (fun _ ih n acc => ih (Nat.div n 256) (.cons (.i .u8 (.ofNat (Nat.mod n 256))) acc)) l
noncomputable def srcF (v : AV) : Nat → St → (Nat → AVs → RO) → RO := AV.rec (motive_1 := fun _ => Nat → St → (Nat → AVs → RO) → RO) (motive_2 := fun _ => Unit) (fun _ => fun _ _ _ => none) (fun _ _ => fun _ _ _ => none) (fun l n => fun esz s k => thenB (Nat.beq esz 1) (k l (sbF l n .nil))) (fun _ _ => fun _ _ _ => none) (fun _ _ _ => none) (fun b o n _ => fun esz s k => ldK s b o (Nat.mul n esz) fun l => k n l) (fun b o n _ => fun esz s k => ldK s b o (Nat.mul n esz) fun l => k n l) (fun _ _ k => k 0 .nil) (fun _ _ _ => fun _ _ _ => none) (fun _ _ _ => fun _ _ _ => none) (fun _ _ _ => none) (fun _ _ => fun _ _ _ => none) (fun _ _ => fun _ _ _ => none) (fun _ _ _ => none) (fun _ _ _ => fun _ _ _ => none) (fun _ => fun _ _ _ => none) (fun _ _ _ _ => fun _ _ _ => none) () (fun _ _ _ _ => ()) v
noncomputable def grF (e esz bytes : Nat) (old new : AVs) (need cap : Nat) (s : St) (k : RK) : RO := thenB (Nat.ble (Nat.mul (Builtin.nextslicecap need cap) bytes) 281474976710656) (thenB (Nat.beq (Nat.add (lenA' old) (lenA' new)) (Nat.mul need esz)) (k (.slr s.nxt 0 need 0) (newF e esz (stF new (lenA' old) (stF old 0 .leaf)) (Nat.mul need esz) false 0 s)))
noncomputable def ap_sl (b off len cap n0 e esz bytes : Nat) (s : St) (m : Nat) (new : AVs) (k : RK) : RO := Bool.rec (motive := fun _ => RO) (ldK s b off (Nat.mul len esz) fun old => grF e esz bytes old new (Nat.add len m) cap s k) (stK n0 b (Nat.add off (Nat.mul len esz)) new s fun s' => k (.sl b off (Nat.add len m) cap) s') (Nat.ble (Nat.add len m) cap)
noncomputable def ap_slr (b off len eo n0 e esz bytes : Nat) (s : St) (m : Nat) (new : AVs) (k : RK) : RO := thenB (notF (Nat.beq off 18446744073709551616)) (onRow (getB b s.H) fun e' esz' cells used ex fz => thenB (Nat.beq e e') (thenB (Nat.beq esz esz') (thenB (notF ex) (thenB (Nat.ble fz 1) (thenB (Nat.beq off (Nat.mul eo esz)) (Bool.rec (motive := fun _ => RO) (thenB (Nat.beq off 0) (thenB (Nat.beq (Nat.mul len esz) used) (thenB (Nat.beq (lenA' new) (Nat.mul m esz)) (thenB (oneA new) (thenB (Nat.ble (Nat.mul (Nat.add (Nat.mul 2 (Nat.add len m)) 1000) bytes) 281474976710656) (thenB (Nat.ble n0 b) (k (.slr s.nxt 0 (Nat.add len m) 0) { H := setB s.nxt (some (.row e esz (stF new used cells) (Nat.add used (lenA' new)) false 1)) (setB b none s.H), nxt := Nat.succ s.nxt, W := Nat.lor s.W (Nat.shiftLeft 1 b) }))))))) (stK n0 b (Nat.add off (Nat.mul len esz)) new s fun s' => k (.slr b off (Nat.add len m) eo) s') (Nat.ble (Nat.add off (Nat.mul (Nat.add len m) esz)) used)))))))
noncomputable def apF (v : AV) : Nat → Nat → Nat → Nat → St → Nat → AVs → RK → RO := AV.rec (motive_1 := fun _ => Nat → Nat → Nat → Nat → St → Nat → AVs → RK → RO) (motive_2 := fun _ => Unit) (fun _ => fun _ _ _ _ _ _ _ _ => none) (fun _ _ => fun _ _ _ _ _ _ _ _ => none) (fun _ _ => fun _ _ _ _ _ _ _ _ => none) (fun _ _ => fun _ _ _ _ _ _ _ _ => none) (fun _ _ _ _ _ _ _ _ => none) (fun b o n c => ap_sl b o n c) (fun b o n c => ap_slr b o n c) (fun _ e esz bytes s m new k => grF e esz bytes .nil new m 0 s k) (fun _ _ _ => fun _ _ _ _ _ _ _ _ => none) (fun _ _ _ => fun _ _ _ _ _ _ _ _ => none) (fun _ _ _ _ _ _ _ _ => none) (fun _ _ => fun _ _ _ _ _ _ _ _ => none) (fun _ _ => fun _ _ _ _ _ _ _ _ => none) (fun _ _ _ _ _ _ _ _ => none) (fun _ _ _ => fun _ _ _ _ _ _ _ _ => none) (fun _ => fun _ _ _ _ _ _ _ _ => none) (fun _ _ _ _ => fun _ _ _ _ _ _ _ _ => none) () (fun _ _ _ _ => ()) v
noncomputable def ap0 (v : AV) : St → RK → RO := AV.rec (motive_1 := fun _ => St → RK → RO) (motive_2 := fun _ => Unit) (fun _ => fun _ _ => none) (fun _ _ => fun _ _ => none) (fun _ _ => fun _ _ => none) (fun _ _ => fun _ _ => none) (fun _ _ => none) (fun _ _ l c => fun s k => thenB (Nat.ble l c) (k v s)) (fun _ _ _ _ => fun s k => k v s) (fun s k => k v s) (fun _ _ _ => fun _ _ => none) (fun _ _ _ => fun _ _ => none) (fun _ _ => none) (fun _ _ => fun _ _ => none) (fun _ _ => fun _ _ => none) (fun _ _ => none) (fun _ _ _ => fun _ _ => none) (fun _ => fun _ _ => none) (fun _ _ _ _ => fun _ _ => none) () (fun _ _ _ _ => ()) v
noncomputable def sofK (a : AV) : Nat → Nat → (Nat → Nat → Option (Nat × Nat)) → Option (Nat × Nat) := AV.rec (motive_1 := fun _ => Nat → Nat → (Nat → Nat → Option (Nat × Nat)) → Option (Nat × Nat)) (motive_2 := fun _ => Unit) (fun _ => fun _ _ _ => none) (fun k n => fun l v f => IntKind.rec (motive := fun _ => Option (Nat × Nat)) none none none none (Int.rec (motive := fun _ => Option (Nat × Nat)) (fun b => Bool.rec (motive := fun _ => Option (Nat × Nat)) none (f (Nat.succ l) (Nat.add (Nat.mul v 256) b)) (Nat.ble (Nat.succ b) 256)) (fun _ => none) n) none none none k) (fun _ _ => fun _ _ _ => none) (fun _ _ => fun _ _ _ => none) (fun _ _ _ => none) (fun _ _ _ _ => fun _ _ _ => none) (fun _ _ _ _ => fun _ _ _ => none) (fun _ _ _ => none) (fun _ _ _ => fun _ _ _ => none) (fun _ _ _ => fun _ _ _ => none) (fun _ _ _ => none) (fun _ _ => fun _ _ _ => none) (fun _ _ => fun _ _ _ => none) (fun _ _ _ => none) (fun _ _ _ => fun _ _ _ => none) (fun _ => fun _ _ _ => none) (fun _ _ _ _ => fun _ _ _ => none) () (fun _ _ _ _ => ()) a
noncomputable def sofF (l : AVs) : Nat → Nat → Option (Nat × Nat) := AVs.rec (motive_1 := fun _ => Unit) (motive_2 := fun _ => Nat → Nat → Option (Nat × Nat)) (fun _ => ()) (fun _ _ => ()) (fun _ _ => ()) (fun _ _ => ()) () (fun _ _ _ _ => ()) (fun _ _ _ _ => ()) () (fun _ _ _ => ()) (fun _ _ _ => ()) () (fun _ _ => ()) (fun _ _ => ()) () (fun _ _ _ => ()) (fun _ => ()) (fun _ _ _ _ => ()) (fun l n => some (l, n)) (fun a _ _ ih l n => sofK a l n ih) l
noncomputable def onSof (o : Option (Nat × Nat)) : (Nat → Nat → RO) → RO := Option.rec (motive := fun _ => (Nat → Nat → RO) → RO) (fun _ => none) (fun q => Prod.rec (motive := fun _ => (Nat → Nat → RO) → RO) (fun a b k => k a b) q) o
noncomputable def nilB (mk : String → Nat → Bool) (nm : String) (t : Nat) (v : AV) (s : St) (k : RK) : RO := thenB (mk nm t) (k (.bm nm t v) s)
noncomputable def avNil (v : AV) : (String → Nat → Bool) → St → RK → RO := AV.rec (motive_1 := fun _ => (String → Nat → Bool) → St → RK → RO) (motive_2 := fun _ => Unit) (fun _ => fun _ _ _ => none) (fun _ _ => fun _ _ _ => none) (fun _ _ => fun _ _ _ => none) (fun b o => fun _ s k => k (.p b o) s) (fun _ _ _ => none) (fun _ _ _ _ => fun _ _ _ => none) (fun _ _ _ _ => fun _ _ _ => none) (fun _ _ _ => none) (fun _ _ _ => fun _ _ _ => none) (fun _ _ _ => fun _ _ _ => none) (fun _ _ _ => none) (fun _ _ => fun _ _ _ => none) (fun _ _ => fun _ _ _ => none) (fun _ _ _ => none) (fun _ _ _ => fun _ _ _ => none) (fun _ => fun _ _ _ => none) (fun nm t u _ => fun mk s k => nilB mk nm t u s k) () (fun _ _ _ _ => ()) v
noncomputable def avCsb (v : AV) : St → RK → RO := AV.rec (motive_1 := fun _ => St → RK → RO) (motive_2 := fun _ => Unit) (fun _ => fun _ _ => none) (fun _ _ => fun _ _ => none) (fun _ _ => fun _ _ => none) (fun _ _ => fun _ _ => none) (fun _ _ => none) (fun b o n _ => fun s k => ldK s b o n fun l => onSof (sofF l 0 0) fun a w => k (.s a w) s) (fun b o n _ => fun s k => ldK s b o n fun l => onSof (sofF l 0 0) fun a w => k (.s a w) s) (fun s k => k (.s 0 0) s) (fun _ _ _ => fun _ _ => none) (fun _ _ _ => fun _ _ => none) (fun _ _ => none) (fun _ _ => fun _ _ => none) (fun _ _ => fun _ _ => none) (fun _ _ => none) (fun _ _ _ => fun _ _ => none) (fun _ => fun _ _ => none) (fun _ _ _ _ => fun _ _ => none) () (fun _ _ _ _ => ()) v
noncomputable def o_mv (x : O) (call : CallT) (n0 : Nat) (T : Tr AV) (s : St) (k : RK) : RO := onV (evOf x T) fun v => k v s
noncomputable def o_pick (c : O) (a : O) (b : O) (call : CallT) (n0 : Nat) (T : Tr AV) (s : St) (k : RK) : RO := onB (evOf c T) (onV (evOf a T) fun v => k v s) (onV (evOf b T) fun v => k v s)
noncomputable def o_bin (op : BinOp) (ek : EK) (x : O) (y : O) (call : CallT) (n0 : Nat) (T : Tr AV) (s : St) (k : RK) : RO := onV (evOf x T) fun a => onV (evOf y T) fun b => onV (binF a op ek s b) fun v => k v s
noncomputable def o_un (op : UnOp) (x : O) (call : CallT) (n0 : Nat) (T : Tr AV) (s : St) (k : RK) : RO := onV (evOf x T) fun a => onV (unF op a) fun v => k v s
noncomputable def o_ld1 (a : O) (call : CallT) (n0 : Nat) (T : Tr AV) (s : St) (k : RK) : RO := onP (evOf a T) fun b o => onRow (getB b s.H) fun _ _ cells _ _ _ => onV (getA o cells) fun v => k v s
noncomputable def o_ldn (n : Nat) (a : O) (call : CallT) (n0 : Nat) (T : Tr AV) (s : St) (k : RK) : RO := onP (evOf a T) fun b o => onRow (getB b s.H) fun _ _ cells _ _ _ => ldF n o cells fun l => k (.agg l) s
noncomputable def o_st (n : Nat) (a : O) (v : O) (call : CallT) (n0 : Nat) (T : Tr AV) (s : St) (k : RK) : RO := onP (evOf a T) fun b off => onV (evOf v T) fun v => thenB (Nat.beq (lenA' (cellsF v)) n) (stK n0 b off (cellsF v) s fun s' => k (.tup .nil) s')
noncomputable def o_fa (off : Nat) (a : O) (call : CallT) (n0 : Nat) (T : Tr AV) (s : St) (k : RK) : RO := onP (evOf a T) fun b o => k (.p b (Nat.add o off)) s
noncomputable def o_fl1 (off : Nat) (x : O) (call : CallT) (n0 : Nat) (T : Tr AV) (s : St) (k : RK) : RO := onAgg (evOf x T) fun l => onV (nthF off l) fun v => k v s
noncomputable def o_fln (off : Nat) (n : Nat) (x : O) (call : CallT) (n0 : Nat) (T : Tr AV) (s : St) (k : RK) : RO := onAgg (evOf x T) fun l => takeF n (dropF off l) fun r => k (.agg r) s
noncomputable def o_ia (esz : Nat) (x : O) (i : O) (call : CallT) (n0 : Nat) (T : Tr AV) (s : St) (k : RK) : RO := onN (evOf i T) fun i => onSl (evOf x T) fun b off len => thenB (Nat.ble (Nat.succ i) len) (k (.p b (Nat.add off (Nat.mul i esz))) s)
noncomputable def o_iaa (len : Nat) (esz : Nat) (x : O) (i : O) (call : CallT) (n0 : Nat) (T : Tr AV) (s : St) (k : RK) : RO := onN (evOf i T) fun i => onP (evOf x T) fun b off => thenB (Nat.ble (Nat.succ i) len) (k (.p b (Nat.add off (Nat.mul i esz))) s)
noncomputable def o_ixs (x : O) (i : O) (call : CallT) (n0 : Nat) (T : Tr AV) (s : St) (k : RK) : RO := onN (evOf i T) fun i => onS (evOf x T) fun len n => thenB (Nat.ble (Nat.succ i) len) (k (.i .u8 (.ofNat (Nat.mod (Nat.div n (Nat.pow 256 (Nat.sub (Nat.sub len 1) i))) 256))) s)
noncomputable def a_ixa (len : Nat) (esz : Nat) (agg : Bool) (x : O) (i : O) (n0 : Nat) (T : Tr AV) (s : St) : Option (AV × St) := match evO T i with
    | none => none
    | some i => match evNat i with
      | none => none
      | some i => match evO T x with
        | some (.agg l) => match Nat.blt i len with
          | true => match agg with
            | true => match takeA esz (dropA (i * esz) l) with
              | some r => some (.agg r, s)
              | none => none
            | false => pure1 s (nth l (i * esz))
          | false => none
        | _ => none
noncomputable def o_ixa (len : Nat) (esz : Nat) (agg : Bool) (x : O) (i : O) (call : CallT) (n0 : Nat) (T : Tr AV) (s : St) (k : RK) : RO := onRes (a_ixa len esz agg x i n0 T s) k
noncomputable def o_sls (x : O) (lo : Option O) (hi : Option O) (call : CallT) (n0 : Nat) (T : Tr AV) (s : St) (k : RK) : RO := onS (evOf x T) fun len n => onOpt lo T 0 fun l => onOpt hi T len fun h => thenB (Nat.ble l h) (thenB (Nat.ble h len) (k (.s (Nat.sub h l) (Nat.mod (Nat.div n (Nat.pow 256 (Nat.sub len h))) (Nat.pow 256 (Nat.sub h l)))) s))
noncomputable def a_sll (esz : Nat) (x : O) (lo : Option O) (hi : Option O) (mx : Option O) (n0 : Nat) (T : Tr AV) (s : St) : Option (AV × St) := match evO T x with
    | none => none
    | some x => match lenA x with
      | none => none
      | some n => match evOpt T lo 0 with
        | none => none
        | some l => match evOpt T hi n with
          | none => none
          | some h => match mx with
            | none => pure1 s (evSlL esz x l h none)
            | some m => match hi with
              | none => none
              | some _ => match evOpt T (some m) 0 with
                | none => none
                | some m => pure1 s (evSlL esz x l h (some m))
noncomputable def o_sll (esz : Nat) (x : O) (lo : Option O) (hi : Option O) (mx : Option O) (call : CallT) (n0 : Nat) (T : Tr AV) (s : St) (k : RK) : RO := onRes (a_sll esz x lo hi mx n0 T s) k
noncomputable def a_sla (len : Nat) (esz : Nat) (x : O) (lo : Option O) (hi : Option O) (mx : Option O) (n0 : Nat) (T : Tr AV) (s : St) : Option (AV × St) := match evO T x with
    | some (.p b off) => match evOpt T lo 0 with
        | none => none
        | some l => match evOpt T hi len with
          | none => none
          | some h => match mx with
            | none => pure1 s (evSlL esz (.sl b off len len) l h none)
            | some _ => none
    | _ => none
noncomputable def o_sla (len : Nat) (esz : Nat) (x : O) (lo : Option O) (hi : Option O) (mx : Option O) (call : CallT) (n0 : Nat) (T : Tr AV) (s : St) (k : RK) : RO := onRes (a_sla len esz x lo hi mx n0 T s) k
noncomputable def o_box (elem : Nat) (v : O) (call : CallT) (n0 : Nat) (T : Tr AV) (s : St) (k : RK) : RO := onV (evOf v T) fun v => k (.p s.nxt 0) (newF elem 0 (stF (cellsF v) 0 .leaf) (lenA' (cellsF v)) true 0 s)
noncomputable def a_alc (e : Nat) (z : AVs) (n0 : Nat) (T : Tr AV) (s : St) : Option (AV × St) := some (.p s.nxt 0, evNew e 0 (stC z 0 .leaf) z.len true 0 s)
noncomputable def o_alc (elem : Nat) (z : AVs) (call : CallT) (n0 : Nat) (T : Tr AV) (s : St) (k : RK) : RO := onRes (a_alc elem z n0 T s) k
noncomputable def a_bld (z : AVs) (parts : List (Nat × Nat × O)) (n0 : Nat) (T : Tr AV) (s : St) : Option (AV × St) := match bldP T parts z with
    | some l => some (.agg l, s)
    | none => none
noncomputable def o_bld (z : AVs) (parts : List (Nat × Nat × O)) (call : CallT) (n0 : Nat) (T : Tr AV) (s : St) (k : RK) : RO := onRes (a_bld z parts n0 T s) k
noncomputable def a_bsl (e : Nat) (esz : Nat) (len : Nat) (z : AVs) (parts : List (Nat × Nat × O)) (n0 : Nat) (T : Tr AV) (s : St) : Option (AV × St) := match Nat.beq z.len esz with
    | true => match bslP T (len * esz) parts (match Nat.beq parts.length len with | true => .leaf | false => fillZ z esz len 0 .leaf) with
      | some t => some (.sl s.nxt 0 len len, evNew e esz t (len * esz) true 0 s)
      | none => none
    | false => none
noncomputable def o_bsl (elem : Nat) (esz : Nat) (len : Nat) (z : AVs) (parts : List (Nat × Nat × O)) (call : CallT) (n0 : Nat) (T : Tr AV) (s : St) (k : RK) : RO := onRes (a_bsl elem esz len z parts n0 T s) k
noncomputable def o_ext (x : O) (i : Nat) (call : CallT) (n0 : Nat) (T : Tr AV) (s : St) (k : RK) : RO := onTup (evOf x T) fun l => onV (nthF i l) fun v => k v s
noncomputable def o_call (f : Nat) (args : List O) (call : CallT) (n0 : Nat) (T : Tr AV) (s : St) (k : RK) : RO := evOsf args T fun l => onRes (call f l s) k
noncomputable def o_calv (x : O) (args : List O) (call : CallT) (n0 : Nat) (T : Tr AV) (s : St) (k : RK) : RO := onRes (evOp call n0 (.calv x args) T s) k
noncomputable def o_bls (x : O) (call : CallT) (n0 : Nat) (T : Tr AV) (s : St) (k : RK) : RO := onS (evOf x T) fun len _ => k (.i .i64 (.ofNat len)) s
noncomputable def o_bll (x : O) (call : CallT) (n0 : Nat) (T : Tr AV) (s : St) (k : RK) : RO := onLen (evOf x T) fun len => k (.i .i64 (.ofNat len)) s
noncomputable def a_bcap (x : O) (n0 : Nat) (T : Tr AV) (s : St) : Option (AV × St) := match evO T x with
    | some (.sl _ _ _ cap) => some (.i .i64 (.ofNat cap), s)
    | some .nils => some (.i .i64 (.ofNat 0), s)
    | _ => none
noncomputable def o_bcap (x : O) (call : CallT) (n0 : Nat) (T : Tr AV) (s : St) (k : RK) : RO := onRes (a_bcap x n0 T s) k
noncomputable def a_bmn (x : O) (y : O) (n0 : Nat) (T : Tr AV) (s : St) : Option (AV × St) := match evO T x with
    | some (.i k a) => match evO T y with
      | some (.i _ b) => some (.i k (match ile a b with | true => a | false => b), s)
      | _ => none
    | _ => none
noncomputable def o_bmn (x : O) (y : O) (call : CallT) (n0 : Nat) (T : Tr AV) (s : St) (k : RK) : RO := onRes (a_bmn x y n0 T s) k
noncomputable def a_bmx (x : O) (y : O) (n0 : Nat) (T : Tr AV) (s : St) : Option (AV × St) := match evO T x with
    | some (.i k a) => match evO T y with
      | some (.i _ b) => some (.i k (match ile b a with | true => a | false => b), s)
      | _ => none
    | _ => none
noncomputable def o_bmx (x : O) (y : O) (call : CallT) (n0 : Nat) (T : Tr AV) (s : St) (k : RK) : RO := onRes (a_bmx x y n0 T s) k
noncomputable def o_app (elem : Nat) (esz : Nat) (bytes : Nat) (s' : O) (x : O) (call : CallT) (n0 : Nat) (T : Tr AV) (s : St) (k : RK) : RO := onV (evOf s' T) fun v => onV (evOf x T) fun x => srcF x esz s fun m new => Nat.rec (motive := fun _ => RO) (ap0 v s k) (fun j _ => apF v n0 elem esz bytes s (Nat.succ j) new k) m
noncomputable def a_appz (e : Nat) (esz : Nat) (bytes : Nat) (z : AVs) (x : O) (y : O) (n0 : Nat) (T : Tr AV) (s : St) : Option (AV × St) := match evO T x with
    | none => none
    | some x => match evO T y with
      | some (.i _ (.ofNat m)) => evAppz e esz bytes z s x m
      | _ => none
noncomputable def o_appz (elem : Nat) (esz : Nat) (bytes : Nat) (z : AVs) (s' : O) (x : O) (call : CallT) (n0 : Nat) (T : Tr AV) (s : St) (k : RK) : RO := onRes (a_appz elem esz bytes z s' x n0 T s) k
noncomputable def a_cpy (esz : Nat) (d : O) (x : O) (n0 : Nat) (T : Tr AV) (s : St) : Option (AV × St) := match evO T d with
    | none => none
    | some d => match evO T x with
      | none => none
      | some x => evCpy n0 esz s d x
noncomputable def o_cpy (esz : Nat) (d : O) (x : O) (call : CallT) (n0 : Nat) (T : Tr AV) (s : St) (k : RK) : RO := onRes (a_cpy esz d x n0 T s) k
noncomputable def a_mks (e : Nat) (esz : Nat) (bytes : Nat) (z : AVs) (l : O) (c : O) (n0 : Nat) (T : Tr AV) (s : St) : Option (AV × St) := match evO T l with
    | none => none
    | some l => match evO T c with
      | none => none
      | some c => evMks e esz bytes z s l c
noncomputable def o_mks (elem : Nat) (esz : Nat) (bytes : Nat) (z : AVs) (l : O) (c : O) (call : CallT) (n0 : Nat) (T : Tr AV) (s : St) (k : RK) : RO := onRes (a_mks elem esz bytes z l c n0 T s) k
noncomputable def o_cvi (k' : IntKind) (x : O) (call : CallT) (n0 : Nat) (T : Tr AV) (s : St) (k : RK) : RO := onI (evOf x T) fun _ n => k (.i k' (wrF k' n)) s
noncomputable def o_cid (x : O) (call : CallT) (n0 : Nat) (T : Tr AV) (s : St) (k : RK) : RO := onS (evOf x T) fun l n => k (.s l n) s
noncomputable def o_csb (x : O) (call : CallT) (n0 : Nat) (T : Tr AV) (s : St) (k : RK) : RO := onV (evOf x T) fun v => avCsb v s k
noncomputable def o_cbs (elem : Nat) (x : O) (call : CallT) (n0 : Nat) (T : Tr AV) (s : St) (k : RK) : RO := onS (evOf x T) fun l n => thenB (Nat.ble (Nat.succ l) 1099511627776) (k (.slr s.nxt 0 l 0) (newF elem 1 (stF (sbF l n .nil) 0 .leaf) l false 1 s))
noncomputable def o_nilc (mk : String → Nat → Bool) (x : O) (call : CallT) (n0 : Nat) (T : Tr AV) (s : St) (k : RK) : RO := onV (evOf x T) fun v => avNil v mk s k
noncomputable def o_mkf (f : Nat) (cap : List O) (call : CallT) (n0 : Nat) (T : Tr AV) (s : St) (k : RK) : RO := evOsf cap T fun l => k (.f f l) s
noncomputable def a_mkm (f : Nat) (fi : List O) (n0 : Nat) (T : Tr AV) (s : St) : Option (AV × St) := match evOs T fi with
    | some l => some (.fm f l, s)
    | none => none
noncomputable def o_mkm (f : Nat) (fi : List O) (call : CallT) (n0 : Nat) (T : Tr AV) (s : St) (k : RK) : RO := onRes (a_mkm f fi n0 T s) k
noncomputable def o_inv (m : Nat → Option Nat) (x : O) (args : List O) (call : CallT) (n0 : Nat) (T : Tr AV) (s : St) (k : RK) : RO := onRes (evOp call n0 (.inv m x args) T s) k
noncomputable def a_tac (t : Nat) (ok : Bool) (z : AV) (x : O) (n0 : Nat) (T : Tr AV) (s : St) : Option (AV × St) := match evO T x with
    | some (.ifc u v) => match Nat.beq u t with
      | true => match ok with
        | true => some (.tup (.cons v (.cons (.b true) .nil)), s)
        | false => some (v, s)
      | false => match ok with
        | true => some (.tup (.cons z (.cons (.b false) .nil)), s)
        | false => none
    | some .nili => match ok with
      | true => some (.tup (.cons z (.cons (.b false) .nil)), s)
      | false => none
    | _ => none
noncomputable def o_tac (t : Nat) (ok : Bool) (z : AV) (x : O) (call : CallT) (n0 : Nat) (T : Tr AV) (s : St) (k : RK) : RO := onRes (a_tac t ok z x n0 T s) k
noncomputable def a_tai (im : Nat → Option Bool) (ok : Bool) (x : O) (n0 : Nat) (T : Tr AV) (s : St) : Option (AV × St) := match evO T x with
    | some (.ifc u v) => match im u with
      | some true => match ok with
        | true => some (.tup (.cons (.ifc u v) (.cons (.b true) .nil)), s)
        | false => some (.ifc u v, s)
      | some false => match ok with
        | true => some (.tup (.cons .nili (.cons (.b false) .nil)), s)
        | false => none
      | none => none
    | some .nili => match ok with
      | true => some (.tup (.cons .nili (.cons (.b false) .nil)), s)
      | false => none
    | _ => none
noncomputable def o_tai (im : Nat → Option Bool) (ok : Bool) (x : O) (call : CallT) (n0 : Nat) (T : Tr AV) (s : St) (k : RK) : RO := onRes (a_tai im ok x n0 T s) k
noncomputable def o_mki (t : Nat) (x : O) (call : CallT) (n0 : Nat) (T : Tr AV) (s : St) (k : RK) : RO := onV (evOf x T) fun v => k (.ifc t v) s
noncomputable def a_mkb (nm : String) (x : O) (n0 : Nat) (T : Tr AV) (s : St) : Option (AV × St) := match evO T x with
    | some (.ifc t v) => some (.bm nm t v, s)
    | _ => none
noncomputable def o_mkb (nm : String) (x : O) (call : CallT) (n0 : Nat) (T : Tr AV) (s : St) (k : RK) : RO := onRes (a_mkb nm x n0 T s) k
noncomputable def a_bni (neg : Bool) (x : O) (n0 : Nat) (T : Tr AV) (s : St) : Option (AV × St) := match evO T x with
    | some .nili => some (.b (match neg with | true => false | false => true), s)
    | some (.ifc _ _) => some (.b neg, s)
    | _ => none
noncomputable def o_bni (neg : Bool) (x : O) (call : CallT) (n0 : Nat) (T : Tr AV) (s : St) (k : RK) : RO := onRes (a_bni neg x n0 T s) k
noncomputable def a_cvp (x : O) (n0 : Nat) (T : Tr AV) (s : St) : Option (AV × St) := match evO T x with
    | some (.p b o) => match s.H.get b with
      | some (.row _ _ _ used _ _) => match Nat.blt o used with
        | true => some (.p b o, s)
        | false => none
      | _ => none
    | _ => none
noncomputable def o_cvp (x : O) (call : CallT) (n0 : Nat) (T : Tr AV) (s : St) (k : RK) : RO := onRes (a_cvp x n0 T s) k
noncomputable def a_cvq (lie : Nat → Nat → Nat → Bool) (x : O) (n0 : Nat) (T : Tr AV) (s : St) : Option (AV × St) := match evO T x with
    | some (.p b o) => match s.H.get b with
      | some (.row e _ _ used true _) => match lie e used o with
        | true => some (.p b o, s)
        | false => none
      | _ => none
    | _ => none
noncomputable def o_cvq (lie : Nat → Nat → Nat → Bool) (x : O) (call : CallT) (n0 : Nat) (T : Tr AV) (s : St) (k : RK) : RO := onRes (a_cvq lie x n0 T s) k
noncomputable def a_usd (x : O) (n0 : Nat) (T : Tr AV) (s : St) : Option (AV × St) := match evO T x with
    | some (.sl b off _ cap) => match Nat.blt 0 cap with
      | true => some (.p b off, s)
      | false => none
    | some (.slr b off len _) => match Nat.blt 0 len with
      | true => some (.p b off, s)
      | false => none
    | some .nils => some (.nilp, s)
    | _ => none
noncomputable def o_usd (x : O) (call : CallT) (n0 : Nat) (T : Tr AV) (s : St) (k : RK) : RO := onRes (a_usd x n0 T s) k
noncomputable def a_ust (e : Nat) (x : O) (n : O) (n0 : Nat) (T : Tr AV) (s : St) : Option (AV × St) := match evO T n with
    | some (.i .i64 (.ofNat n)) => match n with
      | 0 => match evO T x with
        | some .nilp => some (.s 0 0, s)
        | some (.p _ _) => some (.s 0 0, s)
        | _ => none
      | k + 1 => match evO T x with
        | some (.p b 0) => match s.H.get b with
          | some (.row e' esz cells used ex _) => match Nat.beq e e' with
            | true => match Nat.ble n0 b with
              | true => match ldC cells (k + 1) 0 with
                | some l => match sofA l 0 0 with
                  | some (a, v) => match Nat.ble (k + 1) 9223372036854775807 with
                    | true => some (.s a v, { H := s.H.set b (some (.row e' esz cells used ex 2)), nxt := s.nxt, W := s.W ||| 1 <<< b })
                    | false => none
                  | none => none
                | none => none
              | false => none
            | false => none
          | _ => none
        | _ => none
    | _ => none
noncomputable def o_ust (e : Nat) (x : O) (n : O) (call : CallT) (n0 : Nat) (T : Tr AV) (s : St) (k : RK) : RO := onRes (a_ust e x n n0 T s) k
noncomputable def a_rng (x : O) (n0 : Nat) (T : Tr AV) (s : St) : Option (AV × St) := match evO T x with
    | some (.s l n) => some (.p s.nxt 0, { H := s.H.set s.nxt (some (.iter l n 0)), nxt := s.nxt + 1, W := s.W })
    | _ => none
noncomputable def o_rng (x : O) (call : CallT) (n0 : Nat) (T : Tr AV) (s : St) (k : RK) : RO := onRes (a_rng x n0 T s) k
noncomputable def a_nxt (x : O) (n0 : Nat) (T : Tr AV) (s : St) : Option (AV × St) := match evO T x with
    | some (.p b o) => match Nat.beq o 0 with
      | true => match Nat.ble n0 b with
        | true => match s.H.get b with
          | some (.iter l n pos) => match Nat.blt pos l with
            | true => match Nat.blt (n / 256 ^ (l - 1 - pos) % 256) 128 with
              | true => some (.tup (.cons (.b true) (.cons (.i .i64 (.ofNat pos)) (.cons (.i .i32 (.ofNat (n / 256 ^ (l - 1 - pos) % 256))) .nil))),
                  { H := s.H.set b (some (.iter l n (pos + 1))), nxt := s.nxt, W := s.W ||| 1 <<< b })
              | false => none
            | false => some (.tup (.cons (.b false) .nil), s)
          | _ => none
        | false => none
      | false => none
    | _ => none


noncomputable def o_nxt (x : O) (call : CallT) (n0 : Nat) (T : Tr AV) (s : St) (k : RK) : RO := onRes (a_nxt x n0 T s) k
noncomputable def o_bad (call : CallT) (n0 : Nat) (T : Tr AV) (s : St) (k : RK) : RO := none
structure Ob where
  run : CallT → Nat → Tr AV → St → RK → RO
noncomputable def fbx (ai : AI) : Ob := AI.rec (motive := fun _ => Ob) (fun x => ⟨o_mv x⟩) (fun c a b => ⟨o_pick c a b⟩) (fun op ek x y => ⟨o_bin op ek x y⟩) (fun op x => ⟨o_un op x⟩) (fun a => ⟨o_ld1 a⟩) (fun n a => ⟨o_ldn n a⟩) (fun n a v => ⟨o_st n a v⟩) (fun off a => ⟨o_fa off a⟩) (fun off x => ⟨o_fl1 off x⟩) (fun off n x => ⟨o_fln off n x⟩) (fun esz x i => ⟨o_ia esz x i⟩) (fun len esz x i => ⟨o_iaa len esz x i⟩) (fun x i => ⟨o_ixs x i⟩) (fun len esz agg x i => ⟨o_ixa len esz agg x i⟩) (fun x lo hi => ⟨o_sls x lo hi⟩) (fun esz x lo hi mx => ⟨o_sll esz x lo hi mx⟩) (fun len esz x lo hi mx => ⟨o_sla len esz x lo hi mx⟩) (fun elem v => ⟨o_box elem v⟩) (fun elem z => ⟨o_alc elem z⟩) (fun z parts => ⟨o_bld z parts⟩) (fun elem esz len z parts => ⟨o_bsl elem esz len z parts⟩) (fun x i => ⟨o_ext x i⟩) (fun f args => ⟨o_call f args⟩) (fun x args => ⟨o_calv x args⟩) (fun x => ⟨o_bls x⟩) (fun x => ⟨o_bll x⟩) (fun x => ⟨o_bcap x⟩) (fun x y => ⟨o_bmn x y⟩) (fun x y => ⟨o_bmx x y⟩) (fun elem esz bytes s' x => ⟨o_app elem esz bytes s' x⟩) (fun elem esz bytes z s' x => ⟨o_appz elem esz bytes z s' x⟩) (fun esz d x => ⟨o_cpy esz d x⟩) (fun elem esz bytes z l c => ⟨o_mks elem esz bytes z l c⟩) (fun k' x => ⟨o_cvi k' x⟩) (fun x => ⟨o_cid x⟩) (fun x => ⟨o_csb x⟩) (fun elem x => ⟨o_cbs elem x⟩) (fun mk x => ⟨o_nilc mk x⟩) (fun f cap => ⟨o_mkf f cap⟩) (fun f fi => ⟨o_mkm f fi⟩) (fun m x args => ⟨o_inv m x args⟩) (fun t ok z x => ⟨o_tac t ok z x⟩) (fun im ok x => ⟨o_tai im ok x⟩) (fun t x => ⟨o_mki t x⟩) (fun nm x => ⟨o_mkb nm x⟩) (fun neg x => ⟨o_bni neg x⟩) (fun x => ⟨o_cvp x⟩) (fun lie x => ⟨o_cvq lie x⟩) (fun x => ⟨o_usd x⟩) (fun e x n => ⟨o_ust e x n⟩) (fun x => ⟨o_rng x⟩) (fun x => ⟨o_nxt x⟩) ⟨o_bad⟩ ai
noncomputable def fOp (ai : AI) (call : CallT) (n0 : Nat) (T : Tr AV) (s : St) (k : RK) : RO := (fbx ai).run call n0 T s k
structure Db where
  put : AV → Tr AV → Tr AV
noncomputable def dput (b : SbA) (v : AV) (T : Tr AV) : Tr AV := b.set (some v) T
noncomputable def dbx (d : Option Nat) : Db := Option.rec (motive := fun _ => Db) ⟨fun _ T => T⟩ (fun d => ⟨dput (setPA (pathOf d))⟩) d
noncomputable def putF (d : Option Nat) (v : AV) (T : Tr AV) : Tr AV := (dbx d).put v T
noncomputable def wB (b w : Bool) : RO → RO → RO := Bool.rec (motive := fun _ => RO → RO → RO) (fun x y => Bool.rec (motive := fun _ => RO) x y b) (fun x y => Bool.rec (motive := fun _ => RO) y x b) w
noncomputable def wAV (v : AV) : Bool → RO → RO → RO := AV.rec (motive_1 := fun _ => Bool → RO → RO → RO) (motive_2 := fun _ => Unit) (fun b => fun w => wB b w) (fun _ _ => fun _ _ y => y) (fun _ _ => fun _ _ y => y) (fun _ _ => fun _ _ y => y) (fun _ _ y => y) (fun _ _ _ _ => fun _ _ y => y) (fun _ _ _ _ => fun _ _ y => y) (fun _ _ y => y) (fun _ _ _ => fun _ _ y => y) (fun _ _ _ => fun _ _ y => y) (fun _ _ y => y) (fun _ _ => fun _ _ y => y) (fun _ _ => fun _ _ y => y) (fun _ _ y => y) (fun _ _ _ => fun _ _ y => y) (fun _ => fun _ _ y => y) (fun _ _ _ _ => fun _ _ y => y) () (fun _ _ _ _ => ()) v
noncomputable def wO (o : Option AV) : Bool → RO → RO → RO := Option.rec (motive := fun _ => Bool → RO → RO → RO) (fun _ _ _ => none) wAV o
structure Lb where
  run : CallT → Nat → Tr AV → St → RO
noncomputable def l_st (d : Db) (ob : Ob) (r : Lb) (call : CallT) (n0 : Nat) (T : Tr AV) (s : St) : RO := ob.run call n0 T s fun v s' => r.run call n0 (d.put v T) s'
noncomputable def l_gd (t : Nat) (w : Bool) (d : Db) (ob : Ob) (r : Lb) (call : CallT) (n0 : Nat) (T : Tr AV) (s : St) : RO := wO (getA t T) w (ob.run call n0 T s fun v s' => r.run call n0 (d.put v T) s') (r.run call n0 (d.put (.tup .nil) T) s)
noncomputable def lstep (g : Option (Nat × Bool)) (d : Db) (ob : Ob) (r : Lb) : Lb := Option.rec (motive := fun _ => Lb) ⟨l_st d ob r⟩ (fun q => Prod.rec (motive := fun _ => Lb) (fun t w => ⟨l_gd t w d ob r⟩) q) g
noncomputable def lbx (l : List AOp) : Lb := List.rec (motive := fun _ => Lb) ⟨fun _ _ T s => some (T, s)⟩ (fun o _ ih => AOp.rec (motive := fun _ => Lb) (fun d g ai => lstep g (dbx d) (fbx ai) ih) o) l
noncomputable def evOpsF (l : List AOp) (call : CallT) (n0 : Nat) (T : Tr AV) (s : St) : RO := (lbx l).run call n0 T s
end Go.Ev
