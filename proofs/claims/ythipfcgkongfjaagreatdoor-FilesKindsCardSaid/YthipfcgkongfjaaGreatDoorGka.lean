/- Part of a proof: contracts and lemmas; no condition. -/
import Derived.Handed
import Derived.WalkKit
import Derived.ProofKit
import Derived.KernelRfl
import Derived.Below
import Derived.Laws.IdiomCopy
import Derived.Laws.IdiomStrings
import Derived.Laws.BytesString
import Derived.Laws.BytesArg
import Derived.Laws.MakeOwn
import Derived.Laws.Append
import Derived.Laws.Tables
import Derived.OrdersHeld
section
/- The door's frame with what it says of the variables' places kept: 'ShapedOpen' reaches the contract. -/
namespace Go.ChangeAt
open Go Go.ChangeShapes Go.WideShapes
theorem returnsInHanded_of_change_sh {H : Type} {enc : TypeId × Value → H} {a : Assume} {C : Checked} {os : Os} {f : FuncId} {fn : Func} {s : ChangeSpec} {conds : List PathCond} {apart fresh handsOn again : Bool} {X : World → Array Value → Prop}
    (hX : ∀ (w w' : World) (args : Array Value), w.heap = w'.heap → X w args → X w' args)
    (own : ownKnob C.prog.godebug = none) (started : os.Started) (noInit : C.prog.inits.idxOf? f = none) (hfn : C.prog.funcs[f]? = some fn)
    (witness : ∃ (w : World) (tape : Tape) (i : Input), w.os = os ∧ (w.forCall tape i).Shaped C.prog ∧ i.vars = [] ∧ Input.okWide C.prog (w.forCall tape i) .any w.heap.size f i ∧
      ((s.pre enc C.prog fn conds apart (w.forCall tape i).memory i.args ∧ X (w.forCall tape i).memory i.args) ∧ sizedMet enc C.prog fn (OpenSpec.ofChange s) apart (w.forCall tape i).memory i.args) ∧ a.holds C.prog (lone (Frame.enter C.prog f i.args .normal) [] (w.forCall tape i)))
    (contract : ∀ (W : World) (base : Nat) (args : Array Value) (ds gs : List (DataW H)) (before : List MemPlace), W.ShapedOpen C.prog →
      (∀ (j : Nat) t v, fn.params[j]? = some t → args[j]? = some v → Value.okWide C.prog W .any base t v) →
      DataW.Whole enc C.prog fn.params.toList s.vars apart W args.toList ds gs before →
      conds.all (PathCond.test C.prog ⟨fn.params.toList, ds, s.plain.varTypes C.prog, gs⟩) = true →
      (DataW.weightsEach C.prog (fn.params.toList ++ s.plain.varTypes C.prog) (ds ++ gs)).all (· ≤ reachBytes) = true → X W args →
      a.holds C.prog (lone (Frame.enter C.prog f args .normal) [] W) →
      Calls C.prog f args W fun e W' => ∃ v, e = .returned v ∧ s.post enc C.prog fn apart fresh handsOn again W args v W') :
    ReturnsInHanded a C os f .any (fun w args => (s.pre enc C.prog fn conds apart w args ∧ X w args) ∧ sizedMet enc C.prog fn (OpenSpec.ofChange s) apart w args) (s.post enc C.prog fn apart fresh handsOn again) := by
  refine returnsInHanded_of_calls own started noInit witness ?_
  intro w tape i _ hsh _ hok hpre hholds
  obtain ⟨_, _, _, fn', hfn', _, _, _, _, hval⟩ := hok
  have e : fn' = fn := Option.some.inj (hfn'.symm.trans hfn)
  subst e
  obtain ⟨⟨⟨ds, gs, before, hw, hc⟩, hx⟩, hz⟩ := hpre
  have hw' := DataW.Whole.of_heap (w' := w.forCall tape i) (by rfl) hw
  refine (contract (w.forCall tape i) w.heap.size i.args ds gs before hsh hval hw' hc (hz.weights hw) (hX _ _ _ (by rfl) hx) hholds).mono fun e W' ⟨v, he, hp⟩ => ?_
  subst he
  exact ChangeSpec.post_blind hp
theorem globals_of_shaped {P : Program} {W : World} (h : W.ShapedOpen P) (hb : Nat.blt P.globals.size (begin P (fun _ _ => 0) default).world.heap.size = true) : P.globals.size ≤ W.heap.size := by
  have hb : P.globals.size < (begin P (fun _ _ => 0) default).world.heap.size := by simpa [Nat.blt_eq] using hb
  obtain ⟨o, _, h1, _⟩ := h.2 P.globals.size (Nat.le_refl _) hb
  rcases Nat.lt_or_ge P.globals.size W.heap.size with h' | h'
  · omega
  · rw [Array.getElem?_eq_none h'] at h1; cases h1
end Go.ChangeAt
end
section
namespace Go.Sy
open Go
set_option linter.unusedVariables false
inductive SV where
  | b (x : Bool)
  | i (k : IntKind) (n : Int)
  | s (l : List UInt8)
  | p (blk off : Nat)
  | nilp
  | pl (cells : List SV)
  | sl (blk off n : Nat)
  | nils
  | lst (n : Nat) (cells : List SV)
  | f (fn : Nat) (c : List SV)
  | fm (fn : Nat) (c : List SV)
  | nilf
  | agg (l : List SV)
  | tup (l : List SV)
  | nili
  | ifc (t : Nat) (v : SV)
structure Env where
  a : Nat → Option (Nat × Nat)
  z : Nat → Option (List Value)
  v : Nat → Bool
  m : Nat
structure Env.Ext (σ σ' : Env) : Prop where
  a : ∀ b q, σ.a b = some q → σ'.a b = some q
  z : ∀ r l, σ.z r = some l → σ'.z r = some l
  v : ∀ b, σ.v b = true → σ'.v b = true
  m : σ.m ≤ σ'.m
theorem Env.Ext.refl (σ : Env) : σ.Ext σ := ⟨fun _ _ h => h, fun _ _ h => h, fun _ h => h, Nat.le_refl _⟩
theorem Env.Ext.trans {a b c : Env} (h : a.Ext b) (k : b.Ext c) : a.Ext c := ⟨fun x p e => k.a x p (h.a x p e), fun x p e => k.z x p (h.z x p e), fun x e => k.v x (h.v x e), Nat.le_trans h.m k.m⟩
mutual
inductive VR (σ : Env) : SV → Value → Prop
  | b {x : Bool} : VR σ (.b x) (.bool x)
  | i {k : IntKind} {n : Int} : VR σ (.i k n) (.int k n)
  | s {l : List UInt8} : VR σ (.s l) (.string ⟨l.toArray⟩)
  | p {b o r κ : Nat} (h : σ.a b = some (r, κ)) : VR σ (.p b o) (.pointer (some ⟨r, o, none⟩))
  | nilp : VR σ .nilp (.pointer none)
  | pl {cells : List SV} {xs zs : List Value} {r o : Nat} (h : σ.z r = some zs) (hx : VRs σ cells xs) (hp : xs <+: zs.drop o) : VR σ (.pl cells) (.pointer (some ⟨r, o, none⟩))
  | sl {b o n r κ c : Nat} (h : σ.a b = some (r, κ)) (hn : n ≤ c) (hc : c ≤ maxLen) (h0 : o = 0 → c = κ) : VR σ (.sl b o n) (.slice (some ⟨r, o, none⟩) n c)
  | sl0 {b : Nat} (h : σ.v b = true) : VR σ (.sl b 0 0) (.slice none 0 0)
  | nils : VR σ .nils (.slice none 0 0)
  | lst0 {A : Option Addr} {c : Nat} (h0 : A = none → c = 0) (hc : c ≤ maxLen) (hm : ∀ ad, A = some ad → ad.block < σ.m) : VR σ (.lst 0 []) (.slice A 0 c)
  | lst {n c : Nat} {cells : List SV} {xs zs : List Value} {r o : Nat} (h : σ.z r = some zs) (hx : VRs σ cells xs) (hp : xs <+: zs.drop o) (hn : n ≤ c) (hc : c ≤ maxLen) : VR σ (.lst n cells) (.slice (some ⟨r, o, none⟩) n c)
  | f {fn : Nat} {c : List SV} {xs : List Value} (h : VRs σ c xs) : VR σ (.f fn c) (.func (.func fn) #[] xs.toArray)
  | fm {fn : Nat} {c : List SV} {xs : List Value} (h : VRs σ c xs) : VR σ (.fm fn c) (.func (.func fn) xs.toArray #[])
  | nilf : VR σ .nilf .nilFunc
  | agg {l : List SV} {xs : List Value} (h : VRs σ l xs) : VR σ (.agg l) (.agg xs.toArray)
  | tup {l : List SV} {xs : List Value} (h : VRs σ l xs) : VR σ (.tup l) (.tuple xs.toArray)
  | nili : VR σ .nili .nilIface
  | ifc {t : Nat} {a : SV} {x : Value} (h : VR σ a x) : VR σ (.ifc t a) (.iface t x)
inductive VRs (σ : Env) : List SV → List Value → Prop
  | nil : VRs σ [] []
  | cons {a : SV} {x : Value} {l : List SV} {xs : List Value} (h : VR σ a x) (t : VRs σ l xs) : VRs σ (a :: l) (x :: xs)
end
mutual
theorem VR.ext {σ σ' : Env} (h : σ.Ext σ') : ∀ {a : SV} {v : Value}, VR σ a v → VR σ' a v
  | _, _, .b => .b
  | _, _, .i => .i
  | _, _, .s => .s
  | _, _, .p e => .p (h.a _ _ e)
  | _, _, .nilp => .nilp
  | _, _, .pl e hx hp => .pl (h.z _ _ e) (VRs.ext h hx) hp
  | _, _, .sl e hn hc h0 => .sl (h.a _ _ e) hn hc h0
  | _, _, .sl0 e => .sl0 (h.v _ e)
  | _, _, .nils => .nils
  | _, _, .lst0 h0 hc hm => .lst0 h0 hc fun ad e => Nat.lt_of_lt_of_le (hm ad e) h.m
  | _, _, .lst e hx hp hn hc => .lst (h.z _ _ e) (VRs.ext h hx) hp hn hc
  | _, _, .f e => .f (VRs.ext h e)
  | _, _, .fm e => .fm (VRs.ext h e)
  | _, _, .nilf => .nilf
  | _, _, .agg e => .agg (VRs.ext h e)
  | _, _, .tup e => .tup (VRs.ext h e)
  | _, _, .nili => .nili
  | _, _, .ifc e => .ifc (VR.ext h e)
theorem VRs.ext {σ σ' : Env} (h : σ.Ext σ') : ∀ {a : List SV} {v : List Value}, VRs σ a v → VRs σ' a v
  | _, _, .nil => .nil
  | _, _, .cons e t => .cons (VR.ext h e) (VRs.ext h t)
end
section
variable {σ : Env}
theorem VRs.length : ∀ {l : List SV} {xs : List Value}, VRs σ l xs → l.length = xs.length
  | _, _, .nil => rfl
  | _, _, .cons _ t => by simp [VRs.length t]
theorem VRs.append : ∀ {l m : List SV} {xs ys : List Value}, VRs σ l xs → VRs σ m ys → VRs σ (l ++ m) (xs ++ ys)
  | _, _, _, _, .nil, h => h
  | _, _, _, _, .cons e t, h => .cons e (VRs.append t h)
theorem VRs.get : ∀ {l : List SV} {xs : List Value}, VRs σ l xs → ∀ {i : Nat} {v : SV}, l[i]? = some v → ∃ x, xs[i]? = some x ∧ VR σ v x
  | _, _, .nil, i, v, e => by simp at e
  | _, _, .cons (x := x) h t, 0, v, e => by simp at e; subst e; exact ⟨x, rfl, h⟩
  | _, _, .cons h t, i + 1, v, e => by
    obtain ⟨y, h1, h2⟩ := VRs.get t (i := i) (v := v) (by simpa using e)
    exact ⟨y, by simpa using h1, h2⟩
theorem VRs.drop : ∀ {l : List SV} {xs : List Value}, VRs σ l xs → ∀ n, VRs σ (l.drop n) (xs.drop n)
  | _, _, h, 0 => by simpa using h
  | _, _, .nil, n + 1 => by simpa using VRs.nil
  | _, _, .cons _ t, n + 1 => by simpa using VRs.drop t n
theorem VRs.take : ∀ {l : List SV} {xs : List Value}, VRs σ l xs → ∀ n, VRs σ (l.take n) (xs.take n)
  | _, _, h, 0 => by simpa using VRs.nil
  | _, _, .nil, n + 1 => by simpa using VRs.nil
  | _, _, .cons e t, n + 1 => by simpa using VRs.cons e (VRs.take t n)
theorem VRs.set : ∀ {l : List SV} {xs : List Value}, VRs σ l xs → ∀ (i : Nat) {v : SV} {x : Value}, VR σ v x → VRs σ (l.set i v) (xs.set i x)
  | _, _, .nil, i, v, x, h => by simpa using VRs.nil
  | _, _, .cons e t, 0, v, x, h => by simpa using VRs.cons h t
  | _, _, .cons e t, i + 1, v, x, h => by simpa using VRs.cons e (VRs.set t i h)
theorem VRs.split : ∀ {l m : List SV} {xs : List Value}, VRs σ (l ++ m) xs → ∃ ys zs, xs = ys ++ zs ∧ VRs σ l ys ∧ VRs σ m zs
  | [], m, xs, h => ⟨[], xs, rfl, .nil, h⟩
  | a :: l, m, _, .cons e t => by
    obtain ⟨ys, zs, rfl, h1, h2⟩ := VRs.split t
    exact ⟨_ :: ys, zs, rfl, .cons e h1, h2⟩
theorem VRs.get_of_idx {l : List SV} {xs : List Value} (h : VRs σ l xs) {i : Nat} {x : Value} (e : xs[i]? = some x) : ∃ v, l[i]? = some v ∧ VR σ v x := by
  have hl := h.length
  have hi : i < l.length := by
    have := (List.getElem?_eq_some_iff.1 e).1
    omega
  obtain ⟨y, h1, h2⟩ := h.get (i := i) (v := l[i]) (List.getElem?_eq_getElem hi)
  rw [e] at h1
  obtain rfl := Option.some.inj h1
  exact ⟨_, List.getElem?_eq_getElem hi, h2⟩
end
def SV.one : SV → Bool
  | .agg _ => false
  | .tup _ => false
  | _ => true
theorem VR.one {σ : Env} {a : SV} {v : Value} (h : VR σ a v) (ho : a.one = true) : v.oneCell' = true := by
  cases h <;> first | rfl | (simp [SV.one] at ho)
def cellsOf : SV → List SV
  | .agg l => l
  | v => [v]
theorem VR.cells {σ : Env} {a : SV} {v : Value} (h : VR σ a v) : VRs σ (cellsOf a) v.cells.toList := by
  cases h <;> first
    | (rename_i h; simpa [cellsOf, Value.cells] using h)
    | (simp only [cellsOf, Value.cells]; exact .cons .b .nil)
    | (simp only [cellsOf, Value.cells]; exact .cons .i .nil)
    | (simp only [cellsOf, Value.cells]; exact .cons .s .nil)
    | (simp only [cellsOf, Value.cells]; exact .cons .nilp .nil)
    | (simp only [cellsOf, Value.cells]; exact .cons .nils .nil)
    | (rename_i h0 hc hm; simp only [cellsOf, Value.cells]; exact .cons (.lst0 h0 hc hm) .nil)
    | (simp only [cellsOf, Value.cells]; exact .cons .nilf .nil)
    | (simp only [cellsOf, Value.cells]; exact .cons .nili .nil)
    | (rename_i h; simp only [cellsOf, Value.cells]; exact .cons (.p h) .nil)
    | (rename_i h hx hp; simp only [cellsOf, Value.cells]; exact .cons (.pl h hx hp) .nil)
    | (rename_i h hn hc h0; simp only [cellsOf, Value.cells]; exact .cons (.sl h hn hc h0) .nil)
    | (rename_i h; simp only [cellsOf, Value.cells]; exact .cons (.sl0 h) .nil)
    | (rename_i h hx hp hn hc; simp only [cellsOf, Value.cells]; exact .cons (.lst h hx hp hn hc) .nil)
    | (rename_i h; simp only [cellsOf, Value.cells]; exact .cons (.f h) .nil)
    | (rename_i h; simp only [cellsOf, Value.cells]; exact .cons (.fm h) .nil)
    | (rename_i h; simp only [cellsOf, Value.cells]; exact .cons (.tup h) .nil)
    | (rename_i h; simp only [cellsOf, Value.cells]; exact .cons (.ifc h) .nil)
inductive Blk where
  | row (e esz : Nat) (cells : List SV)
structure St where
  H : Nat → Option Blk
  nxt : Nat
def upd (H : Nat → Option Blk) (b : Nat) (x : Option Blk) : Nat → Option Blk := fun y => if y = b then x else H y
theorem upd_same (H : Nat → Option Blk) (b : Nat) (x : Option Blk) : upd H b x b = x := by unfold upd; rw [if_pos rfl]
theorem upd_ne (H : Nat → Option Blk) {b y : Nat} (x : Option Blk) (h : y ≠ b) : upd H b x y = H y := by unfold upd; rw [if_neg h]
theorem upd_upd (H : Nat → Option Blk) (b : Nat) (x y : Option Blk) : upd (upd H b x) b y = upd H b y := by
  funext z; unfold upd; split <;> rfl
def BR (σ : Env) (κ : Nat) : Blk → Obj → Prop
  | .row e esz cells, o => ∃ (c : Array Value) (xs : List Value) (lo hi : Nat), o = .cells c e (lo, hi) ∧ VRs σ cells xs ∧ xs <+: c.toList ∧ c.size = κ * esz ∧ cells.all SV.one = true ∧ (∀ j, j < c.size → ¬ (lo ≤ j ∧ j < hi)) ∧ (esz ≠ 1 → ∀ j, ¬ (lo ≤ j ∧ j < hi))
theorem BR.ext {σ σ' : Env} (h : σ.Ext σ') {κ : Nat} {b : Blk} {o : Obj} (k : BR σ κ b o) : BR σ' κ b o := by
  cases b with
  | row e esz cells => obtain ⟨c, xs, lo, hi, h1, h2, h3⟩ := k; exact ⟨c, xs, lo, hi, h1, h2.ext h, h3⟩
def gN : Nat := 3
structure HR (σ : Env) (s : St) (w : World) : Prop where
  blk : ∀ b k, s.H b = some k → (σ.v b = true ∧ ∃ e esz, k = .row e esz []) ∨ ∃ r κ o, σ.a b = some (r, κ) ∧ w.heap[r]? = some o ∧ BR σ κ k o
  virt : ∀ b, σ.v b = true → σ.a b = none
  inj : ∀ b b' k k' r κ κ', s.H b = some k → s.H b' = some k' → σ.a b = some (r, κ) → σ.a b' = some (r, κ') → b = b'
  apart : ∀ b k r κ, s.H b = some k → σ.a b = some (r, κ) → σ.z r = none
  frz : ∀ r zs, σ.z r = some zs → ∃ c e fr, w.heap[r]? = some (.cells c e fr) ∧ zs <+: c.toList
  fresh : ∀ b, s.nxt ≤ b → σ.a b = none ∧ σ.v b = false
  lt : ∀ b r κ, σ.a b = some (r, κ) → r < w.heap.size
  m : Nat.max σ.m gN ≤ w.heap.size
theorem HR.hnone {σ : Env} {s : St} {w : World} (h : HR σ s w) {b : Nat} (hb : s.nxt ≤ b) : s.H b = none := by
  cases e : s.H b with
  | none => rfl
  | some k =>
    obtain ⟨f1, f2⟩ := h.fresh b hb
    rcases h.blk b k e with ⟨h1, _⟩ | ⟨r, κ, o, h1, _⟩
    · rw [f2] at h1; cases h1
    · rw [f1] at h1; cases h1
theorem HR.row {σ : Env} {s : St} {w : World} (h : HR σ s w) {b r κ e esz : Nat} {cells : List SV} (hb : s.H b = some (.row e esz cells)) (hs : σ.a b = some (r, κ)) :
    ∃ (c : Array Value) (xs : List Value) (lo hi : Nat), w.heap[r]? = some (.cells c e (lo, hi)) ∧ VRs σ cells xs ∧ xs <+: c.toList ∧ c.size = κ * esz ∧ cells.all SV.one = true ∧ (∀ j, j < c.size → ¬ (lo ≤ j ∧ j < hi)) ∧ (esz ≠ 1 → ∀ j, ¬ (lo ≤ j ∧ j < hi)) := by
  rcases h.blk b _ hb with ⟨h1, _⟩ | ⟨r', κ', o, h1, h2, c, xs, lo, hi, rfl, h3⟩
  · rw [h.virt b h1] at hs; cases hs
  · rw [hs] at h1
    obtain ⟨rfl, rfl⟩ := Prod.mk.inj (Option.some.inj h1)
    exact ⟨c, xs, lo, hi, h2, h3⟩
theorem HR.zlt {σ : Env} {s : St} {w : World} (h : HR σ s w) {r : Nat} {zs : List Value} (e : σ.z r = some zs) : r < w.heap.size := by
  obtain ⟨c, t, fr, h1, _⟩ := h.frz r zs e
  exact (Array.getElem?_eq_some_iff.1 h1).1
structure Keep (σ : Env) (s : St) (w w' : World) : Prop where
  os : w'.os = w.os
  tape : w'.tape = w.tape
  output : w'.output = w.output
  size : w.heap.size ≤ w'.heap.size
  same : ∀ k, k < w.heap.size → (∀ b x κ, s.H b = some x → σ.a b ≠ some (k, κ)) → w'.heap[k]? = w.heap[k]?
structure Good (σ : Env) (s : St) (w : World) (σ' : Env) (s' : St) (w' : World) : Prop where
  ext : σ.Ext σ'
  hr : HR σ' s' w'
  keep : Keep σ s w w'
  own : ∀ b x r κ, s'.H b = some x → σ'.a b = some (r, κ) → w.heap.size ≤ r ∨ ∃ b0 x0 κ0, s.H b0 = some x0 ∧ σ.a b0 = some (r, κ0)
  nx : s.nxt ≤ s'.nxt
  old : ∀ b, b < s.nxt → σ'.a b = σ.a b ∧ σ'.v b = σ.v b
  zn : ∀ r l, σ'.z r = some l → σ.z r = none → w.heap.size ≤ r ∨ ∃ b x κ, s.H b = some x ∧ σ.a b = some (r, κ)
theorem zn_same {σ : Env} {p : Nat → Prop} : ∀ r l, σ.z r = some l → σ.z r = none → p r := fun r l h1 h2 => by rw [h2] at h1; cases h1
theorem Good.refl {σ : Env} {s : St} {w : World} (h : HR σ s w) : Good σ s w σ s w := ⟨.refl _, h, ⟨rfl, rfl, rfl, Nat.le_refl _, fun _ _ _ => rfl⟩, fun b x r κ h1 h2 => .inr ⟨b, x, κ, h1, h2⟩, Nat.le_refl _, fun _ _ => ⟨rfl, rfl⟩, zn_same⟩
theorem Good.trans {σ σ1 σ2 : Env} {s s1 s2 : St} {w w1 w2 : World} (h : Good σ s w σ1 s1 w1) (k : Good σ1 s1 w1 σ2 s2 w2) : Good σ s w σ2 s2 w2 := by
  refine ⟨h.ext.trans k.ext, k.hr, ⟨k.keep.os.trans h.keep.os, k.keep.tape.trans h.keep.tape, k.keep.output.trans h.keep.output, Nat.le_trans h.keep.size k.keep.size, ?_⟩, ?_, Nat.le_trans h.nx k.nx, fun b hb => ⟨((k.old b (Nat.lt_of_lt_of_le hb h.nx)).1).trans (h.old b hb).1, ((k.old b (Nat.lt_of_lt_of_le hb h.nx)).2).trans (h.old b hb).2⟩, ?_⟩
  · intro i hi hn
    refine (k.keep.same i (Nat.lt_of_lt_of_le hi h.keep.size) ?_).trans (h.keep.same i hi hn)
    intro b x κ hx he
    rcases h.own b x i κ hx he with h1 | ⟨b0, x0, κ0, h1, h2⟩
    · omega
    · exact hn b0 x0 κ0 h1 h2
  · intro b x r κ hx he
    rcases k.own b x r κ hx he with h1 | ⟨b1, x1, κ1, h1, h2⟩
    · exact .inl (Nat.le_trans h.keep.size h1)
    · exact h.own b1 x1 r κ1 h1 h2
  · intro r l h2 h0
    cases h1 : σ1.z r with
    | some l1 => exact h.zn r l1 h1 h0
    | none =>
      rcases k.zn r l h2 h1 with h3 | ⟨b, x, κ, h3, h4⟩
      · exact .inl (Nat.le_trans h.keep.size h3)
      · exact h.own b x r κ h3 h4
theorem HR.drew {σ : Env} {s : St} {w : World} (h : HR σ s w) : HR σ s w.drew := ⟨h.blk, h.virt, h.inj, h.apart, h.frz, h.fresh, h.lt, h.m⟩
theorem Good.drew {σ : Env} {s : St} {w : World} (h : HR σ s w) : Good σ s w σ s w.drew := ⟨.refl _, h.drew, ⟨rfl, rfl, rfl, Nat.le_refl _, fun _ _ _ => rfl⟩, fun b x r κ h1 h2 => .inr ⟨b, x, κ, h1, h2⟩, Nat.le_refl _, fun _ _ => ⟨rfl, rfl⟩, zn_same⟩
theorem Good.below {σ : Env} {s : St} {w w' : World} (h : HR σ s w) (hb : RowKit.Below w.heap.size w w') : Good σ s w σ s w' := by
  refine ⟨.refl _, ⟨fun b k hk => ?_, h.virt, h.inj, h.apart, fun r zs hz => ?_, h.fresh, fun b r κ e => Nat.lt_of_lt_of_le (h.lt b r κ e) hb.size, Nat.le_trans h.m hb.size⟩, ⟨hb.os, hb.tape, hb.output, hb.size, fun k hk _ => hb.block k hk⟩, fun b x r κ h1 h2 => .inr ⟨b, x, κ, h1, h2⟩, Nat.le_refl _, fun _ _ => ⟨rfl, rfl⟩, zn_same⟩
  · rcases h.blk b k hk with h0 | ⟨r, κ, o, e1, e2, e3⟩
    · exact .inl h0
    · exact .inr ⟨r, κ, o, e1, by rw [hb.block r (h.lt b r κ e1)]; exact e2, e3⟩
  · obtain ⟨c, e, fr, h1, h2⟩ := h.frz r zs hz
    exact ⟨c, e, fr, by rw [hb.block r (h.zlt hz)]; exact h1, h2⟩
theorem HR.fewer {σ : Env} {s s2 : St} {w : World} (h : HR σ s w) (hH : ∀ b k, s2.H b = some k → s.H b = some k) (hn : s.nxt ≤ s2.nxt) : HR σ s2 w :=
  ⟨fun b k e => h.blk b k (hH b k e), h.virt, fun b b' k k' r κ κ' e e' => h.inj b b' k k' r κ κ' (hH _ _ e) (hH _ _ e'), fun b k r κ e => h.apart b k r κ (hH _ _ e), h.frz, fun b hb => h.fresh b (Nat.le_trans hn hb), h.lt, h.m⟩
theorem Good.fewer {σ σ' : Env} {s s' s2 : St} {w w' : World} (h : Good σ s w σ' s' w') (hH : ∀ b k, s2.H b = some k → s'.H b = some k) (hn : s'.nxt ≤ s2.nxt) : Good σ s w σ' s2 w' :=
  ⟨h.ext, h.hr.fewer hH hn, h.keep, fun b x r κ e => h.own b x r κ (hH _ _ e), Nat.le_trans h.nx hn, h.old, h.zn⟩
def Env.frz (σ : Env) (r : Nat) (l : List Value) : Env := ⟨σ.a, fun x => if x = r then some l else σ.z x, σ.v, σ.m⟩
theorem HR.freeze {σ : Env} {s : St} {w : World} (h : HR σ s w) {b r κ e esz : Nat} {cells : List SV} (hb : s.H b = some (.row e esz cells)) (hs : σ.a b = some (r, κ)) :
    ∃ xs, VRs σ cells xs ∧ Good σ s w (σ.frz r xs) { s with H := upd s.H b none } w := by
  obtain ⟨c, xs, lo, hi, h2, h3, h4, h5, h6, h7, h8⟩ := h.row hb hs
  have hz := h.apart b _ r κ hb hs
  have hext : σ.Ext (σ.frz r xs) := ⟨fun _ _ e => e, fun r' l e => by
    show (if r' = r then some xs else σ.z r') = some l
    rw [if_neg (fun e' => by subst e'; rw [hz] at e; cases e)]; exact e, fun _ e => e, Nat.le_refl _⟩
  have hsub : ∀ b' k, upd s.H b none b' = some k → s.H b' = some k ∧ b' ≠ b := by
    intro b' k e
    unfold upd at e
    split at e
    · cases e
    · rename_i hne; exact ⟨e, hne⟩
  refine ⟨xs, h3, hext, ⟨fun b' k e => ?_, h.virt, fun b1 b2 k1 k2 r' κ1 κ2 e1 e2 => h.inj b1 b2 k1 k2 r' κ1 κ2 (hsub _ _ e1).1 (hsub _ _ e2).1, fun b' k r' κ' e e' => ?_, fun r' zs e => ?_, h.fresh, h.lt, h.m⟩, ⟨rfl, rfl, rfl, Nat.le_refl _, fun _ _ _ => rfl⟩, fun b' x r' κ' e e' => .inr ⟨b', x, κ', (hsub _ _ e).1, e'⟩, Nat.le_refl _, fun _ _ => ⟨rfl, rfl⟩, fun r' l e e' => by
    have e : (if r' = r then some xs else σ.z r') = some l := e
    by_cases hr : r' = r
    · subst hr; exact .inr ⟨b, _, κ, hb, hs⟩
    · rw [if_neg hr, e'] at e; cases e⟩
  · rcases h.blk b' k (hsub _ _ e).1 with h0 | ⟨r', κ', o, g1, g2, g3⟩
    · exact .inl h0
    · exact .inr ⟨r', κ', o, g1, g2, g3.ext hext⟩
  · have hne : r' ≠ r := fun er => (hsub _ _ e).2 (h.inj b' b k _ r κ' κ (hsub _ _ e).1 hb (er ▸ e') hs)
    show (if r' = r then some xs else σ.z r') = none
    rw [if_neg hne]
    exact h.apart b' k r' κ' (hsub _ _ e).1 e'
  · have e : (if r' = r then some xs else σ.z r') = some zs := e
    by_cases hr : r' = r
    · rw [if_pos hr] at e
      obtain rfl := Option.some.inj e
      exact ⟨c, _, _, hr ▸ h2, h4⟩
    · rw [if_neg hr] at e
      exact h.frz r' zs e
theorem cell_of_heap {w : World} {r e lo hi : Nat} {c : Array Value} (h : w.heap[r]? = some (.cells c e (lo, hi))) (j : Nat) : w.cell? ⟨r, j, none⟩ = c[j]? := by
  simp [World.cell?, h]
theorem frozen_of_heap {w : World} {r e lo hi : Nat} {c : Array Value} (h : w.heap[r]? = some (.cells c e (lo, hi))) (j : Nat) : w.frozen? ⟨r, j, none⟩ = (decide (lo ≤ j) && decide (j < hi)) := by
  simp [World.frozen?, h]
theorem add_none (r off n : Nat) : (⟨r, off, none⟩ : Addr).add n = ⟨r, off + n, none⟩ := by
  unfold Addr.add; split
  · subst n; rfl
  · rfl
theorem loads {P : Program} {w : World} {r e off n : Nat} {fr : Nat × Nat} {c : Array Value} {ys : List Value} (h1 : w.heap[r]? = some (.cells c e fr)) (hp : ys <+: c.toList.drop off) (hl : n ≤ ys.length) :
    (loadCells ⟨r, off, none⟩ n).run P w = .ok (ys.take n).toArray w ∧ ∀ x, ys[0]? = some x → w.cell? ⟨r, off, none⟩ = some x := by
  obtain ⟨t, ht⟩ := hp
  have key : ∀ j u, ys[j]? = some u → c[off + j]? = some u := by
    intro j u hj
    have h2 : c.toList[off + j]? = some u := by
      rw [← List.getElem?_drop, ← ht, List.getElem?_append_left]
      · exact hj
      · exact (List.getElem?_eq_some_iff.1 hj).1
    simpa using h2
  obtain ⟨lo, hi⟩ := fr
  have hlen : (ys.take n).length = n := by rw [List.length_take]; omega
  refine ⟨?_, fun x hx => ?_⟩
  · have := run_loadCells_list (P := P) w ⟨r, off, none⟩ (ys.take n) (fun j u hj => by
      rw [add_none, cell_of_heap h1]
      refine key j u ?_
      rw [List.getElem?_take] at hj
      split at hj
      · exact hj
      · cases hj)
    rw [hlen] at this
    exact this
  · rw [cell_of_heap h1]; exact key 0 x hx
def ptrCells (s : St) : SV → Option (List SV)
  | .p b o => match s.H b with
    | some (.row _ _ cells) => some (cells.drop o)
    | none => none
  | .pl cells => some cells
  | _ => none
theorem ptr_loads {σ : Env} {s : St} {w : World} (h : HR σ s w) {v : SV} {x : Value} (hv : VR σ v x) {cells : List SV} (hc : ptrCells s v = some cells) (P : Program) :
    ∃ ad ys, x = .pointer (some ad) ∧ VRs σ cells ys ∧ (∀ n, n ≤ ys.length → (loadCells ad n).run P w = .ok (ys.take n).toArray w) ∧ ∀ x, ys[0]? = some x → w.cell? ad = some x := by
  cases hv <;> simp only [ptrCells] at hc <;> try (cases hc; done)
  case p b o r κ ha =>
    split at hc
    · rename_i e esz cs hb
      obtain rfl := Option.some.inj hc
      obtain ⟨c, xs, lo, hi, h2, h3, h4, h5⟩ := h.row hb ha
      have hd : xs.drop o <+: c.toList.drop o := by
        obtain ⟨t, ht⟩ := h4
        by_cases ho : o ≤ xs.length
        · exact ⟨t, by rw [← ht, List.drop_append_of_le_length ho]⟩
        · rw [List.drop_of_length_le (by omega)]; exact List.nil_prefix
      exact ⟨_, xs.drop o, rfl, h3.drop o, fun n hn => (loads h2 hd hn).1, fun x hx => (loads (P := P) (n := 0) h2 hd (Nat.zero_le _)).2 x hx⟩
    · cases hc
  case pl cs xs zs r o hz hx hp =>
    obtain rfl := Option.some.inj hc
    obtain ⟨c, e, fr, h1, h2⟩ := h.frz r zs hz
    have hd : xs <+: c.toList.drop o := by
      obtain ⟨t, ht⟩ := hp
      obtain ⟨u, hu⟩ := h2
      by_cases ho : o ≤ zs.length
      · exact ⟨t ++ u, by rw [← hu, List.drop_append_of_le_length ho, ← ht, List.append_assoc]⟩
      · rw [List.drop_of_length_le (by omega)] at ht
        have : xs = [] := (List.append_eq_nil_iff.1 ht).1
        rw [this]; exact List.nil_prefix
    exact ⟨_, xs, rfl, hx, fun n hn => (loads h1 hd hn).1, fun x hx => (loads (P := P) (n := 0) h1 hd (Nat.zero_le _)).2 x hx⟩
def ovl (c : Array Value) : Nat → List Value → Array Value
  | _, [] => c
  | o, v :: r => ovl (c.setIfInBounds o v) (o + 1) r
theorem size_ovl : ∀ (l : List Value) (c : Array Value) (o : Nat), (ovl c o l).size = c.size
  | [], _, _ => rfl
  | v :: r, c, o => by rw [ovl, size_ovl r]; simp
theorem heap_setCells (r e : Nat) (fr : Nat × Nat) : ∀ (l : List Value) (o : Nat) (c : Array Value) (w : World), w.heap[r]? = some (.cells c e fr) → (w.setCells r o l).heap[r]? = some (.cells (ovl c o l) e fr)
  | [], _, _, _, h => h
  | v :: l, o, c, w, h => by
    rw [World.setCells, ovl]
    refine heap_setCells r e fr l (o + 1) _ _ ?_
    simp [World.setCell, Array.getElem?_modify, h]
theorem heap_setCells_ne (r : Nat) : ∀ (l : List Value) (o : Nat) (w : World) (k : Nat), k ≠ r → (w.setCells r o l).heap[k]? = w.heap[k]?
  | [], _, _, _, _ => rfl
  | v :: l, o, w, k, h => by
    rw [World.setCells, heap_setCells_ne r l _ _ k h]
    simp only [World.setCell, Array.getElem?_modify]
    rw [if_neg (fun e => h e.symm)]
theorem size_setCells (r : Nat) : ∀ (l : List Value) (o : Nat) (w : World), (w.setCells r o l).heap.size = w.heap.size
  | [], _, _ => rfl
  | v :: l, o, w => by rw [World.setCells, size_setCells r l]; simp
theorem rest_setCells (r : Nat) : ∀ (l : List Value) (o : Nat) (w : World), (w.setCells r o l).os = w.os ∧ (w.setCells r o l).tape = w.tape ∧ (w.setCells r o l).output = w.output
  | [], _, _ => ⟨rfl, rfl, rfl⟩
  | v :: l, o, w => by rw [World.setCells]; exact rest_setCells r l _ _
def lay : List SV → Nat → List SV → List SV
  | c, _, [] => c
  | c, o, v :: r => lay (c.set o v) (o + 1) r
theorem ovl_prefix {σ : Env} : ∀ (vs : List SV) (ys : List Value) (cells : List SV) (xs : List Value) (c : Array Value) (o : Nat), VRs σ vs ys → VRs σ cells xs → xs <+: c.toList → o + vs.length ≤ cells.length →
    ∃ xs', VRs σ (lay cells o vs) xs' ∧ xs' <+: (ovl c o ys).toList
  | [], _, cells, xs, c, o, .nil, h2, h3, _ => ⟨xs, h2, h3⟩
  | v :: vs, _, cells, xs, c, o, .cons (x := y) (xs := ys) e t, h2, h3, h4 => by
    simp only [lay, ovl]
    simp only [List.length_cons] at h4
    have hl := h2.length
    refine ovl_prefix vs ys (cells.set o v) (xs.set o y) _ (o + 1) t (h2.set o e) ?_ (by simp; omega)
    obtain ⟨u, hu⟩ := h3
    refine ⟨u, ?_⟩
    rw [Array.toList_setIfInBounds, ← hu, List.set_append_left _ _ (by omega)]
theorem lay_length : ∀ (vs cells : List SV) (o : Nat), (lay cells o vs).length = cells.length
  | [], _, _ => rfl
  | v :: vs, cells, o => by rw [lay, lay_length vs]; simp
theorem lay_one : ∀ (vs cells : List SV) (o : Nat), vs.all SV.one = true → cells.all SV.one = true → (lay cells o vs).all SV.one = true
  | [], _, _, _, h => h
  | v :: vs, cells, o, h, k => by
    rw [lay]
    simp only [List.all_cons, Bool.and_eq_true] at h
    refine lay_one vs _ _ h.2 ?_
    rw [List.all_eq_true] at k ⊢
    intro x hx
    rcases List.mem_or_eq_of_mem_set hx with hx | rfl
    · exact k x hx
    · exact h.1
theorem VRs.one {σ : Env} : ∀ {l : List SV} {xs : List Value}, VRs σ l xs → l.all SV.one = true → ∀ v ∈ xs, v.oneCell' = true
  | _, _, .nil, _, v, hv => by cases hv
  | _, _, .cons e t, ho, v, hv => by
    simp only [List.all_cons, Bool.and_eq_true] at ho
    rcases List.mem_cons.1 hv with rfl | hv
    · exact e.one ho.1
    · exact VRs.one t ho.2 v hv
theorem HR.store {σ : Env} {s : St} {w : World} (P : Program) (h : HR σ s w) {b e esz off r κ : Nat} {cells vs : List SV} {ys : List Value} (hb : s.H b = some (.row e esz cells)) (hs : σ.a b = some (r, κ)) (hv : VRs σ vs ys) (h1 : vs.all SV.one = true) (hf : off + vs.length ≤ cells.length) :
    (storeCells ⟨r, off, none⟩ ys).run P w = .ok () (w.setCells r off ys) ∧ Good σ s w σ { s with H := upd s.H b (some (.row e esz (lay cells off vs))) } (w.setCells r off ys) := by
  obtain ⟨c, xs, lo, hi, g2, g3, g4, g5, g6, g7, g8⟩ := h.row hb hs
  have hl := hv.length
  have hxl := g3.length
  have hcl : xs.length ≤ c.size := by simpa using g4.length_le
  have hrun := run_storeCells_cells (P := P) r off ys 0 w (fun j hj => by
      rw [cell_of_heap g2]; simp; omega) (fun j hj => by
      rw [frozen_of_heap g2]
      have := g7 (off + 0 + j) (by omega)
      simp only [Bool.and_eq_false_iff, decide_eq_false_iff_not]; omega) (hv.one h1)
  have hsub : ∀ b' k, upd s.H b (some (.row e esz (lay cells off vs))) b' = some k → (b' = b ∧ k = .row e esz (lay cells off vs)) ∨ (b' ≠ b ∧ s.H b' = some k) := by
    intro b' k e
    unfold upd at e
    split at e
    · rename_i hh; exact .inl ⟨hh, (Option.some.inj e).symm⟩
    · rename_i hh; exact .inr ⟨hh, e⟩
  have hold : ∀ b' k, upd s.H b (some (.row e esz (lay cells off vs))) b' = some k → ∃ k0, s.H b' = some k0 := by
    intro b' k e
    rcases hsub b' k e with ⟨rfl, _⟩ | ⟨_, e⟩
    · exact ⟨_, hb⟩
    · exact ⟨_, e⟩
  refine ⟨by simpa using hrun, .refl _, ⟨fun b' k e => ?_, h.virt, fun b1 b2 k1 k2 r' κ1 κ2 e1 e2 => ?_, fun b' k r' κ' e => ?_, fun r' zs e => ?_, h.fresh, fun b' r' κ' e => by rw [size_setCells]; exact h.lt b' r' κ' e, by rw [size_setCells]; exact h.m⟩, ?_, fun b' x r' κ' e e' => ?_, Nat.le_refl _, fun _ _ => ⟨rfl, rfl⟩, zn_same⟩
  · rcases hsub b' k e with ⟨rfl, rfl⟩ | ⟨hne, e⟩
    · obtain ⟨xs', q1, q2⟩ := ovl_prefix vs ys cells xs c off hv g3 g4 hf
      exact .inr ⟨r, κ, _, hs, heap_setCells r _ _ ys off c w g2, _, xs', lo, hi, rfl, q1, q2, by rw [size_ovl]; exact g5, lay_one vs cells off h1 g6, fun j hj => g7 j (by rwa [size_ovl] at hj), g8⟩
    · rcases h.blk b' k e with h0 | ⟨r', κ', o', e1, e2, e3⟩
      · exact .inl h0
      · have hner : r' ≠ r := fun er => hne (h.inj b' b k _ r κ' κ e hb (er ▸ e1) hs)
        exact .inr ⟨r', κ', o', e1, by rw [heap_setCells_ne r ys off w r' hner]; exact e2, e3⟩
  · obtain ⟨k1', e1⟩ := hold _ _ e1
    obtain ⟨k2', e2⟩ := hold _ _ e2
    exact h.inj b1 b2 k1' k2' r' κ1 κ2 e1 e2
  · obtain ⟨k', e⟩ := hold _ _ e
    exact h.apart b' k' r' κ' e
  · have hner : r' ≠ r := fun er => by subst er; rw [h.apart b _ r' κ hb hs] at e; cases e
    rw [heap_setCells_ne r ys off w r' hner]
    exact h.frz r' zs e
  · obtain ⟨q1, q2, q3⟩ := rest_setCells r ys off w
    refine ⟨q1, q2, q3, by rw [size_setCells]; exact Nat.le_refl _, fun k hk hn => heap_setCells_ne r ys off w k ?_⟩
    intro e
    subst e
    exact hn b _ κ hb hs
  · obtain ⟨k', e⟩ := hold _ _ e
    exact .inr ⟨b', k', κ', e, e'⟩
def Env.put (σ : Env) (b : Nat) (x : Nat × Nat) : Env := ⟨fun y => if y = b then some x else σ.a y, σ.z, σ.v, σ.m⟩
theorem HR.put_ext {σ : Env} {s : St} {w : World} (h : HR σ s w) (x : Nat × Nat) : σ.Ext (σ.put s.nxt x) := ⟨fun b q e => by
    show (if b = s.nxt then some x else σ.a b) = some q
    rw [if_neg (fun eb => by subst eb; rw [(h.fresh _ (Nat.le_refl _)).1] at e; cases e)]; exact e, fun _ _ e => e, fun _ e => e, Nat.le_refl _⟩
theorem HR.new {σ : Env} {s : St} {w : World} (h : HR σ s w) (κ : Nat) (k : Blk) (o : Obj) (hk : BR (σ.put s.nxt (w.heap.size, κ)) κ k o) :
    Good σ s w (σ.put s.nxt (w.heap.size, κ)) { H := upd s.H s.nxt (some k), nxt := s.nxt + 1 } (w.alloc o) := by
  have hn : σ.a s.nxt = none := (h.fresh _ (Nat.le_refl _)).1
  have hext := h.put_ext (w.heap.size, κ)
  have hold : ∀ b, b ≠ s.nxt → (σ.put s.nxt (w.heap.size, κ)).a b = σ.a b := fun b hb => if_neg hb
  have hnew : (σ.put s.nxt (w.heap.size, κ)).a s.nxt = some (w.heap.size, κ) := if_pos rfl
  have hheap : ∀ i, i < w.heap.size → (w.alloc o).heap[i]? = w.heap[i]? := fun i hi => by
    show (w.heap.push o)[i]? = _
    rw [Array.getElem?_push, if_neg (by omega)]
  have hlast : (w.alloc o).heap[w.heap.size]? = some o := by
    show (w.heap.push o)[w.heap.size]? = _
    rw [Array.getElem?_push, if_pos rfl]
  have hsub : ∀ b' k', upd s.H s.nxt (some k) b' = some k' → (b' = s.nxt ∧ k' = k) ∨ (b' ≠ s.nxt ∧ s.H b' = some k') := by
    intro b' k' e
    unfold upd at e
    split at e
    · rename_i hh; exact .inl ⟨hh, (Option.some.inj e).symm⟩
    · rename_i hh; exact .inr ⟨hh, e⟩
  refine ⟨hext, ⟨fun b k' e => ?_, fun b hv => ?_, fun b1 b2 k1 k2 r κ1 κ2 e1 e2 a1 a2 => ?_, fun b k' r κ' e a1 => ?_, fun r zs e => ?_, fun b hb => ?_, fun b r κ' e => ?_, Nat.le_trans h.m (by simp)⟩, ⟨rfl, rfl, rfl, by simp, fun i hi _ => hheap i hi⟩, fun b x r κ' e a1 => ?_, Nat.le_succ _, fun b hb => ⟨hold b (by omega), rfl⟩, fun r l h1 h2 => by
    have h1 : σ.z r = some l := h1
    rw [h2] at h1; cases h1⟩
  · rcases hsub b k' e with ⟨rfl, rfl⟩ | ⟨hne, e⟩
    · exact .inr ⟨_, κ, o, hnew, hlast, hk⟩
    · rcases h.blk b k' e with h0 | ⟨r, κ', o', e1, e2, e3⟩
      · exact .inl h0
      · exact .inr ⟨r, κ', o', by rw [hold b hne]; exact e1, by rw [hheap r (h.lt _ _ _ e1)]; exact e2, e3.ext hext⟩
  · have hv : σ.v b = true := hv
    rw [hold b (fun e => by subst e; rw [(h.fresh _ (Nat.le_refl _)).2] at hv; cases hv)]
    exact h.virt b hv
  · rcases hsub b1 k1 e1 with ⟨rfl, _⟩ | ⟨hne1, e1⟩
    · rcases hsub b2 k2 e2 with ⟨rfl, _⟩ | ⟨hne2, e2⟩
      · rfl
      · rw [hnew] at a1
        rw [hold b2 hne2] at a2
        have := h.lt _ _ _ a2
        obtain ⟨e, _⟩ := Prod.mk.inj (Option.some.inj a1)
        omega
    · rcases hsub b2 k2 e2 with ⟨rfl, _⟩ | ⟨hne2, e2⟩
      · rw [hnew] at a2
        rw [hold b1 hne1] at a1
        have := h.lt _ _ _ a1
        obtain ⟨e, _⟩ := Prod.mk.inj (Option.some.inj a2)
        omega
      · rw [hold b1 hne1] at a1
        rw [hold b2 hne2] at a2
        exact h.inj b1 b2 k1 k2 r κ1 κ2 e1 e2 a1 a2
  · show σ.z r = none
    rcases hsub b k' e with ⟨rfl, _⟩ | ⟨hne, e⟩
    · rw [hnew] at a1
      obtain ⟨rfl, _⟩ := Prod.mk.inj (Option.some.inj a1)
      cases hz : σ.z w.heap.size with
      | none => rfl
      | some zs => have := h.zlt hz; omega
    · rw [hold b hne] at a1
      exact h.apart b k' r κ' e a1
  · have e : σ.z r = some zs := e
    obtain ⟨c, t, fr, h1, h2⟩ := h.frz r zs e
    exact ⟨c, t, fr, by rw [hheap r (h.zlt e)]; exact h1, h2⟩
  · have hb : s.nxt + 1 ≤ b := hb
    rw [hold b (by omega)]
    exact h.fresh b (by omega)
  · by_cases hbn : b = s.nxt
    · subst hbn
      rw [hnew] at e
      obtain ⟨e, _⟩ := Prod.mk.inj (Option.some.inj e)
      simp; omega
    · rw [hold b hbn] at e
      have := h.lt b r κ' e
      simp; omega
  · rcases hsub b x e with ⟨rfl, _⟩ | ⟨hne, e⟩
    · rw [hnew] at a1
      obtain ⟨e, _⟩ := Prod.mk.inj (Option.some.inj a1)
      exact .inl (by omega)
    · rw [hold b hne] at a1
      exact .inr ⟨b, x, κ', e, a1⟩
end Go.Sy
end
section
namespace Go.Sy
open Go
set_option linter.unusedVariables false
inductive SO where
  | t (n : Nat)
  | c (v : SV)
  | f (n : Nat)
inductive EK where
  | bool | ptr | slice | func | iface | other
inductive AI where
  | mv (x : SO)
  | pick (c a b : SO)
  | bin (op : BinOp) (ek : EK) (x y : SO)
  | un (op : UnOp) (x : SO)
  | ld1 (a : SO)
  | ldn (n : Nat) (a : SO)
  | st (n : Nat) (a v : SO)
  | fa (off : Nat) (a : SO)
  | fl1 (off : Nat) (x : SO)
  | fln (off n : Nat) (x : SO)
  | ia (esz : Nat) (x i : SO)
  | iaa (len esz : Nat) (x i : SO)
  | ixs (x i : SO)
  | sls (x : SO) (lo hi : Option SO)
  | sll (esz : Nat) (x : SO) (lo hi mx : Option SO)
  | box (elem : Nat) (v : SO)
  | alc (elem : Nat) (z : List SV)
  | bld (z : List SV) (parts : List (Nat × Nat × SO))
  | bsl (elem esz len : Nat) (z : List SV) (parts : List (Nat × Nat × SO))
  | ext (x : SO) (i : Nat)
  | call (f : Nat) (args : List SO)
  | calv (x : SO) (args : List SO)
  | bls (x : SO)
  | bll (x : SO)
  | bmn (x y : SO)
  | bmx (x y : SO)
  | app (elem esz bytes : Nat) (str : Bool) (s x : SO)
  | cpy (esz : Nat) (d x : SO)
  | mks (elem esz bytes : Nat) (z : List SV) (l c : SO)
  | cvi (k : IntKind) (x : SO)
  | cid (x : SO)
  | csb (x : SO)
  | cbs (elem : Nat) (x : SO)
  | nilc (x : SO)
  | mkf (f : Nat) (cap : List SO)
  | mkm (f : Nat) (fi : List SO)
  | mki (t : Nat) (x : SO)
  | bad
structure AOp where
  d : Option Nat
  g : Option (Nat × Bool)
  ai : AI
structure DOp where
  op : AOp
  bef : Nat
inductive AC where
  | skip
  | ret
  | exit (n : Nat)
  | goto (n : Nat)
  | lbl (n : Nat)
  | reg (l : List AOp)
  | dreg (l : List DOp)
  | seq (a b : AC)
  | cond (c : SO) (a b : AC)
  | blk (n : Nat) (c : AC)
  | loop (c : AC)
  | scope (c : AC)
  | bad
inductive RV where
  | tmp (t : Nat)
  | ld1 (t : Nat)
  | ldn (t n : Nat)
structure AF where
  nt : Nat
  body : AC
  res : List RV
def cvL (f : Value → Option SV) : List Value → Option (List SV)
  | [] => some []
  | v :: r => match f v with
    | none => none
    | some a => match cvL f r with
      | none => none
      | some l => some (a :: l)
def cv : Nat → Value → Option SV
  | 0, _ => none
  | m + 1, v => match v with
    | .bool x => some (.b x)
    | .int k n => some (.i k n)
    | .string bs => some (.s bs.data.toList)
    | .pointer none => some .nilp
    | .slice none 0 0 => some .nils
    | .nilFunc => some .nilf
    | .nilIface => some .nili
    | .func (.func f) fi cs => if fi.isEmpty then (cvL (cv m) cs.toList).map (.f f) else none
    | .agg cs => (cvL (cv m) cs.toList).map .agg
    | .tuple cs => (cvL (cv m) cs.toList).map .tup
    | .iface t v => (cv m v).map (.ifc t)
    | _ => none
theorem cvL_sound {f : Value → Option SV} (hf : ∀ v a, f v = some a → ∀ σ, VR σ a v) : ∀ (l : List Value) (r : List SV), cvL f l = some r → ∀ σ, VRs σ r l
  | [], r, h, σ => by obtain rfl := (Option.some.inj h).symm; exact .nil
  | v :: l, r, h, σ => by
    simp only [cvL] at h
    split at h
    · cases h
    · rename_i a ha
      split at h
      · cases h
      · rename_i q hq
        obtain rfl := (Option.some.inj h).symm
        exact .cons (hf v a ha σ) (cvL_sound hf l q hq σ)
theorem cv_sound : ∀ (m : Nat) (v : Value) (a : SV), cv m v = some a → ∀ σ, VR σ a v := by
  intro m
  induction m with
  | zero => intro v a h; cases h
  | succ m ih =>
    intro v a h σ
    have hl : ∀ (cs : Array Value) r, cvL (cv m) cs.toList = some r → VRs σ r cs.toList := fun cs r hr => cvL_sound ih _ _ hr σ
    unfold cv at h
    split at h
    case h_1 => obtain rfl := Option.some.inj h; exact .b
    case h_2 => obtain rfl := Option.some.inj h; exact .i
    case h_3 => obtain rfl := Option.some.inj h; exact .s
    case h_4 => obtain rfl := Option.some.inj h; exact .nilp
    case h_5 => obtain rfl := Option.some.inj h; exact .nils
    case h_6 => obtain rfl := Option.some.inj h; exact .nilf
    case h_7 => obtain rfl := Option.some.inj h; exact .nili
    case h_8 =>
      rename_i f fi cs
      split at h
      · rename_i hfi
        obtain ⟨r, hr, rfl⟩ := Option.map_eq_some_iff.1 h
        have : fi = #[] := by simpa using hfi
        subst this
        exact .f (xs := cs.toList) (hl cs r hr)
      · cases h
    case h_9 => rename_i cs; obtain ⟨r, hr, rfl⟩ := Option.map_eq_some_iff.1 h; exact .agg (xs := cs.toList) (hl cs r hr)
    case h_10 => rename_i cs; obtain ⟨r, hr, rfl⟩ := Option.map_eq_some_iff.1 h; exact .tup (xs := cs.toList) (hl cs r hr)
    case h_11 => obtain ⟨r, hr, rfl⟩ := Option.map_eq_some_iff.1 h; exact .ifc (ih _ _ hr σ)
    case h_12 => cases h
def oo (x : Operand) : Option SO := match x with
  | .tmp t => some (.t t)
  | .const v => (cv 6 v).map .c
  | .global _ => none
  | .func f => some (.f f)
def oL : List Operand → Option (List SO)
  | [] => some []
  | x :: r => match oo x with
    | none => none
    | some a => match oL r with
      | none => none
      | some l => some (a :: l)
def oOpt : Option Operand → Option (Option SO)
  | none => some none
  | some x => (oo x).map some
def aggD : TypeDesc → Bool
  | .struct _ => true
  | .array _ _ => true
  | _ => false
def szOf (P : Program) (t : TypeId) : Option Nat := (P.info? t).map (·.size)
theorem szOf_eq {P : Program} {t : TypeId} {n : Nat} (h : szOf P t = some n) : ∃ i, P.info? t = some i ∧ i.size = n := Option.map_eq_some_iff.1 h
def ekOf (P : Program) (t : TypeId) : EK := match P.underlying t with
  | some .bool => .bool
  | some (.pointer e) => match szOf P e with
    | some (_ + 1) => .ptr
    | _ => .other
  | some (.slice _) => .slice
  | some (.func ..) => .func
  | some (.interface _) => .iface
  | _ => .other
def prtS (P : Program) (fs : Array Field) : List (Nat × Operand) → Option (List (Nat × Nat × SO))
  | [] => some []
  | (i, x) :: r => match fs[i]? with
    | none => none
    | some f => match szOf P f.type with
      | none => none
      | some n => match oo x with
        | none => none
        | some o => match prtS P fs r with
          | none => none
          | some l => some ((f.offset, n, o) :: l)
def prtA (esz : Nat) : List (Nat × Operand) → Option (List (Nat × Nat × SO))
  | [] => some []
  | (i, x) :: r => match oo x with
    | none => none
    | some o => match prtA esz r with
      | none => none
      | some l => some ((i * esz, esz, o) :: l)
def zOf (P : Program) (t : TypeId) : Option (List SV) := match P.info? t with
  | some i => match i.zero with
    | some v => match cv 6 v with
      | some a => if (cellsOf a).length = i.size then some (cellsOf a) else none
      | none => none
    | none => none
  | none => none
theorem zOf_sound {P : Program} {t : TypeId} {z : List SV} (h : zOf P t = some z) : ∃ i v, P.info? t = some i ∧ i.zero = some v ∧ z.length = i.size ∧ (∀ σ, VRs σ z v.cells.toList) ∧ v.cells.size = i.size := by
  unfold zOf at h
  split at h
  · rename_i i hi
    split at h
    · rename_i v hv
      split at h
      · rename_i a ha
        split at h
        · rename_i hl
          obtain rfl := Option.some.inj h
          have hc : ∀ σ, VRs σ (cellsOf a) v.cells.toList := fun σ => (cv_sound _ _ _ ha σ).cells
          refine ⟨i, v, hi, hv, hl, hc, ?_⟩
          rw [← hl, (hc ⟨fun _ => none, fun _ => none, fun _ => false, 0⟩).length, Array.length_toList]
        · cases h
      · cases h
    · cases h
  · cases h
inductive Comp (P : Program) : Op → AI → Prop
  | mv {x x'} (h : oo x = some x') : Comp P (.move x) (.mv x')
  | asg {x x'} (h : oo x = some x') : Comp P (.assign x) (.mv x')
  | pick {c x y c' x' y'} (h1 : oo c = some c') (h2 : oo x = some x') (h3 : oo y = some y') : Comp P (.pick c x y) (.pick c' x' y')
  | bin {op t u x y x' y'} (h1 : oo x = some x') (h2 : oo y = some y') : Comp P (.binOp op t x y u) (.bin op (ekOf P t) x' y')
  | un {op t x x'} (h : oo x = some x') : Comp P (.unOp op t x) (.un op x')
  | ld1 {t d n x x'} (h1 : P.underlying t = some d) (h2 : szOf P t = some n) (h3 : oo x = some x') (h4 : aggD d = false) : Comp P (.load t x) (.ld1 x')
  | ldn {t d n x x'} (h1 : P.underlying t = some d) (h2 : szOf P t = some n) (h3 : oo x = some x') (h4 : aggD d = true) : Comp P (.load t x) (.ldn n x')
  | st {t n x y x' y'} (h1 : szOf P t = some n) (h2 : oo x = some x') (h3 : oo y = some y') : Comp P (.store t x y) (.st n x' y')
  | fa {t fs x x' f fd n} (h1 : P.underlying t = some (.struct fs)) (h2 : oo x = some x') (h3 : fs[f]? = some fd) (h4 : szOf P fd.type = some (n + 1)) : Comp P (.fieldAddr t x f) (.fa fd.offset x')
  | fl1 {t fs x x' f fd d n} (h1 : P.underlying t = some (.struct fs)) (h2 : oo x = some x') (h3 : fs[f]? = some fd) (h4 : P.underlying fd.type = some d) (h5 : szOf P fd.type = some n) (h6 : aggD d = false) : Comp P (.field t x f) (.fl1 fd.offset x')
  | fln {t fs x x' f fd d n} (h1 : P.underlying t = some (.struct fs)) (h2 : oo x = some x') (h3 : fs[f]? = some fd) (h4 : P.underlying fd.type = some d) (h5 : szOf P fd.type = some n) (h6 : aggD d = true) : Comp P (.field t x f) (.fln fd.offset n x')
  | ia {t e x i x' i' n} (h1 : P.underlying t = some (.slice e)) (h2 : oo x = some x') (h3 : oo i = some i') (h4 : szOf P e = some n) : Comp P (.indexAddr t x i) (.ia n x' i')
  | iaa {t len e x i x' i' n} (h1 : P.underlying t = some (.array len e)) (h2 : oo x = some x') (h3 : oo i = some i') (h4 : szOf P e = some n) : Comp P (.indexAddr t x i) (.iaa len n x' i')
  | ixs {t x i x' i'} (h1 : P.underlying t = some .string) (h2 : oo x = some x') (h3 : oo i = some i') : Comp P (.index t x i) (.ixs x' i')
  | sls {t x lo hi x' lo' hi'} (h1 : P.underlying t = some .string) (h2 : oo x = some x') (h3 : oOpt lo = some lo') (h4 : oOpt hi = some hi') : Comp P (.slice t x lo hi none) (.sls x' lo' hi')
  | sll {t e x lo hi mx x' lo' hi' mx' n} (h1 : P.underlying t = some (.slice e)) (h2 : oo x = some x') (h3 : oOpt lo = some lo') (h4 : oOpt hi = some hi') (h5 : oOpt mx = some mx') (h6 : szOf P e = some n) : Comp P (.slice t x lo hi mx) (.sll n x' lo' hi' mx')
  | box {e x x'} (h : oo x = some x') : Comp P (.box e x) (.box e x')
  | alc {e z} (h : zOf P e = some z) : Comp P (.alloc e) (.alc e z)
  | bldS {t fs z parts l} (h1 : P.underlying t = some (.struct fs)) (h2 : zOf P t = some z) (h3 : fs.all (fun f => (szOf P f.type).isSome) = true) (h4 : prtS P fs parts.toList = some l) : Comp P (.build t parts) (.bld z l)
  | bldA {t len e z n parts l} (h1 : P.underlying t = some (.array len e)) (h2 : zOf P t = some z) (h3 : szOf P e = some n) (h4 : prtA n parts.toList = some l) : Comp P (.build t parts) (.bld z l)
  | bsl {t len e n z parts l} (h1 : P.underlying t = some (.slice e)) (h2 : szOf P e = some n) (h3 : zOf P e = some z) (h4 : len * n ≤ 2 ^ 24) (h5 : prtA n parts.toList = some l) : Comp P (.buildSlice t len parts) (.bsl e n len z l)
  | ext {x x' i} (h : oo x = some x') : Comp P (.extract x i) (.ext x' i)
  | call {c f l} (h1 : c.callee = .value (.func f)) (h2 : oL c.args.toList = some l) : Comp P (.call c) (.call f l)
  | calv {c x x' l} (h1 : c.callee = .value x) (h2 : oo x = some x') (h3 : oL c.args.toList = some l) : Comp P (.call c) (.calv x' l)
  | bls {c t ts x'} (h1 : c.callee = .builtin .len) (h2 : c.argTypes.toList = t :: ts) (h3 : oL c.args.toList = some [x']) (h4 : P.underlying t = some .string) : Comp P (.call c) (.bls x')
  | bll {c t ts x' e} (h1 : c.callee = .builtin .len) (h2 : c.argTypes.toList = t :: ts) (h3 : oL c.args.toList = some [x']) (h4 : P.underlying t = some (.slice e)) : Comp P (.call c) (.bll x')
  | bmn {c x' y'} (h1 : c.callee = .builtin .min) (h3 : oL c.args.toList = some [x', y']) : Comp P (.call c) (.bmn x' y')
  | bmx {c x' y'} (h1 : c.callee = .builtin .max) (h3 : oL c.args.toList = some [x', y']) : Comp P (.call c) (.bmx x' y')
  | app {c t u x' y' e e' i z} (h1 : c.callee = .builtin .append) (h2 : c.argTypes.toList = [t, u]) (h3 : oL c.args.toList = some [x', y']) (h4 : P.underlying t = some (.slice e)) (h5 : P.underlying u = some (.slice e')) (h6 : P.info? e = some i) (h7 : zOf P e = some z) (h8 : 0 < i.size ∧ 0 < i.bytes) : Comp P (.call c) (.app e i.size i.bytes false x' y')
  | apps {c t u x' y' e i z} (h1 : c.callee = .builtin .append) (h2 : c.argTypes.toList = [t, u]) (h3 : oL c.args.toList = some [x', y']) (h4 : P.underlying t = some (.slice e)) (h5 : P.underlying u = some .string) (h6 : P.info? e = some i) (h7 : zOf P e = some z) (h8 : 0 < i.size ∧ 0 < i.bytes) : Comp P (.call c) (.app e i.size i.bytes true x' y')
  | cpy {c t ts x' y' e n} (h1 : c.callee = .builtin .copy) (h2 : c.argTypes.toList = t :: ts) (h3 : oL c.args.toList = some [x', y']) (h4 : P.underlying t = some (.slice e)) (h5 : szOf P e = some n) : Comp P (.call c) (.cpy n x' y')
  | mks {t e l k l' k' i z} (h1 : P.underlying t = some (.slice e)) (h2 : oo l = some l') (h3 : oo k = some k') (h4 : P.info? e = some i) (h5 : zOf P e = some z) : Comp P (.makeSlice t l k) (.mks e i.size i.bytes z l' k')
  | cvi {src dst k k' x x'} (h1 : P.underlying src = some (.int k')) (h2 : P.underlying dst = some (.int k)) (h3 : oo x = some x') : Comp P (.convert src dst x) (.cvi k x')
  | cid {src dst x x'} (h1 : P.underlying src = some .string) (h2 : P.underlying dst = some .string) (h3 : oo x = some x') : Comp P (.convert src dst x) (.cid x')
  | csb {src dst e x x'} (h1 : P.underlying src = some (.slice e)) (h2 : P.underlying dst = some .string) (h3 : oo x = some x') (h4 : P.underlying e = some (.int .u8)) : Comp P (.convert src dst x) (.csb x')
  | cbs {src dst e x x'} (h1 : P.underlying src = some .string) (h2 : P.underlying dst = some (.slice e)) (h3 : oo x = some x') (h4 : P.underlying e = some (.int .u8)) (h5 : szOf P e = some 1) : Comp P (.convert src dst x) (.cbs e x')
  | nilc {x x'} (h : oo x = some x') : Comp P (.nilCheck x) (.nilc x')
  | mkf {f fi cs l} (h1 : fi.isEmpty = true) (h2 : oL cs.toList = some l) : Comp P (.makeFunc (.func f) fi cs) (.mkf f l)
  | mkm {f fi cs l} (h1 : cs.isEmpty = true) (h2 : oL fi.toList = some l) : Comp P (.makeFunc (.func f) fi cs) (.mkm f l)
  | mki {t d x x'} (h1 : P.underlying t = some d) (h2 : oo x = some x') (h3 : ∀ m, d ≠ .interface m) : Comp P (.makeInterface t x) (.mki t x')
def cop (P : Program) (op : Op) : Option AI := match op with
  | .move x => (oo x).map .mv
  | .assign x => (oo x).map .mv
  | .pick c a b => match oo c, oo a, oo b with
    | some c, some a, some b => some (.pick c a b)
    | _, _, _ => none
  | .binOp op xt x y _ => match oo x, oo y with
    | some x, some y => some (.bin op (ekOf P xt) x y)
    | _, _ => none
  | .unOp op _ x => (oo x).map (.un op)
  | .load t a => match P.underlying t, szOf P t, oo a with
    | some d, some n, some a => some (match aggD d with | true => .ldn n a | false => .ld1 a)
    | _, _, _ => none
  | .store t a v => match szOf P t, oo a, oo v with
    | some n, some a, some v => some (.st n a v)
    | _, _, _ => none
  | .fieldAddr t x f => match P.underlying t, oo x with
    | some (.struct fs), some x => match fs[f]? with
      | some fd => match szOf P fd.type with
        | some (_ + 1) => some (.fa fd.offset x)
        | _ => none
      | none => none
    | _, _ => none
  | .field t x f => match P.underlying t, oo x with
    | some (.struct fs), some x => match fs[f]? with
      | some fd => match P.underlying fd.type, szOf P fd.type with
        | some d, some n => some (match aggD d with | true => .fln fd.offset n x | false => .fl1 fd.offset x)
        | _, _ => none
      | none => none
    | _, _ => none
  | .indexAddr t x i => match P.underlying t, oo x, oo i with
    | some (.slice e), some x, some i => (szOf P e).map fun n => .ia n x i
    | some (.array len e), some x, some i => (szOf P e).map fun n => .iaa len n x i
    | _, _, _ => none
  | .index t x i => match P.underlying t, oo x, oo i with
    | some .string, some x, some i => some (.ixs x i)
    | _, _, _ => none
  | .slice t x lo hi mx => match P.underlying t, oo x, oOpt lo, oOpt hi with
    | some .string, some x, some lo, some hi => match mx with
      | none => some (.sls x lo hi)
      | some _ => none
    | some (.slice e), some x, some lo, some hi => match oOpt mx, szOf P e with
      | some mx, some n => some (.sll n x lo hi mx)
      | _, _ => none
    | _, _, _, _ => none
  | .box e x => (oo x).map (.box e)
  | .alloc e => (zOf P e).map (.alc e)
  | .build t parts => match P.underlying t, zOf P t with
    | some (.struct fs), some z => match fs.all (fun f => (szOf P f.type).isSome) with
      | true => (prtS P fs parts.toList).map (.bld z)
      | false => none
    | some (.array _ e), some z => match szOf P e with
      | some n => (prtA n parts.toList).map (.bld z)
      | none => none
    | _, _ => none
  | .buildSlice t len parts => match P.underlying t with
    | some (.slice e) => match szOf P e, zOf P e with
      | some n, some z => if len * n ≤ 2 ^ 24 then (prtA n parts.toList).map (.bsl e n len z) else none
      | _, _ => none
    | _ => none
  | .extract x i => (oo x).map fun x => .ext x i
  | .call c => match c.callee with
    | .value (.func f) => (oL c.args.toList).map (.call f)
    | .value x => match oo x, oL c.args.toList with
      | some x, some l => some (.calv x l)
      | _, _ => none
    | .builtin .len => match c.argTypes.toList, oL c.args.toList with
      | t :: _, some [x] => match P.underlying t with
        | some .string => some (.bls x)
        | some (.slice _) => some (.bll x)
        | _ => none
      | _, _ => none
    | .builtin .min => match oL c.args.toList with
      | some [x, y] => some (.bmn x y)
      | _ => none
    | .builtin .max => match oL c.args.toList with
      | some [x, y] => some (.bmx x y)
      | _ => none
    | .builtin .append => match c.argTypes.toList, oL c.args.toList with
      | [t, u], some [x, y] => match P.underlying t, P.underlying u with
        | some (.slice e), some (.slice _) => match P.info? e, zOf P e with
          | some i, some _ => if 0 < i.size ∧ 0 < i.bytes then some (.app e i.size i.bytes false x y) else none
          | _, _ => none
        | some (.slice e), some .string => match P.info? e, zOf P e with
          | some i, some _ => if 0 < i.size ∧ 0 < i.bytes then some (.app e i.size i.bytes true x y) else none
          | _, _ => none
        | _, _ => none
      | _, _ => none
    | .builtin .copy => match c.argTypes.toList, oL c.args.toList with
      | t :: _, some [x, y] => match P.underlying t with
        | some (.slice e) => (szOf P e).map fun n => .cpy n x y
        | _ => none
      | _, _ => none
    | _ => none
  | .makeSlice t l c => match P.underlying t, oo l, oo c with
    | some (.slice e), some l, some c => match P.info? e, zOf P e with
      | some i, some z => some (.mks e i.size i.bytes z l c)
      | _, _ => none
    | _, _, _ => none
  | .convert src dst x => match P.underlying src, P.underlying dst, oo x with
    | some (.int _), some (.int k), some x => some (.cvi k x)
    | some .string, some .string, some x => some (.cid x)
    | some .string, some (.slice e), some x => match P.underlying e, szOf P e with
      | some (.int .u8), some 1 => some (.cbs e x)
      | _, _ => none
    | some (.slice e), some .string, some x => match P.underlying e with
      | some (.int .u8) => some (.csb x)
      | _ => none
    | _, _, _ => none
  | .nilCheck x => (oo x).map .nilc
  | .makeFunc fn fi cs => match fn with
    | .func f => match fi.isEmpty with
      | true => (oL cs.toList).map (.mkf f)
      | false => match cs.isEmpty with
        | true => (oL fi.toList).map (.mkm f)
        | false => none
    | _ => none
  | .makeInterface t x => match P.underlying t, oo x with
    | some (.interface _), _ => none
    | some _, some x => some (.mki t x)
    | _, _ => none
  | _ => none
theorem cop_sound {P : Program} {op : Op} {ai : AI} (h : cop P op = some ai) : Comp P op ai := by
  cases op <;> dsimp only [cop] at h <;> try (cases h; done)
  case move x => obtain ⟨y, h1, rfl⟩ := Option.map_eq_some_iff.1 h; exact .mv h1
  case assign x => obtain ⟨y, h1, rfl⟩ := Option.map_eq_some_iff.1 h; exact .asg h1
  case pick => split at h <;> cases h; rename_i h1 h2 h3; exact .pick h1 h2 h3
  case binOp => split at h <;> cases h; rename_i h1 h2; exact .bin h1 h2
  case unOp => obtain ⟨y, h1, rfl⟩ := Option.map_eq_some_iff.1 h; exact .un h1
  case load =>
    split at h
    · rename_i d n a h1 h2 h3
      split at h <;> cases h
      · rename_i h4; exact .ldn h1 h2 h3 h4
      · rename_i h4; exact .ld1 h1 h2 h3 h4
    · cases h
  case store => split at h <;> cases h; rename_i h1 h2 h3; exact .st h1 h2 h3
  case fieldAddr =>
    split at h
    · rename_i h1 h2
      split at h
      · rename_i h3
        split at h <;> cases h
        rename_i h4
        exact .fa h1 h2 h3 h4
      · cases h
    · cases h
  case field =>
    split at h
    · rename_i h1 h2
      split at h
      · rename_i h3
        split at h
        · rename_i h4 h5
          split at h <;> cases h
          · rename_i h6; exact .fln h1 h2 h3 h4 h5 h6
          · rename_i h6; exact .fl1 h1 h2 h3 h4 h5 h6
        · cases h
      · cases h
    · cases h
  case indexAddr =>
    split at h
    · rename_i h1 h2 h3
      obtain ⟨n, h4, rfl⟩ := Option.map_eq_some_iff.1 h
      exact .ia h1 h2 h3 h4
    · rename_i h1 h2 h3
      obtain ⟨n, h4, rfl⟩ := Option.map_eq_some_iff.1 h
      exact .iaa h1 h2 h3 h4
    · cases h
  case index => split at h <;> cases h; rename_i h1 h2 h3; exact .ixs h1 h2 h3
  case slice =>
    split at h
    · rename_i h1 h2 h3 h4
      split at h <;> cases h
      exact .sls h1 h2 h3 h4
    · rename_i h1 h2 h3 h4
      split at h <;> cases h
      rename_i h5 h6
      exact .sll h1 h2 h3 h4 h5 h6
    · cases h
  case box => obtain ⟨y, h1, rfl⟩ := Option.map_eq_some_iff.1 h; exact .box h1
  case alloc => obtain ⟨y, h1, rfl⟩ := Option.map_eq_some_iff.1 h; exact .alc h1
  case build =>
    split at h
    · rename_i h1 h2
      split at h
      · rename_i h3
        obtain ⟨l, h4, rfl⟩ := Option.map_eq_some_iff.1 h
        exact .bldS h1 h2 h3 h4
      · cases h
    · rename_i h1 h2
      split at h
      · rename_i h3
        obtain ⟨l, h4, rfl⟩ := Option.map_eq_some_iff.1 h
        exact .bldA h1 h2 h3 h4
      · cases h
    · cases h
  case buildSlice =>
    split at h
    · rename_i h1
      split at h
      · rename_i h2 h3
        split at h
        · rename_i h4
          obtain ⟨l, h5, rfl⟩ := Option.map_eq_some_iff.1 h
          exact .bsl h1 h2 h3 h4 h5
        · cases h
      · cases h
    · cases h
  case extract => obtain ⟨y, h1, rfl⟩ := Option.map_eq_some_iff.1 h; exact .ext h1
  case call c =>
    split at h
    · rename_i h1
      obtain ⟨l, h2, rfl⟩ := Option.map_eq_some_iff.1 h
      exact .call h1 h2
    · rename_i h1
      split at h <;> cases h
      rename_i h2 h3
      exact .calv h1 h2 h3
    · rename_i h1
      split at h
      · rename_i h2 h3
        split at h <;> cases h
        · rename_i h4; exact .bls h1 h2 h3 h4
        · rename_i h4; exact .bll h1 h2 h3 h4
      · cases h
    · rename_i h1
      split at h <;> cases h
      rename_i h3; exact .bmn h1 h3
    · rename_i h1
      split at h <;> cases h
      rename_i h3; exact .bmx h1 h3
    · rename_i h1
      split at h
      · rename_i h2 h3
        split at h
        · rename_i h4 h5
          split at h
          · rename_i h6 h7
            split at h
            · rename_i h8; cases h; exact .app h1 h2 h3 h4 h5 h6 h7 h8
            · cases h
          · cases h
        · rename_i h4 h5
          split at h
          · rename_i h6 h7
            split at h
            · rename_i h8; cases h; exact .apps h1 h2 h3 h4 h5 h6 h7 h8
            · cases h
          · cases h
        · cases h
      · cases h
    · rename_i h1
      split at h
      · rename_i h2 h3
        split at h
        · rename_i h4
          obtain ⟨n, h5, rfl⟩ := Option.map_eq_some_iff.1 h
          exact .cpy h1 h2 h3 h4 h5
        · cases h
      · cases h
    · cases h
  case makeSlice =>
    split at h
    · rename_i h1 h2 h3
      split at h <;> cases h
      rename_i h4 h5
      exact .mks h1 h2 h3 h4 h5
    · cases h
  case convert =>
    split at h
    · rename_i h1 h2 h3; cases h; exact .cvi h1 h2 h3
    · rename_i h1 h2 h3; cases h; exact .cid h1 h2 h3
    · rename_i h1 h2 h3
      split at h <;> cases h
      rename_i h4 h5
      exact .cbs h1 h2 h3 h4 h5
    · rename_i h1 h2 h3
      split at h <;> cases h
      rename_i h4
      exact .csb h1 h2 h3 h4
    · cases h
  case nilCheck => obtain ⟨y, h1, rfl⟩ := Option.map_eq_some_iff.1 h; exact .nilc h1
  case makeFunc =>
    split at h
    · split at h
      · rename_i h1
        obtain ⟨l, h2, rfl⟩ := Option.map_eq_some_iff.1 h
        exact .mkf h1 h2
      · split at h
        · rename_i h1
          obtain ⟨l, h2, rfl⟩ := Option.map_eq_some_iff.1 h
          exact .mkm h1 h2
        · cases h
    · cases h
  case makeInterface =>
    split at h
    · cases h
    · rename_i hne h1 h2
      cases h
      exact .mki h1 h2 (fun m e => hne m e)
    · cases h
end Go.Sy
end
section
namespace Go.Sy
open Go
set_option linter.unusedVariables false
abbrev Tm := List (Nat × SV)
def Tm.get : Tm → Nat → Option SV
  | [], _ => none
  | (k, v) :: r, n => match Nat.beq k n with
    | true => some v
    | false => Tm.get r n
theorem Tm.get_cons (k : Nat) (v : SV) (r : Tm) (n : Nat) : Tm.get ((k, v) :: r) n = if n = k then some v else Tm.get r n := by
  simp only [Tm.get]
  by_cases h : n = k
  · subst h; simp
  · rw [if_neg h]
    have : Nat.beq k n = false := by
      cases e : Nat.beq k n with
      | false => rfl
      | true => exact absurd (Nat.eq_of_beq_eq_true e).symm h
    rw [this]
def putT (T : Tm) (d : Option Nat) (v : SV) : Tm := match d with
  | none => T
  | some d => (d, v) :: T
def evO (T : Tm) : SO → Option SV
  | .t n => T.get n
  | .c v => some v
  | .f n => some (.f n [])
def evOs (T : Tm) : List SO → Option (List SV)
  | [] => some []
  | o :: l => match evO T o with
    | none => none
    | some v => match evOs T l with
      | none => none
      | some vs => some (v :: vs)
def evOp (T : Tm) : Option SO → Option (Option SV)
  | none => some none
  | some o => (evO T o).map some
def SO.tmps : SO → List Nat
  | .t n => [n]
  | _ => []
def SO.tmpsL (l : List SO) : List Nat := l.flatMap SO.tmps
def SO.tmpsO : Option SO → List Nat
  | none => []
  | some x => x.tmps
def AI.tmps : AI → List Nat
  | .mv x => x.tmps
  | .pick c a b => c.tmps ++ (a.tmps ++ b.tmps)
  | .bin _ _ x y => x.tmps ++ y.tmps
  | .un _ x => x.tmps
  | .ld1 a => a.tmps
  | .ldn _ a => a.tmps
  | .st _ a v => a.tmps ++ v.tmps
  | .fa _ a => a.tmps
  | .fl1 _ x => x.tmps
  | .fln _ _ x => x.tmps
  | .ia _ x i => x.tmps ++ i.tmps
  | .iaa _ _ x i => x.tmps ++ i.tmps
  | .ixs x i => x.tmps ++ i.tmps
  | .sls x lo hi => x.tmps ++ (SO.tmpsO lo ++ SO.tmpsO hi)
  | .sll _ x lo hi mx => x.tmps ++ (SO.tmpsO lo ++ (SO.tmpsO hi ++ SO.tmpsO mx))
  | .box _ v => v.tmps
  | .alc _ _ => []
  | .bld _ parts => SO.tmpsL (parts.map (·.2.2))
  | .bsl _ _ _ _ parts => SO.tmpsL (parts.map (·.2.2))
  | .ext x _ => x.tmps
  | .call _ l => SO.tmpsL l
  | .calv x l => x.tmps ++ SO.tmpsL l
  | .bls x => x.tmps
  | .bll x => x.tmps
  | .bmn x y => x.tmps ++ y.tmps
  | .bmx x y => x.tmps ++ y.tmps
  | .app _ _ _ _ x y => x.tmps ++ y.tmps
  | .cpy _ x y => x.tmps ++ y.tmps
  | .mks _ _ _ _ l c => l.tmps ++ c.tmps
  | .cvi _ x => x.tmps
  | .cid x => x.tmps
  | .csb x => x.tmps
  | .cbs _ x => x.tmps
  | .nilc x => x.tmps
  | .mkf _ l => SO.tmpsL l
  | .mkm _ l => SO.tmpsL l
  | .mki _ x => x.tmps
  | .bad => []
def OR (σ : Env) (T : Tm) (ts : List Nat) (a : Act) : Prop := ∀ t ∈ ts, ∀ v, T.get t = some v → t < a.tmps.size ∧ VR σ v (a.tmps.getD t undef)
section
variable {P : Program} {σ : Env} {T : Tm} {ts : List Nat} {a : Act} {s s1 : St} {w : World}
theorem OR.sub {us : List Nat} (h : OR σ T ts a) (hs : ∀ t ∈ us, t ∈ ts) : OR σ T us a := fun t ht => h t (hs t ht)
theorem OR.l {us vs : List Nat} (h : OR σ T (us ++ vs) a) : OR σ T us a := h.sub fun t ht => List.mem_append_left _ ht
theorem OR.r {us vs : List Nat} (h : OR σ T (us ++ vs) a) : OR σ T vs a := h.sub fun t ht => List.mem_append_right _ ht
theorem oo_sound {x : Operand} {o : SO} (hx : oo x = some o) {v : SV} (hv : evO T o = some v) (h : OR σ T o.tmps a) : VR σ v (a.eval x) := by
  cases x with
  | tmp t =>
    obtain rfl := (Option.some.inj hx).symm
    exact (h t (by simp [SO.tmps]) v hv).2
  | const c =>
    simp only [oo] at hx
    obtain ⟨r, hr, rfl⟩ := Option.map_eq_some_iff.1 hx
    obtain rfl := (Option.some.inj hv).symm
    exact cv_sound _ _ _ hr σ
  | global g => cases hx
  | func f =>
    obtain rfl := (Option.some.inj hx).symm
    obtain rfl := (Option.some.inj hv).symm
    exact .f (xs := []) .nil
theorem oL_sound : ∀ {l : List Operand} {r : List SO} (hx : oL l = some r) {v : List SV} (hv : evOs T r = some v) (h : OR σ T (SO.tmpsL r) a), VRs σ v (l.map a.eval)
  | [], r, hx, v, hv, h => by
    obtain rfl := (Option.some.inj hx).symm
    obtain rfl := (Option.some.inj hv).symm
    exact .nil
  | x :: l, r, hx, v, hv, h => by
    simp only [oL] at hx
    split at hx
    · cases hx
    · rename_i o ho
      split at hx
      · cases hx
      · rename_i q hq
        obtain rfl := (Option.some.inj hx).symm
        simp only [evOs] at hv
        split at hv
        · cases hv
        · rename_i u hu
          split at hv
          · cases hv
          · rename_i us hus
            obtain rfl := (Option.some.inj hv).symm
            have h' : OR σ T (o.tmps ++ SO.tmpsL q) a := h
            exact .cons (oo_sound ho hu h'.l) (oL_sound hq hus h'.r)
theorem oOpt_sound {x : Option Operand} {o : Option SO} (hx : oOpt x = some o) {v : Option SV} (hv : evOp T o = some v) (h : OR σ T (SO.tmpsO o) a) :
    (x = none ∧ v = none) ∨ ∃ y z u, x = some y ∧ o = some z ∧ v = some u ∧ VR σ u (a.eval y) := by
  cases x with
  | none =>
    obtain rfl := (Option.some.inj hx).symm
    obtain rfl := (Option.some.inj hv).symm
    exact .inl ⟨rfl, rfl⟩
  | some y =>
    simp only [oOpt] at hx
    obtain ⟨z, hz, rfl⟩ := Option.map_eq_some_iff.1 hx
    obtain ⟨u, hu, rfl⟩ := Option.map_eq_some_iff.1 hv
    exact .inr ⟨y, z, u, rfl, rfl, rfl, oo_sound hz hu h⟩
def Ran (P : Program) (o : Oper) (a : Act) (w : World) (x : Value) (w' : World) : Prop :=
  (execOp a.eval o).run P w = .ok (.value x) w' ∨ ((execOp a.eval o).run P w = .ok .skip w' ∧ x = undef)
def SOp (P : Program) (ai : AI) (T : Tm) (s : St) (v : SV) (s1 : St) : Prop :=
  ∀ (o : Oper), Comp P o.op ai → ∀ (σ : Env) (w : World) (a : Act), HR σ s w → OR σ T ai.tmps a → ∀ (next : Act → World → Prop) (Q : Exit → Act → World → Prop),
    (∀ x σ' w', VR σ' v x → Good σ s w σ' s1 w' → next (a.put o.dst x) w') → o.wp P a w next Q
def SOpP (P : Program) (ai : AI) (T : Tm) (v : SV) : Prop := ∀ s, SOp P ai T s v s
theorem SOp.ran {ai : AI} {v : SV} (h : ∀ (o : Oper), Comp P o.op ai → ∀ (σ : Env) (w : World) (a : Act), HR σ s w → OR σ T ai.tmps a → ∃ x σ' w', Ran P o a w x w' ∧ VR σ' v x ∧ Good σ s w σ' s1 w') : SOp P ai T s v s1 := by
  intro o hc σ w a hr ho next Q hk
  obtain ⟨x, σ', w', h1, h2, h3⟩ := h o hc σ w a hr ho
  unfold Oper.wp
  rcases h1 with h1 | ⟨h1, rfl⟩
  · rw [h1]; exact hk x σ' w' h2 h3
  · rw [h1]; exact hk _ σ' w' h2 h3
theorem SOp.same {ai : AI} {v : SV} (h : ∀ (o : Oper), Comp P o.op ai → ∀ (σ : Env) (w : World) (a : Act), HR σ s w → OR σ T ai.tmps a → ∃ x, (execOp a.eval o).run P w = .ok (.value x) w ∧ VR σ v x) : SOp P ai T s v s :=
  SOp.ran fun o hc σ w a hr ho => let ⟨x, h1, h2⟩ := h o hc σ w a hr ho; ⟨x, σ, w, .inl h1, h2, .refl hr⟩
theorem SOpP.same {ai : AI} {v : SV} (h : ∀ (o : Oper), Comp P o.op ai → ∀ (σ : Env) (w : World) (a : Act), OR σ T ai.tmps a → ∃ x, (execOp a.eval o).run P w = .ok (.value x) w ∧ VR σ v x) : SOpP P ai T v :=
  fun s => SOp.same fun o hc σ w a _ ho => h o hc σ w a ho
theorem run_val {α β : Type} {m : Sem α} {f : α → β} {x : α} {w' : World} (h : m.run P w = .ok x w') : (do pure (f (← m)) : Sem β).run P w = .ok (f x) w' := by
  simp [h]
theorem op_mv {x : SO} {v : SV} (hx : evO T x = some v) : SOpP P (.mv x) T v := SOpP.same fun o hc σ w a ho => by
  obtain ⟨_, op, _⟩ := o
  dsimp only at hc
  cases hc with
  | mv h1 => exact ⟨_, by simp [execOp], oo_sound h1 hx ho⟩
  | asg h1 => exact ⟨_, by simp [execOp], oo_sound h1 hx ho⟩
theorem op_pick_t {c x y : SO} {v : SV} (hc : evO T c = some (.b true)) (hx : evO T x = some v) : SOpP P (.pick c x y) T v := SOpP.same fun o hcp σ w a ho => by
  obtain ⟨_, op, _⟩ := o
  dsimp only at hcp
  cases hcp with
  | pick h1 h2 h3 =>
    have q1 := oo_sound h1 hc ho.l
    have q2 := oo_sound h2 hx ho.r.l
    generalize hcv : a.eval _ = cv at q1
    cases q1
    exact ⟨_, by simp [execOp, hcv, asBool], q2⟩
theorem op_pick_f {c x y : SO} {v : SV} (hc : evO T c = some (.b false)) (hx : evO T y = some v) : SOpP P (.pick c x y) T v := SOpP.same fun o hcp σ w a ho => by
  obtain ⟨_, op, _⟩ := o
  dsimp only at hcp
  cases hcp with
  | pick h1 h2 h3 =>
    have q1 := oo_sound h1 hc ho.l
    have q2 := oo_sound h3 hx ho.r.r
    generalize hcv : a.eval _ = cv at q1
    cases q1
    exact ⟨_, by simp [execOp, hcv, asBool], q2⟩
theorem op_not {x : SO} {t : Bool} (hx : evO T x = some (.b t)) : SOpP P (.un .not x) T (.b (!t)) := SOpP.same fun o hc σ w a ho => by
  obtain ⟨_, op, _⟩ := o
  dsimp only at hc
  cases hc with
  | un h1 =>
    have q1 := oo_sound h1 hx ho
    generalize hcv : a.eval _ = cv at q1
    cases q1
    exact ⟨.bool (!t), by simp [execOp, hcv, Op.unary], .b⟩
theorem op_neg {x : SO} {k : IntKind} {n : Int} (hx : evO T x = some (.i k n)) : SOpP P (.un .neg x) T (.i k (k.wrap (0 - n))) := SOpP.same fun o hc σ w a ho => by
  obtain ⟨_, op, _⟩ := o
  dsimp only at hc
  cases hc with
  | un h1 =>
    have q1 := oo_sound h1 hx ho
    generalize hcv : a.eval _ = cv at q1
    cases q1
    exact ⟨.int k (k.wrap (0 - n)), by simp [execOp, hcv, Op.unary, Op.intArith], .i⟩
end
end Go.Sy
end
section
namespace Go.Sy
open Go
set_option linter.unusedVariables false
set_option linter.unusedSimpArgs false
section
variable {P : Program} {σ : Env} {T : Tm} {ts : List Nat} {a : Act} {s s1 : St} {w : World}
theorem VR.pl_inv {cells : List SV} {v : Value} (h : VR σ (.pl cells) v) : ∃ (xs zs : List Value) (r o : Nat), v = .pointer (some ⟨r, o, none⟩) ∧ σ.z r = some zs ∧ VRs σ cells xs ∧ xs <+: zs.drop o := by
  cases h with
  | pl h1 h2 h3 => exact ⟨_, _, _, _, rfl, h1, h2, h3⟩
def iBin (op : BinOp) (k : IntKind) (a b : Int) : Option SV := match op with
  | .add => some (.i k (k.wrap (a + b)))
  | .sub => some (.i k (k.wrap (a - b)))
  | .mul => some (.i k (k.wrap (a * b)))
  | .quo => none
  | .rem => none
  | .and => some (.i k (k.wrap ((BitVec.ofInt k.bits a &&& BitVec.ofInt k.bits b).toNat)))
  | .or => some (.i k (k.wrap ((BitVec.ofInt k.bits a ||| BitVec.ofInt k.bits b).toNat)))
  | .xor => some (.i k (k.wrap ((BitVec.ofInt k.bits a ^^^ BitVec.ofInt k.bits b).toNat)))
  | .andNot => some (.i k (k.wrap ((BitVec.ofInt k.bits a &&& ~~~ BitVec.ofInt k.bits b).toNat)))
  | .shl => none
  | .shr => none
  | .eql => some (.b (decide (a = b)))
  | .neq => some (.b (!decide (a = b)))
  | .lss => some (.b (decide (a < b)))
  | .leq => some (.b (decide (a ≤ b)))
  | .gtr => some (.b (decide (b < a)))
  | .geq => some (.b (decide (b ≤ a)))
theorem int_bin {op : BinOp} {k : IntKind} {A B : Int} {v : SV} (h : iBin op k A B = some v) (t : TypeId) (w : World) : ∃ x, (binOp op t (.int k A) (.int k B)).run P w = .ok x w ∧ VR σ v x := by
  have hd : (A == B) = decide (A = B) := by
    by_cases h : A = B <;> simp [h]
  cases op <;> simp only [iBin] at h <;> first
    | contradiction
    | (obtain rfl := (Option.some.inj h).symm
       first
         | exact ⟨.int _ _, by simp [binOp, Op.intArith, Op.intBits], .i⟩
         | exact ⟨.bool _, by simp [binOp, Op.intCmp, bne, hd]; done, .b⟩)
theorem eqGuard_ok (op : BinOp) (t : TypeId) (ox oy : Operand) {X Y : Value} (h1 : ¬ (X = .nilIface ∧ Y = .nilIface)) (h2 : ∀ l m, ¬ (X = .agg l ∧ Y = .agg m)) (w : World) :
    (eqGuard op t ox oy X Y).run P w = .ok () w := by
  unfold eqGuard
  cases op <;> simp
  all_goals
    split
    · exact absurd ⟨rfl, rfl⟩ h1
    · rename_i l m; exact absurd ⟨rfl, rfl⟩ (h2 l m)
    · rfl
theorem op_bin {op : BinOp} {ek : EK} {x y : SO} {vx vy v : SV} (hx : evO T x = some vx) (hy : evO T y = some vy)
    (h1 : ∀ σ X Y, VR σ vx X → VR σ vy Y → ¬ (X = .nilIface ∧ Y = .nilIface) ∧ ∀ l m, ¬ (X = .agg l ∧ Y = .agg m))
    (h : ∀ (t : TypeId) (w : World) σ X Y, HR σ s w → ek = ekOf P t → VR σ vx X → VR σ vy Y → ∃ r, (binOp op t X Y).run P w = .ok r w ∧ VR σ v r) : SOp P (.bin op ek x y) T s v s := SOp.same fun o hc σ w a hr ho => by
  obtain ⟨_, opr, _⟩ := o
  dsimp only at hc
  generalize hek : ek = ek' at hc
  generalize hai : AI.bin op ek' x y = ai at hc
  cases hc <;> cases hai
  rename_i t u ox oy q1 q2
  have p1 := oo_sound q1 hx ho.l
  have p2 := oo_sound q2 hy ho.r
  obtain ⟨r, e1, e2⟩ := h t w σ _ _ hr hek p1 p2
  obtain ⟨g1, g2⟩ := h1 σ _ _ p1 p2
  refine ⟨r, ?_, e2⟩
  simp only [execOp]
  exact run_val (by simp [eqGuard_ok (P := P) op t ox oy g1 g2 w, e1])
theorem op_int {op : BinOp} {ek : EK} {k : IntKind} {x y : SO} {A B : Int} {v : SV} (hx : evO T x = some (.i k A)) (hy : evO T y = some (.i k B)) (h : iBin op k A B = some v) : SOpP P (.bin op ek x y) T v := fun s =>
  op_bin hx hy (fun σ X Y h1 h2 => by cases h1; simp) (fun t w σ X Y _ _ h1 h2 => by cases h1; cases h2; exact int_bin h t w)
theorem op_add {ek : EK} {x y : SO} {A B : Int} (hx : evO T x = some (.i .i64 A)) (hy : evO T y = some (.i .i64 B)) (h1 : -9223372036854775808 ≤ A + B) (h2 : A + B ≤ 9223372036854775807) : SOpP P (.bin .add ek x y) T (.i .i64 (A + B)) := by
  have := op_int (P := P) (op := .add) (ek := ek) hx hy rfl
  rwa [show IntKind.i64.wrap (A + B) = A + B from by simp [IntKind.wrap, IntKind.bits, IntKind.signed]; omega] at this
theorem op_sub {ek : EK} {x y : SO} {A B : Int} (hx : evO T x = some (.i .i64 A)) (hy : evO T y = some (.i .i64 B)) (h1 : -9223372036854775808 ≤ A - B) (h2 : A - B ≤ 9223372036854775807) : SOpP P (.bin .sub ek x y) T (.i .i64 (A - B)) := by
  have := op_int (P := P) (op := .sub) (ek := ek) hx hy rfl
  rwa [show IntKind.i64.wrap (A - B) = A - B from by simp [IntKind.wrap, IntKind.bits, IntKind.signed]; omega] at this
theorem op_mul {ek : EK} {x y : SO} {A B : Int} (hx : evO T x = some (.i .i64 A)) (hy : evO T y = some (.i .i64 B)) (h1 : -9223372036854775808 ≤ A * B) (h2 : A * B ≤ 9223372036854775807) : SOpP P (.bin .mul ek x y) T (.i .i64 (A * B)) := by
  have := op_int (P := P) (op := .mul) (ek := ek) hx hy rfl
  rwa [show IntKind.i64.wrap (A * B) = A * B from by simp [IntKind.wrap, IntKind.bits, IntKind.signed]; omega] at this
theorem op_quo {ek : EK} {k : IntKind} {x y : SO} {A B : Int} (hx : evO T x = some (.i k A)) (hy : evO T y = some (.i k B)) (hB : B ≠ 0) : SOpP P (.bin .quo ek x y) T (.i k (k.wrap (A.tdiv B))) := fun s =>
  op_bin hx hy (fun σ X Y h1 h2 => by cases h1; simp) (fun t w σ X Y _ _ h1 h2 => by cases h1; cases h2; exact ⟨.int k (k.wrap (A.tdiv B)), by simp [binOp, Op.intDiv, hB], .i⟩)
theorem op_rem {ek : EK} {k : IntKind} {x y : SO} {A B : Int} (hx : evO T x = some (.i k A)) (hy : evO T y = some (.i k B)) (hB : B ≠ 0) : SOpP P (.bin .rem ek x y) T (.i k (A.tmod B)) := fun s =>
  op_bin hx hy (fun σ X Y h1 h2 => by cases h1; simp) (fun t w σ X Y _ _ h1 h2 => by cases h1; cases h2; exact ⟨.int k (A.tmod B), by simp [binOp, Op.intDiv, hB], .i⟩)
theorem op_shl {ek : EK} {k k' : IntKind} {x y : SO} {A B : Int} (hx : evO T x = some (.i k A)) (hy : evO T y = some (.i k' B)) (hB : 0 ≤ B) : SOpP P (.bin .shl ek x y) T (.i k (k.wrap (A * 2 ^ (min B.toNat k.bits)))) := fun s =>
  op_bin hx hy (fun σ X Y h1 h2 => by cases h1; simp) (fun t w σ X Y _ _ h1 h2 => by cases h1; cases h2; have hz : ¬ B < 0 := (by omega); exact ⟨.int k (k.wrap (A * 2 ^ (min B.toNat k.bits))), by simp [binOp, Op.shift, hz], .i⟩)
theorem op_shr {ek : EK} {k k' : IntKind} {x y : SO} {A B : Int} (hx : evO T x = some (.i k A)) (hy : evO T y = some (.i k' B)) (hB : 0 ≤ B) : SOpP P (.bin .shr ek x y) T (.i k (A.fdiv (2 ^ (min B.toNat k.bits)))) := fun s =>
  op_bin hx hy (fun σ X Y h1 h2 => by cases h1; simp) (fun t w σ X Y _ _ h1 h2 => by cases h1; cases h2; have hz : ¬ B < 0 := (by omega); exact ⟨.int k (A.fdiv (2 ^ (min B.toNat k.bits))), by simp [binOp, Op.shift, hz], .i⟩)
def sBin (op : BinOp) (x y : List UInt8) : Option SV := match op with
  | .eql => some (.b (decide (x = y)))
  | .neq => some (.b (!decide (x = y)))
  | .lss => some (.b (Op.bytesLess x y))
  | .leq => some (.b (!(Op.bytesLess y x)))
  | .gtr => some (.b (Op.bytesLess y x))
  | .geq => some (.b (!(Op.bytesLess x y)))
  | _ => none
theorem bytesLess_or : ∀ (x y : List UInt8), (Op.bytesLess x y || x == y) = !(Op.bytesLess y x) := by
  intro x
  induction x with
  | nil => intro y; cases y <;> simp [Op.bytesLess]
  | cons a x ih =>
    intro y
    cases y with
    | nil => simp [Op.bytesLess]
    | cons b y =>
      simp only [Op.bytesLess]
      have h1 : (a < b) = (a.toNat < b.toNat) := by rw [UInt8.lt_iff_toNat_lt]
      have h2 : (b < a) = (b.toNat < a.toNat) := by rw [UInt8.lt_iff_toNat_lt]
      rcases Nat.lt_trichotomy a.toNat b.toNat with h | h | h
      · have e1 : decide (a < b) = true := by rw [decide_eq_true_eq, h1]; exact h
        have e2 : decide (b < a) = false := by rw [decide_eq_false_iff_not, h2]; omega
        have e3 : (b == a) = false := by rw [beq_eq_false_iff_ne]; intro e; subst e; omega
        have e4 : (a == b) = false := by rw [beq_eq_false_iff_ne]; intro e; subst e; omega
        simp [e1, e2, e3, e4]
      · obtain rfl : a = b := UInt8.toNat_inj.1 h
        have e2 : decide (a < a) = false := by rw [decide_eq_false_iff_not, h1]; omega
        have := ih y
        simp [e2] at this ⊢
        exact this
      · have e1 : decide (a < b) = false := by rw [decide_eq_false_iff_not, h1]; omega
        have e2 : decide (b < a) = true := by rw [decide_eq_true_eq, h2]; exact h
        have e3 : (a == b) = false := by rw [beq_eq_false_iff_ne]; intro e; subst e; omega
        simp [e1, e2, e3]
theorem str_toList (l : List UInt8) : (⟨l.toArray⟩ : ByteArray).toList = l := by
  rw [ByteArray.toList_eq]
theorem str_bin {op : BinOp} {x y : List UInt8} {v : SV} (h : sBin op x y = some v) (t : TypeId) (w : World) : ∃ r, (binOp op t (.string ⟨x.toArray⟩) (.string ⟨y.toArray⟩)).run P w = .ok r w ∧ VR σ v r := by
  have hd : (x == y) = decide (x = y) := by
    by_cases h : x = y <;> simp [h]
  have h1 : (Op.bytesLess x y || decide (x = y)) = !(Op.bytesLess y x) := by rw [← hd]; exact bytesLess_or x y
  have h2 : (!Op.bytesLess x y && !decide (x = y)) = Op.bytesLess y x := by rw [← Bool.not_or, h1, Bool.not_not]
  cases op <;> simp only [sBin] at h <;> first
    | contradiction
    | (obtain rfl := (Option.some.inj h).symm
       refine ⟨.bool _, ?_, .b⟩
       simp [binOp, Op.stringOp, str_toList, hd, bne, h1, h2]
       done)
theorem op_str {op : BinOp} {ek : EK} {x y : SO} {A B : List UInt8} {v : SV} (hx : evO T x = some (.s A)) (hy : evO T y = some (.s B)) (h : sBin op A B = some v) : SOpP P (.bin op ek x y) T v := fun s =>
  op_bin hx hy (fun σ X Y h1 h2 => by cases h1; simp) (fun t w σ X Y _ _ h1 h2 => by cases h1; cases h2; exact str_bin h t w)
theorem op_cat {ek : EK} {x y : SO} {A B : List UInt8} (hx : evO T x = some (.s A)) (hy : evO T y = some (.s B)) (h : A.length + B.length ≤ 9223372036854775807) : SOpP P (.bin .add ek x y) T (.s (A ++ B)) := fun s =>
  op_bin hx hy (fun σ X Y h1 h2 => by cases h1; simp) (fun t w σ X Y _ _ h1 h2 => by
    cases h1; cases h2
    refine ⟨.string ⟨(A ++ B).toArray⟩, ?_, .s⟩
    have : ¬ (IntKind.i64.max < ((⟨A.toArray⟩ : ByteArray).size : Int) + (⟨B.toArray⟩ : ByteArray).size) := by
      show ¬ (IntKind.i64.max < (A.toArray.size : Int) + B.toArray.size)
      simp [IntKind.max, IntKind.signed, IntKind.bits]; omega
    have e : (⟨A.toArray⟩ : ByteArray) ++ ⟨B.toArray⟩ = ⟨(A ++ B).toArray⟩ := by
      apply ByteArray.ext
      simp
    have h2 : ((⟨A.toArray⟩ : ByteArray).size : Int) + (⟨B.toArray⟩ : ByteArray).size ≤ 9223372036854775807 := by
      show ((A.toArray.size : Int) + B.toArray.size) ≤ _
      simp; omega
    simp [binOp, Op.stringOp, this, e, h2])
theorem ekOf_cases (P : Program) (t : TypeId) : (ekOf P t = .bool → P.underlying t = some .bool) ∧ (ekOf P t = .ptr → ∃ e n i, P.underlying t = some (.pointer e) ∧ P.info? e = some i ∧ i.size = n + 1) ∧
    (ekOf P t = .slice → ∃ e, P.underlying t = some (.slice e)) ∧ (ekOf P t = .func → ∃ a b c, P.underlying t = some (.func a b c)) ∧ (ekOf P t = .iface → ∃ m, P.underlying t = some (.interface m)) := by
  unfold ekOf
  split
  · rename_i h; exact ⟨fun _ => h, by simp, by simp, by simp, by simp⟩
  · rename_i e h
    unfold szOf
    split
    · rename_i n hn
      obtain ⟨i, hi, hi2⟩ := Option.map_eq_some_iff.1 hn
      exact ⟨by simp, fun _ => ⟨e, n, i, h, hi, hi2⟩, by simp, by simp, by simp⟩
    · simp
  · rename_i e h; exact ⟨by simp, by simp, fun _ => ⟨e, h⟩, by simp, by simp⟩
  · rename_i a b c h; exact ⟨by simp, by simp, by simp, fun _ => ⟨a, b, c, h⟩, by simp⟩
  · rename_i m h; exact ⟨by simp, by simp, by simp, by simp, fun _ => ⟨m, h⟩⟩
  · simp
theorem binOp_eql {t : TypeId} {X Y : Value} {r : Bool} (hq : (Op.equal t X Y).run P w = .ok r w) (h1 : ∀ k n, X ≠ .int k n) (h2 : ∀ k n, X ≠ .float k n) (h3 : ∀ k n m, X ≠ .complex k n m) (h4 : ∀ q, X ≠ .string q) :
    (binOp .eql t X Y).run P w = .ok (.bool r) w ∧ (binOp .neq t X Y).run P w = .ok (.bool (!r)) w := by
  cases X <;> first
    | exact absurd rfl (h1 _ _)
    | exact absurd rfl (h2 _ _)
    | exact absurd rfl (h3 _ _ _)
    | exact absurd rfl (h4 _)
    | (refine ⟨?_, ?_⟩ <;> simp [binOp, hq])
def eqOp : BinOp → Bool → Option SV
  | .eql, r => some (.b r)
  | .neq, r => some (.b (!r))
  | _, _ => none
theorem eq_op {op : BinOp} {v : SV} {r : Bool} (h : eqOp op r = some v) {t : TypeId} {X Y : Value} (hq : (Op.equal t X Y).run P w = .ok r w) (h1 : ∀ k n, X ≠ .int k n) (h2 : ∀ k n, X ≠ .float k n) (h3 : ∀ k n m, X ≠ .complex k n m) (h4 : ∀ q, X ≠ .string q) :
    ∃ q, (binOp op t X Y).run P w = .ok q w ∧ VR σ v q := by
  obtain ⟨q1, q2⟩ := binOp_eql hq h1 h2 h3 h4
  cases op <;> simp only [eqOp] at h <;> try contradiction
  · obtain rfl := (Option.some.inj h).symm; exact ⟨_, q1, .b⟩
  · obtain rfl := (Option.some.inj h).symm; exact ⟨_, q2, .b⟩
theorem op_eqb {op : BinOp} {x y : SO} {A B : Bool} {v : SV} (hx : evO T x = some (.b A)) (hy : evO T y = some (.b B)) (h : eqOp op (A == B) = some v) : SOpP P (.bin op .bool x y) T v := fun s =>
  op_bin hx hy (fun σ X Y h1 h2 => by cases h1; simp) (fun t w σ X Y _ ht h1 h2 => by
    have k1 := (ekOf_cases P t).1 ht.symm
    cases h1; cases h2
    refine eq_op (t := t) h ?_ (by simp) (by simp) (by simp) (by simp)
    suffices key : ∀ d, (Op.equalIn (d + 1) t (.bool A) (.bool B)).run P w = .ok (A == B) w from key 9999
    intro d
    cases A <;> cases B <;> simp [Op.equalIn, underlying, program, Sem.run, k1])
theorem op_eqnn {op : BinOp} {x y : SO} {v : SV} (hx : evO T x = some .nilp) (hy : evO T y = some .nilp) (h : eqOp op true = some v) : SOpP P (.bin op .ptr x y) T v := fun s =>
  op_bin hx hy (fun σ X Y h1 h2 => by cases h1; simp) (fun t w σ X Y _ ht h1 h2 => by
    obtain ⟨e, n, i, k2, k2i, k2s⟩ := (ekOf_cases P t).2.1 ht.symm
    cases h1; cases h2
    refine eq_op (t := t) h ?_ (by simp) (by simp) (by simp) (by simp)
    suffices key : ∀ d, (Op.equalIn (d + 1) t (.pointer none) (.pointer none)).run P w = .ok true w from key 9999
    intro d
    simp [Op.equalIn, underlying, program, Sem.run, k2])
theorem op_eqpn {op : BinOp} {x y : SO} {b o : Nat} {v : SV} (hx : evO T x = some (.p b o)) (hy : evO T y = some .nilp) (h : eqOp op false = some v) : SOpP P (.bin op .ptr x y) T v := fun s =>
  op_bin hx hy (fun σ X Y h1 h2 => by cases h1; simp) (fun t w σ X Y _ ht h1 h2 => by
    obtain ⟨e, n, i, k2, k2i, k2s⟩ := (ekOf_cases P t).2.1 ht.symm
    cases h1; cases h2
    refine eq_op (t := t) h ?_ (by simp) (by simp) (by simp) (by simp)
    suffices key : ∀ d ad, (Op.equalIn (d + 1) t (.pointer (some ad)) (.pointer none)).run P w = .ok false w from key 9999 _
    intro d ad
    simp [Op.equalIn, underlying, program, Sem.run, k2])
theorem same_addr (P : Program) (h : HR σ s w) {b b' o o' r r' κ κ' e e' z z' : Nat} {cs cs' : List SV} (hne : b ≠ b') (g1 : s.H b = some (.row e z cs)) (g2 : s.H b' = some (.row e' z' cs')) (hz : z ≠ 1) (hz' : z' ≠ 1) (e1 : σ.a b = some (r, κ)) (e2 : σ.a b' = some (r', κ')) :
    (sameAddr ⟨r, o, none⟩ ⟨r', o', none⟩).run P w = .ok false w := by
  obtain ⟨c, xs, lo, hi, q1, _, _, _, _, _, q2⟩ := h.row g1 e1
  obtain ⟨c', xs', lo', hi', q1', _, _, _, _, _, q2'⟩ := h.row g2 e2
  have hr : r ≠ r' := fun er => hne (h.inj b b' _ _ r κ κ' g1 g2 e1 (er ▸ e2))
  have f1 : ∀ j, w.frozen? ⟨r, j, none⟩ = false := fun j => by rw [frozen_of_heap q1]; have := q2 hz j; simp; omega
  have f2 : ∀ j, w.frozen? ⟨r', j, none⟩ = false := fun j => by rw [frozen_of_heap q1']; have := q2' hz' j; simp; omega
  have s1 : w.shape? r = some (e, c.size) := by simp [World.shape?, q1]
  have s2 : w.shape? r' = some (e', c'.size) := by simp [World.shape?, q1']
  simp [sameAddr, hr, frozen, Sem.run, f1, f2, noView, viewAt, shape, s1, s2, mayBeOne, stringish]
theorem op_eqpp {op : BinOp} {x y : SO} {b o o' : Nat} {v : SV} (hx : evO T x = some (.p b o)) (hy : evO T y = some (.p b o')) (h : eqOp op (decide (o = o')) = some v) : SOpP P (.bin op .ptr x y) T v := fun s =>
  op_bin hx hy (fun σ X Y h1 h2 => by cases h1; simp) (fun t w σ X Y _ ht h1 h2 => by
    obtain ⟨e, n, i, k2, k2i, k2s⟩ := (ekOf_cases P t).2.1 ht.symm
    cases h1; cases h2
    rename_i r κ e1 r' κ' e2
    rw [e1] at e2
    obtain ⟨rfl, rfl⟩ := Prod.mk.inj (Option.some.inj e2)
    refine eq_op (t := t) h ?_ (by simp) (by simp) (by simp) (by simp)
    suffices key : ∀ d, (Op.equalIn (d + 1) t (.pointer (some ⟨r, o, none⟩)) (.pointer (some ⟨r, o', none⟩))).run P w = .ok (decide (o = o')) w from key 9999
    intro d
    have : ((⟨r, o, none⟩ : Addr) == ⟨r, o', none⟩) = decide (o = o') := by
      rw [Bool.eq_iff_iff, beq_iff_eq, decide_eq_true_eq]; simp
    simp [Op.equalIn, underlying, program, Sem.run, k2, sizeOf, typeInfo, k2i, k2s, sameAddr, this])
theorem op_nepp {op : BinOp} {x y : SO} {b b' o o' e e' z z' : Nat} {cs cs' : List SV} {v : SV} (hx : evO T x = some (.p b o)) (hy : evO T y = some (.p b' o')) (hne : b ≠ b') (g1 : s.H b = some (.row e z cs)) (g2 : s.H b' = some (.row e' z' cs')) (hz : z ≠ 1) (hz' : z' ≠ 1) (h : eqOp op false = some v) : SOp P (.bin op .ptr x y) T s v s :=
  op_bin hx hy (fun σ X Y h1 h2 => by cases h1; simp) (fun t w σ X Y hr ht h1 h2 => by
    obtain ⟨te, n, i, k2, k2i, k2s⟩ := (ekOf_cases P t).2.1 ht.symm
    cases h1; cases h2
    rename_i r κ e1 r' κ' e2
    refine eq_op (t := t) h ?_ (by simp) (by simp) (by simp) (by simp)
    suffices key : ∀ d, (Op.equalIn (d + 1) t (.pointer (some ⟨r, o, none⟩)) (.pointer (some ⟨r', o', none⟩))).run P w = .ok false w from key 9999
    intro d
    have := fun o1 o2 => same_addr P hr (o := o1) (o' := o2) hne g1 g2 hz hz' e1 e2
    simp [Op.equalIn, underlying, program, Sem.run, k2, sizeOf, typeInfo, k2i, k2s, this])
theorem run_loadVar_one {t : TypeId} {d : TypeDesc} (hd : P.underlying t = some d) (ha : aggD d = false) {ad : Addr} {x : Value} (hc : w.cell? ad = some x) : (loadVar t ad).run P w = .ok x w := by
  cases d <;> first
    | (simp [aggD] at ha; done)
    | simp [loadVar, isAgg, underlying, program, Sem.run, hd, load, hc]
theorem run_loadVar_agg {t : TypeId} {d : TypeDesc} (hd : P.underlying t = some d) (ha : aggD d = true) {i : TypeInfo} (hi : P.info? t = some i) {ad : Addr} {xs : List Value} (hc : (loadCells ad i.size).run P w = .ok xs.toArray w) :
    (loadVar t ad).run P w = .ok (.agg xs.toArray) w := by
  cases d <;> first
    | (simp [aggD] at ha; done)
    | simp [loadVar, isAgg, underlying, program, Sem.run, hd, sizeOf, typeInfo, hi, hc]
theorem op_ld1 {x : SO} {vx v : SV} {cells : List SV} (hx : evO T x = some vx) (hc : ptrCells s vx = some cells) (h0 : cells[0]? = some v) : SOp P (.ld1 x) T s v s := SOp.same fun o hcp σ w a hr ho => by
  obtain ⟨_, opr, _⟩ := o
  dsimp only at hcp
  cases hcp with
  | ld1 h1 h2 h3 h4 =>
    obtain ⟨ad, ys, e1, e2, e3, e4⟩ := ptr_loads hr (oo_sound h3 hx ho) hc P
    obtain ⟨y, q1, q2⟩ := e2.get h0
    have := run_loadVar_one (P := P) (w := w) h1 h4 (e4 y q1)
    exact ⟨y, by simp [execOp, e1, Instr.loadAt, Instr.sureAddr, this], q2⟩
theorem op_ldn {n : Nat} {x : SO} {vx : SV} {cells : List SV} (hx : evO T x = some vx) (hc : ptrCells s vx = some cells) (hn : n ≤ cells.length) : SOp P (.ldn n x) T s (.agg (cells.take n)) s := SOp.same fun o hcp σ w a hr ho => by
  obtain ⟨_, opr, _⟩ := o
  dsimp only at hcp
  cases hcp with
  | ldn h1 h2 h3 h4 =>
    obtain ⟨i, hi, hi2⟩ := szOf_eq h2
    obtain ⟨ad, ys, e1, e2, e3, e4⟩ := ptr_loads hr (oo_sound h3 hx ho) hc P
    have hl := e2.length
    have q := e3 n (by omega)
    rw [← hi2] at q
    have := run_loadVar_agg (P := P) (w := w) h1 h4 hi q
    exact ⟨.agg (ys.take i.size).toArray, by simp [execOp, e1, Instr.loadAt, Instr.sureAddr, this], by rw [hi2]; exact .agg (e2.take n)⟩
theorem op_st {n b off e esz : Nat} {x y : SO} {v : SV} {cells : List SV} (hx : evO T x = some (.p b off)) (hy : evO T y = some v) (hn : (cellsOf v).length = n) (hb : s.H b = some (.row e esz cells)) (h1 : (cellsOf v).all SV.one = true) (hf : off + n ≤ cells.length) :
    SOp P (.st n x y) T s (.tup []) { s with H := upd s.H b (some (.row e esz (lay cells off (cellsOf v)))) } := SOp.ran fun o hcp σ w a hr ho => by
  obtain ⟨_, opr, _⟩ := o
  dsimp only at hcp
  cases hcp with
  | st q1 q2 q3 =>
    rename_i t x' y'
    obtain ⟨i, hi, hi2⟩ := szOf_eq q1
    have p1 := oo_sound q2 hx ho.l
    have p2 := (oo_sound q3 hy ho.r).cells
    generalize hX : a.eval x' = X at p1
    cases p1
    rename_i r κ ha
    obtain ⟨g1, g2⟩ := hr.store P hb ha p2 h1 (by rw [hn]; exact hf)
    have hl := p2.length
    refine ⟨undef, σ, _, .inr ⟨?_, rfl⟩, .tup (xs := []) .nil, g2⟩
    have : (a.eval y').cells.size = i.size := by rw [hi2, ← hn, hl, Array.length_toList]
    simp [execOp, hX, Instr.storeAt, Instr.sureAddr, storeVar, sizeOf, typeInfo, program, Sem.run, hi, this, g1]
theorem op_fa {off b o : Nat} {x : SO} (hx : evO T x = some (.p b o)) : SOpP P (.fa off x) T (.p b (o + off)) := SOpP.same fun oo' hcp σ w a ho => by
  obtain ⟨_, opr, _⟩ := oo'
  dsimp only at hcp
  cases hcp with
  | fa h1 h2 h3 h4 =>
    rename_i t fs x' f fd n
    obtain ⟨i, hi, hi2⟩ := szOf_eq h4
    have p1 := oo_sound h2 hx ho
    generalize hX : a.eval x' = X at p1
    cases p1
    rename_i r κ ha
    exact ⟨.pointer (some ⟨r, o + fd.offset, none⟩), by simp [execOp, hX, Instr.fieldAt, Instr.sureAddr, underlying, program, Sem.run, h1, h3, fieldPlace, sizeOf, typeInfo, hi, hi2, add_none], .p ha⟩
theorem op_fal {off : Nat} {x : SO} {cells : List SV} (hx : evO T x = some (.pl cells)) : SOpP P (.fa off x) T (.pl (cells.drop off)) := SOpP.same fun oo' hcp σ w a ho => by
  obtain ⟨_, opr, _⟩ := oo'
  dsimp only at hcp
  cases hcp with
  | fa h1 h2 h3 h4 =>
    rename_i t fs x' f fd n
    obtain ⟨i, hi, hi2⟩ := szOf_eq h4
    have p1 := oo_sound h2 hx ho
    obtain ⟨xs, zs, r, o, hX, hz, hxs, hp⟩ := p1.pl_inv
    refine ⟨.pointer (some ⟨r, o + fd.offset, none⟩), by simp [execOp, hX, Instr.fieldAt, Instr.sureAddr, underlying, program, Sem.run, h1, h3, fieldPlace, sizeOf, typeInfo, hi, hi2, add_none], .pl hz (hxs.drop fd.offset) ?_⟩
    rw [← List.drop_drop]
    exact drop_prefix hp fd.offset
 where
  drop_prefix {xs ys : List Value} (h : xs <+: ys) (n : Nat) : xs.drop n <+: ys.drop n := by
    obtain ⟨t, rfl⟩ := h
    by_cases hn : n ≤ xs.length
    · exact ⟨t, by rw [List.drop_append_of_le_length hn]⟩
    · rw [List.drop_of_length_le (by omega)]; exact List.nil_prefix
theorem run_part_one {t : TypeId} {d : TypeDesc} (hd : P.underlying t = some d) (ha : aggD d = false) {cs : Array Value} {off : Nat} {x : Value} (hx : cs[off]? = some x) : (part t cs off).run P w = .ok x w := by
  cases d <;> first
    | (simp [aggD] at ha; done)
    | simp [part, isAgg, underlying, program, Sem.run, hd, hx]
theorem run_part_agg {t : TypeId} {d : TypeDesc} (hd : P.underlying t = some d) (ha : aggD d = true) {i : TypeInfo} (hi : P.info? t = some i) {cs : Array Value} {off : Nat} :
    (part t cs off).run P w = .ok (.agg (cs.extract off (off + i.size))) w := by
  cases d <;> first
    | (simp [aggD] at ha; done)
    | simp [part, isAgg, underlying, program, Sem.run, hd, sizeOf, typeInfo, hi]
theorem op_fl1 {off : Nat} {x : SO} {l : List SV} {v : SV} (hx : evO T x = some (.agg l)) (h : l[off]? = some v) : SOpP P (.fl1 off x) T v := SOpP.same fun oo' hcp σ w a ho => by
  obtain ⟨_, opr, _⟩ := oo'
  dsimp only at hcp
  cases hcp with
  | fl1 h1 h2 h3 h4 h5 h6 =>
    rename_i t fs x' f fd d n
    have p1 := oo_sound h2 hx ho
    generalize hX : a.eval x' = X at p1
    cases p1
    rename_i xs hxs
    obtain ⟨y, q1, q2⟩ := hxs.get h
    have := run_part_one (P := P) (w := w) h4 h6 (cs := xs.toArray) (off := fd.offset) (x := y) (by simpa using q1)
    exact ⟨y, by simp [execOp, hX, Instr.field, underlying, program, Sem.run, h1, h3, asAgg, this], q2⟩
theorem op_fln {off n : Nat} {x : SO} {l : List SV} (hx : evO T x = some (.agg l)) : SOpP P (.fln off n x) T (.agg ((l.drop off).take n)) := SOpP.same fun oo' hcp σ w a ho => by
  obtain ⟨_, opr, _⟩ := oo'
  dsimp only at hcp
  cases hcp with
  | fln h1 h2 h3 h4 h5 h6 =>
    rename_i t fs x' f fd d
    obtain ⟨i, hi, hi2⟩ := szOf_eq h5
    have p1 := oo_sound h2 hx ho
    generalize hX : a.eval x' = X at p1
    cases p1
    rename_i xs hxs
    have := run_part_agg (P := P) (w := w) h4 h6 hi (cs := xs.toArray) (off := fd.offset)
    refine ⟨.agg ((xs.drop fd.offset).take i.size).toArray, ?_, by rw [hi2]; exact .agg ((hxs.drop _).take _)⟩
    have e : xs.toArray.extract fd.offset (fd.offset + i.size) = ((xs.drop fd.offset).take i.size).toArray := by
      apply Array.ext'
      simp [List.extract_eq_take_drop]
    rw [e] at this
    simp [execOp, hX, Instr.field, underlying, program, Sem.run, h1, h3, asAgg, this]
theorem op_ext {x : SO} {i : Nat} {l : List SV} {v : SV} (hx : evO T x = some (.tup l)) (h : l[i]? = some v) : SOpP P (.ext x i) T v := SOpP.same fun oo' hcp σ w a ho => by
  obtain ⟨_, opr, _⟩ := oo'
  dsimp only at hcp
  cases hcp with
  | ext h1 =>
    rename_i x'
    have p1 := oo_sound h1 hx ho
    generalize hX : a.eval x' = X at p1
    cases p1
    rename_i xs hxs
    obtain ⟨y, q1, q2⟩ := hxs.get h
    have : xs.toArray[i]? = some y := by simpa using q1
    exact ⟨y, by simp [execOp, hX, Instr.extract, this], q2⟩
end
end Go.Sy
end
section
namespace Go.Sy
open Go
set_option linter.unusedVariables false
set_option linter.unusedSimpArgs false
section
variable {P : Program} {σ : Env} {T : Tm} {ts : List Nat} {a : Act} {s s1 : St} {w : World}
theorem VR.i_inv {k : IntKind} {n : Int} {v : Value} (h : VR σ (.i k n) v) : v = .int k n := by cases h; rfl
theorem VR.s_inv {l : List UInt8} {v : Value} (h : VR σ (.s l) v) : v = .string ⟨l.toArray⟩ := by cases h; rfl
theorem VR.p_inv {b o : Nat} {v : Value} (h : VR σ (.p b o) v) : ∃ r κ, v = .pointer (some ⟨r, o, none⟩) ∧ σ.a b = some (r, κ) := by cases h; exact ⟨_, _, rfl, by assumption⟩
theorem VR.sl_inv {b o n : Nat} {v : Value} (h : VR σ (.sl b o n) v) : (∃ r κ c, v = .slice (some ⟨r, o, none⟩) n c ∧ σ.a b = some (r, κ) ∧ n ≤ c ∧ c ≤ maxLen ∧ (o = 0 → c = κ)) ∨ (v = .slice none 0 0 ∧ σ.v b = true ∧ o = 0 ∧ n = 0) := by
  cases h with
  | sl h1 h2 h3 h4 => exact .inl ⟨_, _, _, rfl, h1, h2, h3, h4⟩
  | sl0 h => exact .inr ⟨rfl, h, rfl, rfl⟩
theorem VR.lst_inv {n : Nat} {cells : List SV} {v : Value} (h : VR σ (.lst n cells) v) : (∃ (xs zs : List Value) (r o c : Nat), v = .slice (some ⟨r, o, none⟩) n c ∧ σ.z r = some zs ∧ VRs σ cells xs ∧ xs <+: zs.drop o ∧ n ≤ c ∧ c ≤ maxLen) ∨ ((∃ A c, v = .slice A 0 c ∧ (A = none → c = 0) ∧ c ≤ maxLen ∧ (∀ ad, A = some ad → ad.block < σ.m)) ∧ n = 0 ∧ cells = []) := by
  cases h with
  | lst h1 h2 h3 h4 h5 => exact .inl ⟨_, _, _, _, _, rfl, h1, h2, h3, h4, h5⟩
  | lst0 h0 hc hm => exact .inr ⟨⟨_, _, rfl, h0, hc, hm⟩, rfl, rfl⟩
theorem bsz (l : List UInt8) : (⟨l.toArray⟩ : ByteArray).size = l.length := List.size_toArray
theorem drop_prefix {xs ys : List Value} (h : xs <+: ys) (n : Nat) : xs.drop n <+: ys.drop n := by
  obtain ⟨t, rfl⟩ := h
  by_cases hn : n ≤ xs.length
  · exact ⟨t, by rw [List.drop_append_of_le_length hn]⟩
  · rw [List.drop_of_length_le (by omega)]; exact List.nil_prefix
theorem take_prefix' {xs ys : List Value} (h : xs <+: ys) (n : Nat) : xs.take n <+: ys := (List.take_prefix n xs).trans h
theorem op_ia {esz b off n : Nat} {k : IntKind} {m : Int} {x i : SO} (hx : evO T x = some (.sl b off n)) (hi : evO T i = some (.i k m)) (j : Nat) (hm : m = (j : Int)) (hj : j < n) : SOpP P (.ia esz x i) T (.p b (off + j * esz)) := SOpP.same fun oo' hcp σ w a ho => by
  obtain ⟨_, opr, _⟩ := oo'
  dsimp only at hcp
  cases hcp with
  | ia h1 h2 h3 h4 =>
    rename_i t e x' i'
    obtain ⟨ti, q1, q2⟩ := szOf_eq h4
    have p2 := (oo_sound h3 hi ho.r).i_inv
    subst hm
    rcases (oo_sound h2 hx ho.l).sl_inv with ⟨r, κ, c, p1, ha, _⟩ | ⟨_, _, _, h0⟩
    · exact ⟨.pointer (some ⟨r, off + j * esz, none⟩), by simp [execOp, p1, p2, Instr.indexAt, asIntOf, underlying, program, Sem.run, h1, sizeOf, typeInfo, q1, q2, add_none, hj], .p ha⟩
    · omega
theorem op_ial {esz n : Nat} {cells : List SV} {k : IntKind} {m : Int} {x i : SO} (hx : evO T x = some (.lst n cells)) (hi : evO T i = some (.i k m)) (j : Nat) (hm : m = (j : Int)) (hj : j < n) : SOpP P (.ia esz x i) T (.pl (cells.drop (j * esz))) := SOpP.same fun oo' hcp σ w a ho => by
  obtain ⟨_, opr, _⟩ := oo'
  dsimp only at hcp
  cases hcp with
  | ia h1 h2 h3 h4 =>
    rename_i t e x' i'
    obtain ⟨ti, q1, q2⟩ := szOf_eq h4
    have p2 := (oo_sound h3 hi ho.r).i_inv
    subst hm
    rcases (oo_sound h2 hx ho.l).lst_inv with ⟨xs, zs, r, o, c, p1, hz, hxs, hp, _⟩ | ⟨_, h0, _⟩
    · refine ⟨.pointer (some ⟨r, o + j * esz, none⟩), by simp [execOp, p1, p2, Instr.indexAt, asIntOf, underlying, program, Sem.run, h1, sizeOf, typeInfo, q1, q2, add_none, hj], .pl hz (hxs.drop _) ?_⟩
      rw [← List.drop_drop]
      exact drop_prefix hp _
    · omega
theorem op_iaa {len esz b off : Nat} {k : IntKind} {m : Int} {x i : SO} (hx : evO T x = some (.p b off)) (hi : evO T i = some (.i k m)) (j : Nat) (hm : m = (j : Int)) (hj : j < len) : SOpP P (.iaa len esz x i) T (.p b (off + j * esz)) := SOpP.same fun oo' hcp σ w a ho => by
  obtain ⟨_, opr, _⟩ := oo'
  dsimp only at hcp
  cases hcp with
  | iaa h1 h2 h3 h4 =>
    rename_i t e x' i'
    obtain ⟨ti, q1, q2⟩ := szOf_eq h4
    have p2 := (oo_sound h3 hi ho.r).i_inv
    subst hm
    obtain ⟨r, κ, p1, ha⟩ := (oo_sound h2 hx ho.l).p_inv
    exact ⟨.pointer (some ⟨r, off + j * esz, none⟩), by simp [execOp, p1, p2, Instr.indexAt, Instr.sureAddr, asIntOf, underlying, program, Sem.run, h1, sizeOf, typeInfo, q1, q2, add_none, hj], .p ha⟩
theorem op_ixs {l : List UInt8} {k : IntKind} {m : Int} {x i : SO} {c : UInt8} (hx : evO T x = some (.s l)) (hi : evO T i = some (.i k m)) (j : Nat) (hc : l[j]? = some c) (hm : m = (j : Int)) : SOpP P (.ixs x i) T (.i .u8 c.toNat) := SOpP.same fun oo' hcp σ w a ho => by
  obtain ⟨_, opr, _⟩ := oo'
  dsimp only at hcp
  cases hcp with
  | ixs h1 h2 h3 =>
    rename_i t x' i'
    have p1 := (oo_sound h2 hx ho.l).s_inv
    have p2 := (oo_sound h3 hi ho.r).i_inv
    subst hm
    have hj : j < (⟨l.toArray⟩ : ByteArray).size := by
      rw [bsz]; exact (List.getElem?_eq_some_iff.1 hc).1
    have hb : (⟨l.toArray⟩ : ByteArray)[j]? = some c := by
      rw [getElem?_pos _ j hj]
      obtain ⟨h1, h2⟩ := List.getElem?_eq_some_iff.1 hc
      rw [← h2]; rfl
    exact ⟨.int .u8 c.toNat, by simp [execOp, p1, p2, Instr.index, asIntOf, underlying, program, Sem.run, h1, hb], .i⟩
theorem run_bound (k : IntKind) (n y : Nat) (c : BoundsCode) (h : n ≤ y) : (Instr.sliceBound (.int k (n : Int)) y c).run P w = .ok n w := by
  simp [Instr.sliceBound, asIntOf, h]
theorem run_bounds (sl : Bool) (len cap l h : Nat) (lo hi : Option Value) (hlo : (lo = none ∧ l = 0) ∨ ∃ k, lo = some (.int k (l : Int))) (hhi : (hi = none ∧ h = len) ∨ ∃ k, hi = some (.int k (h : Int))) (h1 : l ≤ h) (h2 : h ≤ cap) :
    (Instr.sliceBounds sl len cap lo hi none).run P w = .ok (l, h, cap) w := by
  rcases hlo with ⟨rfl, rfl⟩ | ⟨k, rfl⟩ <;> rcases hhi with ⟨rfl, rfl⟩ | ⟨k', rfl⟩ <;> simp [Instr.sliceBounds, run_bound, h1, h2]
inductive Bnd (T : Tm) (d : Nat) : Option SO → Nat → Prop
  | no : Bnd T d none d
  | at_ {x : SO} {k : IntKind} {m : Int} {j : Nat} (h : evO T x = some (.i k m)) (hm : m = (j : Int)) : Bnd T d (some x) j
theorem Bnd.sound {d j : Nat} {o : Option SO} (h : Bnd T d o j) {x : Option Operand} (hx : oOpt x = some o) (ho : OR σ T (SO.tmpsO o) a) : (x.map a.eval = none ∧ j = d) ∨ ∃ k, x.map a.eval = some (.int k (j : Int)) := by
  cases h with
  | no =>
    cases x with
    | none => exact .inl ⟨rfl, rfl⟩
    | some y => simp only [oOpt] at hx; cases hq : oo y <;> rw [hq] at hx <;> cases hx
  | @at_ z0 k m j h hm =>
    cases x with
    | none => cases hx
    | some y =>
      simp only [oOpt] at hx
      obtain ⟨z, hz, e⟩ := Option.map_eq_some_iff.1 hx
      obtain rfl := Option.some.inj e
      have := (oo_sound hz h ho).i_inv
      subst hm
      exact .inr ⟨k, by simp [this]⟩
theorem op_sls {x : SO} {lo hi : Option SO} {l : List UInt8} (hx : evO T x = some (.s l)) {j k : Nat} (h1 : Bnd T 0 lo j) (h2 : Bnd T l.length hi k) (hjk : j ≤ k) (hk : k ≤ l.length) : SOpP P (.sls x lo hi) T (.s ((l.take k).drop j)) := SOpP.same fun oo' hcp σ w a ho => by
  obtain ⟨_, opr, _⟩ := oo'
  dsimp only at hcp
  cases hcp with
  | sls q1 q2 q3 q4 =>
    rename_i t x' lo' hi'
    have p1 := (oo_sound q2 hx ho.l).s_inv
    have b1 := h1.sound q3 ho.r.l
    have b2 := h2.sound q4 ho.r.r
    have hsz := bsz l
    rw [← hsz] at b2
    have := run_bounds (P := P) (w := w) false (⟨l.toArray⟩ : ByteArray).size (⟨l.toArray⟩ : ByteArray).size j k _ _ b1 b2 hjk (by rw [hsz]; exact hk)
    refine ⟨.string ((⟨l.toArray⟩ : ByteArray).extract j k), by simp [execOp, p1, Instr.sliceAt, Instr.slice, underlying, program, Sem.run, q1, this], ?_⟩
    have e : (⟨l.toArray⟩ : ByteArray).extract j k = ⟨((l.take k).drop j).toArray⟩ := by
      apply ByteArray.ext
      apply Array.ext'
      rw [ByteArray.data_extract, Array.toList_extract, List.extract_eq_take_drop, List.drop_take]
    rw [e]
    exact .s
theorem op_sll {esz n : Nat} {x : SO} {lo hi : Option SO} {cells : List SV} (hx : evO T x = some (.lst n cells)) {j k : Nat} (h1 : Bnd T 0 lo j) (h2 : Bnd T n hi k) (hjk : j ≤ k) (hk : k ≤ n) : SOpP P (.sll esz x lo hi none) T (.lst (k - j) ((cells.take (k * esz)).drop (j * esz))) := SOpP.same fun oo' hcp σ w a ho => by
  obtain ⟨_, opr, _⟩ := oo'
  dsimp only at hcp
  cases hcp with
  | sll q1 q2 q3 q4 q5 q6 =>
    rename_i t e x' lo' hi' mx'
    obtain ⟨ti, hi1, hi2⟩ := szOf_eq q6
    have hmx : mx' = none := by
      cases mx' with
      | none => rfl
      | some y => simp only [oOpt] at q5; cases hq : oo y <;> rw [hq] at q5 <;> cases q5
    subst hmx
    have b1 := h1.sound q3 ho.r.l
    have b2 := h2.sound q4 ho.r.r.l
    rcases (oo_sound q2 hx ho.l).lst_inv with ⟨xs, zs, r, o, c, p1, hz, hxs, hp, hn, hc⟩ | ⟨⟨A, c, p1, hA, hc, hAm⟩, h0, rfl⟩
    · have := run_bounds (P := P) (w := w) true n c j k _ _ b1 b2 hjk (by omega)
      refine ⟨.slice (if c = j then some ⟨r, o, none⟩ else some ⟨r, o + j * esz, none⟩) (k - j) (c - j), ?_, ?_⟩
      · simp [execOp, p1, Instr.sliceAt, Instr.slice, underlying, program, Sem.run, q1, this, sizeOf, typeInfo, hi1, hi2, add_none]
      · by_cases hcj : c = j
        · rw [if_pos hcj]
          have hkj : k - j = 0 := by omega
          have hkj' : k = j := by omega
          have e : (cells.take (k * esz)).drop (j * esz) = [] := List.drop_of_length_le (by rw [List.length_take, hkj']; omega)
          rw [e, hkj]
          exact .lst hz .nil List.nil_prefix (by omega) (by omega)
        · rw [if_neg hcj]
          refine .lst hz ((hxs.take _).drop _) ?_ (by omega) (by omega)
          rw [← List.drop_drop]
          exact drop_prefix (take_prefix' hp _) _
    · subst h0
      have hk0 : k = 0 := by omega
      have hj0 : j = 0 := by omega
      subst hk0; subst hj0
      have := run_bounds (P := P) (w := w) true 0 c 0 0 _ _ b1 b2 (Nat.le_refl _) (Nat.zero_le _)
      cases A with
      | none =>
        obtain rfl := hA rfl
        exact ⟨.slice none 0 0, by simp [execOp, p1, Instr.sliceAt, Instr.slice, underlying, program, Sem.run, q1, this, sizeOf, typeInfo, hi1, hi2], by simpa using VR.lst0 (A := none) (c := 0) (fun _ => rfl) (by simp [maxLen]) nofun⟩
      | some ad =>
        have v0 : VR σ (.lst 0 []) (.slice (if c = 0 then some ad else some (ad.add (0 * esz))) 0 c) := .lst0 (fun e => by split at e <;> cases e) hc (fun ad' e => by
          have : ad'.block = ad.block := by
            split at e <;> (obtain rfl := Option.some.inj e)
            · rfl
            · unfold Addr.add; split <;> rfl
          rw [this]; exact hAm ad rfl)
        refine ⟨.slice (if c = 0 then some ad else some (ad.add (0 * esz))) 0 c, ?_, by rw [List.take_nil, List.drop_nil]; exact v0⟩
        simp [execOp, p1, Instr.sliceAt, Instr.slice, underlying, program, Sem.run, q1, this, sizeOf, typeInfo, hi1, hi2]
theorem op_slo {esz b off n : Nat} {x : SO} {lo hi : Option SO} (hx : evO T x = some (.sl b off n)) {j k : Nat} (h1 : Bnd T 0 lo j) (h2 : Bnd T n hi k) (hjk : j ≤ k) (hk : k ≤ n) (hj : j < k ∨ j = 0) (hz : 0 < esz) : SOpP P (.sll esz x lo hi none) T (.sl b (off + j * esz) (k - j)) := SOpP.same fun oo' hcp σ w a ho => by
  obtain ⟨_, opr, _⟩ := oo'
  dsimp only at hcp
  cases hcp with
  | sll q1 q2 q3 q4 q5 q6 =>
    rename_i t e x' lo' hi' mx'
    obtain ⟨ti, hi1, hi2⟩ := szOf_eq q6
    have hmx : mx' = none := by
      cases mx' with
      | none => rfl
      | some y => simp only [oOpt] at q5; cases hq : oo y <;> rw [hq] at q5 <;> cases q5
    subst hmx
    have b1 := h1.sound q3 ho.r.l
    have b2 := h2.sound q4 ho.r.r.l
    rcases (oo_sound q2 hx ho.l).sl_inv with ⟨r, κ, c, p1, ha, hn, hc, h0⟩ | ⟨p1, hv, rfl, rfl⟩
    · have := run_bounds (P := P) (w := w) true n c j k _ _ b1 b2 hjk (by omega)
      refine ⟨.slice (if c = j then some ⟨r, off, none⟩ else some ⟨r, off + j * esz, none⟩) (k - j) (c - j), ?_, ?_⟩
      · simp [execOp, p1, Instr.sliceAt, Instr.slice, underlying, program, Sem.run, q1, this, sizeOf, typeInfo, hi1, hi2, add_none]
      · by_cases hcj : c = j
        · have hj0 : j = 0 := by omega
          subst hj0
          rw [if_pos hcj]
          have := VR.sl (σ := σ) (o := off) (n := k) ha (show k ≤ c by omega) hc h0
          simpa using this
        · rw [if_neg hcj]
          refine .sl ha (by omega) (by omega) (fun e => ?_)
          have hj0 : j = 0 := by
            rcases Nat.eq_zero_or_pos j with h | h
            · exact h
            · have := Nat.mul_pos h hz; omega
          subst hj0
          have := h0 (by omega)
          omega
    · have hk0 : k = 0 := by omega
      have hj0 : j = 0 := by omega
      subst hk0; subst hj0
      have := run_bounds (P := P) (w := w) true 0 0 0 0 _ _ b1 b2 (Nat.le_refl _) (Nat.le_refl _)
      exact ⟨.slice none 0 0, by simp [execOp, p1, Instr.sliceAt, Instr.slice, underlying, program, Sem.run, q1, this, sizeOf, typeInfo, hi1, hi2], by simpa using VR.sl0 hv⟩
theorem oL_nil {l : List Operand} (h : oL l = some []) : l = [] := by
  cases l with
  | nil => rfl
  | cons x r =>
    simp only [oL] at h
    split at h
    · cases h
    · split at h
      · cases h
      · cases h
theorem oL_cons {l : List Operand} {x : SO} {r : List SO} (h : oL l = some (x :: r)) : ∃ y l', l = y :: l' ∧ oo y = some x ∧ oL l' = some r := by
  cases l with
  | nil => cases h
  | cons y l' =>
    simp only [oL] at h
    split at h
    · cases h
    · rename_i b hb
      split at h
      · cases h
      · rename_i q hq
        obtain ⟨rfl, rfl⟩ := List.cons.inj (Option.some.inj h)
        exact ⟨y, l', rfl, hb, hq⟩
theorem oL_one {l : Array Operand} {x : SO} (h : oL l.toList = some [x]) : ∃ y, l = #[y] ∧ oo y = some x := by
  obtain ⟨y, l', h1, h2, h3⟩ := oL_cons h
  have := oL_nil h3
  subst this
  exact ⟨y, Array.ext' h1, h2⟩
theorem oL_two {l : Array Operand} {x z : SO} (h : oL l.toList = some [x, z]) : ∃ y u, l = #[y, u] ∧ oo y = some x ∧ oo u = some z := by
  obtain ⟨y, l', h1, h2, h3⟩ := oL_cons h
  obtain ⟨u, l'', h4, h5, h6⟩ := oL_cons h3
  have := oL_nil h6
  subst this; subst h4
  exact ⟨y, u, Array.ext' h1, h2, h5⟩
theorem run_builtin {o : Oper} {c : Call} (ho : o.op = .call c) {b : Builtin} (hb : c.callee = .builtin b) {m : Sem Value}
    (hm : builtin b c.argTypes o.type (c.args.map fun | .const _ => true | _ => false) (c.args.map a.eval) = (do pure (.value (← m)) : Sem Next)) {r : Value} {w' : World} (hr : m.run P w = .ok r w') :
    (execOp a.eval o).run P w = .ok (.value r) w' := by
  have e : resolve a.eval c o.type = pure { target := .builtin b c.argTypes o.type (c.args.map fun | .const _ => true | _ => false), args := c.args.map a.eval } := by
    unfold resolve; rw [hb]; rfl
  simp only [execOp, ho, e, Sem.run_bind, Sem.run_pure, Result.andThen_ok]
  simp only [invoke, hm, Sem.run_bind, hr, Result.andThen_ok, Sem.run_pure]
theorem types_cons {l : Array TypeId} {t : TypeId} {r : List TypeId} (h : l.toList = t :: r) : l[0]? = some t := by rw [← Array.getElem?_toList, h]; rfl
theorem OR.one {x : SO} (h : OR σ T x.tmps a) : OR σ T (SO.tmpsL [x]) a := h.sub (by simp [SO.tmpsL])
theorem op_bls {x : SO} {l : List UInt8} (hx : evO T x = some (.s l)) : SOpP P (.bls x) T (.i .i64 l.length) := SOpP.same fun o hcp σ w a ho => by
  generalize hop : o.op = op at hcp
  cases hcp with
  | bls h1 h2 h3 h4 =>
    rename_i c t ts
    obtain ⟨y, hy1, hy2⟩ := oL_one h3
    have p1 := (oo_sound hy2 hx ho).s_inv
    refine ⟨.int .i64 (l.length : Int), run_builtin hop h1 rfl ?_, .i⟩
    simp [Builtin.len_, types_cons h2, hy1, p1, run_underlying h4, goInt, bsz]
def lenV : SV → Option Nat
  | .sl _ _ n => some n
  | .lst n _ => some n
  | .nils => some 0
  | _ => none
theorem lenV_sound {v : SV} {n : Nat} (h : lenV v = some n) {x : Value} (hx : VR σ v x) : ∃ A c, x = .slice A n c := by
  cases hx <;> simp only [lenV] at h <;> first
    | contradiction
    | (obtain rfl := Option.some.inj h; exact ⟨_, _, rfl⟩)
theorem op_bll {x : SO} {v : SV} {n : Nat} (hx : evO T x = some v) (hn : lenV v = some n) : SOpP P (.bll x) T (.i .i64 n) := SOpP.same fun o hcp σ w a ho => by
  generalize hop : o.op = op at hcp
  cases hcp with
  | bll h1 h2 h3 h4 =>
    rename_i c t ts e
    obtain ⟨y, hy1, hy2⟩ := oL_one h3
    obtain ⟨A, c', p1⟩ := lenV_sound hn (oo_sound hy2 hx ho)
    refine ⟨.int .i64 (n : Int), run_builtin hop h1 rfl ?_, .i⟩
    simp [Builtin.len_, types_cons h2, hy1, p1, run_underlying h4, goInt]
theorem op_bmn {x y : SO} {k k' : IntKind} {A B : Int} (hx : evO T x = some (.i k A)) (hy : evO T y = some (.i k' B)) : SOpP P (.bmn x y) T (.i k (min A B)) := SOpP.same fun o hcp σ w a ho => by
  generalize hop : o.op = op at hcp
  cases hcp with
  | bmn h1 h3 =>
    rename_i c
    obtain ⟨y', u, hy1, hy2, hy3⟩ := oL_two h3
    have p1 := (oo_sound hy2 hx ho.l).i_inv
    have p2 := (oo_sound hy3 hy ho.r).i_inv
    refine ⟨.int k (min A B), run_builtin hop h1 rfl ?_, .i⟩
    have : (if B < A then B else A) = min A B := by split <;> omega
    simp [Builtin.min_, hy1, p1, p2, Builtin.min2, this]
theorem op_bmx {x y : SO} {k k' : IntKind} {A B : Int} (hx : evO T x = some (.i k A)) (hy : evO T y = some (.i k' B)) : SOpP P (.bmx x y) T (.i k (max A B)) := SOpP.same fun o hcp σ w a ho => by
  generalize hop : o.op = op at hcp
  cases hcp with
  | bmx h1 h3 =>
    rename_i c
    obtain ⟨y', u, hy1, hy2, hy3⟩ := oL_two h3
    have p1 := (oo_sound hy2 hx ho.l).i_inv
    have p2 := (oo_sound hy3 hy ho.r).i_inv
    refine ⟨.int k (max A B), run_builtin hop h1 rfl ?_, .i⟩
    have : (if A < B then B else A) = max A B := by split <;> omega
    simp [Builtin.max_, hy1, p1, p2, Builtin.max2, this]
theorem HR.newRow (h : HR σ s w) (e esz κ : Nat) {cells : List SV} {xs : List Value} {c : Array Value} (hc : VRs σ cells xs) (hp : xs <+: c.toList) (hs : c.size = κ * esz) (h1 : cells.all SV.one = true) :
    (σ.put s.nxt (w.heap.size, κ)).a s.nxt = some (w.heap.size, κ) ∧ Good σ s w (σ.put s.nxt (w.heap.size, κ)) { H := upd s.H s.nxt (some (.row e esz cells)), nxt := s.nxt + 1 } (w.alloc (.cells c e)) :=
  ⟨if_pos rfl, h.new κ (.row e esz cells) (.cells c e) ⟨c, xs, 0, 0, rfl, hc.ext (h.put_ext _), hp, hs, h1, fun _ _ => by omega, fun _ _ => by omega⟩⟩
theorem op_box {e : Nat} {x : SO} {v : SV} (hx : evO T x = some v) (h1 : (cellsOf v).all SV.one = true) : SOp P (.box e x) T s (.p s.nxt 0) { H := upd s.H s.nxt (some (.row e (cellsOf v).length (cellsOf v))), nxt := s.nxt + 1 } := SOp.ran fun o hcp σ w a hr ho => by
  obtain ⟨_, opr, _⟩ := o
  dsimp only at hcp
  cases hcp with
  | box q1 =>
    rename_i x'
    have hcs := (oo_sound q1 hx ho).cells
    have hl := hcs.length
    obtain ⟨g1, g2⟩ := HR.newRow hr e (cellsOf v).length 1 (c := (a.eval x').cells) hcs (List.prefix_refl _) (by rw [hl]; simp) h1
    exact ⟨.pointer (some ⟨w.heap.size, 0, none⟩), _, _, .inl (by simp [execOp, Instr.box, newVar, newRow, newObj, Sem.run]), .p g1, g2⟩
theorem op_alc {e : Nat} {z : List SV} (h1 : z.all SV.one = true) : SOp P (.alc e z) T s (.p s.nxt 0) { H := upd s.H s.nxt (some (.row e z.length z)), nxt := s.nxt + 1 } := SOp.ran fun o hcp σ w a hr ho => by
  obtain ⟨_, opr, _⟩ := o
  dsimp only at hcp
  cases hcp with
  | alc q1 =>
    obtain ⟨i, zv, q1, q2, q3, q4, q5⟩ := zOf_sound q1
    obtain ⟨g1, g2⟩ := HR.newRow hr e z.length 1 (c := zv.cells) (q4 σ) (List.prefix_refl _) (by rw [q3, q5]; simp) h1
    exact ⟨.pointer (some ⟨w.heap.size, 0, none⟩), _, _, .inl (by simp [execOp, Instr.alloc, zeroValue, typeInfo, program, q1, q2, newVar, newRow, newObj, Sem.run]), .p g1, g2⟩
def bldP (T : Tm) : List (Nat × Nat × SO) → List SV → Option (List SV)
  | [], z => some z
  | q :: l, z => match evO T q.2.2 with
    | none => none
    | some v => match Nat.beq (cellsOf v).length q.2.1 with
      | true => match Nat.ble (q.1 + q.2.1) z.length with
        | true => bldP T l (lay z q.1 (cellsOf v))
        | false => none
      | false => none
theorem foldl_put (off : Nat) : ∀ (l : List Value) (j : Nat) (cs : Array Value), (l.zipIdx j).foldl (fun cs q => cs.setIfInBounds (off + q.2) q.1) cs = ovl cs (off + j) l
  | [], _, _ => rfl
  | v :: l, j, cs => by
    simp only [List.zipIdx_cons, List.foldl_cons, ovl]
    rw [foldl_put off l (j + 1)]
    rfl
theorem lay_sound {σ : Env} {vs cells : List SV} {ys : List Value} {c : Array Value} {o : Nat} (h1 : VRs σ vs ys) (h2 : VRs σ cells c.toList) (h : o + vs.length ≤ cells.length) : VRs σ (lay cells o vs) (ovl c o ys).toList := by
  obtain ⟨xs', q1, q2⟩ := ovl_prefix vs ys cells c.toList c o h1 h2 (List.prefix_refl _) h
  have hl := q1.length
  rw [lay_length] at hl
  have : xs' = (ovl c o ys).toList := q2.eq_of_length (by rw [← hl, h2.length]; simp [size_ovl])
  rw [← this]; exact q1
theorem fill_sound (place : Nat → Option (Nat × Nat)) (prt : List (Nat × Operand) → Option (List (Nat × Nat × SO)))
    (hp0 : prt [] = some []) (hps : ∀ i x r l, prt ((i, x) :: r) = some l → ∃ off n o l', l = (off, n, o) :: l' ∧ place i = some (off, n) ∧ oo x = some o ∧ prt r = some l') :
    ∀ (q : List (Nat × Operand)) (l : List (Nat × Nat × SO)) (z z' : List SV) (c : Array Value), prt q = some l → OR σ T (SO.tmpsL (l.map (·.2.2))) a → VRs σ z c.toList → bldP T l z = some z' →
      ∃ c', Instr.fill place c (q.map fun (i, x) => (i, a.eval x)) = some c' ∧ VRs σ z' c'.toList ∧ c'.size = c.size
  | [], l, z, z', c, hl, ho, hz, hb => by
    rw [hp0] at hl
    obtain rfl := Option.some.inj hl
    obtain rfl := Option.some.inj hb
    exact ⟨c, rfl, hz, rfl⟩
  | (i, x) :: q, l, z, z', c, hl, ho, hz, hb => by
    obtain ⟨off, n, o, l', rfl, h1, h2, h3⟩ := hps i x q l hl
    simp only [bldP] at hb
    split at hb
    · cases hb
    · rename_i v hv
      split at hb
      · rename_i hn
        split at hb
        · rename_i hle
          have ho' : OR σ T (o.tmps ++ SO.tmpsL (l'.map (·.2.2))) a := by simpa [SO.tmpsL] using ho
          have hx := (oo_sound h2 hv ho'.l).cells
          have hlen := hx.length
          rw [Array.length_toList] at hlen
          have hn : (cellsOf v).length = n := Nat.eq_of_beq_eq_true hn
          have hle : off + n ≤ z.length := Nat.le_of_ble_eq_true hle
          have hzl := hz.length
          rw [Array.length_toList] at hzl
          have hzc : z.length = c.size := hz.length.trans Array.length_toList
          have hnn : n = (a.eval x).cells.size := hn.symm.trans hlen
          have hput := lay_sound (o := off) hx hz (by omega)
          have hfold : Array.foldl (fun cs (q : Value × Nat) => cs.setIfInBounds (off + q.2) q.1) c (a.eval x).cells.zipIdx = ovl c off (a.eval x).cells.toList := by
            rw [← Array.foldl_toList, Array.toList_zipIdx]
            exact foldl_put off _ 0 c
          obtain ⟨c', g1, g2, g3⟩ := fill_sound place prt hp0 hps q l' _ z' (ovl c off (a.eval x).cells.toList) h3 ho'.r hput hb
          refine ⟨c', ?_, g2, by rw [g3, size_ovl]⟩
          simp only [List.map_cons, Instr.fill, h1]
          rw [if_neg (by simp; omega)]
          rw [← g1]
          congr 1
        · cases hb
      · cases hb
theorem prtS_step {fs : Array Field} (i : Nat) (x : Operand) (r : List (Nat × Operand)) (l : List (Nat × Nat × SO)) (h : prtS P fs ((i, x) :: r) = some l) :
    ∃ f n o l', l = (f.offset, n, o) :: l' ∧ fs[i]? = some f ∧ szOf P f.type = some n ∧ oo x = some o ∧ prtS P fs r = some l' := by
  simp only [prtS] at h
  split at h
  · cases h
  · rename_i f hf
    split at h
    · cases h
    · rename_i n hn
      split at h
      · cases h
      · rename_i o ho
        split at h
        · cases h
        · rename_i l' hl'
          exact ⟨f, n, o, l', (Option.some.inj h).symm, hf, hn, ho, hl'⟩
theorem prtA_step {esz : Nat} (i : Nat) (x : Operand) (r : List (Nat × Operand)) (l : List (Nat × Nat × SO)) (h : prtA esz ((i, x) :: r) = some l) :
    ∃ o l', l = (i * esz, esz, o) :: l' ∧ oo x = some o ∧ prtA esz r = some l' := by
  simp only [prtA] at h
  split at h
  · cases h
  · rename_i o ho
    split at h
    · cases h
    · rename_i l' hl'
      exact ⟨o, l', (Option.some.inj h).symm, ho, hl'⟩
theorem places_of {fs : List Field} (hall : fs.all (fun f => (szOf P f.type).isSome) = true) :
    ∃ pl : List (Nat × Nat), fs.mapM (fun f => (P.info? f.type).map fun i => (f.offset, i.size)) = some pl ∧ ∀ (i : Nat) (f : Field) n, fs[i]? = some f → szOf P f.type = some n → pl[i]? = some (f.offset, n) := by
  induction fs with
  | nil => exact ⟨[], rfl, by simp⟩
  | cons f fs ih =>
    simp only [List.all_cons, Bool.and_eq_true] at hall
    obtain ⟨pl, h1, h2⟩ := ih hall.2
    obtain ⟨n, hn⟩ := Option.isSome_iff_exists.1 hall.1
    obtain ⟨i, hi, hi2⟩ := szOf_eq hn
    refine ⟨(f.offset, i.size) :: pl, by simp [List.mapM_cons, hi, h1], ?_⟩
    intro j g m hg hm
    cases j with
    | zero =>
      simp at hg; subst hg
      obtain ⟨i', hi', hi2'⟩ := szOf_eq hm
      rw [hi] at hi'
      obtain rfl := Option.some.inj hi'
      simp [hi2']
    | succ j => simp at hg ⊢; exact h2 j g m hg hm
theorem op_bld {z z' : List SV} {parts : List (Nat × Nat × SO)} (hb : bldP T parts z = some z') : SOpP P (.bld z parts) T (.agg z') := SOpP.same fun o hcp σ w a ho => by
  obtain ⟨_, opr, _⟩ := o
  dsimp only at hcp
  cases hcp with
  | bldS h1 h2 hall hl =>
    rename_i t fs ps
    obtain ⟨i, zv, q1, q2, q3, q4, q5⟩ := zOf_sound h2
    obtain ⟨pl, p1, p2⟩ := places_of (P := P) (fs := fs.toList) (by simpa using hall)
    obtain ⟨c', f1, f2, _⟩ := fill_sound (σ := σ) (T := T) (a := a) (fun x => pl.toArray[x]?) (prtS P fs) rfl (fun i x r l hh => by
        obtain ⟨f, n, o', l', e1, e2, e3, e4, e5⟩ := prtS_step i x r l hh
        exact ⟨f.offset, n, o', l', e1, by simpa using p2 i f n (by simpa using e2) e3, e4, e5⟩) ps.toList _ z z' zv.cells hl ho (q4 σ) hb
    refine ⟨.agg c', ?_, by have := VR.agg f2; rwa [Array.toArray_toList] at this⟩
    have hb : P.built t (ps.map fun (i, x) => (i, a.eval x)).toList = some c' := by
      simp only [Program.built, q1, h1, q2, p1]
      rw [← f1]
      congr 1
      simp
    simp only [execOp]
    exact run_val (run_build w t _ c' hb)
  | bldA h1 h2 hm hl =>
    rename_i t len e m ps
    obtain ⟨i, zv, q1, q2, q3, q4, q5⟩ := zOf_sound h2
    obtain ⟨ie, r1, r2⟩ := szOf_eq hm
    obtain ⟨c', f1, f2, _⟩ := fill_sound (σ := σ) (T := T) (a := a) (fun i => some (i * m, m)) (prtA m) rfl (fun i x r l hh => by
        obtain ⟨o', l', e1, e2, e3⟩ := prtA_step i x r l hh
        exact ⟨i * m, m, o', l', e1, rfl, e2, e3⟩) ps.toList _ z z' zv.cells hl ho (q4 σ) hb
    refine ⟨.agg c', ?_, by have := VR.agg f2; rwa [Array.toArray_toList] at this⟩
    have hb : P.built t (ps.map fun (i, x) => (i, a.eval x)).toList = some c' := by
      simp only [Program.built, q1, h1, q2, r1, r2]
      rw [← f1]
      congr 1
      simp
    simp only [execOp]
    exact run_val (run_build w t _ c' hb)
def repZ (z : List SV) : Nat → List SV
  | 0 => []
  | n + 1 => z ++ repZ z n
theorem repZ_length (z : List SV) (n : Nat) : (repZ z n).length = n * z.length := by
  induction n with
  | zero => simp [repZ]
  | succ n ih => simp [repZ, ih, Nat.succ_mul]; omega
theorem repZ_one {z : List SV} (h : z.all SV.one = true) (n : Nat) : (repZ z n).all SV.one = true := by
  induction n with
  | zero => rfl
  | succ n ih => simp only [repZ, List.all_append, h, ih, Bool.and_self]
theorem repZ_sound {z : List SV} {zs : List Value} (hz : VRs σ z zs) {m : Nat} (hm : zs.length = m) : ∀ (n : Nat) (xs : List Value), xs.length = n * m → (∀ j, j < n * m → xs[j]? = zs[j % m]?) → VRs σ (repZ z n) xs
  | 0, xs, hl, _ => by
    obtain rfl := List.length_eq_zero_iff.1 (by simpa using hl)
    exact .nil
  | n + 1, xs, hl, hx => by
    rw [Nat.succ_mul] at hl
    have h1 : xs.take m = zs := by
      apply List.ext_getElem?
      intro j
      rw [List.getElem?_take]
      split
      · rename_i hj
        rw [hx j (by rw [Nat.succ_mul]; omega), Nat.mod_eq_of_lt hj]
      · rw [List.getElem?_eq_none (by omega)]
    have h2 := repZ_sound hz hm n (xs.drop m) (by rw [List.length_drop]; omega) (fun j hj => by
      rw [List.getElem?_drop, hx (m + j) (by rw [Nat.succ_mul]; omega), Nat.add_mod_left])
    have h3 := hz.append h2
    rw [← h1, List.take_append_drop] at h3
    exact h3
theorem op_bsl {e esz len : Nat} {z z' : List SV} {parts : List (Nat × Nat × SO)} (hb : bldP T parts (repZ z len) = some z') (h1 : z'.all SV.one = true) (hz : z.length = esz) (hlm : len ≤ 16777216) :
    SOp P (.bsl e esz len z parts) T s (.sl s.nxt 0 len) { H := upd s.H s.nxt (some (.row e esz z')), nxt := s.nxt + 1 } := SOp.ran fun o hcp σ w a hr ho => by
  obtain ⟨_, opr, _⟩ := o
  dsimp only at hcp
  cases hcp with
  | bsl k1 k2 k3 hlim hl =>
    rename_i t ps
    obtain ⟨i, zv, q1, q2, q3, q4, q5⟩ := zOf_sound k3
    obtain ⟨i', r1, r2⟩ := szOf_eq k2
    rw [q1] at r1
    obtain rfl := Option.some.inj r1
    have hzl : zv.cells.toList.length = esz := by simp [q5, r2]
    have hstart : VRs σ (repZ z len) ((Array.range (len * esz)).map (zv.cells[· % zv.cells.size]!)).toList := by
      refine repZ_sound (q4 σ) hzl len _ (by simp) (fun j hj => ?_)
      have hn0 : 0 < esz := by
        rcases Nat.eq_zero_or_pos esz with h0 | h0
        · rw [h0] at hj; simp at hj
        · exact h0
      have hjm : j % esz < zv.cells.size := by rw [q5, r2]; exact Nat.mod_lt _ hn0
      simp only [Array.getElem?_toList, Array.getElem?_map, Array.getElem?_range, hj, if_true, Option.map_some, q5, r2]
      rw [getElem?_pos zv.cells (j % esz) hjm, getElem!_pos zv.cells (j % esz) hjm]
    obtain ⟨c', f1, f2, f3⟩ := fill_sound (σ := σ) (T := T) (a := a) (fun i => some (i * esz, esz)) (prtA esz) rfl (fun i x r l hh => by
        obtain ⟨o', l', e1, e2, e3⟩ := prtA_step i x r l hh
        exact ⟨i * esz, esz, o', l', e1, rfl, e2, e3⟩) ps.toList _ _ z' _ hl ho hstart hb
    obtain ⟨g1, g2⟩ := HR.newRow hr e esz len (c := c') f2 (List.prefix_refl _) (by rw [f3]; simp) h1
    refine ⟨.slice (some ⟨w.heap.size, 0, none⟩) len len, _, _, .inl ?_, .sl g1 (Nat.le_refl _) (by simp [maxLen]; omega) (fun _ => rfl), g2⟩
    have hlim' : ¬ (16777216 < len * esz) := by omega
    have f1' : Instr.fill (fun i => some (i * esz, esz)) ((Array.range (len * esz)).map (zv.cells[· % zv.cells.size]!)) (ps.map fun (i, x) => (i, a.eval x)).toList = some c' := by
      rw [← f1]; congr 1; simp
    simp only [execOp]
    refine run_val ?_
    by_cases h0 : len * esz = 0
    · have f1'' : Instr.fill (fun i => some (i * esz, esz)) ((Array.range (len * esz)).map ((#[] : Array Value)[· % 0]!)) (ps.map fun (i, x) => (i, a.eval x)).toList = some c' := by
        rw [← f1']; congr 1; simp [h0]
      simp [Instr.buildSlice, run_underlying k1, sizeOf, typeInfo, q1, r2, h0]
      simp [h0] at f1''
      simp [f1'', newRow, newObj, Sem.run]
    · simp [Instr.buildSlice, run_underlying k1, sizeOf, typeInfo, q1, q2, r2, h0, hlim', zeroValue]
      simp at f1'
      simp [f1', newRow, newObj, Sem.run]
theorem op_mkf {f : Nat} {l : List SO} {vs : List SV} (hl : evOs T l = some vs) : SOpP P (.mkf f l) T (.f f vs) := SOpP.same fun o hcp σ w a ho => by
  obtain ⟨_, opr, _⟩ := o
  dsimp only at hcp
  cases hcp with
  | mkf h1 h2 =>
    rename_i fi cs
    have hx := oL_sound h2 hl ho
    have : fi = #[] := by simpa using h1
    subst this
    exact ⟨.func (.func f) #[] (cs.map a.eval), by simp [execOp, Instr.makeFunc], by have := VR.f (fn := f) hx; rwa [show (cs.toList.map a.eval).toArray = cs.map a.eval from by apply Array.ext'; simp] at this⟩
theorem op_mkm {f : Nat} {l : List SO} {vs : List SV} (hl : evOs T l = some vs) : SOpP P (.mkm f l) T (.fm f vs) := SOpP.same fun o hcp σ w a ho => by
  obtain ⟨_, opr, _⟩ := o
  dsimp only at hcp
  cases hcp with
  | mkm h1 h2 =>
    rename_i fi cs
    have hx := oL_sound h2 hl ho
    have : cs = #[] := by simpa using h1
    subst this
    exact ⟨.func (.func f) (fi.map a.eval) #[], by simp [execOp, Instr.makeFunc], by have := VR.fm (fn := f) hx; rwa [show (fi.toList.map a.eval).toArray = fi.map a.eval from by apply Array.ext'; simp] at this⟩
theorem op_nilc {x : SO} {b o : Nat} (hx : evO T x = some (.p b o)) : SOpP P (.nilc x) T (.p b o) := SOpP.same fun oo' hcp σ w a ho => by
  obtain ⟨_, opr, _⟩ := oo'
  dsimp only at hcp
  cases hcp with
  | nilc h1 =>
    have p := oo_sound h1 hx ho
    obtain ⟨r, κ, p1, ha⟩ := p.p_inv
    exact ⟨_, by simp [execOp, p1], .p ha⟩
theorem run_convert_ok {o : Oper} {src dst : TypeId} {x : Operand} (ho : o.op = .convert src dst x) {r : Value} {w' : World} (hr : (convert src dst (a.eval x)).run P w = .ok r w') : (execOp a.eval o).run P w = .ok (.value r) w' := by
  simp only [execOp, ho]
  exact run_val hr
theorem op_cvi {k k' : IntKind} {x : SO} {n : Int} (hx : evO T x = some (.i k' n)) : SOpP P (.cvi k x) T (.i k (k.wrap n)) := SOpP.same fun o hcp σ w a ho => by
  generalize hop : o.op = op at hcp
  cases hcp with
  | cvi h1 h2 h3 =>
    have p := (oo_sound h3 hx ho).i_inv
    refine ⟨.int k (k.wrap n), run_convert_ok hop ?_, .i⟩
    simp [convert, run_underlying h1, run_underlying h2, p, Conv.intToInt]
theorem op_cid {x : SO} {l : List UInt8} (hx : evO T x = some (.s l)) : SOpP P (.cid x) T (.s l) := SOpP.same fun o hcp σ w a ho => by
  generalize hop : o.op = op at hcp
  cases hcp with
  | cid h1 h2 h3 =>
    have p := (oo_sound h3 hx ho).s_inv
    refine ⟨.string ⟨l.toArray⟩, run_convert_ok hop ?_, .s⟩
    simp [convert, run_underlying h1, run_underlying h2, p]
def bSV (b : UInt8) : SV := .i .u8 b.toNat
theorem bSV_one (l : List UInt8) : (l.map bSV).all SV.one = true := by
  induction l with
  | nil => rfl
  | cons b l ih => simp only [List.map_cons, List.all_cons, ih]; rfl
theorem bSV_VRs (l : List UInt8) : VRs σ (l.map bSV) (l.map fun b => Value.int .u8 b.toNat) := by
  induction l with
  | nil => exact .nil
  | cons b l ih => exact .cons .i ih
theorem bSV_inv : ∀ {l : List UInt8} {xs : List Value}, VRs σ (l.map bSV) xs → xs = l.map fun b => Value.int .u8 b.toNat
  | [], xs, h => by cases h; rfl
  | b :: l, xs, h => by
    cases h with
    | cons h t => rw [bSV_inv t, h.i_inv]; rfl
def rdS (esz : Nat) (s : St) : SV → Option (Nat × List SV)
  | .nils => some (0, [])
  | .lst n cells => some (n, cells)
  | .sl b off n => match s.H b with
    | some (.row _ _ cells) => some (n, (cells.drop off).take (n * esz))
    | none => none
  | _ => none
theorem rdS_sound (h : HR σ s w) {esz n : Nat} {v : SV} {cells : List SV} (he : rdS esz s v = some (n, cells)) (hl : cells.length = n * esz) {X : Value} (hx : VR σ v X) :
    ∃ A c xs, X = .slice A n c ∧ VRs σ cells xs ∧ xs.length = n * esz ∧ (A = none → n = 0 ∧ c = 0) ∧ n ≤ c ∧ c ≤ maxLen ∧ ∀ ad, A = some ad → ∀ w2 : World, w2.heap = w.heap → ∀ j u, xs[j]? = some u → w2.cell? (ad.add j) = some u := by
  have hcell : ∀ {w2 : World} {r e lo hi off : Nat} {c : Array Value} {ys : List Value}, w2.heap = w.heap → w.heap[r]? = some (.cells c e (lo, hi)) → ys <+: c.toList.drop off → ∀ j u, ys[j]? = some u → w2.cell? ((⟨r, off, none⟩ : Addr).add j) = some u := by
    intro w2 r e lo hi off c ys hw h1 hp j u hj
    rw [add_none, cell_of_heap (by rw [hw]; exact h1)]
    obtain ⟨t, ht⟩ := hp
    have h2 : c.toList[off + j]? = some u := by
      rw [← List.getElem?_drop, ← ht, List.getElem?_append_left]
      · exact hj
      · exact (List.getElem?_eq_some_iff.1 hj).1
    simpa using h2
  cases v <;> simp only [rdS] at he <;> try (cases he; done)
  case sl b off m =>
    split at he
    · rename_i e z cs hb
      obtain ⟨rfl, rfl⟩ := Prod.mk.inj (Option.some.inj he)
      rcases hx.sl_inv with ⟨r, κ, c, rfl, ha, hn, hc, _⟩ | ⟨rfl, _, _, rfl⟩
      · obtain ⟨ca, xs, lo, hi, h2, h3, h4, _⟩ := h.row hb ha
        have hv := (h3.drop off).take (m * esz)
        refine ⟨_, _, _, rfl, hv, by rw [← hv.length]; exact hl, (fun e => by cases e), hn, hc, fun ad e w2 hw => ?_⟩
        obtain rfl := Option.some.inj e
        exact hcell hw h2 (take_prefix' (drop_prefix h4 off) _)
      · refine ⟨none, 0, [], rfl, ?_, by simp, fun _ => ⟨rfl, rfl⟩, Nat.le_refl _, by simp [maxLen], (fun ad e => by cases e)⟩
        have : (cs.drop off).take (0 * esz) = [] := by simp
        rw [this]; exact .nil
    · cases he
  case nils =>
    obtain ⟨rfl, rfl⟩ := Prod.mk.inj (Option.some.inj he)
    cases hx
    exact ⟨none, 0, [], rfl, .nil, by simp, fun _ => ⟨rfl, rfl⟩, Nat.le_refl _, by simp [maxLen], (fun ad e => by cases e)⟩
  case lst m cs =>
    obtain ⟨rfl, rfl⟩ := Prod.mk.inj (Option.some.inj he)
    rcases hx.lst_inv with ⟨xs, zs, r, o, c, rfl, hz, hxs, hp, hn, hc⟩ | ⟨⟨A, c, rfl, hA, hc, _⟩, rfl, rfl⟩
    · obtain ⟨ca, e, ⟨lo, hi⟩, h2, h4⟩ := h.frz r zs hz
      refine ⟨_, _, _, rfl, hxs, by rw [← hxs.length]; exact hl, (fun e => by cases e), hn, hc, fun ad e w2 hw => ?_⟩
      obtain rfl := Option.some.inj e
      exact hcell hw h2 (hp.trans (drop_prefix h4 o))
    · exact ⟨A, c, [], rfl, .nil, by simp, fun e => ⟨rfl, hA e⟩, Nat.zero_le _, hc, (fun ad e w2 hw j u hu => by simp at hu)⟩
theorem op_csb {x : SO} {v : SV} {n : Nat} {l : List UInt8} (hx : evO T x = some v) (hr : rdS 1 s v = some (n, l.map bSV)) (hn : l.length = n) : SOp P (.csb x) T s (.s l) s := SOp.same fun o hcp σ w a hh ho => by
  generalize hop : o.op = op at hcp
  cases hcp with
  | csb h1 h2 h3 h4 =>
    rename_i src dst e x'
    obtain ⟨A, c, xs, p1, p2, p3, p4, p5, p6, p7⟩ := rdS_sound hh hr (by simp [hn]) (oo_sound h3 hx ho)
    have p2 := bSV_inv p2
    subst p2
    refine ⟨.string ⟨l.toArray⟩, run_convert_ok hop ?_, .s⟩
    cases A with
    | none =>
      obtain ⟨rfl, rfl⟩ := p4 rfl
      have : l = [] := List.length_eq_zero_iff.1 hn
      subst this
      rw [p1]
      simp [convert, run_underlying h1, run_underlying h2, run_underlying h4, Conv.bytesToString]
      rfl
    | some ad =>
      rw [p1]
      have hcs := run_convert_bytes_string (P := P) w src dst e (some ad) n c h1 h4
      have hl2 : (loadCells ad n).run P w = .ok ((l.map fun b => (b.toNat : Int)).map (Value.int .u8)).toArray w := by
        have := run_loadCells_list (P := P) w ad (l.map fun b => Value.int .u8 b.toNat) (p7 ad rfl w rfl)
        simp only [List.length_map, hn] at this
        rw [this, List.map_map]
        rfl
      rw [hcs h2, run_bytesToString w ad n c _ hl2, foldl_push_bytes]
      congr 2
      simp [ByteArray.empty, ByteArray.emptyWithCapacity, Function.comp_def]
      rfl
theorem grown_ge (w : World) (n c e : Nat) : n ≤ grownCap w n c e := by unfold grownCap; simp [Question.cut]
theorem op_cbs {e : Nat} {x : SO} {l : List UInt8} (hx : evO T x = some (.s l)) (hlt : l.length < 1099511627776) :
    SOp P (.cbs e x) T s (.sl s.nxt 0 l.length) { H := upd s.H s.nxt (some (.row e 1 (l.map bSV))), nxt := s.nxt + 1 } := SOp.ran fun o hcp σ w a hh ho => by
  generalize hop : o.op = op at hcp
  cases hcp with
  | cbs h1 h2 h3 h4 h5 =>
    rename_i src dst x'
    have p1 := (oo_sound h3 hx ho).s_inv
    have hsz := bsz l
    have hrun := run_bytes_of_string (P := P) w src dst e ⟨l.toArray⟩ h1 h2 h4
    rw [hsz] at hrun
    have hcap := grown_ge w l.length 0 e
    have hbr : bytesRow ⟨l.toArray⟩ (grownCap w l.length 0 e) = ((l.map (fun b => Value.int .u8 b.toNat)) ++ List.replicate (grownCap w l.length 0 e - l.length) (Value.int .u8 0)).toArray := by
      unfold bytesRow; simp [bsz]
    have hs2 : (bytesRow ⟨l.toArray⟩ (grownCap w l.length 0 e)).size = grownCap w l.length 0 e := by
      rw [hbr]; simp; omega
    have g := hh.drew.new (grownCap w l.length 0 e) (.row e 1 (l.map bSV)) (.cells (bytesRow ⟨l.toArray⟩ (grownCap w l.length 0 e)) e ((bytesRow ⟨l.toArray⟩ (grownCap w l.length 0 e)).size, (bytesRow ⟨l.toArray⟩ (grownCap w l.length 0 e)).size + 1))
      ⟨_, _, _, _, rfl, bSV_VRs l, by rw [hbr]; exact List.prefix_append _ _, by rw [hs2]; omega, bSV_one l, (fun j hj => by omega), fun hne => absurd rfl hne⟩
    exact ⟨.slice (some ⟨w.heap.size, 0, none⟩) l.length (grownCap w l.length 0 e), _, _, .inl (run_convert_ok hop (by rw [p1]; exact hrun)), .sl (κ := grownCap w l.length 0 e) (if_pos rfl) hcap (grownCap_le_maxLen w _ _ e (by simp only [maxLen]; omega)) (fun _ => rfl), (Good.drew hh).trans g⟩
theorem op_mks {e esz bytes : Nat} {z : List SV} {l c : SO} {k k' : IntKind} {m m' : Int} (hl : evO T l = some (.i k m)) (hc : evO T c = some (.i k' m')) (i j : Nat) (hm : m = (i : Int)) (hm' : m' = (j : Int)) (hij : i ≤ j) (hb : bytes * j ≤ 281474976710656) (hj : j ≤ maxLen) (h1 : z.all SV.one = true) :
    SOp P (.mks e esz bytes z l c) T s (.sl s.nxt 0 i) { H := upd s.H s.nxt (some (.row e esz (repZ z i))), nxt := s.nxt + 1 } := SOp.ran fun o hcp σ w a hh ho => by
  obtain ⟨_, opr, _⟩ := o
  dsimp only at hcp
  cases hcp with
  | mks k1 k2 k3 k4 k5 =>
    rename_i t l' c' ti
    obtain ⟨i', zv, q1, q2, q3, q4, q5⟩ := zOf_sound k5
    rw [k4] at q1
    obtain rfl := Option.some.inj q1
    have p1 := (oo_sound k2 hl ho.l).i_inv
    have p2 := (oo_sound k3 hc ho.r).i_inv
    subst hm; subst hm'
    have hrun := run_make (P := P) w t e ti zv k1 k4 q2 k k' (i : Int) (j : Int) (by omega) (by omega) (by rw [← Int.natCast_mul]; generalize ti.bytes * j = q at hb; omega) (by simp only [maxLen] at hj; omega)
    rw [Int.toNat_natCast, Int.toNat_natCast] at hrun
    have hsz : (madeCells zv.cells (j * ti.size)).size = j * ti.size := by simp [madeCells]
    have hzl : zv.cells.toList.length = ti.size := by simp [q5]
    have hcell : ∀ y, y < j * ti.size → (madeCells zv.cells (j * ti.size)).toList[y]? = zv.cells.toList[y % ti.size]? := fun y hy => by
      have hn0 : 0 < ti.size := by
        rcases Nat.eq_zero_or_pos ti.size with h0 | h0
        · rw [h0] at hy; simp at hy
        · exact h0
      have hjm : y % ti.size < zv.cells.size := by rw [q5]; exact Nat.mod_lt _ hn0
      simp only [madeCells, Array.getElem?_toList, Array.getElem?_map, Array.getElem?_range, hy, if_true, Option.map_some, q5]
      rw [getElem?_pos zv.cells (y % ti.size) hjm, getElem!_pos zv.cells (y % ti.size) hjm]
    have hle : i * ti.size ≤ j * ti.size := Nat.mul_le_mul_right _ hij
    obtain ⟨g1, g2⟩ := HR.newRow hh e ti.size j (c := madeCells zv.cells (j * ti.size)) (cells := repZ z i) (xs := (madeCells zv.cells (j * ti.size)).toList.take (i * ti.size))
      (repZ_sound (q4 σ) hzl i _ (by rw [List.length_take, Array.length_toList, hsz]; omega) (fun y hy => by rw [List.getElem?_take, if_pos hy]; exact hcell y (by omega)))
      (List.take_prefix _ _) hsz (repZ_one h1 i)
    refine ⟨.slice (some ⟨w.heap.size, 0, none⟩) i j, _, _, .inl ?_, .sl g1 hij hj (fun _ => rfl), g2⟩
    simp only [execOp, p1, p2]
    exact run_val hrun
end
end Go.Sy
end
section
namespace Go.Sy
open Go
set_option linter.unusedVariables false
set_option linter.unusedSimpArgs false
section
variable {P : Program} {σ : Env} {T : Tm} {ts : List Nat} {a : Act} {s s1 : St} {w : World}
def rdA (str : Bool) (esz : Nat) (s : St) (v : SV) : Option (Nat × List SV) := match str with
  | true => match v with
    | .s l => some (l.length, l.map bSV)
    | _ => none
  | false => rdS esz s v
theorem rdA_sound (h : HR σ s w) {str : Bool} {esz m : Nat} {v : SV} {new : List SV} (he : rdA str esz s v = some (m, new)) (hl : new.length = m * esz) (hs : str = true → esz = 1) {X : Value} (hx : VR σ v X) (P : Program) :
    Builtin.lenOf X = pure m ∧ ∃ xs, VRs σ new xs ∧ xs.length = m * esz ∧ ∀ w2 : World, w2.heap = w.heap → (Builtin.firstCells esz m X).run P w2 = .ok xs.toArray w2 := by
  cases str with
  | true =>
    cases v <;> simp only [rdA] at he <;> try (cases he; done)
    rename_i l
    obtain ⟨rfl, rfl⟩ := Prod.mk.inj (Option.some.inj he)
    have p := hx.s_inv
    subst p
    obtain rfl := hs rfl
    refine ⟨by simp [Builtin.lenOf, bsz], _, bSV_VRs l, by simp, fun w2 _ => ?_⟩
    simp only [Builtin.firstCells, Sem.run_pure]
    congr 1
    have : (⟨l.toArray⟩ : ByteArray).extract 0 l.length = ⟨l.toArray⟩ := by
      rw [← bsz l]; exact ByteArray.extract_zero_size
    rw [this]
    apply Array.ext'
    simp
  | false =>
    obtain ⟨A, c, xs, rfl, h2, h3, h4, h5, h6, h7⟩ := rdS_sound h he hl hx
    refine ⟨rfl, xs, h2, h3, fun w2 hw => ?_⟩
    cases A with
    | none =>
      obtain ⟨rfl, rfl⟩ := h4 rfl
      have : xs = [] := List.length_eq_zero_iff.1 (by simpa using h3)
      subst this
      simp [Builtin.firstCells]
    | some ad => exact run_firstCells_some w2 esz m ad m c xs h3 (h7 ad rfl w2 hw)
theorem run_app_in {t u e ty : TypeId} {d : TypeDesc} {i : TypeInfo} (ht : P.underlying t = some (.slice e)) (hu : P.underlying u = some d) (hd : (∃ e', d = .slice e') ∨ d = .string) (hi : P.info? e = some i) {X : Value} {n : Nat} (hl : Builtin.lenOf X = pure n)
    {xs : List Value} (hf : (Builtin.firstCells i.size n X).run P w = .ok xs.toArray w) {A : Addr} {len cap : Nat} (hroom : len + n ≤ cap) {w' : World} (hst : (storeCells (A.add (len * i.size)) xs).run P w = .ok () w') :
    (Builtin.append_ #[t, u] ty #[.slice (some A) len cap, X]).run P w = .ok (.slice (some A) (len + n) cap) w' := by
  rcases hd with ⟨e', rfl⟩ | rfl <;> simp [Builtin.append_, run_underlying ht, run_underlying hu, sizeOf, typeInfo, hi, hl, hroom, hf, hst]
theorem run_app_none {t u e ty : TypeId} {d : TypeDesc} {i : TypeInfo} (ht : P.underlying t = some (.slice e)) (hu : P.underlying u = some d) (hd : (∃ e', d = .slice e') ∨ d = .string) (hi : P.info? e = some i) {X : Value} (hl : Builtin.lenOf X = pure 0)
    {xs : List Value} (hf : (Builtin.firstCells i.size 0 X).run P w = .ok xs.toArray w) (hx : xs.length = 0) {A : Option Addr} {len cap : Nat} (hroom : len ≤ cap) :
    (Builtin.append_ #[t, u] ty #[.slice A len cap, X]).run P w = .ok (.slice A len cap) w := by
  have hx' : xs = [] := List.length_eq_zero_iff.1 hx
  subst hx'
  rcases hd with ⟨e', rfl⟩ | rfl <;> (cases A <;> simp [Builtin.append_, run_underlying ht, run_underlying hu, sizeOf, typeInfo, hi, hl, hroom, hf, storeCells])
theorem run_app_grow {t u e ty : TypeId} {d : TypeDesc} {i : TypeInfo} {z : Value} (ht : P.underlying t = some (.slice e)) (hu : P.underlying u = some d) (hd : (∃ e', d = .slice e') ∨ d = .string) (hi : P.info? e = some i) (hz : i.zero = some z) (hb : 0 < i.bytes) {X : Value} {n : Nat} (hl : Builtin.lenOf X = pure n)
    {xs : List Value} (hf : (Builtin.firstCells i.size n X).run P w.drew = .ok xs.toArray w.drew) {A : Option Addr} {len cap : Nat} (hno : cap < len + n) {ys : List Value} (ho : (Builtin.firstCells i.size len (.slice A len cap)).run P w.drew = .ok ys.toArray w.drew)
    (hfit : Builtin.nextslicecap (len + n) cap * i.bytes ≤ 281474976710656) :
    (Builtin.append_ #[t, u] ty #[.slice A len cap, X]).run P w = .ok (.slice (some ⟨w.heap.size, 0, none⟩) (len + n) (grownCap w (len + n) cap e))
      (w.drew.alloc (.cells (ys.toArray ++ xs.toArray ++ Builtin.zeroCells z.cells (grownCap w (len + n) cap e - (len + n))) e)) := by
  have hn : ¬ (len + n ≤ cap) := by omega
  have h48' : ¬ (281474976710656 < Builtin.nextslicecap (len + n) cap * i.bytes) := by omega
  have hb' : i.bytes ≠ 0 := by omega
  rcases hd with ⟨e', rfl⟩ | rfl <;> (simp [Builtin.append_, run_underlying ht, run_underlying hu, sizeOf, typeInfo, zeroValue, hi, hz, hl, hn, h48', hb', Question.forced, hf, ho, newRow, grownCap]; rw [← Array.append_assoc]; simp)
theorem nextcap_le (n c : Nat) (h : c < n) : Builtin.nextslicecap n c ≤ 2 * n + 1000 := by
  have gb : ∀ r c, c < n → Builtin.growBy n r c ≤ 2 * n + 1000 := by
    intro r
    induction r with
    | zero => intro c hc; simp only [Builtin.growBy]; omega
    | succ r ih =>
      intro c hc
      simp only [Builtin.growBy]
      split
      · omega
      · by_cases hc' : c + (c + 768) / 4 < n
        · exact ih _ hc'
        · cases r with
          | zero => simp only [Builtin.growBy]; omega
          | succ r => simp only [Builtin.growBy]; rw [if_pos (by omega)]; omega
  unfold Builtin.nextslicecap
  split
  · omega
  · split
    · omega
    · exact gb 4 c h
theorem HR.moved (h : HR σ s w) {b e esz r κ lo hi : Nat} {old cells : List SV} {xs : List Value} {c : Array Value} {w' : World} (hb : s.H b = some (.row e esz old)) (hs : σ.a b = some (r, κ)) (hx : VRs σ cells xs) (hp : xs <+: c.toList) (hc : c.size = κ * esz) (h1 : cells.all SV.one = true)
    (hl : ∀ j, j < c.size → ¬ (lo ≤ j ∧ j < hi)) (hl2 : esz ≠ 1 → ∀ j, ¬ (lo ≤ j ∧ j < hi)) (hw : w'.heap[r]? = some (.cells c e (lo, hi))) (hne : ∀ k, k ≠ r → w'.heap[k]? = w.heap[k]?) (hsz : w'.heap.size = w.heap.size) (ho : w'.os = w.os ∧ w'.tape = w.tape ∧ w'.output = w.output) :
    Good σ s w (σ.put s.nxt (r, κ)) { H := upd (upd s.H b none) s.nxt (some (.row e esz cells)), nxt := s.nxt + 1 } w' := by
  have hext := h.put_ext (r, κ)
  have hold : ∀ b, b ≠ s.nxt → (σ.put s.nxt (r, κ)).a b = σ.a b := fun b hb => if_neg hb
  have hnew : (σ.put s.nxt (r, κ)).a s.nxt = some (r, κ) := if_pos rfl
  have hsub : ∀ b' k', upd (upd s.H b none) s.nxt (some (.row e esz cells)) b' = some k' → (b' = s.nxt ∧ k' = .row e esz cells) ∨ (b' ≠ s.nxt ∧ b' ≠ b ∧ s.H b' = some k') := by
    intro b' k' hk
    unfold upd at hk
    split at hk
    · rename_i hh; exact .inl ⟨hh, (Option.some.inj hk).symm⟩
    · rename_i hh
      split at hk
      · cases hk
      · rename_i hh2; exact .inr ⟨hh, hh2, hk⟩
  have hbn : b ≠ s.nxt := fun e => by subst e; rw [h.hnone (Nat.le_refl _)] at hb; cases hb
  refine ⟨hext, ⟨fun b' k' hk => ?_, fun b' hv => ?_, fun b1 b2 k1 k2 r' κ1 κ2 e1 e2 a1 a2 => ?_, fun b' k' r' κ' hk a1 => ?_, fun r' zs hz => ?_, fun b' hb' => ?_, fun b' r' κ' a1 => ?_, by rw [hsz]; exact h.m⟩, ⟨ho.1, ho.2.1, ho.2.2, by omega, fun k hk hn => hne k ?_⟩, fun b' x r' κ' hk a1 => ?_, Nat.le_succ _, fun b hb => ⟨hold b (by omega), rfl⟩, fun r l h1 h2 => by
    have h1 : σ.z r = some l := h1
    rw [h2] at h1; cases h1⟩
  · rcases hsub b' k' hk with ⟨rfl, rfl⟩ | ⟨hn1, hn2, hk⟩
    · exact .inr ⟨r, κ, _, hnew, hw, c, xs, lo, hi, rfl, hx.ext hext, hp, hc, h1, hl, hl2⟩
    · rcases h.blk b' k' hk with h0 | ⟨r', κ', o, e1, e2, e3⟩
      · exact .inl h0
      · have hrr : r' ≠ r := fun er => hn2 (h.inj b' b k' _ r κ' κ hk hb (er ▸ e1) hs)
        exact .inr ⟨r', κ', o, by rw [hold b' hn1]; exact e1, by rw [hne r' hrr]; exact e2, e3.ext hext⟩
  · have hv : σ.v b' = true := hv
    rw [hold b' (fun e => by subst e; rw [(h.fresh _ (Nat.le_refl _)).2] at hv; cases hv)]
    exact h.virt b' hv
  · rcases hsub b1 k1 e1 with ⟨rfl, _⟩ | ⟨n1, m1, e1⟩
    · rcases hsub b2 k2 e2 with ⟨rfl, _⟩ | ⟨n2, m2, e2⟩
      · rfl
      · rw [hnew] at a1
        rw [hold b2 n2] at a2
        obtain ⟨rfl, _⟩ := Prod.mk.inj (Option.some.inj a1)
        exact absurd (h.inj b2 b k2 _ r κ2 κ e2 hb a2 hs) m2
    · rcases hsub b2 k2 e2 with ⟨rfl, _⟩ | ⟨n2, m2, e2⟩
      · rw [hnew] at a2
        rw [hold b1 n1] at a1
        obtain ⟨rfl, _⟩ := Prod.mk.inj (Option.some.inj a2)
        exact absurd (h.inj b1 b k1 _ r κ1 κ e1 hb a1 hs) m1
      · rw [hold b1 n1] at a1
        rw [hold b2 n2] at a2
        exact h.inj b1 b2 k1 k2 r' κ1 κ2 e1 e2 a1 a2
  · show σ.z r' = none
    rcases hsub b' k' hk with ⟨rfl, _⟩ | ⟨n1, m1, hk⟩
    · rw [hnew] at a1
      obtain ⟨rfl, _⟩ := Prod.mk.inj (Option.some.inj a1)
      exact h.apart b _ r κ hb hs
    · rw [hold b' n1] at a1
      exact h.apart b' k' r' κ' hk a1
  · have hz' : σ.z r' = some zs := hz
    have hrr : r' ≠ r := fun er => by rw [er, h.apart b _ r κ hb hs] at hz'; cases hz'
    rw [hne r' hrr]
    exact h.frz r' zs hz'
  · have hb' : s.nxt + 1 ≤ b' := hb'
    rw [hold b' (by omega)]
    exact h.fresh b' (by omega)
  · rw [hsz]
    by_cases hbn' : b' = s.nxt
    · subst hbn'
      rw [hnew] at a1
      obtain ⟨rfl, rfl⟩ := Prod.mk.inj (Option.some.inj a1)
      exact h.lt b r κ hs
    · rw [hold b' hbn'] at a1
      exact h.lt b' r' κ' a1
  · intro e
    subst e
    exact hn b _ κ hb hs
  · rcases hsub b' x hk with ⟨rfl, _⟩ | ⟨n1, m1, hk⟩
    · rw [hnew] at a1
      obtain ⟨rfl, _⟩ := Prod.mk.inj (Option.some.inj a1)
      exact .inr ⟨b, _, κ, hb, hs⟩
    · rw [hold b' n1] at a1
      exact .inr ⟨b', x, κ', hk, a1⟩
def Env.virt (σ : Env) (b : Nat) : Env := ⟨σ.a, σ.z, fun x => if x = b then true else σ.v x, σ.m⟩
theorem HR.virtual (h : HR σ s w) (e esz : Nat) : Good σ s w (σ.virt s.nxt) { H := upd s.H s.nxt (some (.row e esz [])), nxt := s.nxt + 1 } w := by
  have hext : σ.Ext (σ.virt s.nxt) := ⟨fun _ _ e => e, fun _ _ e => e, fun b e => by
    show (if b = s.nxt then true else σ.v b) = true
    split
    · rfl
    · exact e, Nat.le_refl _⟩
  have hf := h.fresh s.nxt (Nat.le_refl _)
  have hsub : ∀ b' k', upd s.H s.nxt (some (.row e esz [])) b' = some k' → (b' = s.nxt ∧ k' = .row e esz []) ∨ (b' ≠ s.nxt ∧ s.H b' = some k') := by
    intro b' k' hk
    unfold upd at hk
    split at hk
    · rename_i hh; exact .inl ⟨hh, (Option.some.inj hk).symm⟩
    · rename_i hh; exact .inr ⟨hh, hk⟩
  have hnon : ∀ b' k' r κ, upd s.H s.nxt (some (.row e esz [])) b' = some k' → σ.a b' = some (r, κ) → s.H b' = some k' := by
    intro b' k' r κ hk ha
    rcases hsub b' k' hk with ⟨rfl, _⟩ | ⟨_, hk⟩
    · rw [hf.1] at ha; cases ha
    · exact hk
  refine ⟨hext, ⟨fun b' k' hk => ?_, fun b' hv => ?_, fun b1 b2 k1 k2 r κ1 κ2 e1 e2 a1 a2 => h.inj b1 b2 k1 k2 r κ1 κ2 (hnon _ _ _ _ e1 a1) (hnon _ _ _ _ e2 a2) a1 a2, fun b' k' r κ hk a1 => h.apart b' k' r κ (hnon _ _ _ _ hk a1) a1, h.frz, fun b' hb' => ?_, h.lt, h.m⟩, ⟨rfl, rfl, rfl, Nat.le_refl _, fun _ _ _ => rfl⟩, fun b' x r κ hk a1 => .inr ⟨b', x, κ, hnon _ _ _ _ hk a1, a1⟩, Nat.le_succ _, fun b hb => ⟨rfl, if_neg (by omega)⟩, fun r l h1 h2 => by
    have h1 : σ.z r = some l := h1
    rw [h2] at h1; cases h1⟩
  · rcases hsub b' k' hk with ⟨rfl, rfl⟩ | ⟨hne, hk⟩
    · exact .inl ⟨if_pos rfl, e, esz, rfl⟩
    · rcases h.blk b' k' hk with ⟨h1, h2⟩ | ⟨r, κ, o, e1, e2, e3⟩
      · exact .inl ⟨hext.v _ h1, h2⟩
      · exact .inr ⟨r, κ, o, e1, e2, e3.ext hext⟩
  · have hv : (if b' = s.nxt then true else σ.v b') = true := hv
    by_cases hb : b' = s.nxt
    · subst hb; exact hf.1
    · rw [if_neg hb] at hv; exact h.virt b' hv
  · have hb' : s.nxt + 1 ≤ b' := hb'
    obtain ⟨f1, f2⟩ := h.fresh b' (by omega)
    refine ⟨f1, ?_⟩
    show (if b' = s.nxt then true else σ.v b') = false
    rw [if_neg (by omega)]; exact f2
theorem grow_good (h : HR σ s w) {e esz need cap : Nat} {z : Value} (hz : z.cells.size = esz) {old new : List SV} {ys xs : List Value} (ho : VRs σ old ys) (hn : VRs σ new xs) (hlen : ys.length + xs.length = need * esz) (h1 : old.all SV.one = true) (h2 : new.all SV.one = true) :
    (σ.put s.nxt (w.heap.size, grownCap w need cap e)).a s.nxt = some (w.heap.size, grownCap w need cap e) ∧ Good σ s w (σ.put s.nxt (w.heap.size, grownCap w need cap e)) { H := upd s.H s.nxt (some (.row e esz (old ++ new))), nxt := s.nxt + 1 }
      (w.drew.alloc (.cells (ys.toArray ++ xs.toArray ++ Builtin.zeroCells z.cells (grownCap w need cap e - need)) e)) := by
  have hge := grown_ge w need cap e
  have hsz : (ys.toArray ++ xs.toArray ++ Builtin.zeroCells z.cells (grownCap w need cap e - need)).size = grownCap w need cap e * esz := by
    simp only [Array.size_append, List.size_toArray, Builtin.zeroCells, Array.size_map, Array.size_range, hz]
    rw [hlen, ← Nat.add_mul]
    congr 1
    omega
  obtain ⟨g1, g2⟩ := HR.newRow h.drew e esz (grownCap w need cap e) (c := ys.toArray ++ xs.toArray ++ Builtin.zeroCells z.cells (grownCap w need cap e - need)) (ho.append hn) (by simp) hsz (by simp [h1, h2])
  exact ⟨g1, (Good.drew h).trans g2⟩
theorem app_own {t u e ty : TypeId} {d : TypeDesc} {i : TypeInfo} {zv : Value} (ht : P.underlying t = some (.slice e)) (hu : P.underlying u = some d) (hd : (∃ e', d = .slice e') ∨ d = .string) (hi : P.info? e = some i) (hz : i.zero = some zv) (hzs : zv.cells.size = i.size) (hsz : 0 < i.size) (hbp : 0 < i.bytes)
    (hh : HR σ s w) {b n m : Nat} {str : Bool} {vy : SV} {old new : List SV} {X Y : Value} (hX : VR σ (.sl b 0 n) X) (hY : VR σ vy Y) (hb : s.H b = some (.row e i.size old)) (hl : old.length = n * i.size) (hr : rdA str i.size s vy = some (m, new)) (hs : str = true → i.size = 1) (hnl : new.length = m * i.size) (h1 : new.all SV.one = true) (h63 : n + m ≤ 4503599627370496)
    (hfit : (2 * (n + m) + 1000) * i.bytes ≤ 281474976710656) :
    ∃ x σ' w', (Builtin.append_ #[t, u] ty #[X, Y]).run P w = .ok x w' ∧ VR σ' (.sl s.nxt 0 (n + m)) x ∧ Good σ s w σ' { H := upd (upd s.H b none) s.nxt (some (.row e i.size (old ++ new))), nxt := s.nxt + 1 } w' := by
  obtain ⟨hlen, xs, hxs, hxl, hf⟩ := rdA_sound hh hr hnl hs hY P
  have hbn : b ≠ s.nxt := fun e => by subst e; rw [hh.hnone (Nat.le_refl _)] at hb; cases hb
  have hdel : HR σ { s with H := upd s.H b none } w := hh.fewer (fun b' k hk => by
    simp only [upd] at hk
    split at hk
    · cases hk
    · exact hk) (Nat.le_refl _)
  have hGd : ∀ {σ' : Env} {s2 : St} {w' : World}, Good σ { s with H := upd s.H b none } w σ' s2 w' → Good σ s w σ' s2 w' := by
    intro σ' s2 w' g
    have hsub : ∀ {b' k}, upd s.H b none b' = some k → s.H b' = some k := by
      intro b' k hk
      simp only [upd] at hk
      split at hk
      · cases hk
      · exact hk
    exact ⟨g.ext, g.hr, ⟨g.keep.os, g.keep.tape, g.keep.output, g.keep.size, fun k hk hn => g.keep.same k hk (fun b' x κ hx => hn b' x κ (hsub hx))⟩, fun b' x r κ hx ha => by
      rcases g.own b' x r κ hx ha with h' | ⟨b0, x0, κ0, h', h''⟩
      · exact .inl h'
      · exact .inr ⟨b0, x0, κ0, hsub h', h''⟩, g.nx, g.old, fun r l h1 h2 => by
      rcases g.zn r l h1 h2 with h' | ⟨b0, x0, κ0, h', h''⟩
      · exact .inl h'
      · exact .inr ⟨b0, x0, κ0, hsub h', h''⟩⟩
  have fitc : ∀ c, c < n + m → Builtin.nextslicecap (n + m) c * i.bytes ≤ 281474976710656 := fun c hc => Nat.le_trans (Nat.mul_le_mul_right _ (nextcap_le _ _ hc)) hfit
  rcases hX.sl_inv with ⟨r, κ, c, rfl, ha, hn, hc, h0⟩ | ⟨rfl, hv, _, rfl⟩
  · obtain rfl := h0 rfl
    obtain ⟨ca, ys, lo, hi', g2, g3, g4, g5, g6, g7, g8⟩ := hh.row hb ha
    have hyl : ys.length = n * i.size := by rw [← g3.length]; exact hl
    by_cases hroom : n + m ≤ c
    · have hfits : n * i.size + xs.length ≤ ca.size := by
        rw [hxl, ← Nat.add_mul, g5]; exact Nat.mul_le_mul_right _ hroom
      have hst := run_storeCells_cells (P := P) r (n * i.size) xs 0 w (fun j hj => by rw [cell_of_heap g2]; simp; omega) (fun j hj => by
        rw [frozen_of_heap g2]
        have := g7 (n * i.size + 0 + j) (by omega)
        simp only [Bool.and_eq_false_iff, decide_eq_false_iff_not]; omega) (hxs.one h1)
      have hst' : (storeCells ((⟨r, 0, none⟩ : Addr).add (n * i.size)) xs).run P w = .ok () (w.setCells r (n * i.size) xs) := by
        rw [add_none, Nat.zero_add]; simpa using hst
      have hrun := run_app_in (ty := ty) ht hu hd hi hlen (hf w rfl) hroom hst'
      refine ⟨_, _, _, hrun, .sl (if_pos rfl) hroom hc (fun _ => rfl), HR.moved hh hb ha (g3.append hxs) ?_ (by rw [size_ovl]; exact g5) (by simp [g6, h1]) (fun j hj => g7 j (by rwa [size_ovl] at hj)) g8 (heap_setCells r e _ xs (n * i.size) ca w g2) (fun k hk => heap_setCells_ne r xs _ w k hk) (size_setCells r xs _ w) (rest_setCells r xs _ w)⟩
      -- what lies there now
      obtain ⟨t', ht'⟩ := g4
      have key : ∀ (xs ys t' : List Value) (ca : Array Value), ys ++ t' = ca.toList → xs.length ≤ t'.length → ys ++ xs <+: (ovl ca ys.length xs).toList := by
        intro xs
        induction xs with
        | nil => intro ys t' ca h _; simp only [ovl, List.append_nil]; exact ⟨t', h⟩
        | cons x xs ih =>
          intro ys t' ca h hlt
          cases t' with
          | nil => simp at hlt
          | cons u t' =>
            have := ih (ys ++ [x]) t' (ca.setIfInBounds ys.length x) (by
              rw [Array.toList_setIfInBounds, ← h, List.set_append_right _ _ (Nat.le_refl _)]; simp) (by simp at hlt; omega)
            rw [ovl]
            simpa using this
      rw [← hyl]
      refine key xs ys t' ca ht' ?_
      have : ca.toList.length = ys.length + t'.length := by rw [← ht', List.length_append]
      rw [Array.length_toList] at this
      omega
    · obtain ⟨A, c', ys', e1, e2, e3, _, _, _, e7⟩ := rdS_sound hh (esz := i.size) (v := .sl b 0 n) (n := n) (cells := old) (by simp only [rdS, hb]; rw [List.drop_zero, List.take_of_length_le (by omega)]) hl hX
      injection e1 with ea eb ec
      subst ea; subst ec
      have hys : (Builtin.firstCells i.size n (.slice (some ⟨r, 0, none⟩) n c)).run P w.drew = .ok ys'.toArray w.drew := run_firstCells_some w.drew i.size n _ n c ys' e3 (e7 _ rfl w.drew rfl)
      have hrun := run_app_grow (ty := ty) ht hu hd hi hz hbp hlen (hf w.drew rfl) (by omega : c < n + m) hys (fitc c (by omega))
      have holdone : old.all SV.one = true := g6
      obtain ⟨q1, q2⟩ := grow_good hdel (e := e) (need := n + m) (cap := c) hzs e2 hxs (by rw [e3, hxl, Nat.add_mul]) holdone h1
      exact ⟨_, _, _, hrun, .sl q1 (grown_ge w _ _ _) (grownCap_le_maxLen w _ _ e (by simp only [maxLen]; omega)) (fun _ => rfl), hGd q2⟩
  · have hold : old = [] := List.length_eq_zero_iff.1 (by simpa using hl)
    subst hold
    rcases Nat.eq_zero_or_pos m with hm | hm
    · subst hm
      have hx0 : xs.length = 0 := by simpa using hxl
      have hnew : new = [] := List.length_eq_zero_iff.1 (by simpa using hnl)
      subst hnew
      have hrun := run_app_none (P := P) (w := w) (ty := ty) ht hu hd hi hlen (hf w rfl) hx0 (A := none) (len := 0) (cap := 0) (Nat.le_refl _)
      exact ⟨_, _, _, hrun, .sl0 (if_pos rfl), hGd (HR.virtual hdel e i.size)⟩
    · have hrun := run_app_grow (ty := ty) (A := none) (len := 0) (cap := 0) (ys := []) ht hu hd hi hz hbp hlen (hf w.drew rfl) (by omega : 0 < 0 + m) (by simp [Builtin.firstCells]) (fitc 0 (by omega))
      obtain ⟨q1, q2⟩ := grow_good hdel (e := e) (need := 0 + m) (cap := 0) hzs (old := []) (ys := []) .nil hxs (by simp [hxl]) rfl h1
      exact ⟨_, _, _, hrun, .sl q1 (grown_ge w _ _ _) (grownCap_le_maxLen w _ _ e (by simp only [maxLen]; omega)) (fun _ => rfl), hGd q2⟩
theorem op_app {e esz bytes : Nat} {str : Bool} {x y : SO} {b n m : Nat} {vy : SV} {old new : List SV} (hx : evO T x = some (.sl b 0 n)) (hy : evO T y = some vy) (hb : s.H b = some (.row e esz old)) (hl : old.length = n * esz) (hr : rdA str esz s vy = some (m, new)) (hs : str = true → esz = 1) (hnl : new.length = m * esz) (h1 : new.all SV.one = true) (h63 : n + m ≤ 4503599627370496)
    (hfit : (2 * (n + m) + 1000) * bytes ≤ 281474976710656) :
    SOp P (.app e esz bytes str x y) T s (.sl s.nxt 0 (n + m)) { H := upd (upd s.H b none) s.nxt (some (.row e esz (old ++ new))), nxt := s.nxt + 1 } := SOp.ran fun o hcp σ w a hh ho => by
  generalize hop : o.op = op at hcp
  cases hcp with
  | app k1 k2 k3 k4 k5 k6 k7 k8 =>
    rename_i c t u z e' i
    obtain ⟨y1, y2, hy1, hy2, hy3⟩ := oL_two k3
    obtain ⟨i', zv, q1, q2, q3, q4, q5⟩ := zOf_sound k7
    rw [k6] at q1
    obtain rfl := Option.some.inj q1
    obtain ⟨r, σ', w', g1, g2, g3⟩ := app_own (ty := o.type) k4 k5 (.inl ⟨_, rfl⟩) k6 q2 q5 k8.1 k8.2 hh (oo_sound hy2 hx ho.l) (oo_sound hy3 hy ho.r) hb hl hr hs hnl h1 h63 hfit
    refine ⟨r, σ', w', .inl (run_builtin hop k1 rfl ?_), g2, g3⟩
    have : c.argTypes = #[t, u] := by apply Array.ext'; rw [k2]
    rw [this, hy1]
    simpa using g1
  | apps k1 k2 k3 k4 k5 k6 k7 k8 =>
    rename_i c t u z i
    obtain ⟨y1, y2, hy1, hy2, hy3⟩ := oL_two k3
    obtain ⟨i', zv, q1, q2, q3, q4, q5⟩ := zOf_sound k7
    rw [k6] at q1
    obtain rfl := Option.some.inj q1
    obtain ⟨r, σ', w', g1, g2, g3⟩ := app_own (ty := o.type) k4 k5 (.inr rfl) k6 q2 q5 k8.1 k8.2 hh (oo_sound hy2 hx ho.l) (oo_sound hy3 hy ho.r) hb hl hr hs hnl h1 h63 hfit
    refine ⟨r, σ', w', .inl (run_builtin hop k1 rfl ?_), g2, g3⟩
    have : c.argTypes = #[t, u] := by apply Array.ext'; rw [k2]
    rw [this, hy1]
    simpa using g1
end
end Go.Sy
end
section
namespace Go.Sy
open Go
set_option linter.unusedVariables false
set_option linter.unusedSimpArgs false
def Does (P : Program) (f : Nat) (vs : Array Value) (w : World) (R : Value → World → Prop) : Prop :=
  (∃ x w', (callFunc f vs).run P w = .ok (.value x) w' ∧ R x w') ∨
  ((callFunc f vs).run P w = .ok (.enter f vs) w ∧ Calls P f vs w fun e w' => ∃ x, e = .returned x ∧ R x w')
theorem Does.mono {P : Program} {f : Nat} {vs : Array Value} {w : World} {R R' : Value → World → Prop} (h : Does P f vs w R) (hr : ∀ x w', R x w' → R' x w') : Does P f vs w R' := by
  rcases h with ⟨x, w', h1, h2⟩ | ⟨h1, h2⟩
  · exact .inl ⟨x, w', h1, hr _ _ h2⟩
  · exact .inr ⟨h1, h2.mono fun e w' ⟨x, h3, h4⟩ => ⟨x, h3, hr _ _ h4⟩⟩
def SCallR (P : Program) (f : Nat) (az : List SV) (s : St) (Q : SV → St → Prop) : Prop :=
  ∀ (σ : Env) (w : World) (vs : List Value), HR σ s w → VRs σ az vs → Does P f vs.toArray w fun x w' => ∃ r s1 σ', VR σ' r x ∧ Good σ s w σ' s1 w' ∧ Q r s1
def SCall (P : Program) (f : Nat) (az : List SV) (s : St) (r : SV) (s1 : St) : Prop :=
  ∀ (σ : Env) (w : World) (vs : List Value), HR σ s w → VRs σ az vs → Does P f vs.toArray w fun x w' => ∃ σ', VR σ' r x ∧ Good σ s w σ' s1 w'
theorem SCallR.exact {P : Program} {f : Nat} {az : List SV} {s : St} {r : SV} {s1 : St} (h : SCallR P f az s fun r' s' => r' = r ∧ s' = s1) : SCall P f az s r s1 := fun σ w vs hh hv => (h σ w vs hh hv).mono fun x w' ⟨r', s', σ', h1, h2, h3, h4⟩ => by subst h3; subst h4; exact ⟨σ', h1, h2⟩
theorem SCallR.mono {P : Program} {f : Nat} {az : List SV} {s : St} {Q Q' : SV → St → Prop} (h : SCallR P f az s Q) (hq : ∀ r s1, Q r s1 → Q' r s1) : SCallR P f az s Q' := fun σ w vs hh hv => (h σ w vs hh hv).mono fun x w' ⟨r', s', σ', h1, h2, h3⟩ => ⟨r', s', σ', h1, h2, hq _ _ h3⟩
section
variable {P : Program} {σ : Env} {T : Tm} {a : Act} {s s1 : St} {w : World}
theorem SOp.does {ai : AI} {v : SV} (h : ∀ (o : Oper), Comp P o.op ai → ∀ (σ : Env) (w : World) (a : Act), HR σ s w → OR σ T ai.tmps a → ∃ f vs, (execOp a.eval o).run P w = (callFunc f vs).run P w ∧ Does P f vs w fun x w' => ∃ σ', VR σ' v x ∧ Good σ s w σ' s1 w') : SOp P ai T s v s1 := by
  intro o hc σ w a hr ho next Q hk
  obtain ⟨f, vs, hex, hd⟩ := h o hc σ w a hr ho
  unfold Oper.wp
  rcases hd with ⟨x, w', h1, σ', h2, h3⟩ | ⟨h1, h2⟩
  · rw [hex, h1]; exact hk x σ' w' h2 h3
  · rw [hex, h1]
    refine Calls.mono h2 ?_
    rintro e w' ⟨x, rfl, σ', h3, h4⟩
    exact hk x σ' w' h3 h4
theorem op_call {f : Nat} {args : List SO} {vs : List SV} {r : SV} (ha : evOs T args = some vs) (hc : SCall P f vs s r s1) : SOp P (.call f args) T s r s1 := SOp.does fun o hcp σ w a hh ho => by
  generalize hop : o.op = op at hcp
  cases hcp with
  | call h1 h2 =>
    rename_i c
    have hv := oL_sound h2 ha ho
    refine ⟨f, (c.args.toList.map a.eval).toArray, ?_, hc σ w _ hh hv⟩
    have e : resolve a.eval c o.type = pure { target := .fn (.func f) #[], args := #[] ++ c.args.map a.eval } := by
      unfold resolve; rw [h1]; rfl
    simp only [execOp, hop, e, Sem.run_bind, Sem.run_pure, Result.andThen_ok, invoke]
    congr 2
    apply Array.ext'
    simp
theorem op_calv {x : SO} {f : Nat} {caps : List SV} {args : List SO} {vs : List SV} {r : SV} (hx : evO T x = some (.f f caps)) (ha : evOs T args = some vs) (hc : SCall P f (vs ++ caps) s r s1) : SOp P (.calv x args) T s r s1 := SOp.does fun o hcp σ w a hh ho => by
  generalize hop : o.op = op at hcp
  cases hcp with
  | calv h1 h2 h3 =>
    rename_i c x'
    have hv := oL_sound h3 ha ho.r
    have p := oo_sound h2 hx ho.l
    generalize hX : a.eval x' = X at p
    cases p
    rename_i xs hxs
    refine ⟨f, (c.args.toList.map a.eval ++ xs).toArray, ?_, hc σ w _ hh (hv.append hxs)⟩
    have e : resolve a.eval c o.type = pure { target := .fn (.func f) xs.toArray, args := #[] ++ c.args.map a.eval } := by
      unfold resolve; rw [h1]; simp only [hX]; rfl
    simp only [execOp, hop, e, Sem.run_bind, Sem.run_pure, Result.andThen_ok, invoke]
    congr 2
    simp
theorem op_calm {x : SO} {f : Nat} {fi : List SV} {args : List SO} {vs : List SV} {r : SV} (hx : evO T x = some (.fm f fi)) (ha : evOs T args = some vs) (hc : SCall P f (fi ++ vs) s r s1) : SOp P (.calv x args) T s r s1 := SOp.does fun o hcp σ w a hh ho => by
  generalize hop : o.op = op at hcp
  cases hcp with
  | calv h1 h2 h3 =>
    rename_i c x'
    have hv := oL_sound h3 ha ho.r
    have p := oo_sound h2 hx ho.l
    generalize hX : a.eval x' = X at p
    cases p
    rename_i xs hxs
    refine ⟨f, (xs ++ c.args.toList.map a.eval).toArray, ?_, hc σ w _ hh (hxs.append hv)⟩
    have e : resolve a.eval c o.type = pure { target := .fn (.func f) #[], args := xs.toArray ++ c.args.map a.eval } := by
      unfold resolve; rw [h1]; simp only [hX]; rfl
    simp only [execOp, hop, e, Sem.run_bind, Sem.run_pure, Result.andThen_ok, invoke]
    congr 2
    apply Array.ext'
    simp
end
def compGd (ops : Array Oper) : Option (Nat × Bool) → Option (Option (Nat × Bool))
  | none => some none
  | some (j, b) => match (ops[j]?).bind (·.dst) with
    | some t => some (some (t, b))
    | none => none
def compA (P : Program) (nt : Nat) (ops : Array Oper) (o : Oper) : Option AOp := match compGd ops o.guard with
  | none => none
  | some g => match o.dst with
    | none => some ⟨none, g, (cop P o.op).getD .bad⟩
    | some d => match Nat.blt d nt with
      | true => some ⟨some d, g, (cop P o.op).getD .bad⟩
      | false => none
def compL (P : Program) (nt : Nat) (ops : Array Oper) : List Oper → Option (List AOp)
  | [] => some []
  | o :: r => match compA P nt ops o with
    | none => none
    | some a => match compL P nt ops r with
      | none => none
      | some l => some (a :: l)
theorem compA_parts {P : Program} {nt : Nat} {ops : Array Oper} {o : Oper} {ao : AOp} (h : compA P nt ops o = some ao) : compGd ops o.guard = some ao.g ∧ ao.ai = (cop P o.op).getD .bad ∧ ao.d = o.dst ∧ ∀ k, o.dst = some k → k < nt := by
  unfold compA at h
  split at h
  · cases h
  · rename_i g hg
    split at h
    · rename_i hd
      obtain rfl := (Option.some.inj h).symm
      exact ⟨hg, rfl, hd.symm, fun k hk => by rw [hd] at hk; cases hk⟩
    · rename_i d hd
      split at h
      · rename_i hlt
        obtain rfl := (Option.some.inj h).symm
        exact ⟨hg, rfl, hd.symm, fun k hk => by rw [hd] at hk; obtain rfl := Option.some.inj hk; simpa [Nat.blt_eq] using hlt⟩
      · cases h
theorem Comp.notbad {P : Program} {op : Op} : ¬ Comp P op .bad := by intro h; cases h
theorem comp_or {P : Program} {o : Oper} {ai : AI} (hai : ai = (cop P o.op).getD .bad) : Comp P o.op ai ∨ ai = .bad := by
  cases hc : cop P o.op with
  | some x => rw [hc] at hai; exact .inl (by rw [hai]; exact cop_sound hc)
  | none => rw [hc] at hai; exact .inr hai
def wants (T : Tm) (g : Option (Nat × Bool)) : Option Bool := match g with
  | none => some true
  | some (t, b) => match T.get t with
    | some (.b x) => some (match b with | true => x | false => !x)
    | some (.tup []) => some false
    | _ => none
def gT (g : Option (Nat × Bool)) : List Nat := match g with
  | none => []
  | some (t, _) => [t]
theorem wants_sound {σ : Env} {T : Tm} {a : Act} {ops : Array Oper} {o : Oper} {g : Option (Nat × Bool)} (h : OR σ T (gT g) a) (hg : compGd ops o.guard = some g) {b : Bool} (hw : wants T g = some b) : Region.wanted o (yielded ops a.tmps) = b := by
  unfold compGd at hg
  unfold Region.wanted
  split at hg
  · rename_i h0
    obtain rfl := (Option.some.inj hg).symm
    obtain rfl := Option.some.inj hw
    rw [h0]
  · rename_i j c h0
    split at hg
    · rename_i t ht
      obtain rfl := (Option.some.inj hg).symm
      rw [h0]
      simp only [wants] at hw
      split at hw
      · rename_i x hx
        obtain ⟨h1, h2⟩ := h t (by simp [gT]) _ hx
        have h2' : a.tmps.getD t undef = .bool x := by generalize a.tmps.getD t undef = q at h2; cases h2; rfl
        have : yielded ops a.tmps j = some x := by
          unfold yielded
          rw [ht]
          have : a.tmps[t]? = some (.bool x) := by rw [← h2', Array.getD_eq_getD_getElem?, getElem?_pos a.tmps t h1]; rfl
          simp [this]
        simp only [this]
        have := Option.some.inj hw
        subst this
        cases c <;> cases x <;> rfl
      · rename_i hx
        obtain rfl := Option.some.inj hw
        obtain ⟨h1, h2⟩ := h t (by simp [gT]) _ hx
        have h2' : a.tmps.getD t undef = .tuple #[] := by generalize a.tmps.getD t undef = q at h2; cases h2; rename_i h3; cases h3; rfl
        have : yielded ops a.tmps j = none := by
          unfold yielded
          rw [ht]
          have e : a.tmps[t]? = some (.tuple #[]) := by rw [← h2', Array.getD_eq_getD_getElem?, getElem?_pos a.tmps t h1]; rfl
          simp [e]
        simp only [this]
        cases c <;> rfl
      · cases hw
    · cases hg
def AI.ok : AI → Bool
  | .bad => false
  | _ => true
inductive Cls where
  | pure | rd | loud
def Cls.touch : Cls → Bool
  | .pure => false
  | _ => true
def Cls.isLoud : Cls → Bool
  | .loud => true
  | _ => false
structure Rc where
  c : Cls
  d : Option Nat
  v : SV
  s1 : St
def Rc.af (r : Rc) (s : St) : St := match r.c with
  | .loud => r.s1
  | _ => s
inductive SReg (P : Program) : List AOp → Tm → St → List Rc → Tm → St → Prop
  | nil {T : Tm} {s : St} : SReg P [] T s [] T s
  | skip {o : AOp} {l : List AOp} {T T' : Tm} {s s' : St} {rs : List Rc} (hw : wants T o.g = some false) (h : SReg P l (putT T o.d (.tup [])) s rs T' s') : SReg P (o :: l) T s (⟨.pure, o.d, .tup [], s⟩ :: rs) T' s'
  | pure {o : AOp} {l : List AOp} {T T' : Tm} {s s' : St} {rs : List Rc} {v : SV} (hw : wants T o.g = some true) (hb : o.ai.ok = true) (hv : SOpP P o.ai T v) (h : SReg P l (putT T o.d v) s rs T' s') : SReg P (o :: l) T s (⟨.pure, o.d, v, s⟩ :: rs) T' s'
  | rd {o : AOp} {l : List AOp} {T T' : Tm} {s s' : St} {rs : List Rc} {v : SV} (hw : wants T o.g = some true) (hb : o.ai.ok = true) (hv : SOp P o.ai T s v s) (h : SReg P l (putT T o.d v) s rs T' s') : SReg P (o :: l) T s (⟨.rd, o.d, v, s⟩ :: rs) T' s'
  | loud {o : AOp} {l : List AOp} {T T' : Tm} {s s1 s' : St} {rs : List Rc} {v : SV} (hw : wants T o.g = some true) (hb : o.ai.ok = true) (hv : SOp P o.ai T s v s1) (h : SReg P l (putT T o.d v) s1 rs T' s') : SReg P (o :: l) T s (⟨.loud, o.d, v, s1⟩ :: rs) T' s'
def TR (σ : Env) (T : Tm) (a : Act) : Prop := ∀ t v, T.get t = some v → t < a.tmps.size ∧ VR σ v (a.tmps.getD t undef)
theorem TR.or {σ : Env} {T : Tm} {a : Act} (h : TR σ T a) (ts : List Nat) : OR σ T ts a := fun t _ v e => h t v e
theorem TR.ext {σ σ' : Env} (h : σ.Ext σ') {T : Tm} {a : Act} (k : TR σ T a) : TR σ' T a := fun t v e => ⟨(k t v e).1, (k t v e).2.ext h⟩
theorem putT_get (T : Tm) (d : Option Nat) (v : SV) (t : Nat) : (putT T d v).get t = if d = some t then some v else T.get t := by
  cases d with
  | none => simp [putT]
  | some d =>
    simp only [putT, Tm.get_cons]
    by_cases h : t = d
    · subst h; simp
    · rw [if_neg h, if_neg (fun e => h (Option.some.inj e).symm)]
theorem TR.put {σ : Env} {T : Tm} {a : Act} (k : TR σ T a) {d : Option Nat} (hd : ∀ t, d = some t → t < a.tmps.size) {v : SV} {x : Value} (h : VR σ v x) : TR σ (putT T d v) (a.put d x) := by
  cases d with
  | none => exact k
  | some d =>
    intro t u e
    rw [putT_get] at e
    show t < (a.tmps.setIfInBounds d x).size ∧ VR σ u ((a.tmps.setIfInBounds d x).getD t undef)
    by_cases ht : d = t
    · subst ht
      rw [if_pos rfl] at e
      obtain rfl := Option.some.inj e
      have hd := hd d rfl
      refine ⟨by simpa using hd, ?_⟩
      rw [Array.getD_eq_getD_getElem?, Array.getElem?_setIfInBounds_self_of_lt hd]
      exact h
    · rw [if_neg (fun e => ht (Option.some.inj e))] at e
      obtain ⟨h1, h2⟩ := k t u e
      refine ⟨by simpa using h1, ?_⟩
      rw [Array.getD_eq_getD_getElem?, Array.getElem?_setIfInBounds_ne ht, ← Array.getD_eq_getD_getElem?]
      exact h2
theorem put_size (a : Act) (d : Option Nat) (x : Value) : (a.put d x).tmps.size = a.tmps.size := by
  cases d <;> simp [Act.put]
theorem put_defers (a : Act) (d : Option Nat) (x : Value) : (a.put d x).defers = a.defers := by
  cases d <;> simp [Act.put]
theorem VRundef {σ : Env} : VR σ (.tup []) undef := .tup (xs := []) .nil
theorem ops_sound {P : Program} {nt : Nat} {ops : Array Oper} {Q : Exit → Act → World → Prop} : ∀ (os : List Oper) (l : List AOp) (hc : compL P nt ops os = some l) {T T' : Tm} {s s' : St} {rs : List Rc} (hr : SReg P l T s rs T' s') {σ : Env} {a : Act} {w : World}
    (h : TR σ T a) (hh : HR σ s w) (hnt : nt ≤ a.tmps.size) (hk : ∀ σ' a' w', TR σ' T' a' → nt ≤ a'.tmps.size → a'.defers = a.defers → Good σ s w σ' s' w' → Q .normal a' w'), wpList P ops Q os a w
  | [], l, hc, T, T', s, s', rs, hr, σ, a, w, h, hh, hnt, hk => by
    obtain rfl := (Option.some.inj hc).symm
    cases hr
    exact hk σ a w h hnt rfl (.refl hh)
  | o :: os, l, hc, T, T', s, s', rs, hr, σ, a, w, h, hh, hnt, hk => by
    simp only [compL] at hc
    split at hc
    · cases hc
    · rename_i ao hao
      split at hc
      · cases hc
      · rename_i l' hl'
        obtain rfl := (Option.some.inj hc).symm
        obtain ⟨hg, hai, hd, hdn⟩ := compA_parts hao
        have hdn' : ∀ k, ao.d = some k → k < a.tmps.size := fun k hk => Nat.lt_of_lt_of_le (hdn k (by rw [← hd]; exact hk)) hnt
        have run : ∀ {v : SV} {s1 : St} {rs : List Rc}, wants T ao.g = some true → ao.ai.ok = true → SOp P ao.ai T s v s1 → SReg P l' (putT T ao.d v) s1 rs T' s' → wpList P ops Q (o :: os) a w := by
          intro v s1 rs hw hb hv hr'
          unfold wpList
          rw [if_pos (wants_sound (h.or _) hg hw)]
          refine .inl ?_
          rcases comp_or hai with hcomp | hbad
          · refine hv o hcomp σ w a hh (h.or _) _ _ (fun x σ1 w1 q1 q2 => ?_)
            rw [← hd]
            exact ops_sound os l' hl' hr' ((h.ext q2.ext).put hdn' q1) q2.hr (by rw [put_size]; exact hnt) (fun σ' a' w' r1 r2 r3 r4 => hk σ' a' w' r1 r2 (by rw [r3, put_defers]) (q2.trans r4))
          · rw [hbad] at hb; cases hb
        cases hr with
        | skip hw hr' =>
          unfold wpList
          rw [if_neg (by rw [wants_sound (h.or _) hg hw]; simp), ← hd]
          exact ops_sound os l' hl' hr' (h.put hdn' VRundef) hh (by rw [put_size]; exact hnt) (fun σ' a' w' r1 r2 r3 r4 => hk σ' a' w' r1 r2 (by rw [r3, put_defers]) r4)
        | pure hw hb hv hr' => exact run hw hb (hv s) hr'
        | rd hw hb hv hr' => exact run hw hb hv hr'
        | loud hw hb hv hr' => exact run hw hb hv hr'
end Go.Sy
end
section
namespace Go.Sy
open Go
set_option linter.unusedVariables false
set_option linter.unusedSimpArgs false
def foldT : List Rc → Nat → (Nat → Bool) → Tm → Tm
  | [], _, _, T => T
  | r :: l, k, S, T => foldT l (k + 1) S (if S k then putT T r.d r.v else T)
def foldS : List Rc → Nat → (Nat → Bool) → St → St
  | [], _, _, s => s
  | r :: l, k, S, s => foldS l (k + 1) S (if S k then r.af s else s)
theorem foldT_congr {t : Nat} : ∀ (l : List Rc) (k : Nat) (S S' : Nat → Bool) (T T' : Tm), (∀ i r, l[i]? = some r → r.d = some t → S (k + i) = S' (k + i)) → T.get t = T'.get t → (foldT l k S T).get t = (foldT l k S' T').get t
  | [], k, S, S', T, T', _, h => h
  | r :: l, k, S, S', T, T', hS, h => by
    simp only [foldT]
    refine foldT_congr l (k + 1) S S' _ _ (fun i q hq hd => ?_) ?_
    · have := hS (i + 1) q (by simpa using hq) hd
      rwa [show k + (i + 1) = k + 1 + i from by omega] at this
    · by_cases hd : r.d = some t
      · have := hS 0 r rfl hd
        rw [Nat.add_zero] at this
        rw [this]
        split
        · rw [putT_get, putT_get, hd]; simp
        · exact h
      · have e : ∀ (b : Bool) (U : Tm), (if b then putT U r.d r.v else U).get t = U.get t := by
          intro b U
          split
          · rw [putT_get, if_neg hd]
          · rfl
        rw [e, e]; exact h
theorem foldT_none {t : Nat} : ∀ (l : List Rc) (k : Nat) (S : Nat → Bool) (T : Tm), (∀ i r, l[i]? = some r → S (k + i) = true → r.d ≠ some t) → (foldT l k S T).get t = T.get t
  | [], k, S, T, _ => rfl
  | r :: l, k, S, T, hS => by
    simp only [foldT]
    rw [foldT_none l (k + 1) S _ (fun i q hq hs => hS (i + 1) q (by simpa using hq) (by rwa [show k + (i + 1) = k + 1 + i from by omega]))]
    split
    · rename_i hk
      rw [putT_get, if_neg (hS 0 r rfl (by simpa using hk))]
    · rfl
theorem foldT_last {t : Nat} : ∀ (l : List Rc) (k j : Nat) (S : Nat → Bool) (T : Tm) (r : Rc), l[j]? = some r → S (k + j) = true → r.d = some t → (∀ i q, j < i → l[i]? = some q → S (k + i) = true → q.d ≠ some t) → (foldT l k S T).get t = some r.v
  | [], k, j, S, T, r, h, _, _, _ => by simp at h
  | x :: l, k, 0, S, T, r, h, hs, hd, hn => by
    simp at h; subst h
    simp only [foldT]
    rw [foldT_none l (k + 1) S _ (fun i q hq hs' => hn (i + 1) q (by omega) (by simpa using hq) (by rwa [show k + (i + 1) = k + 1 + i from by omega]))]
    rw [if_pos (by simpa using hs), putT_get, if_pos hd]
  | x :: l, k, j + 1, S, T, r, h, hs, hd, hn => by
    simp only [foldT]
    exact foldT_last l (k + 1) j S _ r (by simpa using h) (by rwa [show k + 1 + j = k + (j + 1) from by omega]) hd (fun i q hi hq hs' => hn (i + 1) q (by omega) (by simpa using hq) (by rwa [show k + (i + 1) = k + 1 + i from by omega]))
theorem foldS_congr : ∀ (l : List Rc) (k : Nat) (S S' : Nat → Bool) (s : St), (∀ i r, l[i]? = some r → r.c.isLoud = true → S (k + i) = S' (k + i)) → foldS l k S s = foldS l k S' s
  | [], k, S, S', s, _ => rfl
  | r :: l, k, S, S', s, hS => by
    simp only [foldS]
    have e : (if S k then r.af s else s) = if S' k then r.af s else s := by
      cases hc : r.c.isLoud with
      | true =>
        have := hS 0 r rfl hc
        rw [Nat.add_zero] at this
        rw [this]
      | false =>
        have : r.af s = s := by
          unfold Rc.af
          split
          · rename_i h; rw [h] at hc; cases hc
          · rfl
        rw [this]; simp
    rw [e]
    exact foldS_congr l (k + 1) S S' _ (fun i q hq hd => by
      have := hS (i + 1) q (by simpa using hq) hd
      rwa [show k + (i + 1) = k + 1 + i from by omega] at this)
theorem foldS_none : ∀ (l : List Rc) (k : Nat) (S : Nat → Bool) (s : St), (∀ i r, l[i]? = some r → S (k + i) = true → r.c.isLoud = false) → foldS l k S s = s
  | [], k, S, s, _ => rfl
  | r :: l, k, S, s, hS => by
    simp only [foldS]
    have e : (if S k then r.af s else s) = s := by
      split
      · rename_i hk
        have := hS 0 r rfl (by simpa using hk)
        unfold Rc.af
        split
        · rename_i h; rw [h] at this; cases this
        · rfl
      · rfl
    rw [e]
    exact foldS_none l (k + 1) S s (fun i q hq hs => hS (i + 1) q (by simpa using hq) (by rwa [show k + (i + 1) = k + 1 + i from by omega]))
theorem foldS_last : ∀ (l : List Rc) (k j : Nat) (S : Nat → Bool) (s : St) (r : Rc), l[j]? = some r → S (k + j) = true → r.c.isLoud = true → (∀ i q, j < i → l[i]? = some q → S (k + i) = true → q.c.isLoud = false) → foldS l k S s = r.s1
  | [], k, j, S, s, r, h, _, _, _ => by simp at h
  | x :: l, k, 0, S, s, r, h, hs, hd, hn => by
    simp at h; subst h
    simp only [foldS]
    rw [foldS_none l (k + 1) S _ (fun i q hq hs' => hn (i + 1) q (by omega) (by simpa using hq) (by rwa [show k + (i + 1) = k + 1 + i from by omega]))]
    rw [if_pos (by simpa using hs)]
    unfold Rc.af
    split
    · rfl
    · rename_i h
      cases hc : x.c with
      | loud => exact absurd hc h
      | _ => rw [hc] at hd; cases hd
  | x :: l, k, j + 1, S, s, r, h, hs, hd, hn => by
    simp only [foldS]
    exact foldS_last l (k + 1) j S _ r (by simpa using h) (by rwa [show k + 1 + j = k + (j + 1) from by omega]) hd (fun i q hi hq hs' => hn (i + 1) q (by omega) (by simpa using hq) (by rwa [show k + (i + 1) = k + 1 + i from by omega]))
structure Step (P : Program) (T : Tm) (s : St) (o : AOp) (r : Rc) : Prop where
  d : r.d = o.d
  run : (wants T o.g = some false ∧ r.v = .tup [] ∧ r.c = .pure) ∨ (wants T o.g = some true ∧ o.ai.ok = true ∧ ((r.c = .pure ∧ SOpP P o.ai T r.v) ∨ (r.c = .rd ∧ SOp P o.ai T s r.v s) ∨ (r.c = .loud ∧ SOp P o.ai T s r.v r.s1)))
theorem sreg_at {P : Program} : ∀ {l : List AOp} {T T' : Tm} {s s' : St} {rs : List Rc}, SReg P l T s rs T' s' → ∀ (k : Nat) (S : Nat → Bool), (∀ i, S i = true) →
    rs.length = l.length ∧ foldT rs k S T = T' ∧ foldS rs k S s = s' ∧ ∀ (j : Nat) (o : AOp), l[j]? = some o → ∃ r, rs[j]? = some r ∧ Step P (foldT rs k (fun i => decide (i < k + j)) T) (foldS rs k (fun i => decide (i < k + j)) s) o r := by
  intro l T T' s s' rs h
  have none_ : ∀ (rs : List Rc) (k : Nat) (T : Tm) (s : St), foldT rs (k + 1) (fun i => decide (i < k)) T = T ∧ foldS rs (k + 1) (fun i => decide (i < k)) s = s := by
    have gen : ∀ (rs : List Rc) (k m : Nat) (T : Tm) (s : St), k ≤ m → foldT rs m (fun i => decide (i < k)) T = T ∧ foldS rs m (fun i => decide (i < k)) s = s := by
      intro rs
      induction rs with
      | nil => intro k m T s _; exact ⟨rfl, rfl⟩
      | cons r rs ih =>
        intro k m T s hm
        simp only [foldT, foldS, decide_eq_true_eq]
        rw [if_neg (by omega), if_neg (by omega)]
        exact ih k (m + 1) T s (by omega)
    intro rs k T s
    exact gen rs k (k + 1) T s (by omega)
  have go : ∀ (l : List AOp) (rs : List Rc) (o : AOp) (r : Rc) (T T1 T' : Tm) (s s1 s' : St) (k : Nat) (S : Nat → Bool), (∀ i, S i = true) → T1 = putT T r.d r.v → s1 = r.af s → Step P T s o r →
      (∀ (k : Nat) (S : Nat → Bool), (∀ i, S i = true) → rs.length = l.length ∧ foldT rs k S T1 = T' ∧ foldS rs k S s1 = s' ∧ ∀ (j : Nat) (o : AOp), l[j]? = some o → ∃ r, rs[j]? = some r ∧ Step P (foldT rs k (fun i => decide (i < k + j)) T1) (foldS rs k (fun i => decide (i < k + j)) s1) o r) →
      (r :: rs).length = (o :: l).length ∧ foldT (r :: rs) k S T = T' ∧ foldS (r :: rs) k S s = s' ∧ ∀ (j : Nat) (o' : AOp), (o :: l)[j]? = some o' → ∃ r', (r :: rs)[j]? = some r' ∧ Step P (foldT (r :: rs) k (fun i => decide (i < k + j)) T) (foldS (r :: rs) k (fun i => decide (i < k + j)) s) o' r' := by
    intro l rs o r T T1 T' s s1 s' k S hS hT hs hst ih
    obtain ⟨i1, i2, i3, i4⟩ := ih (k + 1) S hS
    refine ⟨by simp [i1], ?_, ?_, ?_⟩
    · simp only [foldT, hS k, if_true]; rw [← hT]; exact i2
    · simp only [foldS, hS k, if_true]; rw [← hs]; exact i3
    · intro j o' hj
      cases j with
      | zero =>
        simp at hj; subst hj
        refine ⟨r, rfl, ?_⟩
        simp only [foldT, foldS, Nat.add_zero, Nat.lt_irrefl, decide_false, Bool.false_eq_true, if_false]
        rw [(none_ rs k T s).1, (none_ rs k T s).2]
        exact hst
      | succ j =>
        obtain ⟨r', h1, h2⟩ := i4 j o' (by simpa using hj)
        refine ⟨r', by simpa using h1, ?_⟩
        simp only [foldT, foldS]
        rw [if_pos (by simp), if_pos (by simp), ← hT, ← hs]
        rw [show k + (j + 1) = k + 1 + j from by omega]
        exact h2
  induction h with
  | nil => intro k S hS; exact ⟨rfl, rfl, rfl, by simp⟩
  | skip hw h ih => intro k S hS; exact go _ _ _ _ _ _ _ _ _ _ k S hS rfl rfl ⟨rfl, .inl ⟨hw, rfl, rfl⟩⟩ ih
  | pure hw hb hv h ih => intro k S hS; exact go _ _ _ _ _ _ _ _ _ _ k S hS rfl rfl ⟨rfl, .inr ⟨hw, hb, .inl ⟨rfl, hv⟩⟩⟩ ih
  | rd hw hb hv h ih => intro k S hS; exact go _ _ _ _ _ _ _ _ _ _ k S hS rfl rfl ⟨rfl, .inr ⟨hw, hb, .inr (.inl ⟨rfl, hv⟩)⟩⟩ ih
  | loud hw hb hv h ih => intro k S hS; exact go _ _ _ _ _ _ _ _ _ _ k S hS rfl rfl ⟨rfl, .inr ⟨hw, hb, .inr (.inr ⟨rfl, hv⟩)⟩⟩ ih
def befOK (ops : Array Oper) (bef : List Nat) : Bool :=
  (List.range ops.size).all fun j => match ops[j]? with
    | none => false
    | some o => (o.after.toList.all fun e => !Region.binds .any e || (decide (e.on < j))) &&
      ((List.range ops.size).all fun i => !((bef.getD j 0).testBit i) || (decide (i < j) && Nat.beq (bef.getD i 0 ||| bef.getD j 0) (bef.getD j 0) && o.after.toList.any fun e => Region.binds .any e && (decide (e.on = i) || (bef.getD e.on 0).testBit i)))
structure BefP (ops : Array Oper) (bef : List Nat) : Prop where
  edge : ∀ j o, ops[j]? = some o → ∀ e ∈ o.after, Region.binds .any e = true → e.on < j
  lt : ∀ j i, j < ops.size → i < ops.size → (bef.getD j 0).testBit i = true → i < j
  clos : ∀ j i o, ops[j]? = some o → i < ops.size → (bef.getD j 0).testBit i = true → ∃ e ∈ o.after, Region.binds .any e = true ∧ (e.on = i ∨ (bef.getD e.on 0).testBit i = true)
theorem befOK_spec {ops : Array Oper} {bef : List Nat} (h : befOK ops bef = true) : BefP ops bef := by
  unfold befOK at h
  rw [List.all_eq_true] at h
  have key : ∀ j o, ops[j]? = some o → (∀ e ∈ o.after, Region.binds .any e = true → e.on < j) ∧ ∀ i, i < ops.size → (bef.getD j 0).testBit i = true → i < j ∧ ∃ e ∈ o.after, Region.binds .any e = true ∧ (e.on = i ∨ (bef.getD e.on 0).testBit i = true) := by
    intro j o ho
    have hj : j < ops.size := (Array.getElem?_eq_some_iff.1 ho).1
    have := h j (List.mem_range.2 hj)
    rw [ho] at this
    simp only [Bool.and_eq_true, List.all_eq_true] at this
    obtain ⟨h1, h2⟩ := this
    refine ⟨fun e he hb => ?_, fun i hi hbit => ?_⟩
    · have := h1 e (by simpa using he)
      simpa [hb] using this
    · have := h2 i (List.mem_range.2 hi)
      rw [hbit] at this
      simp only [Bool.not_true, Bool.false_or, Bool.and_eq_true, List.any_eq_true, Bool.or_eq_true, decide_eq_true_eq] at this
      obtain ⟨⟨g1, g2⟩, e, he, g3, g4⟩ := this
      exact ⟨g1, e, by simpa using he, g3, g4⟩
  refine ⟨fun j o ho => (key j o ho).1, fun j i hj hi hb => ?_, fun j i o ho hi hb => ((key j o ho).2 i hi hb).2⟩
  exact ((key j ops[j] (by simp [hj])).2 i hi hb).1
def compD (bef : List Nat) : Nat → List AOp → List DOp
  | _, [] => []
  | j, a :: l => ⟨a, bef.getD j 0⟩ :: compD bef (j + 1) l
theorem compD_get (bef : List Nat) : ∀ (l : List AOp) (k j : Nat) (a : AOp), l[j]? = some a → (compD bef k l)[j]? = some ⟨a, bef.getD (k + j) 0⟩
  | [], k, j, a, h => by simp at h
  | x :: l, k, 0, a, h => by simp at h; subst h; simp [compD]
  | x :: l, k, j + 1, a, h => by
    simp only [compD, List.getElem?_cons_succ]
    have := compD_get bef l (k + 1) j a (by simpa using h)
    rwa [show k + 1 + j = k + (j + 1) from by omega] at this
theorem compD_ops (bef : List Nat) : ∀ (l : List AOp) (k : Nat), (compD bef k l).map (·.op) = l
  | [], k => rfl
  | x :: l, k => by simp [compD, compD_ops bef l]
theorem compL_get {P : Program} {nt : Nat} {ops : Array Oper} : ∀ (os : List Oper) (l : List AOp), compL P nt ops os = some l → l.length = os.length ∧ ∀ (j : Nat) (o : Oper), os[j]? = some o → ∃ a : AOp, l[j]? = some a ∧ compA P nt ops o = some a
  | [], l, h => by obtain rfl := (Option.some.inj h).symm; exact ⟨rfl, by simp⟩
  | o :: os, l, h => by
    simp only [compL] at h
    split at h
    · cases h
    · rename_i a ha
      split at h
      · cases h
      · rename_i l' hl'
        obtain rfl := (Option.some.inj h).symm
        obtain ⟨h1, h2⟩ := compL_get os l' hl'
        refine ⟨by simp [h1], fun j o' hj => ?_⟩
        cases j with
        | zero => simp at hj; subst hj; exact ⟨a, rfl, ha⟩
        | succ j => simpa using h2 j o' (by simpa using hj)
def pairB (i j : Nat) (x y : DOp) (cx cy : Cls) : Bool :=
  y.bef.testBit i || ((!(cx.isLoud && cy.touch)) && (!(cx.touch && cy.isLoud)) &&
    (match x.op.d with
      | none => true
      | some t => !((gT y.op.g ++ y.op.ai.tmps).contains t)) &&
    (match y.op.d with
      | none => true
      | some t => !((gT x.op.g ++ x.op.ai.tmps).contains t) && !(x.op.d == some t)))
def pairsB (i : Nat) (x : DOp) (cx : Cls) : Nat → List DOp → List Rc → Bool
  | j, y :: l, r :: rs => pairB i j x y cx r.c && pairsB i x cx (j + 1) l rs
  | _, [], [] => true
  | _, _, _ => false
def okDraw : Nat → List DOp → List Rc → Bool
  | i, x :: l, r :: rs => pairsB i x r.c (i + 1) l rs && okDraw (i + 1) l rs
  | _, [], [] => true
  | _, _, _ => false
theorem pairsB_spec {i : Nat} {x : DOp} {cx : Cls} : ∀ (l : List DOp) (rs : List Rc) (j : Nat), pairsB i x cx j l rs = true → ∀ (m : Nat) (y : DOp) (r : Rc), l[m]? = some y → rs[m]? = some r → pairB i (j + m) x y cx r.c = true
  | [], rs, j, h, m, y, r, hy, hr => by simp at hy
  | z :: l, [], j, h, m, y, r, hy, hr => by simp at hr
  | z :: l, q :: rs, j, h, m, y, r, hy, hr => by
    simp only [pairsB, Bool.and_eq_true] at h
    cases m with
    | zero => simp at hy hr; subst hy; subst hr; exact h.1
    | succ m =>
      have := pairsB_spec l rs (j + 1) h.2 m y r (by simpa using hy) (by simpa using hr)
      rwa [show j + 1 + m = j + (m + 1) from by omega] at this
theorem okDraw_spec : ∀ (l : List DOp) (rs : List Rc) (k : Nat), okDraw k l rs = true → ∀ (i j : Nat) (x y : DOp) (q r : Rc), i < j → l[i]? = some x → l[j]? = some y → rs[i]? = some q → rs[j]? = some r → pairB (k + i) (k + j) x y q.c r.c = true
  | [], rs, k, h, i, j, x, y, q, r, hij, hx, hy, hq, hr => by simp at hx
  | z :: l, [], k, h, i, j, x, y, q, r, hij, hx, hy, hq, hr => by simp at hq
  | z :: l, u :: rs, k, h, i, j, x, y, q, r, hij, hx, hy, hq, hr => by
    simp only [okDraw, Bool.and_eq_true] at h
    obtain ⟨j, rfl⟩ : ∃ m, j = m + 1 := ⟨j - 1, by omega⟩
    cases i with
    | zero =>
      simp at hx hq; subst hx; subst hq
      have := pairsB_spec l rs (k + 1) h.1 j y r (by simpa using hy) (by simpa using hr)
      rw [Nat.add_zero]
      rwa [show k + 1 + j = k + (j + 1) from by omega] at this
    | succ i =>
      have := okDraw_spec l rs (k + 1) h.2 i j x y q r (by omega) (by simpa using hx) (by simpa using hy) (by simpa using hq) (by simpa using hr)
      rwa [show k + 1 + i = k + (i + 1) from by omega, show k + 1 + j = k + (j + 1) from by omega] at this
end Go.Sy
end
section
namespace Go.Sy
open Go
set_option linter.unusedVariables false
set_option linter.unusedSimpArgs false
theorem set_getD {L : Array Bool} {j : Nat} (hj : j < L.size) (i : Nat) : (L.setIfInBounds j true).getD i false = if i = j then true else L.getD i false := by
  by_cases h : i = j
  · subst h; rw [if_pos rfl, Array.getD_eq_getD_getElem?, Array.getElem?_setIfInBounds_self_of_lt hj]; rfl
  · rw [if_neg h, Array.getD_eq_getD_getElem?, Array.getElem?_setIfInBounds_ne (Ne.symm h), ← Array.getD_eq_getD_getElem?]
theorem filt_lt {p p' : Nat → Bool} (h : ∀ x, p' x = true → p x = true) {j : Nat} (h1 : p j = true) (h2 : p' j = false) : ∀ (l : List Nat), j ∈ l → (l.filter p').length < (l.filter p).length := by
  have le : ∀ l : List Nat, (l.filter p').length ≤ (l.filter p).length := by
    intro l
    induction l with
    | nil => simp
    | cons x l ih =>
      rw [List.filter_cons, List.filter_cons]
      cases e' : p' x with
      | true => simp [h x e', ih]
      | false => cases p x <;> simp <;> omega
  intro l
  induction l with
  | nil => intro h; cases h
  | cons x l ih =>
    intro hm
    rw [List.filter_cons, List.filter_cons]
    rcases List.mem_cons.1 hm with rfl | hm
    · rw [h1, h2]; have := le l; simp; omega
    · have := ih hm
      cases e' : p' x with
      | true => simp [h x e', this]
      | false => cases p x <;> simp <;> omega
structure DI (nt : Nat) (bef : List Nat) (n : Nat) (rs : List Rc) (σ0 : Env) (T0 : Tm) (s0 : St) (a0 : Act) (w0 : World) (L : Array Bool) (σ : Env) (a : Act) (w : World) : Prop where
  sz : L.size = n
  t : TR σ (foldT rs 0 (fun i => L.getD i false) T0) a
  nt : nt ≤ a.tmps.size
  df : a.defers = a0.defers
  good : Good σ0 s0 w0 σ (foldS rs 0 (fun i => L.getD i false) s0) w
  down : ∀ j, L.getD j false = true → ∀ i, i < n → (bef.getD j 0).testBit i = true → L.getD i false = true
structure DA (P : Program) (nt : Nat) (ops : Array Oper) (bef : List Nat) (T0 : Tm) (s0 : St) (rs : List Rc) : Prop where
  bp : BefP ops bef
  len : rs.length = ops.size
  at_ : ∀ (j : Nat) (o : Oper), ops[j]? = some o → ∃ (r : Rc) (a : AOp), rs[j]? = some r ∧ compA P nt ops o = some a ∧ Step P (foldT rs 0 (fun i => decide (i < j)) T0) (foldS rs 0 (fun i => decide (i < j)) s0) a r
  pair : ∀ (i j : Nat) (x y : Oper) (ax ay : AOp) (q r : Rc), i < j → ops[i]? = some x → ops[j]? = some y → compA P nt ops x = some ax → compA P nt ops y = some ay → rs[i]? = some q → rs[j]? = some r →
    (bef.getD j 0).testBit i = true ∨ ((q.c.isLoud = true → r.c.touch = false) ∧ (q.c.touch = true → r.c.isLoud = false) ∧ (∀ t, q.d = some t → t ∉ gT ay.g ++ ay.ai.tmps) ∧ ∀ t, r.d = some t → t ∉ gT ax.g ++ ax.ai.tmps ∧ q.d ≠ some t)
section
variable {P : Program} {nt : Nat} {ops : Array Oper} {bef : List Nat} {T0 : Tm} {s0 : St} {rs : List Rc} {σ0 σ : Env} {a0 a : Act} {w0 w : World} {L : Array Bool}
theorem loud_touch {c : Cls} (h : c.isLoud = true) : c.touch = true := by cases c <;> first | rfl | cases h
theorem DI.step (hA : DA P nt ops bef T0 s0 rs) {Q : Exit → Act → World → Prop} (hD : DI nt bef ops.size rs σ0 T0 s0 a0 w0 L σ a w) {j : Nat} (hj : j ∈ Region.ready .any ops L) {K : Act → World → Prop} (hK : ∀ σ' a' w', DI nt bef ops.size rs σ0 T0 s0 a0 w0 (L.setIfInBounds j true) σ' a' w' → K a' w') : wpOp P ops Q j K a w := by
  obtain ⟨hun, o, ho, hedge⟩ := mem_ready.1 hj
  have hjn : j < ops.size := (Array.getElem?_eq_some_iff.1 ho).1
  have hjs : j < L.size := by rw [hD.sz]; exact hjn
  have hun : L.getD j false = false := by
    rw [Array.getD_eq_getD_getElem?, getElem?_pos L j hjs] at hun ⊢
    exact hun
  obtain ⟨r, ao, hr, hao, hst⟩ := hA.at_ j o ho
  have hpre : ∀ i, i < ops.size → (bef.getD j 0).testBit i = true → L.getD i false = true := by
    intro i hi hb
    obtain ⟨e, h1, h2, h3⟩ := hA.bp.clos j i o ho hi hb
    rcases h3 with rfl | h3
    · exact hedge e h1 h2
    · exact hD.down e.on (hedge e h1 h2) i hi h3
  obtain ⟨hgd, hai, hd, hdn⟩ := compA_parts hao
  have hrd : r.d = o.dst := by rw [hst.d, ← hd]
  have hdn' : ∀ k, o.dst = some k → k < a.tmps.size := fun k hk => Nat.lt_of_lt_of_le (hdn k hk) hD.nt
  have idx : ∀ {i : Nat} {q : Rc}, rs[i]? = some q → i < ops.size ∧ ∃ x ax, ops[i]? = some x ∧ compA P nt ops x = some ax := by
    intro i q hq
    have hi : i < ops.size := by rw [← hA.len]; exact (List.getElem?_eq_some_iff.1 hq).1
    obtain ⟨q', ax, h1, h2, h3⟩ := hA.at_ i ops[i] (by simp [hi])
    exact ⟨hi, ops[i], ax, by simp [hi], h2⟩
  -- later ones that were carried out do not hang on this one
  have later : ∀ {i : Nat} {q : Rc}, rs[i]? = some q → j < i → L.getD i false = true → (bef.getD i 0).testBit j = false := by
    intro i q hq hji hL
    cases hb : (bef.getD i 0).testBit j with
    | false => rfl
    | true => rw [hD.down i hL j hjn hb] at hun; cases hun
  have same : ∀ t, t ∈ gT ao.g ++ ao.ai.tmps → (foldT rs 0 (fun i => decide (i < j)) T0).get t = (foldT rs 0 (fun i => L.getD i false) T0).get t := by
    intro t ht
    refine foldT_congr rs 0 _ _ T0 T0 (fun i q hq hqd => ?_) rfl
    simp only [Nat.zero_add]
    obtain ⟨hi, x, ax, hx, hax⟩ := idx hq
    rcases Nat.lt_trichotomy i j with h | h | h
    · rw [decide_eq_true h]
      rcases hA.pair i j x o ax ao q r h hx ho hax hao hq hr with hb | ⟨_, _, h3, _⟩
      · exact (hpre i hi hb).symm
      · exact absurd ht (h3 t hqd)
    · subst h; rw [hun]; simp
    · rw [decide_eq_false (by omega)]
      cases hL : L.getD i false with
      | false => rfl
      | true =>
        exfalso
        rcases hA.pair j i o x ao ax r q h ho hx hao hax hr hq with hb | ⟨_, _, _, h4⟩
        · rw [later hq h hL] at hb; cases hb
        · exact (h4 t hqd).1 ht
  have sameS : r.c.touch = true → foldS rs 0 (fun i => decide (i < j)) s0 = foldS rs 0 (fun i => L.getD i false) s0 := by
    intro ht
    refine foldS_congr rs 0 _ _ s0 (fun i q hq hql => ?_)
    simp only [Nat.zero_add]
    obtain ⟨hi, x, ax, hx, hax⟩ := idx hq
    rcases Nat.lt_trichotomy i j with h | h | h
    · rw [decide_eq_true h]
      rcases hA.pair i j x o ax ao q r h hx ho hax hao hq hr with hb | ⟨h1, _, _, _⟩
      · exact (hpre i hi hb).symm
      · rw [h1 hql] at ht; cases ht
    · subst h; rw [hun]; simp
    · rw [decide_eq_false (by omega)]
      cases hL : L.getD i false with
      | false => rfl
      | true =>
        exfalso
        rcases hA.pair j i o x ao ax r q h ho hx hao hax hr hq with hb | ⟨_, h2, _, _⟩
        · rw [later hq h hL] at hb; cases hb
        · rw [h2 ht] at hql; cases hql
  have hor : OR σ (foldT rs 0 (fun i => decide (i < j)) T0) (gT ao.g ++ ao.ai.tmps) a := fun t ht v hv => hD.t t v (by rw [← same t ht]; exact hv)
  -- behind it
  have frame : ∀ {σ' : Env} {x : Value} {w' : World}, σ.Ext σ' → VR σ' r.v x → Good σ (foldS rs 0 (fun i => L.getD i false) s0) w σ' (foldS rs 0 (fun i => (L.setIfInBounds j true).getD i false) s0) w' → DI nt bef ops.size rs σ0 T0 s0 a0 w0 (L.setIfInBounds j true) σ' (a.put o.dst x) w' := by
    intro σ' x w' he hv hg
    refine ⟨by simp [hD.sz], ?_, by rw [put_size]; exact hD.nt, by rw [put_defers]; exact hD.df, hD.good.trans hg, ?_⟩
    · have hput := (hD.t.ext he).put (d := o.dst) hdn' hv
      intro t u hu
      refine hput t u ?_
      rw [putT_get]
      by_cases hdt : o.dst = some t
      · rw [if_pos hdt]
        rw [← hu]
        refine (foldT_last rs 0 j _ T0 r hr (by rw [Nat.zero_add, set_getD hjs, if_pos rfl]) (by rw [hrd]; exact hdt) (fun i q hi hq hs hqd => ?_)).symm
        rw [Nat.zero_add, set_getD hjs, if_neg (by omega)] at hs
        obtain ⟨hi', x', ax, hx, hax⟩ := idx hq
        rcases hA.pair j i o x' ao ax r q hi ho hx hao hax hr hq with hb | ⟨_, _, _, h4⟩
        · rw [later hq hi hs] at hb; cases hb
        · exact (h4 t hqd).2 (by rw [hrd]; exact hdt)
      · rw [if_neg hdt, ← hu]
        refine foldT_congr rs 0 _ _ T0 T0 (fun i q hq hqd => ?_) rfl
        rw [Nat.zero_add, set_getD hjs]
        by_cases hij : i = j
        · subst hij
          rw [hr] at hq
          obtain rfl := Option.some.inj hq
          exact absurd (by rw [← hrd]; exact hqd) hdt
        · rw [if_neg hij]
    · intro i hi k hk hb
      rw [set_getD hjs] at hi ⊢
      split
      · rfl
      · split at hi
        · rename_i e; subst e; exact hpre k hk hb
        · exact hD.down i hi k hk hb
  have quiet : r.c.isLoud = false → foldS rs 0 (fun i => (L.setIfInBounds j true).getD i false) s0 = foldS rs 0 (fun i => L.getD i false) s0 := by
    intro hq
    refine foldS_congr rs 0 _ _ s0 (fun i q hqi hql => ?_)
    rw [Nat.zero_add, set_getD hjs]
    by_cases hij : i = j
    · subst hij
      rw [hr] at hqi
      obtain rfl := Option.some.inj hqi
      rw [hq] at hql; cases hql
    · rw [if_neg hij]
  have hh := hD.good.hr
  unfold wpOp
  rw [ho]
  rcases hst.run with ⟨hw, h1, h2⟩ | ⟨hw, hok, hrun⟩
  · have hwant := wants_sound (hor.l) hgd hw
    simp only [hwant, Bool.false_eq_true, if_false]
    refine hK _ _ _ (frame (.refl _) (by rw [h1]; exact VRundef) ?_)
    rw [quiet (by rw [h2]; rfl)]
    exact .refl hh
  · have hwant := wants_sound (hor.l) hgd hw
    simp only [hwant, if_true]
    have hcomp : Comp P o.op ao.ai := by
      rcases comp_or hai with h | h
      · exact h
      · rw [h] at hok; cases hok
    rcases hrun with ⟨hc, hv⟩ | ⟨hc, hv⟩ | ⟨hc, hv⟩
    · refine .inl (hv _ o hcomp σ w a hh hor.r _ _ (fun x σ' w' q1 q2 => hK _ _ _ (frame q2.ext q1 ?_)))
      rw [quiet (by rw [hc]; rfl)]
      exact q2
    · rw [sameS (by rw [hc]; rfl)] at hv
      refine .inl (hv o hcomp σ w a hh hor.r _ _ (fun x σ' w' q1 q2 => hK _ _ _ (frame q2.ext q1 ?_)))
      rw [quiet (by rw [hc]; rfl)]
      exact q2
    · rw [sameS (by rw [hc]; rfl)] at hv
      refine .inl (hv o hcomp σ w a hh hor.r _ _ (fun x σ' w' q1 q2 => hK _ _ _ (frame q2.ext q1 ?_)))
      rw [foldS_last rs 0 j (fun i => (L.setIfInBounds j true).getD i false) s0 r hr (by rw [Nat.zero_add, set_getD hjs, if_pos rfl]) (by rw [hc]; rfl) (fun i q hi hq hs => ?_)]
      · exact q2
      · rw [Nat.zero_add, set_getD hjs, if_neg (by omega)] at hs
        obtain ⟨hi', x', ax, hx, hax⟩ := idx hq
        rcases hA.pair j i o x' ao ax r q hi ho hx hao hax hr hq with hb | ⟨h1, _, _, _⟩
        · rw [later hq hi hs] at hb; cases hb
        · have := h1 (by rw [hc]; rfl)
          cases hql : q.c.isLoud with
          | false => rfl
          | true => rw [loud_touch hql] at this; cases this
theorem DI.all (hA : DA P nt ops bef T0 s0 rs) {Q : Exit → Act → World → Prop}
    (hQ : ∀ L σ a w, DI nt bef ops.size rs σ0 T0 s0 a0 w0 L σ a w → (∀ i, i < ops.size → L.getD i false = true) → Q .normal a w) :
    ∀ (fuel : Nat) (L : Array Bool) (σ : Env) (a : Act) (w : World), DI nt bef ops.size rs σ0 T0 s0 a0 w0 L σ a w → ((List.range ops.size).filter fun i => !L.getD i false).length ≤ fuel → wpAny P .any ops Q fuel L a w := by
  have full : ∀ L σ a w, DI nt bef ops.size rs σ0 T0 s0 a0 w0 L σ a w → Region.ready .any ops L = [] → ∀ i, i < ops.size → L.getD i false = true := by
    intro L σ a w hD hnil i
    induction i using Nat.strongRecOn with
    | _ i ih =>
      intro hi
      cases hL : L.getD i false with
      | true => rfl
      | false =>
        exfalso
        have : i ∈ Region.ready .any ops L := by
          rw [mem_ready]
          refine ⟨?_, ops[i], by simp [hi], fun e he hb => ?_⟩
          · rw [Array.getD_eq_getD_getElem?, getElem?_pos L i (by rw [hD.sz]; exact hi)] at hL ⊢
            exact hL
          · have hlt := hA.bp.edge i ops[i] (by simp [hi]) e he hb
            exact ih e.on hlt (by omega)
        rw [hnil] at this
        cases this
  intro fuel
  induction fuel with
  | zero =>
    intro L σ a w hD hle
    have hall : ∀ i, i < ops.size → L.getD i false = true := by
      intro i hi
      have : (List.range ops.size).filter (fun i => !L.getD i false) = [] := List.length_eq_zero_iff.1 (by omega)
      rw [List.filter_eq_nil_iff] at this
      have := this i (List.mem_range.2 hi)
      simpa using this
    refine ⟨?_, hQ L σ a w hD hall⟩
    cases hrd : Region.ready .any ops L with
    | nil => rfl
    | cons i l =>
      exfalso
      have hm : i ∈ Region.ready .any ops L := by rw [hrd]; exact List.mem_cons_self ..
      obtain ⟨hun, o, ho, _⟩ := mem_ready.1 hm
      have hi : i < ops.size := (Array.getElem?_eq_some_iff.1 ho).1
      have h1 := hall i hi
      rw [Array.getD_eq_getD_getElem?, getElem?_pos L i (by rw [hD.sz]; exact hi)] at h1 hun
      simp only [Option.getD_some] at h1 hun
      rw [h1] at hun; cases hun
  | succ fuel ih =>
    intro L σ a w hD hle
    refine ⟨fun hnil => hQ L σ a w hD (full L σ a w hD hnil), fun j hj => ?_⟩
    refine DI.step hA hD hj (fun σ' a' w' hD' => ih _ σ' a' w' hD' ?_)
    obtain ⟨hun, o, ho, _⟩ := mem_ready.1 hj
    have hjn : j < ops.size := (Array.getElem?_eq_some_iff.1 ho).1
    have hjs : j < L.size := by rw [hD.sz]; exact hjn
    have hun : L.getD j false = false := by
      rw [Array.getD_eq_getD_getElem?, getElem?_pos L j hjs] at hun ⊢
      exact hun
    have := filt_lt (p := fun i => !L.getD i false) (p' := fun i => !(L.setIfInBounds j true).getD i false) (fun x hx => by
      rw [set_getD hjs] at hx
      by_cases hxj : x = j
      · rw [if_pos hxj] at hx; cases hx
      · rw [if_neg hxj] at hx; exact hx) (j := j) (by rw [hun]; rfl) (by rw [set_getD hjs, if_pos rfl]; rfl) (List.range ops.size) (List.mem_range.2 hjn)
    omega
theorem draw_sound {id : Nat} (hm : P.follows .mixedOrders = true) (hbef : befOK ops bef = true) {l : List AOp} (hc : compL P nt ops ops.toList = some l) {T T' : Tm} {s s' : St} {rs : List Rc} (hr : SReg P l T s rs T' s') (hok : okDraw 0 (compD bef 0 l) rs = true)
    (h : TR σ T a) (hh : HR σ s w) (hnt : nt ≤ a.tmps.size) {Q : Exit → Act → World → Prop}
    (hk : ∀ σ' a' w', TR σ' T' a' → nt ≤ a'.tmps.size → a'.defers = a.defers → Good σ s w σ' s' w' → Q .normal a' w') : (Code.region id ops true).wp P Q a w := by
  obtain ⟨hlen, hget⟩ := compL_get _ _ hc
  obtain ⟨h1, h2, h3, h4⟩ := sreg_at hr 0 (fun _ => true) (fun _ => rfl)
  have hlen : l.length = ops.size := hlen.trans Array.length_toList
  have hA : DA P nt ops bef T s rs := by
    refine ⟨befOK_spec hbef, by omega, fun j o ho => ?_, fun i j x y ax ay q r hij hx hy hax hay hq hr' => ?_⟩
    · obtain ⟨ao, q1, q2⟩ := hget j o (by simpa using ho)
      obtain ⟨r, r1, r2⟩ := h4 j ao q1
      refine ⟨r, ao, r1, q2, ?_⟩
      simpa using r2
    · obtain ⟨ax', q1, q2⟩ := hget i x (by simpa using hx)
      obtain ⟨ay', q3, q4⟩ := hget j y (by simpa using hy)
      rw [hax] at q2
      rw [hay] at q4
      obtain rfl := Option.some.inj q2
      obtain rfl := Option.some.inj q4
      have c1 := compD_get bef l 0 i ax q1
      have c2 := compD_get bef l 0 j ay q3
      rw [Nat.zero_add] at c1 c2
      have hp := okDraw_spec _ rs 0 hok i j _ _ q r hij c1 c2 hq hr'
      obtain ⟨q', d1, d2⟩ := h4 i ax q1
      obtain ⟨r', d3, d4⟩ := h4 j ay q3
      rw [hq] at d1
      rw [hr'] at d3
      obtain rfl := Option.some.inj d1
      obtain rfl := Option.some.inj d3
      have e1 := d2.d
      have e2 := d4.d
      unfold pairB at hp
      rw [Bool.or_eq_true, Nat.zero_add] at hp
      rcases hp with hp | hp
      · exact .inl hp
      · right
        simp only [Bool.and_eq_true, Bool.not_eq_true', Bool.and_eq_false_iff] at hp
        obtain ⟨⟨⟨p1, p2⟩, p3⟩, p4⟩ := hp
        refine ⟨fun hq => ?_, fun hq => ?_, fun t ht => ?_, fun t ht => ?_⟩
        · rcases p1 with p1 | p1
          · rw [p1] at hq; cases hq
          · exact p1
        · rcases p2 with p2 | p2
          · rw [p2] at hq; cases hq
          · exact p2
        · rw [e1] at ht
          rw [ht] at p3
          simpa using p3
        · rw [e2] at ht
          rw [ht] at p4
          simp only [Bool.and_eq_true, Bool.not_eq_true', beq_eq_false_iff_ne] at p4
          exact ⟨by simpa using p4.1, by rw [e1]; exact p4.2⟩
  refine wp_region_any hm ?_
  have hnil : ∀ i, (Array.replicate ops.size false).getD i false = false := by
    intro i
    rw [Array.getD_eq_getD_getElem?, Array.getElem?_replicate]
    split <;> rfl
  have hT0 : ∀ t, (foldT rs 0 (fun i => (Array.replicate ops.size false).getD i false) T).get t = T.get t := fun t => foldT_none rs 0 _ T (fun i r _ hs => by rw [hnil] at hs; cases hs)
  have hS0 : foldS rs 0 (fun i => (Array.replicate ops.size false).getD i false) s = s := foldS_none rs 0 _ s (fun i r _ hs => by rw [hnil] at hs; cases hs)
  have start : DI nt bef ops.size rs σ T s a w (Array.replicate ops.size false) σ a { w with drawn := w.drawn + 1 } :=
    ⟨by simp, fun t v ht => h t v (by rw [← hT0]; exact ht), hnt, rfl, by rw [hS0]; exact Good.drew hh, fun j hs => by rw [hnil] at hs; cases hs⟩
  refine DI.all hA (fun L σ' a' w' hD hall => ?_) ops.size _ σ a _ start (Nat.le_trans (List.length_filter_le _ _) (by simp))
  have hT1 : ∀ t, (foldT rs 0 (fun i => L.getD i false) T).get t = T'.get t := fun t => by
    rw [← h2]
    refine foldT_congr rs 0 _ _ T T (fun i r hr _ => ?_) rfl
    rw [Nat.zero_add]
    exact hall i (by have := (List.getElem?_eq_some_iff.1 hr).1; omega)
  have hS1 : foldS rs 0 (fun i => L.getD i false) s = s' := by
    rw [← h3]
    refine foldS_congr rs 0 _ _ s (fun i r hr _ => ?_)
    rw [Nat.zero_add]
    exact hall i (by have := (List.getElem?_eq_some_iff.1 hr).1; omega)
  have hg := hD.good
  rw [hS1] at hg
  exact hk σ' a' w' (fun t v ht => hD.t t v (by rw [hT1]; exact ht)) hD.nt hD.df hg
end
end Go.Sy
end
