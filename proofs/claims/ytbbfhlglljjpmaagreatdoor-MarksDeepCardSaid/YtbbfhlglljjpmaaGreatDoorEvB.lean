import Derived.Test.YtbbfhlglljjpmaaGreatDoorEvA
import Derived.Laws.IdiomCopy
namespace Go.Ev
open Go
set_option linter.unusedVariables false
variable [Theta]
set_option linter.unusedSectionVars false

inductive Blk where
  | row (elem esz : Nat) (cells : Tr AV) (used : Nat) (exact : Bool) (fz : Nat)
  | iter (len n pos : Nat)

def cellsOk (σ : Env) (cells : Tr AV) (c : Array Value) : Prop := ∀ j a, cells.get j = some a → ∃ x, c[j]? = some x ∧ VR σ a x

def BR (σ : Env) (κ : Nat) : Blk → Obj → Prop
  | .row e esz cells used exact fz, o => ∃ c lo hi, o = .cells c e (lo, hi) ∧ cellsOk σ cells c ∧ used ≤ c.size ∧ (exact = true → c.size = used) ∧ (exact = false → c.size = κ * esz) ∧
      (fz ≤ 1 → ∀ j, j < c.size → ¬ (lo ≤ j ∧ j < hi)) ∧ (fz = 0 → ∀ j, ¬ (lo ≤ j ∧ j < hi)) ∧ (∀ j a, cells.get j = some a → j < used)
  | .iter len n pos, o => ∃ bs : ByteArray, o = .stringIter bs pos ∧ bs.size = len ∧ bval bs.data.toList = n

theorem cellsOk.ext {σ σ' : Env} (h : σ.Ext σ') {t : Tr AV} {c : Array Value} (k : cellsOk σ t c) : cellsOk σ' t c :=
  fun j a e => let ⟨x, h1, h2⟩ := k j a e; ⟨x, h1, VR.ext h _ _ h2⟩
theorem BR.ext {σ σ' : Env} (h : σ.Ext σ') {κ : Nat} {b : Blk} {o : Obj} (k : BR σ κ b o) : BR σ' κ b o := by
  cases b with
  | row e esz cells used exact fz => obtain ⟨c, lo, hi, h1, h2, h3⟩ := k; exact ⟨c, lo, hi, h1, h2.ext h, h3⟩
  | iter => exact k

structure St where
  H : Tr Blk
  nxt : Nat
  W : Nat

/-- The parameters: ids below ng are the program's variables, ids below n0 are only read. -/
structure Px where
  n0 : Nat
  ng : Nat
  B : Nat
  lim : Nat

structure HR (p : Px) (σ : Env) (s : St) (w : World) : Prop where
  blk : ∀ b k, s.H.get b = some k → ∃ r κ o, σ b = some (r, κ) ∧ w.heap[r]? = some o ∧ BR σ κ k o
  inj : ∀ b b' k k' r κ κ', s.H.get b = some k → s.H.get b' = some k' → σ b = some (r, κ) → σ b' = some (r, κ') → b = b'
  fresh : ∀ b, s.nxt ≤ b → b < p.lim → σ b = none
  low : ∀ b r κ, p.n0 ≤ b → σ b = some (r, κ) → p.B ≤ r
  lt : ∀ b r κ, σ b = some (r, κ) → r < w.heap.size
  glob : ∀ b, b < p.ng → ∃ κ, σ b = some (b, κ)
  wlow : ∀ b, s.W.testBit b = true → p.n0 ≤ b
  base : p.B ≤ w.heap.size
  n0 : p.n0 ≤ s.nxt
  g0 : p.ng ≤ s.nxt
  dom : ∀ b k, s.H.get b = some k → b < s.nxt

structure Keep (σ : Env) (H : Tr Blk) (W : Nat) (w w' : World) : Prop where
  os : w'.os = w.os
  tape : w'.tape = w.tape
  output : w'.output = w.output
  size : w.heap.size ≤ w'.heap.size
  same : ∀ k, k < w.heap.size → (∀ b x κ, H.get b = some x → W.testBit b = true → σ b ≠ some (k, κ)) → w'.heap[k]? = w.heap[k]?

structure Good (p : Px) (σ : Env) (s : St) (w : World) (σ' : Env) (s' : St) (w' : World) : Prop where
  ext : σ.Ext σ'
  hr : HR p σ' s' w'
  keep : Keep σ s.H s'.W w w'
  mono : ∀ b, s.W.testBit b = true → s'.W.testBit b = true
  old : ∀ b k q, s'.H.get b = some k → σ b = some q → ∃ k0, s.H.get b = some k0
  nw : ∀ b r κ, σ b = none → σ' b = some (r, κ) → (s.nxt ≤ b ∧ b < s'.nxt) ∧ (w.heap.size ≤ r ∨ ∃ b0 k0 κ0, s.H.get b0 = some k0 ∧ σ b0 = some (r, κ0) ∧ s'.W.testBit b0 = true)
  nx : s.nxt ≤ s'.nxt

theorem Keep.refl (σ : Env) (H : Tr Blk) (W : Nat) (w : World) : Keep σ H W w w := ⟨rfl, rfl, rfl, Nat.le_refl _, fun _ _ _ => rfl⟩
theorem nw_same {P : Prop} {σ : Env} {b : Nat} {q : Nat × Nat} (h1 : σ b = none) (h2 : σ b = some q) : P := by rw [h1] at h2; cases h2
theorem Good.refl {p : Px} {σ : Env} {s : St} {w : World} (h : HR p σ s w) : Good p σ s w σ s w := ⟨.refl _, h, .refl _ _ _ _, fun _ h => h, fun b k q h _ => ⟨k, h⟩, fun b r κ h1 h2 => nw_same h1 h2, Nat.le_refl _⟩
theorem Good.trans {p : Px} {σ σ1 σ2 : Env} {s s1 s2 : St} {w w1 w2 : World} (h : Good p σ s w σ1 s1 w1) (k : Good p σ1 s1 w1 σ2 s2 w2) : Good p σ s w σ2 s2 w2 := by
  refine ⟨h.ext.trans k.ext, k.hr, ⟨k.keep.os.trans h.keep.os, k.keep.tape.trans h.keep.tape, k.keep.output.trans h.keep.output, Nat.le_trans h.keep.size k.keep.size, ?_⟩, fun b hb => k.mono b (h.mono b hb), ?_, ?_, Nat.le_trans h.nx k.nx⟩
  · intro i hi hn
    refine (k.keep.same i (Nat.lt_of_lt_of_le hi h.keep.size) ?_).trans (h.keep.same i hi (fun b x κ hx hb he => hn b x κ hx (k.mono b hb) he))
    intro b x κ hx hb he
    cases hs : σ b with
    | some q =>
      obtain ⟨k0, hk0⟩ := h.old b x q hx hs
      have := h.ext _ _ hs
      rw [this] at he
      obtain rfl := Option.some.inj he
      exact hn b k0 κ hk0 hb hs
    | none =>
      rcases (h.nw b i κ hs he).2 with h1 | ⟨b0, k0, κ0, h1, h2, h3⟩
      · omega
      · exact hn b0 k0 κ0 h1 (k.mono _ h3) h2
  · intro b x q hx hs
    obtain ⟨k1, hk1⟩ := k.old b x q hx (h.ext _ _ hs)
    exact h.old b k1 q hk1 hs
  · intro b r κ hs he
    cases hs1 : σ1 b with
    | some q =>
      have := k.ext _ _ hs1
      rw [this] at he
      obtain rfl := Option.some.inj he
      obtain ⟨hr, hh⟩ := h.nw b r κ hs hs1
      refine ⟨⟨hr.1, Nat.lt_of_lt_of_le hr.2 k.nx⟩, ?_⟩
      rcases hh with h1 | ⟨b0, k0, κ0, h1, h2, h3⟩
      · exact .inl h1
      · exact .inr ⟨b0, k0, κ0, h1, h2, k.mono _ h3⟩
    | none =>
      obtain ⟨hr, hh⟩ := k.nw b r κ hs1 he
      refine ⟨⟨Nat.le_trans h.nx hr.1, hr.2⟩, ?_⟩
      rcases hh with h1 | ⟨b0, k0, κ0, h1, h2, h3⟩
      · exact .inl (Nat.le_trans h.keep.size h1)
      · cases hs0 : σ b0 with
        | some q =>
          obtain ⟨k00, hk00⟩ := h.old b0 k0 q h1 hs0
          have := h.ext _ _ hs0
          rw [this] at h2
          obtain rfl := Option.some.inj h2
          exact .inr ⟨b0, k00, κ0, hk00, hs0, h3⟩
        | none =>
          rcases (h.nw b0 r κ0 hs0 h2).2 with g1 | ⟨b1, k1, κ1, g1, g2, g3⟩
          · exact .inl g1
          · exact .inr ⟨b1, k1, κ1, g1, g2, k.mono _ g3⟩

theorem HR.drew {p : Px} {σ : Env} {s : St} {w : World} (h : HR p σ s w) : HR p σ s w.drew := ⟨h.blk, h.inj, h.fresh, h.low, h.lt, h.glob, h.wlow, h.base, h.n0, h.g0, h.dom⟩
theorem Good.drew {p : Px} {σ : Env} {s : St} {w : World} (h : HR p σ s w) : Good p σ s w σ s w.drew := ⟨.refl _, h.drew, ⟨rfl, rfl, rfl, Nat.le_refl _, fun _ _ _ => rfl⟩, fun _ h => h, fun b k q h _ => ⟨k, h⟩, (fun b r κ h1 h2 => nw_same h1 h2), Nat.le_refl _⟩

/-! Reading cells -/
noncomputable def ldC (t : Tr AV) (n : Nat) : Nat → Option AVs :=
  Nat.rec (motive := fun _ => Nat → Option AVs) (fun _ => some .nil) (fun _ ih off => match t.get off with
    | none => none
    | some a => match ih (off + 1) with
      | none => none
      | some l => some (.cons a l)) n
theorem ldC_succ (t : Tr AV) (n off : Nat) : ldC t (n + 1) off = match t.get off with
    | none => none
    | some a => match ldC t n (off + 1) with
      | none => none
      | some l => some (.cons a l) := rfl

theorem HR.row {p : Px} {σ : Env} {s : St} {w : World} (h : HR p σ s w) {b e esz used : Nat} {cells : Tr AV} {ex : Bool} {fz : Nat} (hb : s.H.get b = some (.row e esz cells used ex fz)) {r κ : Nat} (hs : σ b = some (r, κ)) :
    ∃ c lo hi, w.heap[r]? = some (.cells c e (lo, hi)) ∧ cellsOk σ cells c ∧ used ≤ c.size ∧ (ex = true → c.size = used) ∧ (ex = false → c.size = κ * esz) ∧ (fz ≤ 1 → ∀ j, j < c.size → ¬ (lo ≤ j ∧ j < hi)) ∧ (fz = 0 → ∀ j, ¬ (lo ≤ j ∧ j < hi)) ∧ (∀ j a, cells.get j = some a → j < used) := by
  obtain ⟨r', κ', o, h1, h2, c, lo, hi, rfl, h3⟩ := h.blk b _ hb
  rw [hs] at h1
  obtain ⟨rfl, rfl⟩ := Prod.mk.inj (Option.some.inj h1)
  exact ⟨c, lo, hi, h2, h3⟩

theorem cell_of_heap {w : World} {r e lo hi : Nat} {c : Array Value} (h : w.heap[r]? = some (.cells c e (lo, hi))) (j : Nat) : w.cell? ⟨r, j, none⟩ = c[j]? := by
  simp [World.cell?, h]
theorem frozen_of_heap {w : World} {r e lo hi : Nat} {c : Array Value} (h : w.heap[r]? = some (.cells c e (lo, hi))) (j : Nat) : w.frozen? ⟨r, j, none⟩ = (decide (lo ≤ j) && decide (j < hi)) := by
  simp [World.frozen?, h]

theorem HR.ld {p : Px} {σ : Env} {s : St} {w : World} (h : HR p σ s w) {b e esz used off : Nat} {cells : Tr AV} {ex : Bool} {fz : Nat} (hb : s.H.get b = some (.row e esz cells used ex fz)) {r κ : Nat} (hs : σ b = some (r, κ)) {a : AV}
    (ha : cells.get off = some a) : ∃ x, w.cell? ⟨r, off, none⟩ = some x ∧ VR σ a x := by
  obtain ⟨c, lo, hi, h1, h2, _⟩ := h.row hb hs
  obtain ⟨x, hx, hv⟩ := h2 _ _ ha
  exact ⟨x, by rw [cell_of_heap h1, hx], hv⟩

theorem ldC_cells {σ : Env} {t : Tr AV} {c : Array Value} (hc : cellsOk σ t c) : ∀ (n off : Nat) (l : AVs), ldC t n off = some l → ∃ xs : List Value, xs.length = n ∧ VRs σ l xs ∧ ∀ j u, xs[j]? = some u → c[off + j]? = some u := by
  intro n
  induction n with
  | zero =>
    intro off l h
    obtain rfl : l = .nil := (Option.some.inj h).symm
    exact ⟨[], rfl, by simp only [VRs], by simp⟩
  | succ n ih =>
    intro off l h
    rw [ldC_succ] at h
    cases ha : t.get off with
    | none => rw [ha] at h; cases h
    | some a =>
      rw [ha] at h
      cases hr : ldC t n (off + 1) with
      | none => rw [hr] at h; cases h
      | some l' =>
        rw [hr] at h
        obtain rfl := (Option.some.inj h).symm
        obtain ⟨xs, h1, h2, h3⟩ := ih _ _ hr
        obtain ⟨x, hx, hv⟩ := hc _ _ ha
        refine ⟨x :: xs, by simp [h1], by simp only [VRs]; exact ⟨x, xs, rfl, hv, h2⟩, ?_⟩
        intro j u hj
        cases j with
        | zero => simp at hj; subst hj; exact hx
        | succ j => simp at hj; have := h3 j u hj; rwa [show off + (j + 1) = off + 1 + j from by omega]

theorem add_none (r off n : Nat) : (⟨r, off, none⟩ : Addr).add n = ⟨r, off + n, none⟩ := by
  unfold Addr.add; split
  · subst n; rfl
  · rfl

theorem HR.ldn {p : Px} {σ : Env} {s : St} {w : World} (P : Program) (h : HR p σ s w) {b e esz used off n : Nat} {cells : Tr AV} {ex : Bool} {fz : Nat} (hb : s.H.get b = some (.row e esz cells used ex fz)) {r κ : Nat} (hs : σ b = some (r, κ)) {l : AVs}
    (ha : ldC cells n off = some l) : ∃ xs : List Value, xs.length = n ∧ VRs σ l xs ∧ (loadCells ⟨r, off, none⟩ n).run P w = .ok xs.toArray w := by
  obtain ⟨c, lo, hi, h1, h2, _⟩ := h.row hb hs
  obtain ⟨xs, h3, h4, h5⟩ := ldC_cells h2 n off l ha
  refine ⟨xs, h3, h4, ?_⟩
  subst h3
  refine run_loadCells_list w ⟨r, off, none⟩ xs (fun j u hj => ?_)
  rw [add_none, cell_of_heap h1]
  exact h5 j u hj

/-! Writing cells -/
noncomputable def stC (l : AVs) : Nat → Tr AV → Tr AV :=
  AVs.rec (motive_1 := fun _ => Unit) (motive_2 := fun _ => Nat → Tr AV → Tr AV) (fun _ => ()) (fun _ _ => ()) (fun _ _ => ()) (fun _ _ => ()) () (fun _ _ _ _ => ()) (fun _ _ _ _ => ()) () (fun _ _ _ => ()) (fun _ _ _ => ()) () (fun _ _ => ()) (fun _ _ => ()) () (fun _ _ _ => ()) (fun _ => ()) (fun _ _ _ _ => ())
    (fun _ t => t) (fun a _ _ ih off t => ih (off + 1) (t.set off (some a))) l
theorem stC_nil (off : Nat) (t : Tr AV) : stC .nil off t = t := rfl
theorem stC_cons (a : AV) (l : AVs) (off : Nat) (t : Tr AV) : stC (.cons a l) off t = stC l (off + 1) (t.set off (some a)) := rfl

def AVs.len : AVs → Nat
  | .nil => 0
  | .cons _ t => t.len + 1
theorem VRs.len {σ : Env} : ∀ {l : AVs} {xs : List Value}, VRs σ l xs → l.len = xs.length
  | .nil, xs, h => by simp only [VRs] at h; subst h; rfl
  | .cons a l, xs, h => by simp only [VRs] at h; obtain ⟨y, ys, rfl, _, h⟩ := h; simp only [AVs.len, List.length_cons, VRs.len h]

/-- A list of values laid over a row. -/
def ovl (c : Array Value) : Nat → List Value → Array Value
  | _, [] => c
  | o, v :: r => ovl (c.setIfInBounds o v) (o + 1) r
theorem size_ovl : ∀ (l : List Value) (c : Array Value) (o : Nat), (ovl c o l).size = c.size
  | [], _, _ => rfl
  | v :: r, c, o => by rw [ovl, size_ovl r]; simp
theorem heap_setCells (r e : Nat) (fr : Nat × Nat) : ∀ (l : List Value) (o : Nat) (c : Array Value) (w : World), w.heap[r]? = some (.cells c e fr) → (w.setCells r o l).heap[r]? = some (.cells (ovl c o l) e fr)
  | [], _, _, _, h => h
  | v :: l, o, c, w, h => by
    rw [World.setCells, ovl]
    refine heap_setCells r e fr l (o + 1) _ _ ?_
    simp [World.setCell, Array.getElem?_modify, h]
theorem heap_setCells_ne (r : Nat) : ∀ (l : List Value) (o : Nat) (w : World) (k : Nat), k ≠ r → (w.setCells r o l).heap[k]? = w.heap[k]?
  | [], _, _, _, _ => rfl
  | v :: l, o, w, k, h => by
    rw [World.setCells, heap_setCells_ne r l _ _ k h]
    simp only [World.setCell, Array.getElem?_modify]
    rw [if_neg (fun e => h e.symm)]
theorem size_setCells (r : Nat) : ∀ (l : List Value) (o : Nat) (w : World), (w.setCells r o l).heap.size = w.heap.size
  | [], _, _ => rfl
  | v :: l, o, w => by rw [World.setCells, size_setCells r l]; simp
theorem rest_setCells (r : Nat) : ∀ (l : List Value) (o : Nat) (w : World), (w.setCells r o l).os = w.os ∧ (w.setCells r o l).tape = w.tape ∧ (w.setCells r o l).output = w.output
  | [], _, _ => ⟨rfl, rfl, rfl⟩
  | v :: l, o, w => by rw [World.setCells]; exact rest_setCells r l _ _

theorem cellsOk_stC {σ : Env} : ∀ (l : AVs) (xs : List Value) (off : Nat) (t : Tr AV) (c : Array Value), VRs σ l xs → cellsOk σ t c → off + xs.length ≤ c.size → cellsOk σ (stC l off t) (ovl c off xs)
  | .nil, xs, off, t, c, h, k, _ => by simp only [VRs] at h; subst h; exact k
  | .cons a l, xs, off, t, c, h, k, hs => by
    simp only [VRs] at h
    obtain ⟨y, ys, rfl, hy, h⟩ := h
    rw [stC_cons, ovl]
    simp at hs
    refine cellsOk_stC l ys (off + 1) _ _ h ?_ (by simp; omega)
    intro j a' e
    rw [Tr.get_set] at e
    by_cases hj : j = off
    · subst hj
      rw [if_pos rfl] at e
      obtain rfl := Option.some.inj e
      exact ⟨y, by rw [Array.getElem?_setIfInBounds_self_of_lt (by omega)], hy⟩
    · rw [if_neg hj] at e
      obtain ⟨x, hx, hv⟩ := k _ _ e
      exact ⟨x, by simp [Ne.symm hj, hx], hv⟩

/-- No part is an aggregate. -/
def AV.one : AV → Bool
  | .agg _ => false
  | .tup _ => false
  | _ => true
def AVs.one : AVs → Bool
  | .nil => true
  | .cons a t => a.one && t.one
theorem VR.one {σ : Env} {a : AV} {v : Value} (h : VR σ a v) (ho : a.one = true) : v.oneCell' = true := by
  cases a <;> simp only [VR] at h <;> first | (subst h; rfl) | cases ho | skip
  case s => obtain ⟨_, rfl, _⟩ := h; rfl
  case p => obtain ⟨_, _, _, rfl⟩ := h; rfl
  case sl => obtain ⟨_, _, _, rfl⟩ := h; rfl
  case slr => obtain ⟨_, _, _, _, _, _, rfl⟩ := h; rfl
  case f => obtain ⟨_, rfl, _⟩ := h; rfl
  case fm => obtain ⟨_, rfl, _⟩ := h; rfl
  case ifc => obtain ⟨_, rfl, _⟩ := h; rfl
  case bm => obtain ⟨_, rfl, _⟩ := h; rfl
theorem VRs.one {σ : Env} : ∀ {l : AVs} {xs : List Value}, VRs σ l xs → l.one = true → ∀ v ∈ xs, v.oneCell' = true
  | .nil, xs, h, _, v, hv => by simp only [VRs] at h; subst h; cases hv
  | .cons a l, xs, h, ho, v, hv => by
    simp only [VRs] at h
    obtain ⟨y, ys, rfl, hy, h⟩ := h
    simp only [AVs.one, Bool.and_eq_true] at ho
    rcases List.mem_cons.1 hv with rfl | hv
    · exact hy.one ho.1
    · exact VRs.one h ho.2 v hv

theorem testBit_or_self (W b : Nat) : (W ||| 1 <<< b).testBit b = true := by simp [Nat.testBit_or, Nat.testBit_shiftLeft]
theorem testBit_or_of (W b x : Nat) (h : (W ||| 1 <<< b).testBit x = true) : W.testBit x = true ∨ x = b := by
  simp only [Nat.testBit_or, Nat.testBit_shiftLeft, Bool.or_eq_true, Bool.and_eq_true, decide_eq_true_eq] at h
  rcases h with h | ⟨h1, h2⟩
  · exact .inl h
  · refine .inr ?_
    by_cases hx : x - b = 0
    · omega
    · rw [Nat.testBit_one_eq_true_iff_self_eq_zero] at h2; omega

theorem stC_dom : ∀ (l : AVs) (off : Nat) (t : Tr AV) (j : Nat) (a : AV), (stC l off t).get j = some a → (off ≤ j ∧ j < off + l.len) ∨ t.get j = some a
  | .nil, off, t, j, a, h => .inr h
  | .cons b l, off, t, j, a, h => by
    rw [stC_cons] at h
    simp only [AVs.len]
    rcases stC_dom l (off + 1) _ j a h with h | h
    · exact .inl ⟨by omega, by omega⟩
    · rw [Tr.get_set] at h
      by_cases hj : j = off
      · exact .inl ⟨by omega, by omega⟩
      · rw [if_neg hj] at h; exact .inr h

/-- A store in place. -/
theorem HR.store {p : Px} {σ : Env} {s : St} {w : World} (P : Program) (h : HR p σ s w) {b e esz used off fz : Nat} {cells : Tr AV} {ex : Bool} (hb : s.H.get b = some (.row e esz cells used ex fz)) (hz : fz ≤ 1) {r κ : Nat} (hs : σ b = some (r, κ))
    (h0 : p.n0 ≤ b) {l : AVs} {xs : List Value} (hv : VRs σ l xs) (h1 : l.one = true) (hf : off + l.len ≤ used) :
    (storeCells ⟨r, off, none⟩ xs).run P w = .ok () (w.setCells r off xs) ∧
    Good p σ s w σ { H := s.H.set b (some (.row e esz (stC l off cells) used ex fz)), nxt := s.nxt, W := s.W ||| 1 <<< b } (w.setCells r off xs) := by
  obtain ⟨c, lo, hi, g1, g2, g3, g4, g5, g6⟩ := h.row hb hs
  have hl := hv.len
  have hfz := g6.1 hz
  have hrun := run_storeCells_cells (P := P) r off xs 0 w (fun j hj => by
      rw [cell_of_heap g1]; simp; omega) (fun j hj => by
      rw [frozen_of_heap g1]
      have := hfz (off + 0 + j) (by omega)
      simp only [Bool.and_eq_false_iff, decide_eq_false_iff_not]; omega) (hv.one h1)
  refine ⟨by simpa using hrun, .refl _, ?_, ?_, (fun x hx => by simp [Nat.testBit_or, hx]), ?_, (fun b r κ h1 h2 => nw_same h1 h2), Nat.le_refl _⟩
  · refine ⟨?_, ?_, h.fresh, h.low, fun x r' κ' e => by rw [size_setCells]; exact h.lt x r' κ' e, h.glob, ?_, by rw [size_setCells]; exact h.base, h.n0, h.g0, fun x k hx => by
        rw [Tr.get_set] at hx
        by_cases hxb : x = b
        · subst hxb; exact h.dom _ _ hb
        · rw [if_neg hxb] at hx; exact h.dom _ _ hx⟩
    · intro x k hx
      rw [Tr.get_set] at hx
      by_cases hxb : x = b
      · subst hxb
        rw [if_pos rfl] at hx
        obtain rfl := Option.some.inj hx
        exact ⟨r, κ, _, hs, heap_setCells r e _ xs off c w g1, _, lo, hi, rfl, cellsOk_stC l xs off cells c hv g2 (by omega), by rw [size_ovl]; exact g3, fun e => by rw [size_ovl]; exact g4 e, fun e => by rw [size_ovl]; exact g5 e,
          fun _ => by rw [size_ovl]; exact hfz, g6.2.1, fun j a' hj => by
            rcases stC_dom _ _ _ _ _ hj with hj | hj
            · omega
            · exact g6.2.2 j a' hj⟩
      · rw [if_neg hxb] at hx
        obtain ⟨r', κ', o, e1, e2, e3⟩ := h.blk x k hx
        have hne : r' ≠ r := fun er => hxb (h.inj x b k _ r κ' κ hx hb (er ▸ e1) hs)
        exact ⟨r', κ', o, e1, by rw [heap_setCells_ne r xs off w r' hne]; exact e2, e3⟩
    · intro x x' k k' r1 κ1 κ2 hx hx' e1 e2
      rw [Tr.get_set] at hx hx'
      have hx1 : ∃ k, s.H.get x = some k := by
        by_cases hxb : x = b
        · subst hxb; exact ⟨_, hb⟩
        · rw [if_neg hxb] at hx; exact ⟨_, hx⟩
      have hx2 : ∃ k, s.H.get x' = some k := by
        by_cases hxb : x' = b
        · subst hxb; exact ⟨_, hb⟩
        · rw [if_neg hxb] at hx'; exact ⟨_, hx'⟩
      obtain ⟨k1, hk1⟩ := hx1
      obtain ⟨k2, hk2⟩ := hx2
      exact h.inj x x' k1 k2 r1 κ1 κ2 hk1 hk2 e1 e2
    · intro x hx
      rcases testBit_or_of _ _ _ hx with hx | rfl
      · exact h.wlow x hx
      · exact h0
  · obtain ⟨q1, q2, q3⟩ := rest_setCells r xs off w
    refine ⟨q1, q2, q3, by rw [size_setCells]; exact Nat.le_refl _, fun k hk hn => heap_setCells_ne r xs off w k ?_⟩
    intro e
    subst e
    exact hn b _ κ hb (testBit_or_self _ _) hs
  · intro x k q hx _
    rw [Tr.get_set] at hx
    by_cases hxb : x = b
    · subst hxb; exact ⟨_, hb⟩
    · rw [if_neg hxb] at hx; exact ⟨_, hx⟩

/-- A new block. -/
def Env.put (σ : Env) (b : Nat) (x : Nat × Nat) : Env := fun y => if y = b then some x else σ y
theorem HR.new {p : Px} {σ : Env} {s : St} {w : World} (h : HR p σ s w) (h0 : p.n0 ≤ s.nxt) (hg : p.ng ≤ s.nxt) (hlim : s.nxt < p.lim) (κ : Nat) (k : Blk) (o : Obj) (hk : BR (σ.put s.nxt (w.heap.size, κ)) κ k o) :
    Good p σ s w (σ.put s.nxt (w.heap.size, κ)) { H := s.H.set s.nxt (some k), nxt := s.nxt + 1, W := s.W } (w.alloc o) := by
  have hn : σ s.nxt = none := h.fresh _ (Nat.le_refl _) hlim
  have hext : σ.Ext (σ.put s.nxt (w.heap.size, κ)) := by
    intro b q e
    unfold Env.put
    by_cases hb : b = s.nxt
    · subst hb; rw [hn] at e; cases e
    · rw [if_neg hb]; exact e
  have hold : ∀ b, b ≠ s.nxt → σ.put s.nxt (w.heap.size, κ) b = σ b := fun b hb => by unfold Env.put; rw [if_neg hb]
  have hnew : σ.put s.nxt (w.heap.size, κ) s.nxt = some (w.heap.size, κ) := by unfold Env.put; rw [if_pos rfl]
  have hheap : ∀ i, i < w.heap.size → (w.alloc o).heap[i]? = w.heap[i]? := fun i hi => by
    show (w.heap.push o)[i]? = _
    rw [Array.getElem?_push, if_neg (by omega)]
  have hlast : (w.alloc o).heap[w.heap.size]? = some o := by
    show (w.heap.push o)[w.heap.size]? = _
    rw [Array.getElem?_push, if_pos rfl]
  refine ⟨hext, ⟨?_, ?_, ?_, ?_, ?_, ?_, h.wlow, by simp; have := h.base; omega, Nat.le_succ_of_le h0, Nat.le_succ_of_le hg, fun x k hx => by
      rw [Tr.get_set] at hx
      by_cases hxn : x = s.nxt
      · exact Nat.lt_succ_of_le (Nat.le_of_eq hxn)
      · rw [if_neg hxn] at hx; exact Nat.lt_succ_of_lt (h.dom _ _ hx)⟩, ⟨rfl, rfl, rfl, by simp, fun i hi _ => hheap i hi⟩, fun _ hb => hb, ?_, ?_, Nat.le_succ _⟩
  · intro b k' hb
    rw [Tr.get_set] at hb
    by_cases hbn : b = s.nxt
    · subst hbn
      rw [if_pos rfl] at hb
      obtain rfl := Option.some.inj hb
      exact ⟨_, κ, o, hnew, hlast, hk⟩
    · rw [if_neg hbn] at hb
      obtain ⟨r, κ', o', e1, e2, e3⟩ := h.blk b k' hb
      exact ⟨r, κ', o', by rw [hold b hbn]; exact e1, by rw [hheap r (h.lt _ _ _ e1)]; exact e2, e3.ext hext⟩
  · intro b b' k1 k2 r κ1 κ2 hb hb' e1 e2
    rw [Tr.get_set] at hb hb'
    by_cases hbn : b = s.nxt
    · by_cases hbn' : b' = s.nxt
      · rw [hbn, hbn']
      · rw [hbn, hnew] at e1
        rw [hold b' hbn'] at e2
        have := h.lt _ _ _ e2
        obtain ⟨e, _⟩ := Prod.mk.inj (Option.some.inj e1)
        omega
    · by_cases hbn' : b' = s.nxt
      · rw [hbn', hnew] at e2
        rw [hold b hbn] at e1
        have := h.lt _ _ _ e1
        obtain ⟨e, _⟩ := Prod.mk.inj (Option.some.inj e2)
        omega
      · rw [if_neg hbn] at hb
        rw [if_neg hbn'] at hb'
        rw [hold b hbn] at e1
        rw [hold b' hbn'] at e2
        exact h.inj b b' k1 k2 r κ1 κ2 hb hb' e1 e2
  · intro b hb hl
    have hb : s.nxt + 1 ≤ b := hb
    rw [hold b (by omega)]
    exact h.fresh b (by omega) hl
  · intro b r κ' hb e
    by_cases hbn : b = s.nxt
    · subst hbn
      rw [hnew] at e
      obtain ⟨e, _⟩ := Prod.mk.inj (Option.some.inj e)
      have := h.base
      omega
    · rw [hold b hbn] at e
      exact h.low b r κ' hb e
  · intro b r κ' e
    by_cases hbn : b = s.nxt
    · subst hbn
      rw [hnew] at e
      obtain ⟨e, _⟩ := Prod.mk.inj (Option.some.inj e)
      simp; omega
    · rw [hold b hbn] at e
      have := h.lt b r κ' e
      simp; omega
  · intro b hb
    obtain ⟨κ', e⟩ := h.glob b hb
    exact ⟨κ', by rw [hold b (by omega)]; exact e⟩
  · intro b x q hx hq
    rw [Tr.get_set] at hx
    by_cases hbn : b = s.nxt
    · subst hbn; rw [hn] at hq; cases hq
    · rw [if_neg hbn] at hx; exact ⟨_, hx⟩
  · intro b r κ' h1 h2
    by_cases hbn : b = s.nxt
    · subst hbn
      rw [hnew] at h2
      obtain ⟨e, _⟩ := Prod.mk.inj (Option.some.inj h2)
      exact ⟨⟨Nat.le_refl _, Nat.lt_succ_self _⟩, .inl (by omega)⟩
    · rw [hold b hbn, h1] at h2; cases h2
end Go.Ev
