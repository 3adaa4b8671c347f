import Derived.Test.YtbbfhlglljjpmaaGreatDoorEvE
namespace Go.Ev
open Go
set_option linter.unusedVariables false
variable [Theta]
set_option linter.unusedSectionVars false
set_option linter.unusedSimpArgs false
section
variable {P : Program} {p : Px} {σ : Env} {s : St} {w : World} {T : Tr AV} {a : Act}

theorem int_bin {op : BinOp} {k : IntKind} {A B : Int} {v : AV} (h : intBin op k A B = some v) (t : TypeId) (w : World) : ∃ x, (binOp op t (.int k A) (.int k B)).run P w = .ok x w ∧ VR σ v x := by
  cases op <;> simp only [intBin] at h <;> first
    | contradiction
    | (obtain rfl := (Option.some.inj h).symm
       refine ⟨_, ?_, by simp only [VR]; rfl⟩
       simp [binOp, Op.intArith, Op.intBits, Op.intCmp, wr_eq, ieq_eq, ile_eq, bne]
       done)
    | skip
  case quo =>
    split at h
    · cases h
    · rename_i hz
      rw [ieq_eq] at hz
      have hz : B ≠ 0 := by simpa using hz
      obtain rfl := (Option.some.inj h).symm
      refine ⟨_, ?_, by simp only [VR]; rfl⟩
      simp [binOp, Op.intDiv, hz, wr_eq]
  case rem =>
    split at h
    · cases h
    · rename_i hz
      rw [ieq_eq] at hz
      have hz : B ≠ 0 := by simpa using hz
      obtain rfl := (Option.some.inj h).symm
      refine ⟨_, ?_, by simp only [VR]; rfl⟩
      simp [binOp, Op.intDiv, hz, wr_eq]
  case lss =>
    obtain rfl := (Option.some.inj h).symm
    refine ⟨_, ?_, by simp only [VR]; rfl⟩
    have e : decide (A < B) = !decide (B ≤ A) := by rw [← decide_not, decide_eq_decide]; omega
    simp [binOp, Op.intCmp, ile_eq, e]
  case gtr =>
    obtain rfl := (Option.some.inj h).symm
    refine ⟨_, ?_, by simp only [VR]; rfl⟩
    have e : decide (B < A) = !decide (A ≤ B) := by rw [← decide_not, decide_eq_decide]; omega
    simp [binOp, Op.intCmp, ile_eq, e]

theorem int_shift {op : BinOp} {k k' : IntKind} {A B : Int} {v : AV} (hop : op = .shl ∨ op = .shr) (h : shiftBin op k A B = some v) (t : TypeId) (w : World) : ∃ x, (binOp op t (.int k A) (.int k' B)).run P w = .ok x w ∧ VR σ v x := by
  unfold shiftBin at h
  split at h
  · cases h
  · rename_i hz
    rw [ile_eq] at hz
    have hz : ¬ B < 0 := by simpa using hz
    rcases hop with rfl | rfl
    · obtain rfl := (Option.some.inj h).symm
      refine ⟨_, ?_, by simp only [VR]; rfl⟩
      simp [binOp, Op.shift, hz, wr_eq]
    · obtain rfl := (Option.some.inj h).symm
      refine ⟨_, ?_, by simp only [VR]; rfl⟩
      simp [binOp, Op.shift, hz, wr_eq]

theorem seq_eq (x y : ByteArray) : seq x.size (bval x.data.toList) y.size (bval y.data.toList) = (x.toList == y.toList) := by
  rw [ByteArray.toList_eq, ByteArray.toList_eq]
  have e1 : x.size = x.data.toList.length := by simp
  have e2 : y.size = y.data.toList.length := by simp
  rw [Bool.eq_iff_iff, beq_iff_eq, e1, e2]
  unfold seq
  split
  · rename_i h
    have h := Nat.eq_of_beq_eq_true h
    rw [Nat.beq_eq]
    exact ⟨fun e => bval_inj _ _ h e, fun e => by rw [e]⟩
  · rename_i h
    refine ⟨(fun e => by cases e), fun e => ?_⟩
    rw [e] at h
    simp at h
theorem slt_eq (x y : ByteArray) : slt x.size (bval x.data.toList) y.size (bval y.data.toList) = Op.bytesLess x.toList y.toList := by
  rw [ByteArray.toList_eq, ByteArray.toList_eq]
  have e1 : x.size = x.data.toList.length := by simp
  have e2 : y.size = y.data.toList.length := by simp
  rw [e1, e2]
  generalize x.data.toList = X
  generalize y.data.toList = Y
  rw [bytesLess_val X Y (max X.length Y.length) (Nat.le_max_left _ _) (Nat.le_max_right _ _)]
  unfold slt
  split
  · rename_i h
    have h : X.length ≤ Y.length := by simpa using h
    rw [Nat.max_eq_right h, Nat.sub_self, Nat.pow_zero, Nat.mul_one]
    split
    · rename_i h1
      have h1 := Nat.le_of_ble_eq_true h1
      rw [decide_eq_true (by omega : bval X * 256 ^ (Y.length - X.length) < bval Y)]; simp
    · rename_i h1
      have h1 : ¬ (bval X * 256 ^ (Y.length - X.length) + 1 ≤ bval Y) := fun hh => by rw [Nat.ble_eq_true_of_le hh] at h1; cases h1
      rw [decide_eq_false (by omega : ¬ bval X * 256 ^ (Y.length - X.length) < bval Y), Bool.false_or]
      split
      · rename_i h2
        have h2 := Nat.eq_of_beq_eq_true h2
        rw [decide_eq_true h2, Bool.true_and, Bool.eq_iff_iff, Nat.blt_eq, decide_eq_true_iff]
      · rename_i h2
        have h2 : ¬ (bval X * 256 ^ (Y.length - X.length) = bval Y) := fun hh => by rw [hh] at h2; simp at h2
        rw [decide_eq_false h2]; rfl
  · rename_i h
    have h : ¬ X.length ≤ Y.length := fun hh => by rw [Nat.ble_eq_true_of_le hh] at h; cases h
    rw [Nat.max_eq_left (by omega), Nat.sub_self, Nat.pow_zero, Nat.mul_one, decide_eq_false (by omega : ¬ X.length < Y.length), Bool.and_false, Bool.or_false, Bool.eq_iff_iff, Nat.ble_eq, decide_eq_true_iff]
    exact Iff.rfl

theorem bytesLess_or (x y : List UInt8) : (Op.bytesLess x y || x == y) = !(Op.bytesLess y x) := by
  induction x generalizing y with
  | nil => cases y <;> simp [Op.bytesLess]
  | cons a x ih =>
    cases y with
    | nil => simp [Op.bytesLess]
    | cons b y =>
      have ih := ih y
      simp only [Op.bytesLess, List.cons_beq_cons]
      have hxy : decide (a < b) = decide (a.toNat < b.toNat) := by rw [decide_eq_decide]; exact UInt8.lt_iff_toNat_lt
      have hyx : decide (b < a) = decide (b.toNat < a.toNat) := by rw [decide_eq_decide]; exact UInt8.lt_iff_toNat_lt
      have e1 : (a == b) = decide (a.toNat = b.toNat) := by rw [Bool.eq_iff_iff]; simp [← UInt8.toNat_inj]
      have e2 : (b == a) = decide (b.toNat = a.toNat) := by rw [Bool.eq_iff_iff]; simp [← UInt8.toNat_inj]
      rw [hxy, hyx, e1, e2]
      rcases Nat.lt_trichotomy a.toNat b.toNat with h | h | h
      · rw [decide_eq_true h, decide_eq_false (by omega : ¬ b.toNat < a.toNat), decide_eq_false (by omega : ¬ b.toNat = a.toNat)]; simp
      · rw [h]; simp [ih]
      · rw [decide_eq_true h, decide_eq_false (by omega : ¬ a.toNat < b.toNat), decide_eq_false (by omega : ¬ a.toNat = b.toNat)]; simp

theorem str_bin {op : BinOp} {l1 n1 l2 n2 : Nat} {v : AV} (h : strBin op l1 n1 l2 n2 = some v) {x y : ByteArray} (hx : x.size = l1 ∧ bval x.data.toList = n1) (hy : y.size = l2 ∧ bval y.data.toList = n2) (t : TypeId) (w : World) :
    ∃ r, (binOp op t (.string x) (.string y)).run P w = .ok r w ∧ VR σ v r := by
  obtain ⟨rfl, rfl⟩ := hx
  obtain ⟨rfl, rfl⟩ := hy
  cases op <;> simp only [strBin, seq_eq, slt_eq] at h <;> first
    | contradiction
    | (obtain rfl := (Option.some.inj h).symm
       refine ⟨_, ?_, by simp only [VR]; rfl⟩
       simp [binOp, Op.stringOp, bytesLess_or]
       done)
    | skip
  case add =>
    split at h
    · rename_i hl
      have hl := Nat.le_of_ble_eq_true hl
      obtain rfl := (Option.some.inj h).symm
      refine ⟨.string (x ++ y), ?_, ?_⟩
      · have : ¬ (IntKind.i64.max < (x.size : Int) + y.size) := by simp [IntKind.max, IntKind.signed, IntKind.bits]; omega
        simp [binOp, Op.stringOp, this]
        omega
      · simp only [VR]
        refine ⟨_, rfl, by simp, ?_⟩
        have e : (x ++ y).data.toList = x.data.toList ++ y.data.toList := by simp
        rw [e, bval_append]
        simp
    · cases h

theorem VRbool {b : Bool} {v : Value} (h : VR σ (.b b) v) : v = .bool b := by simpa only [VR] using h

theorem ekOf_cases (P : Program) (t : TypeId) : (ekOf P t = .bool → P.underlying t = some .bool) ∧ (ekOf P t = .ptr → ∃ e n i, P.underlying t = some (.pointer e) ∧ P.info? e = some i ∧ i.size = n + 1) ∧
    (ekOf P t = .slice → ∃ e, P.underlying t = some (.slice e)) ∧ (ekOf P t = .func → ∃ a b c, P.underlying t = some (.func a b c)) ∧ (ekOf P t = .iface → ∃ m, P.underlying t = some (.interface m)) := by
  unfold ekOf
  split
  · rename_i h; exact ⟨fun _ => h, by simp, by simp, by simp, by simp⟩
  · rename_i e h
    unfold szOf
    split
    · rename_i n hn
      obtain ⟨i, hi, hi2⟩ := Option.map_eq_some_iff.1 hn
      exact ⟨by simp, fun _ => ⟨e, n, i, h, hi, hi2⟩, by simp, by simp, by simp⟩
    · simp
  · rename_i e h; exact ⟨by simp, by simp, fun _ => ⟨e, h⟩, by simp, by simp⟩
  · rename_i a b c h; exact ⟨by simp, by simp, by simp, fun _ => ⟨a, b, c, h⟩, by simp⟩
  · rename_i m h; exact ⟨by simp, by simp, by simp, by simp, fun _ => ⟨m, h⟩⟩
  · simp

theorem row0 {o : Option Blk} (h : isRow0 o = true) : ∃ e esz cells used ex, o = some (.row e esz cells used ex 0) := by
  unfold isRow0 at h
  split at h
  · rename_i e esz cells used ex fz
    have := Nat.eq_of_beq_eq_true h
    subst this
    exact ⟨_, _, _, _, _, rfl⟩
  · cases h

theorem same_addr {p : Px} {σ : Env} {s : St} {w : World} (P : Program) (h : HR p σ s w) {b b' o o' r r' κ κ' : Nat} (hne : b ≠ b') (h1 : isRow0 (s.H.get b) = true) (h2 : isRow0 (s.H.get b') = true) (e1 : σ b = some (r, κ)) (e2 : σ b' = some (r', κ')) :
    (sameAddr ⟨r, o, none⟩ ⟨r', o', none⟩).run P w = .ok false w := by
  obtain ⟨e, esz, cells, used, ex, g1⟩ := row0 h1
  obtain ⟨e', esz', cells', used', ex', g2⟩ := row0 h2
  obtain ⟨c, lo, hi, q1, _, _, _, _, _, q2, _⟩ := h.row g1 e1
  obtain ⟨c', lo', hi', q1', _, _, _, _, _, q2', _⟩ := h.row g2 e2
  have hr : r ≠ r' := fun er => hne (h.inj b b' _ _ r κ κ' g1 g2 e1 (er ▸ e2))
  have f1 : ∀ j, w.frozen? ⟨r, j, none⟩ = false := fun j => by rw [frozen_of_heap q1]; have := q2 rfl j; simp; omega
  have f2 : ∀ j, w.frozen? ⟨r', j, none⟩ = false := fun j => by rw [frozen_of_heap q1']; have := q2' rfl j; simp; omega
  have s1 : w.shape? r = some (e, c.size) := by simp [World.shape?, q1]
  have s2 : w.shape? r' = some (e', c'.size) := by simp [World.shape?, q1']
  simp [sameAddr, hr, frozen, Sem.run, f1, f2, noView, viewAt, shape, s1, s2, mayBeOne, stringish]

theorem eq_run (h : HR p σ s w) {t : TypeId} {ek : EK} (hk : ek = ekOf P t) {x y : AV} {r : Bool} (he : evEq ek s x y = some r) {X Y : Value} (hx : VR σ x X) (hy : VR σ y Y) :
    (Op.equal t X Y).run P w = .ok r w := by
  suffices key : ∀ d, (Op.equalIn (d + 1) t X Y).run P w = .ok r w from key 9999
  intro d
  obtain ⟨k1, k2, k3, k4, k5⟩ := ekOf_cases P t
  rw [← hk] at k1 k2 k3 k4 k5
  cases ek with
  | bool =>
    have k1 := k1 rfl
    simp only [evEq] at he
    split at he
    · split at he
      · simp only [VR] at hx hy
        subst hx; subst hy
        have := Option.some.inj he
        subst this
        rename_i a _ c
        cases a <;> cases c <;> simp [Op.equalIn, underlying, program, Sem.run, k1]
      · cases he
    · cases he
  | ptr =>
    obtain ⟨e, n, i, k2, k2i, k2s⟩ := k2 rfl
    simp only [evEq] at he
    split at he
    · split at he
      · simp only [VR] at hx hy; subst hx; subst hy
        obtain rfl := Option.some.inj he
        simp [Op.equalIn, underlying, program, Sem.run, k2]
      · simp only [VR] at hx hy; subst hx; obtain ⟨_, _, _, rfl⟩ := hy
        obtain rfl := Option.some.inj he
        simp [Op.equalIn, underlying, program, Sem.run, k2]
      · cases he
    · split at he
      · simp only [VR] at hx hy; subst hy; obtain ⟨_, _, _, rfl⟩ := hx
        obtain rfl := Option.some.inj he
        simp [Op.equalIn, underlying, program, Sem.run, k2]
      · simp only [VR] at hx hy
        obtain ⟨r1, κ1, e1, rfl⟩ := hx
        obtain ⟨r2, κ2, e2, rfl⟩ := hy
        split at he
        · rename_i hb
          have hb := Nat.eq_of_beq_eq_true hb
          subst hb
          rw [e1] at e2
          obtain ⟨rfl, rfl⟩ := Prod.mk.inj (Option.some.inj e2)
          obtain rfl := Option.some.inj he
          have : ∀ o1 o2, ((⟨r1, o1, none⟩ : Addr) == ⟨r1, o2, none⟩) = Nat.beq o1 o2 := by
            intro o1 o2
            rw [Bool.eq_iff_iff, beq_iff_eq, Nat.beq_eq]; simp
          simp [Op.equalIn, underlying, program, Sem.run, k2, sizeOf, typeInfo, k2i, k2s, sameAddr, this]
        · rename_i hb
          split at he
          · rename_i h1
            split at he
            · rename_i h2
              obtain rfl := Option.some.inj he
              have := fun o1 o2 => same_addr P h (o := o1) (o' := o2) (by rintro rfl; simp at hb) h1 h2 e1 e2
              simp [Op.equalIn, underlying, program, Sem.run, k2, sizeOf, typeInfo, k2i, k2s, this]
            · cases he
          · cases he
      · cases he
    · cases he
  | slice =>
    obtain ⟨e, k3⟩ := k3 rfl
    simp only [evEq] at he
    split at he <;> (try split at he) <;> first
      | contradiction
      | skip
    all_goals
      obtain rfl := Option.some.inj he
      simp only [VR] at hx hy
      first
        | (subst hx; subst hy; simp [Op.equalIn, underlying, program, Sem.run, k3]; done)
        | (subst hx; obtain ⟨_, _, _, rfl⟩ := hy; simp [Op.equalIn, underlying, program, Sem.run, k3]; done)
        | (subst hx; obtain ⟨_, _, _, _, _, _, rfl⟩ := hy; simp [Op.equalIn, underlying, program, Sem.run, k3]; done)
        | (subst hy; obtain ⟨_, _, _, rfl⟩ := hx; simp [Op.equalIn, underlying, program, Sem.run, k3]; done)
        | (subst hy; obtain ⟨_, _, _, _, _, _, rfl⟩ := hx; simp [Op.equalIn, underlying, program, Sem.run, k3]; done)
  | func =>
    obtain ⟨a1, a2, a3, k4⟩ := k4 rfl
    simp only [evEq] at he
    split at he <;> (try split at he) <;> first
      | contradiction
      | skip
    all_goals
      obtain rfl := Option.some.inj he
      simp only [VR] at hx hy
      first
        | (subst hx; subst hy; simp [Op.equalIn, underlying, program, Sem.run, k4]; done)
        | (subst hx; obtain ⟨_, rfl, _⟩ := hy; simp [Op.equalIn, underlying, program, Sem.run, k4]; done)
        | (subst hy; obtain ⟨_, rfl, _⟩ := hx; simp [Op.equalIn, underlying, program, Sem.run, k4]; done)
  | iface =>
    obtain ⟨m, k5⟩ := k5 rfl
    simp only [evEq] at he
    split at he <;> (try split at he) <;> first
      | contradiction
      | skip
    all_goals
      obtain rfl := Option.some.inj he
      simp only [VR] at hx hy
      first
        | (subst hx; obtain ⟨_, rfl, _⟩ := hy; simp [Op.equalIn, underlying, program, Sem.run, k5]; done)
        | (subst hy; obtain ⟨_, rfl, _⟩ := hx; simp [Op.equalIn, underlying, program, Sem.run, k5]; done)
  | other => cases he
end
end Go.Ev
