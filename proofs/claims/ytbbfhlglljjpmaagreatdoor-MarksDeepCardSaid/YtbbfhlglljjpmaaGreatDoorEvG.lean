import Derived.Test.YtbbfhlglljjpmaaGreatDoorEvF
namespace Go.Ev
open Go
set_option linter.unusedVariables false
variable [Theta]
set_option linter.unusedSectionVars false
set_option linter.unusedSimpArgs false
section
variable {P : Program} {p : Px} {σ : Env} {s : St} {w : World} {T : Tr AV} {a : Act}

theorem szOf_eq {t : TypeId} {n : Nat} (h : szOf P t = some n) : ∃ i, P.info? t = some i ∧ i.size = n := Option.map_eq_some_iff.1 h

theorem guard_ok (op : BinOp) (t : TypeId) (ox oy : Operand) {X Y : Value} (h1 : ¬ (X = .nilIface ∧ Y = .nilIface)) (h2 : ∀ l m, ¬ (X = .agg l ∧ Y = .agg m)) (w : World) :
    (eqGuard op t ox oy X Y).run P w = .ok () w := by
  unfold eqGuard
  cases op <;> simp
  all_goals
    split
    · exact absurd ⟨rfl, rfl⟩ h1
    · rename_i l m; exact absurd ⟨rfl, rfl⟩ (h2 l m)
    · rfl

theorem evEq_shape {ek : EK} {x y : AV} {b : Bool} (hb : evEq ek s x y = some b) {X Y : Value} (hx : VR σ x X) (hy : VR σ y Y) : ¬ (X = .nilIface ∧ Y = .nilIface) ∧ (∀ l m, ¬ (X = .agg l ∧ Y = .agg m)) ∧
    (∀ k n, X ≠ .int k n) ∧ (∀ k n, X ≠ .float k n) ∧ (∀ k n m, X ≠ .complex k n m) ∧ (∀ q, X ≠ .string q) := by
  unfold evEq at hb
  cases ek <;> simp only at hb
  case other => cases hb
  all_goals
    split at hb <;> (try split at hb) <;> first
      | contradiction
      | skip
    all_goals
      simp only [VR] at hx hy
      first
        | (subst hx; simp; done)
        | (obtain ⟨_, _, _, rfl⟩ := hx; simp; done)
        | (obtain ⟨_, _, _, _, _, _, rfl⟩ := hx; simp; done)
        | (obtain ⟨_, rfl, _⟩ := hx; simp; done)
        | (subst hx; obtain ⟨_, rfl, _⟩ := hy; simp; done)

theorem binOp_eql {t : TypeId} {X Y : Value} {r : Bool} (hq : (Op.equal t X Y).run P w = .ok r w) (h1 : ∀ k n, X ≠ .int k n) (h2 : ∀ k n, X ≠ .float k n) (h3 : ∀ k n m, X ≠ .complex k n m) (h4 : ∀ q, X ≠ .string q) :
    (binOp .eql t X Y).run P w = .ok (.bool r) w ∧ (binOp .neq t X Y).run P w = .ok (.bool (!r)) w := by
  cases X <;> first
    | exact absurd rfl (h1 _ _)
    | exact absurd rfl (h2 _ _)
    | exact absurd rfl (h3 _ _ _)
    | exact absurd rfl (h4 _)
    | (refine ⟨?_, ?_⟩ <;> simp [binOp, hq])

theorem bin_run (hr : HR p σ s w) {op : BinOp} {t : TypeId} {x y v : AV} (he : evBin op (ekOf P t) s x y = some v) {X Y : Value} (hx : VR σ x X) (hy : VR σ y Y) (ox oy : Operand) :
    ∃ r, (do eqGuard op t ox oy X Y; binOp op t X Y : Sem Value).run P w = .ok r w ∧ VR σ v r := by
  unfold evBin at he
  split at he
  · rename_i k A
    split at he
    · rename_i k' B
      simp only [VR] at hx hy
      subst hx; subst hy
      have hg := guard_ok (P := P) op t ox oy (X := .int k A) (Y := .int k' B) (by simp) (by simp) w
      have : ∃ r, (binOp op t (.int k A) (.int k' B)).run P w = .ok r w ∧ VR σ v r := by
        split at he
        · exact int_shift (.inl rfl) he t w
        · exact int_shift (.inr rfl) he t w
        · split at he
          · rename_i hk; subst hk; exact int_bin he t w
          · cases he
      obtain ⟨r, h1, h2⟩ := this
      exact ⟨r, by simp [hg, h1], h2⟩
    · cases he
  · rename_i l1 n1
    split at he
    · rename_i l2 n2
      simp only [VR] at hx hy
      obtain ⟨X, rfl, hx⟩ := hx
      obtain ⟨Y, rfl, hy⟩ := hy
      have hg := guard_ok (P := P) op t ox oy (X := .string X) (Y := .string Y) (by simp) (by simp) w
      obtain ⟨r, h1, h2⟩ := str_bin (P := P) (σ := σ) he hx hy t w
      exact ⟨r, by simp [hg, h1], h2⟩
    · cases he
  · split at he
    · obtain ⟨b, hb, rfl⟩ := Option.map_eq_some_iff.1 he
      obtain ⟨g1, g2, g3, g4, g5, g6⟩ := evEq_shape hb hx hy
      have hg := guard_ok (P := P) .eql t ox oy g1 g2 w
      have hq := binOp_eql (eq_run hr rfl hb hx hy) g3 g4 g5 g6
      exact ⟨.bool b, by simp [hg, hq.1], by simp only [VR]⟩
    · obtain ⟨b, hb, rfl⟩ := Option.map_eq_some_iff.1 he
      obtain ⟨g1, g2, g3, g4, g5, g6⟩ := evEq_shape hb hx hy
      have hg := guard_ok (P := P) .neq t ox oy g1 g2 w
      have hq := binOp_eql (eq_run hr rfl hb hx hy) g3 g4 g5 g6
      exact ⟨.bool (!b), by simp [hg, hq.2], by simp only [VR]⟩
    · cases he

theorem snd_bin (h : Rel P p σ T s a w) {o : Oper} {op : BinOp} {xt yt : TypeId} {x y : Operand} (ho : o.op = .binOp op xt x y yt) {ai : AI} (hc : compOp P o = some ai) {v : AV} {s' : St} (he : evAI p.n0 ai T s = some (v, s')) : Sound P p σ s w o a v s' := by
  unfold compOp at hc; rw [ho] at hc
  dsimp only at hc
  unfold binC at hc
  split at hc
  · rename_i neg hn
    obtain ⟨x', h1, rfl⟩ := Option.map_eq_some_iff.1 hc
    have hnil : y = .const .nilIface ∧ ekOf P xt = .iface ∧ (op = .eql ∧ neg = false ∨ op = .neq ∧ neg = true) := by
      unfold nilC at hn
      split at hn
      · split at hn
        · rename_i hek
          split at hn
          · obtain rfl := (Option.some.inj hn).symm; exact ⟨rfl, hek, .inl ⟨rfl, rfl⟩⟩
          · obtain rfl := (Option.some.inj hn).symm; exact ⟨rfl, hek, .inr ⟨rfl, rfl⟩⟩
          · cases hn
        · cases hn
      · cases hn
    obtain ⟨rfl, hek, hop⟩ := hnil
    obtain ⟨m, k5⟩ := (ekOf_cases P xt).2.2.2.2 hek
    have hev : a.eval (.const .nilIface) = .nilIface := rfl
    simp only [evAI] at he
    split at he
    · rename_i hX
      obtain ⟨rfl, rfl⟩ := Prod.mk.inj (Option.some.inj he)
      have hx := oo_sound h h1 hX
      simp only [VR] at hx
      have hq : (Op.equal xt .nilIface .nilIface).run P w = .ok true w := by
        have key : ∀ d, (Op.equalIn (d + 1) xt .nilIface .nilIface).run P w = .ok true w := fun d => by
          simp [Op.equalIn, underlying, program, Sem.run, k5]
        exact key 9999
      have hb := binOp_eql hq (by simp) (by simp) (by simp) (by simp)
      rcases hop with ⟨rfl, rfl⟩ | ⟨rfl, rfl⟩
      · refine .same h (x := .bool true) ?_ (by simp only [VR])
        have hg : (eqGuard .eql xt x (.const .nilIface) .nilIface .nilIface).run P w = .ok () w := by simp [eqGuard]
        simp only [execOp, ho, hev, hx]
        exact run_val (by simp [hg, hb.1])
      · refine .same h (x := .bool false) ?_ (by simp only [VR])
        have hg : (eqGuard .neq xt x (.const .nilIface) .nilIface .nilIface).run P w = .ok () w := by simp [eqGuard]
        simp only [execOp, ho, hev, hx]
        exact run_val (by simp [hg, hb.2])
    · rename_i tt u hX
      obtain ⟨rfl, rfl⟩ := Prod.mk.inj (Option.some.inj he)
      have hx := oo_sound h h1 hX
      have hy : VR σ .nili .nilIface := by simp only [VR]
      have he2 : evEq .iface s (.ifc tt u) .nili = some false := rfl
      obtain ⟨g1, g2, g3, g4, g5, g6⟩ := evEq_shape he2 hx hy
      have hb := binOp_eql (eq_run h.h hek.symm he2 hx hy) g3 g4 g5 g6
      rcases hop with ⟨rfl, rfl⟩ | ⟨rfl, rfl⟩
      · refine .same h (x := .bool false) ?_ (by simp only [VR])
        have hg := guard_ok (P := P) .eql xt x (.const .nilIface) g1 g2 w
        simp only [execOp, ho, hev]
        exact run_val (by simp [hg, hb.1])
      · refine .same h (x := .bool true) ?_ (by simp only [VR])
        have hg := guard_ok (P := P) .neq xt x (.const .nilIface) g1 g2 w
        simp only [execOp, ho, hev]
        exact run_val (by simp [hg, hb.2])
    · cases he
  split at hc
  · rename_i x' y' h1 h2
    obtain rfl := (Option.some.inj hc).symm
    simp only [evAI] at he
    split at he
    · cases he
    · rename_i X hX
      split at he
      · cases he
      · rename_i Y hY
        obtain ⟨h3, rfl⟩ := pure1_some he
        obtain ⟨r, h4, h5⟩ := bin_run h.h h3 (oo_sound h h1 hX) (oo_sound h h2 hY) x y
        refine .same h (x := r) ?_ h5
        simp only [execOp, ho]
        exact run_val h4
  · cases hc

theorem run_loadVar_one {t : TypeId} {d : TypeDesc} (hd : P.underlying t = some d) (ha : aggD d = false) {ad : Addr} {x : Value} (hc : w.cell? ad = some x) : (loadVar t ad).run P w = .ok x w := by
  cases d <;> first
    | (simp [aggD] at ha; done)
    | simp [loadVar, isAgg, underlying, program, Sem.run, hd, load, hc]
theorem run_loadVar_agg {t : TypeId} {d : TypeDesc} (hd : P.underlying t = some d) (ha : aggD d = true) {i : TypeInfo} (hi : P.info? t = some i) {ad : Addr} {xs : List Value} (hc : (loadCells ad i.size).run P w = .ok xs.toArray w) :
    (loadVar t ad).run P w = .ok (.agg xs.toArray) w := by
  cases d <;> first
    | (simp [aggD] at ha; done)
    | simp [loadVar, isAgg, underlying, program, Sem.run, hd, sizeOf, typeInfo, hi, hc]

theorem snd_load (h : Rel P p σ T s a w) {o : Oper} {t : TypeId} {x : Operand} (ho : o.op = .load t x) {ai : AI} (hc : compOp P o = some ai) {v : AV} {s' : St} (he : evAI p.n0 ai T s = some (v, s')) : Sound P p σ s w o a v s' := by
  unfold compOp at hc; rw [ho] at hc
  dsimp only at hc
  split at hc
  · rename_i d n x' h1 h2 h3
    obtain ⟨i, hi, hi2⟩ := szOf_eq h2
    obtain rfl := (Option.some.inj hc).symm
    by_cases hd : aggD d = true
    · rw [if_pos hd] at he
      simp only [evAI] at he
      split at he
      · cases he
      · rename_i X hX
        split at he
        · cases he
        · rename_i l hl
          obtain ⟨rfl, rfl⟩ := Prod.mk.inj (Option.some.inj he)
          have hv := oo_sound h h3 hX
          unfold evLdn at hl
          split at hl
          · split at hl
            · rename_i hg
              simp only [VR] at hv
              obtain ⟨r, κ, e1, e2⟩ := hv
              subst hi2
              obtain ⟨xs, q1, q2, q3⟩ := h.h.ldn P hg e1 hl
              refine .same h (x := .agg xs.toArray) ?_ (by simp only [VR]; exact ⟨_, rfl, by simpa using q2⟩)
              have := run_loadVar_agg (P := P) (w := w) h1 hd hi q3
              simp [execOp, ho, e2, Instr.loadAt, Instr.sureAddr, this]
            · cases hl
          · cases hl
    · rw [if_neg hd] at he
      simp only [evAI] at he
      split at he
      · cases he
      · rename_i X hX
        obtain ⟨hl, rfl⟩ := pure1_some he
        have hv := oo_sound h h3 hX
        unfold evLd1 at hl
        split at hl
        · split at hl
          · rename_i hg
            simp only [VR] at hv
            obtain ⟨r, κ, e1, e2⟩ := hv
            obtain ⟨x, q1, q2⟩ := h.h.ld hg e1 hl
            refine .same h (x := x) ?_ q2
            have := run_loadVar_one (P := P) (w := w) h1 (by simpa using hd) q1
            simp [execOp, ho, e2, Instr.loadAt, Instr.sureAddr, this]
          · cases hl
        · cases hl
  · cases hc

theorem VR_cells {v : AV} {x : Value} (h : VR σ v x) : VRs σ (cellsOf v) x.cells.toList := by
  cases v <;> simp only [VR] at h <;> first
    | (subst h; simp [cellsOf, Value.cells, VRs, VR]; done)
    | skip
  case s => obtain ⟨_, rfl, h⟩ := h; simp [cellsOf, Value.cells, VRs, VR]; exact h
  case p => obtain ⟨r, κ, h, rfl⟩ := h; simp [cellsOf, Value.cells, VRs, VR]; exact ⟨κ, h⟩
  case sl => obtain ⟨r, κ, h, rfl⟩ := h; simp [cellsOf, Value.cells, VRs, VR]; exact ⟨κ, h⟩
  case slr => obtain ⟨r, κ, o', h, h2, h3, rfl⟩ := h; simp only [cellsOf, Value.cells, VRs, VR]; exact ⟨_, [], rfl, ⟨r, κ, o', h, h2, h3, rfl⟩, rfl⟩
  case f => obtain ⟨vs, rfl, h⟩ := h; simp only [cellsOf, Value.cells, VRs, VR]; exact ⟨_, [], rfl, ⟨vs, rfl, h⟩, rfl⟩
  case fm => obtain ⟨vs, rfl, h⟩ := h; simp only [cellsOf, Value.cells, VRs, VR]; exact ⟨_, [], rfl, ⟨vs, rfl, h⟩, rfl⟩
  case agg => obtain ⟨vs, rfl, h⟩ := h; simpa [cellsOf, Value.cells] using h
  case tup => obtain ⟨vs, rfl, h⟩ := h; simp only [cellsOf, Value.cells, VRs, VR]; exact ⟨_, [], rfl, ⟨vs, rfl, h⟩, rfl⟩
  case ifc => obtain ⟨vs, rfl, h⟩ := h; simp only [cellsOf, Value.cells, VRs, VR]; exact ⟨_, [], rfl, ⟨vs, rfl, h⟩, rfl⟩
  case bm => obtain ⟨vs, rfl, h⟩ := h; simp only [cellsOf, Value.cells, VRs, VR]; exact ⟨_, [], rfl, ⟨vs, rfl, h⟩, rfl⟩

theorem evSt_sound (P : Program) (h : HR p σ s w) {b off : Nat} {l : AVs} {s' : St} (he : evSt p.n0 b off l s = some s') {r κ : Nat} (hs : σ b = some (r, κ)) {xs : List Value} (hv : VRs σ l xs) :
    ∃ w', (storeCells ⟨r, off, none⟩ xs).run P w = .ok () w' ∧ Good p σ s w σ s' w' := by
  unfold evSt at he
  split at he
  · rename_i h0
    split at he
    · rename_i e esz cells used ex fz hg
      split at he
      · rename_i hz
        split at he
        · rename_i h1
          split at he
          · rename_i h2
            obtain rfl := (Option.some.inj he).symm
            obtain ⟨q1, q2⟩ := h.store P hg (Nat.le_of_ble_eq_true hz) hs (Nat.le_of_ble_eq_true h0) hv h1 (Nat.le_of_ble_eq_true h2)
            exact ⟨_, q1, q2⟩
          · cases he
        · cases he
      · cases he
    · cases he
  · cases he

theorem snd_store (h : Rel P p σ T s a w) {o : Oper} {t : TypeId} {x y : Operand} (ho : o.op = .store t x y) {ai : AI} (hc : compOp P o = some ai) {v : AV} {s' : St} (he : evAI p.n0 ai T s = some (v, s')) : Sound P p σ s w o a v s' := by
  unfold compOp at hc; rw [ho] at hc
  dsimp only at hc
  split at hc
  · rename_i n x' y' h1 h2 h3
    obtain ⟨i, hi, hi2⟩ := szOf_eq h1
    obtain rfl := (Option.some.inj hc).symm
    simp only [evAI] at he
    split at he
    · rename_i b off hX
      split at he
      · cases he
      · rename_i Y hY
        split at he
        · rename_i hn
          split at he
          · rename_i s2 hs2
            obtain ⟨rfl, rfl⟩ := Prod.mk.inj (Option.some.inj he)
            have hx := oo_sound h h2 hX
            have hy := oo_sound h h3 hY
            simp only [VR] at hx
            obtain ⟨r, κ, e1, e2⟩ := hx
            have hcs := VR_cells hy
            obtain ⟨w', q1, q2⟩ := evSt_sound P h.h hs2 e1 hcs
            have hlen := hcs.len
            have hn := Nat.eq_of_beq_eq_true hn
            refine ⟨undef, σ, w', .inr ⟨?_, rfl⟩, by simp only [VR]; exact ⟨#[], rfl, by simp only [VRs]⟩, q2⟩
            have : (a.eval y).cells.size = i.size := by rw [hi2, ← hn, hlen, Array.length_toList]
            simp [execOp, ho, e2, Instr.storeAt, Instr.sureAddr, storeVar, sizeOf, typeInfo, program, Sem.run, hi, this, q1]
          · cases he
        · cases he
    · cases he
  · cases hc
end
end Go.Ev
