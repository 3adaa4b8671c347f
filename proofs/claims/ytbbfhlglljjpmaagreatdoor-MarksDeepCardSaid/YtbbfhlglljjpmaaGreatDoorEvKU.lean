import Derived.Test.YtbbfhlglljjpmaaGreatDoorEvK
import Derived.Lib.UnsafeStr
namespace Go.Ev
open Go
set_option linter.unusedVariables false
variable [Theta]
set_option linter.unusedSectionVars false
set_option linter.unusedSimpArgs false
section
variable {P : Program} {p : Px} {σ : Env} {s : St} {w : World} {T : Tr AV} {a : Act}

/-- A block's content, laid anew. -/
theorem HR.setBlk (h : HR p σ s w) {b r κ : Nat} {k0 k1 : Blk} {o' : Obj} (hb : s.H.get b = some k0) (hs : σ b = some (r, κ)) (h0 : p.n0 ≤ b) (hbr : BR σ κ k1 o') :
    Good p σ s w σ { H := s.H.set b (some k1), nxt := s.nxt, W := s.W ||| 1 <<< b } { w with heap := w.heap.setIfInBounds r o' } := by
  have hr := h.lt b r κ hs
  have hne : ∀ k, k ≠ r → (w.heap.setIfInBounds r o')[k]? = w.heap[k]? := fun k hk => Array.getElem?_setIfInBounds_ne (Ne.symm hk)
  have hself : (w.heap.setIfInBounds r o')[r]? = some o' := Array.getElem?_setIfInBounds_self_of_lt hr
  refine ⟨.refl _, ⟨?_, ?_, h.fresh, h.low, fun x r' κ' e => by simpa using h.lt x r' κ' e, h.glob, ?_, by simpa using h.base, h.n0, h.g0, fun x k hx => by
      rw [Tr.get_set] at hx
      by_cases hxb : x = b
      · subst hxb; exact h.dom _ _ hb
      · rw [if_neg hxb] at hx; exact h.dom _ _ hx⟩, ⟨rfl, rfl, rfl, by simp, fun k hk hn => hne k ?_⟩, (fun x hx => by simp [Nat.testBit_or, hx]), ?_, (fun b r κ h1 h2 => nw_same h1 h2), Nat.le_refl _⟩
  · intro x k hx
    rw [Tr.get_set] at hx
    by_cases hxb : x = b
    · subst hxb
      rw [if_pos rfl] at hx
      obtain rfl := Option.some.inj hx
      exact ⟨r, κ, _, hs, hself, hbr⟩
    · rw [if_neg hxb] at hx
      obtain ⟨r', κ', o, e1, e2, e3⟩ := h.blk x k hx
      have : r' ≠ r := fun er => hxb (h.inj x b k _ r κ' κ hx hb (er ▸ e1) hs)
      exact ⟨r', κ', o, e1, by rw [hne r' this]; exact e2, e3⟩
  · intro x x' k k' r1 κ1 κ2 hx hx' e1 e2
    rw [Tr.get_set] at hx hx'
    have hx1 : ∃ k, s.H.get x = some k := by
      by_cases hxb : x = b
      · subst hxb; exact ⟨_, hb⟩
      · rw [if_neg hxb] at hx; exact ⟨_, hx⟩
    have hx2 : ∃ k, s.H.get x' = some k := by
      by_cases hxb : x' = b
      · subst hxb; exact ⟨_, hb⟩
      · rw [if_neg hxb] at hx'; exact ⟨_, hx'⟩
    obtain ⟨k1, hk1⟩ := hx1
    obtain ⟨k2, hk2⟩ := hx2
    exact h.inj x x' k1 k2 r1 κ1 κ2 hk1 hk2 e1 e2
  · intro x hx
    rcases testBit_or_of _ _ _ hx with hx | rfl
    · exact h.wlow x hx
    · exact h0
  · intro e
    subst e
    exact hn b _ κ hb (testBit_or_self _ _) hs
  · intro x k q hx _
    rw [Tr.get_set] at hx
    by_cases hxb : x = b
    · subst hxb; exact ⟨_, hb⟩
    · rw [if_neg hxb] at hx; exact ⟨_, hx⟩

theorem modify_eq {α : Type} {xs : Array α} {i : Nat} {f : α → α} {x : α} (h : xs[i]? = some x) : xs.modify i f = xs.setIfInBounds i (f x) := by
  apply Array.ext_getElem?
  intro j
  rw [Array.getElem?_modify, Array.getElem?_setIfInBounds]
  by_cases hij : i = j
  · subst hij
    have hl : i < xs.size := by
      rcases Nat.lt_or_ge i xs.size with h' | h'
      · exact h'
      · rw [Array.getElem?_eq_none h'] at h; cases h
    rw [Array.getElem?_eq_getElem hl] at h
    simp [hl, Option.some.inj h]
  · simp [hij]

theorem sofB : ∀ (l : AVs) (xs : List Value) (len n a' n' : Nat), VRs σ l xs → sofA l len n = some (a', n') → ∃ bs : List UInt8, xs = bs.map (fun b => Value.int .u8 b.toNat) ∧ a' = len + bs.length ∧ ∀ pre : List UInt8, pre.length = len → bval pre = n → bval (pre ++ bs) = n'
  | .nil, xs, len, n, a', n', h, he => by
    simp only [VRs] at h; subst h
    simp only [sofA] at he
    obtain ⟨rfl, rfl⟩ := Prod.mk.inj (Option.some.inj he)
    exact ⟨[], rfl, rfl, fun pre _ e => by rw [List.append_nil]; exact e⟩
  | .cons v l, xs, len, n, a', n', h, he => by
    simp only [VRs] at h
    obtain ⟨y, ys, rfl, hy, h⟩ := h
    unfold sofA at he
    split at he
    · rename_i heq; cases heq
    · rename_i q b l' heq
      obtain ⟨rfl, rfl⟩ := AVs.cons.inj heq
      split at he
      · rename_i hb
        have hb : b < 256 := by simpa [Nat.blt_eq] using hb
        simp only [VR] at hy
        have e : (UInt8.ofNat b).toNat = b := by simp; omega
        obtain ⟨bs, g1, g2, g3⟩ := sofB l ys _ _ a' n' h he
        refine ⟨UInt8.ofNat b :: bs, by rw [hy, g1]; simp only [List.map_cons, e]; rfl, by simp only [List.length_cons]; omega, fun pre h1 h2 => ?_⟩
        have := g3 (pre ++ [UInt8.ofNat b]) (by simp [h1]) (by
          rw [bval_append, h2]
          simp only [List.length_cons, List.length_nil, bval, e]
          omega)
        simpa using this
      · cases he
    · cases he

theorem snd_usd (h : Rel P p σ T s a w) {o : Oper} {c : Call} (ho : o.op = .call c) (hb : c.callee = .builtin .unsafeSliceData) {ai : AI} (hc : compOp P o = some ai) {v : AV} {s' : St} (he : evAI p.n0 ai T s = some (v, s')) : Sound P p σ s w o a v s' := by
  unfold compOp at hc; rw [ho] at hc
  simp only [hb] at hc
  split at hc
  · rename_i x hx
    obtain rfl := (Option.some.inj hc).symm
    obtain ⟨x', hx1, hx2⟩ := oL_one hx
    simp only [evAI] at he
    split at he
    · rename_i b off len cap hX
      have hx := oo_sound h hx2 hX
      simp only [VR] at hx
      obtain ⟨r, κ, e1, e2⟩ := hx
      split at he
      · rename_i hcap
        have hcap : 0 < cap := by simpa [Nat.blt_eq] using hcap
        obtain ⟨rfl, rfl⟩ := Prod.mk.inj (Option.some.inj he)
        refine .same h (run_builtin ho hb rfl (by rw [hx1]; simp only [List.map_toArray, List.map_cons, List.map_nil, e2]; exact Lib.run_unsafeSliceData_row (P := P) w c.argTypes o.type ⟨r, off, none⟩ len cap (by omega))) (by simp only [VR]; exact ⟨r, κ, e1, rfl⟩)
      · cases he
    · rename_i b off len eo hX
      have hx := oo_sound h hx2 hX
      simp only [VR] at hx
      obtain ⟨r, κ, o', e1, e0, e3, e2⟩ := hx
      split at he
      · rename_i hlen
        have hlen : 0 < len := by simpa [Nat.blt_eq] using hlen
        obtain rfl := (slr_off e3 hlen).symm
        obtain ⟨rfl, rfl⟩ := Prod.mk.inj (Option.some.inj he)
        refine .same h (run_builtin ho hb rfl (by rw [hx1]; simp only [List.map_toArray, List.map_cons, List.map_nil, e2]; exact Lib.run_unsafeSliceData_row (P := P) w c.argTypes o.type ⟨r, off, none⟩ len (κ - eo) (by omega))) (by simp only [VR]; exact ⟨r, κ, e1, rfl⟩)
      · cases he
    · rename_i hX
      have hx := oo_sound h hx2 hX
      simp only [VR] at hx
      obtain ⟨rfl, rfl⟩ := Prod.mk.inj (Option.some.inj he)
      refine .same h (run_builtin ho hb rfl (by rw [hx1]; simp only [List.map_toArray, List.map_cons, List.map_nil, hx]; exact Lib.run_unsafeSliceData_nil (P := P) w c.argTypes o.type 0 0)) (by simp only [VR])
    · cases he
  · cases hc
theorem sofA_len : ∀ (l : AVs) (len n a' n' : Nat), sofA l len n = some (a', n') → a' = len + l.len
  | .nil, len, n, a', n', he => by
    simp only [sofA] at he
    obtain ⟨rfl, rfl⟩ := Prod.mk.inj (Option.some.inj he)
    rfl
  | .cons v l, len, n, a', n', he => by
    unfold sofA at he
    split at he
    · rename_i heq; cases heq
    · rename_i q b l' heq
      obtain ⟨rfl, rfl⟩ := AVs.cons.inj heq
      split at he
      · have := sofA_len l _ _ _ _ he
        simp only [AVs.len]
        omega
      · cases he
    · cases he
theorem snd_ust (h : Rel P p σ T s a w) {o : Oper} {c' : Call} (ho : o.op = .call c') (hb : c'.callee = .builtin .unsafeString) {ai : AI} (hc : compOp P o = some ai) {v : AV} {s' : St} (he : evAI p.n0 ai T s = some (v, s')) : Sound P p σ s w o a v s' := by
  unfold compOp at hc; rw [ho] at hc
  simp only [hb] at hc
  split at hc
  · rename_i pt it x n ht hx
    obtain ⟨x', n', hx1, hx2, hx3⟩ := oL_two hx
    have hat : c'.argTypes = #[pt, it] := Array.ext' ht
    split at hc
    · rename_i e hpt
      split at hc
      · rename_i hce
        obtain rfl := (Option.some.inj hc).symm
        simp only [evAI] at he
        split at he
        · rename_i m hN
          have hn := oo_sound h hx3 hN
          simp only [VR] at hn
          split at he
          · -- no byte
            have fin : ∀ (q : Option Addr), a.eval x' = .pointer q → (v, s') = (.s 0 0, s) → Sound P p σ s w o a v s' := by
              intro q hq e
              obtain ⟨rfl, rfl⟩ := Prod.mk.inj e
              refine .same h (run_builtin ho hb rfl (r := .string .empty) ?_) (by simp only [VR]; exact ⟨_, rfl, rfl, rfl⟩)
              rw [hat, hx1]
              simp only [List.map_toArray, List.map_cons, List.map_nil, hq, hn]
              exact Lib.run_unsafeString_none (P := P) w pt it o.type q
            split at he
            · rename_i hX
              have hx := oo_sound h hx2 hX
              simp only [VR] at hx
              exact fin _ hx (Option.some.inj he).symm
            · rename_i hX
              have hx := oo_sound h hx2 hX
              simp only [VR] at hx
              obtain ⟨r, κ, e1, e2⟩ := hx
              exact fin _ e2 (Option.some.inj he).symm
            · cases he
          · rename_i k1
            split at he
            · rename_i b hX
              have hx := oo_sound h hx2 hX
              simp only [VR] at hx
              obtain ⟨r, κ, e1, e2⟩ := hx
              split at he
              · rename_i e' esz cells used ex fz hg
                split at he
                · rename_i hee
                  have hee := Nat.eq_of_beq_eq_true hee
                  subst hee
                  split at he
                  · rename_i hn0
                    have hn0 := Nat.le_of_ble_eq_true hn0
                    split at he
                    · rename_i l hl
                      split at he
                      · rename_i a' v' hsof
                        split at he
                        · rename_i h63
                          have h63 := Nat.le_of_ble_eq_true h63
                          obtain ⟨rfl, rfl⟩ := Prod.mk.inj (Option.some.inj he)
                          obtain ⟨c, lo, hi, g1, g2, g3, g4, g5, g6, g7, g8⟩ := h.h.row hg e1
                          obtain ⟨xs, q1, q2, q3⟩ := ldC_cells g2 _ 0 l hl
                          obtain ⟨bs, r1, r2, r3⟩ := sofB l xs 0 0 a' v' q2 hsof
                          have hbl : bs.length = k1 + 1 := by rw [r1, List.length_map] at q1; exact q1
                          have hbc : ∀ j x, bs[j]? = some x → w.cell? ((⟨r, 0, none⟩ : Addr).add j) = some (.int .u8 x.toNat) := by
                            intro j x hj
                            rw [add_none, cell_of_heap g1]
                            refine q3 j _ ?_
                            rw [r1, List.getElem?_map, hj]
                            rfl
                          have hle : bs.length ≤ c.size := by
                            rcases Nat.lt_or_ge c.size bs.length with h' | h'
                            · exfalso
                              have hlt : c.size < bs.length := h'
                              have := q3 c.size (.int .u8 (bs[c.size]).toNat) (by rw [r1, List.getElem?_map, List.getElem?_eq_getElem hlt]; rfl)
                              rw [Nat.zero_add, Array.getElem?_eq_none (Nat.le_refl _)] at this
                              cases this
                            · exact h'
                          have hrun := Lib.run_unsafeString_row (P := P) w pt it o.type e hpt hce r c.size (row_shape g1) bs (by intro e0; rw [e0] at hbl; cases hbl) hle (by omega) hbc
                          have hfr : w.freeze ⟨r, 0, none⟩ bs.length = { w with heap := w.heap.setIfInBounds r (.cells c e (if lo == hi then (0, 0 + bs.length) else (min lo 0, max hi (0 + bs.length)))) } := by
                            unfold World.freeze
                            rw [if_neg (by omega)]
                            rw [modify_eq g1]
                          have hrun2 : (Builtin.unsafeString_ c'.argTypes o.type (c'.args.map a.eval)).run P w = .ok (.string ⟨bs.toArray⟩) (w.freeze ⟨r, 0, none⟩ bs.length) := by
                            rw [hat, hx1]
                            simp only [List.map_toArray, List.map_cons, List.map_nil, e2, hn]
                            rw [hbl] at hrun
                            rw [hbl]
                            exact hrun
                          refine ⟨.string ⟨bs.toArray⟩, σ, w.freeze ⟨r, 0, none⟩ bs.length, .inl (run_builtin ho hb rfl hrun2), ?_, ?_⟩
                          · simp only [VR]
                            refine ⟨_, rfl, by simp [ByteArray.size]; omega, ?_⟩
                            have := r3 [] rfl rfl
                            simpa using this
                          · rw [hfr]
                            refine h.h.setBlk hg e1 hn0 ?_
                            exact ⟨c, _, _, rfl, g2, g3, g4, g5, (fun hh => by omega), (fun hh => by omega), g8⟩
                        · cases he
                      · cases he
                    · cases he
                  · cases he
                · cases he
              · cases he
            · cases he
        · cases he
      · cases hc
    · cases hc
  · cases hc
end
end Go.Ev
