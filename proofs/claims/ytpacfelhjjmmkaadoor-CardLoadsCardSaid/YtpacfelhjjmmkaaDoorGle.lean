/- Part of a proof: contracts and lemmas; no condition. -/
import Derived.Test.YtpacfelhjjmmkaaDoorGld
import Derived.Laws.RangeAny
import Derived.LoopTactic
import Derived.Laws.Runes
import Derived.WalkMore
import Derived.Deep.LoopGhost
import Derived.Test.YtpacfelhjjmmkaaDoorProg
import Derived.KernelRfl
section
set_option maxHeartbeats 20000000
namespace Go.Proofs.YtpacfelhjjmmkaaDoor
open Go Go.Sy
set_option linter.unusedVariables false
set_option linter.unusedSimpArgs false
def bBEGIN : List UInt8 := [66, 69, 71, 73, 78]
def bEND : List UInt8 := [69, 78, 68]
def bID : List UInt8 := [73, 68]
def readL (l : List UInt8) : Int × List UInt8 × List UInt8 :=
  if l.any (fun b => b == 13) then (4, [], []) else
  if trimR (l.dropWhile blk) = [] then (0, [], []) else
  match ixB 58 l with
  | none => (4, [], [])
  | some k =>
    if wordL (l.take k) = false then (4, [], []) else
    if l.take k = bBEGIN ∨ l.take k = bEND then
      if wordL (l.drop (k + 1)) = false then (4, l.take k, l.drop (k + 1)) else (if l.take k = bEND then 2 else 1, l.take k, l.drop (k + 1))
    else match unesc (l.drop (k + 1)) with
      | none => (4, [], [])
      | some o => if o.length > 80 then (4, [], []) else if l.take k = bID ∧ plainL o = false then (4, [], []) else (3, l.take k, o)
def rowV (r : Int × List UInt8 × List UInt8) : SV := .agg [.i .i64 r.1, .s r.2.1, .s r.2.2]
theorem retV_ldn {T : Tm} {H : Nat → Option Blk} {n t q b e z : Nat} {cells c : List SV} (h1 : T.get t = some (.p b 0)) (h2 : H b = some (.row e z cells)) (h3 : q ≤ cells.length) (h4 : cells.take q = c) : retV [.ldn t q] T ⟨H, n⟩ = some (.agg c) := by
  simp only [retV, resV, h1, ptrCells, h2, List.drop_zero]
  have : Nat.ble q cells.length = true := Nat.ble_eq_true_of_le h3
  rw [this]
  simp [h4]
theorem read_sc (l : List UInt8) (s : St) (hl : l.length ≤ 1000000) : SCall Tryd.prog 32 [.s l] s (rowV (readL l)) s := by
  obtain ⟨H, n⟩ := s
  refine SCallR.pure (SCallR.enter cc_cadenceref8_read ?_) (.agg (.cons .i (.cons .s (.cons .s .nil))))
  dsimp only [c_cadenceref8_read, argT]
  have hcr := fun s => cr_sc l s hl
  have htr := fun s => rtrim_sc l s hl
  unfold readL
  cases hc : l.any (fun b => b == 13) with
  | true =>
    rw [hc] at hcr
    refine SC.seq ?_ nofun; refine SC.regK ?_; refine k_alc ?_; refine k_nil ?_; refine okS ?_ rfl; refine SC.seq ?_ nofun; refine SC.regK ?_; refine k_mv ?_; refine k_call (htr _) ?_; refine k_mv ?_; refine k_ext ?_; refine k_ext ?_; refine k_ext ?_; refine k_mv ?_; refine k_mv ?_; refine k_mv ?_; refine k_nil ?_; refine okS ?_ rfl; refine SC.seq ?_ nofun; refine SC.seq ?_ nofun; refine SC.regK ?_; refine k_mv ?_; refine k_call (hcr _) ?_; refine k_nil ?_; refine okS ?_ rfl; refine SC.cond_t rfl ?_; refine SC.seq ?_ nofun; refine SC.regK ?_; refine k_bld ?_; refine k_sts ?_ (c' := [SV.i IntKind.i64 4, SV.s [], SV.s []]); refine k_nil ?_; refine okS ?_ rfl; refine SC.ret ?_
    refine ⟨_, retV_ldn rfl (by ((try dsimp only) <;> (repeat first | assumption | with_reducible rfl | exact h_same rfl | refine h_ne (by first | assumption | omega) ?_))) (by exact Nat.le_refl 3) (by rfl), ?_, fun y hy => by ((try dsimp only) <;> (repeat first | assumption | with_reducible rfl | exact h_same rfl | refine h_ne (by first | assumption | omega) ?_))⟩
    rfl
  | false =>
    rw [hc] at hcr
    simp only [Bool.false_eq_true, if_false]
    by_cases hm : trimR (l.dropWhile blk) = []
    · rw [if_pos hm]
      rw [hm] at htr
      refine SC.seq ?_ nofun; refine SC.regK ?_; refine k_alc ?_; refine k_nil ?_; refine okS ?_ rfl; refine SC.seq ?_ nofun; refine SC.regK ?_; refine k_mv ?_; refine k_call (htr _) ?_; refine k_mv ?_; refine k_ext ?_; refine k_ext ?_; refine k_ext ?_; refine k_mv ?_; refine k_mv ?_; refine k_mv ?_; refine k_nil ?_; refine okS ?_ rfl; refine SC.seq ?_ nofun; refine SC.seq ?_ nofun; refine SC.regK ?_; refine k_mv ?_; refine k_call (hcr _) ?_; refine k_nil ?_; refine okS ?_ rfl; refine SC.cond_f rfl ?_; refine SC.skip ?_; refine SC.seq ?_ nofun; refine SC.seq ?_ nofun; refine SC.regK ?_; refine k_mv ?_; refine k_st ?_; refine k_nil ?_; refine okS ?_ rfl; refine SC.cond_t rfl ?_; refine SC.seq ?_ nofun; refine SC.regK ?_; refine k_bld ?_; refine k_sts ?_ (c' := [SV.i IntKind.i64 0, SV.s [], SV.s []]); refine k_nil ?_; refine okS ?_ rfl; refine SC.ret ?_
      refine ⟨_, retV_ldn rfl (by ((try dsimp only) <;> (repeat first | assumption | with_reducible rfl | exact h_same rfl | refine h_ne (by first | assumption | omega) ?_))) (by exact Nat.le_refl 3) (by rfl), ?_, fun y hy => by ((try dsimp only) <;> (repeat first | assumption | with_reducible rfl | exact h_same rfl | refine h_ne (by first | assumption | omega) ?_))⟩
      rfl
    · rw [if_neg hm]
      have hm' : decide (trimR (l.dropWhile blk) = []) = false := decide_eq_false hm
      refine SC.seq ?_ nofun; refine SC.regK ?_; refine k_alc ?_; refine k_nil ?_; refine okS ?_ rfl; refine SC.seq ?_ nofun; refine SC.regK ?_; refine k_mv ?_; refine k_call (htr _) ?_; refine k_mv ?_; refine k_ext ?_; refine k_ext ?_; refine k_ext ?_; refine k_mv ?_; refine k_mv ?_; refine k_mv ?_; refine k_nil ?_; refine okS ?_ rfl; refine SC.seq ?_ nofun; refine SC.seq ?_ nofun; refine SC.regK ?_; refine k_mv ?_; refine k_call (hcr _) ?_; refine k_nil ?_; refine okS ?_ rfl; refine SC.cond_f rfl ?_; refine SC.skip ?_; refine SC.seq ?_ nofun; refine SC.seq ?_ nofun; refine SC.regK ?_; refine k_mv ?_; refine k_sf ?_; refine k_nil ?_; refine okS ?_ rfl; refine SC.cond_f rfl ?_; refine SC.skip ?_; refine SC.seq ?_ nofun; refine SC.regK ?_; refine k_mv ?_; refine k_nil ?_; refine okS ?_ rfl; refine SC.seq ?_ nofun; refine SC.blk ?_
      refine SC.mid [0, 2, 6] (fun vs s' => ∃ i : Nat, i ≤ l.length ∧ vs = [.s l, .p n 0, .i .i64 i] ∧ (∀ j, j < i → l[j]? ≠ some 58) ∧ (i < l.length → l[i]? = some 58) ∧ s'.H n = some (.row 80 3 [.i .i64 0, .s [], .s []]) ∧ s'.nxt = n + 1 ∧ ∀ y, y < n → s'.H y = H y) ?_ ?_
      · rintro _ ⟨H', n'⟩ ⟨i, hi, rfl, h1, h2, h3, h4, h5⟩
        dsimp only at h3 h4 h5
        subst h4
        have hlo := fun (q : List UInt8) (hq : q.length ≤ 1000000) s => rword_sc q s hq
        by_cases he : i < l.length
        · have hx : ixB 58 l = some i := by
            rw [ixB_take l i h1, drop_cons (h2 he)]
            simp [ixB]
          simp only [hx]
          have hw := fun s => rword_sc (l.take i) s (by rw [List.length_take]; omega)
          cases hwl : wordL (l.take i) with
          | false =>
            rw [hwl] at hw
            refine SC.seq ?_ nofun; refine SC.seq ?_ nofun; refine SC.regK ?_; refine k_mv ?_; refine k_mv ?_; refine k_bls ?_; refine k_if ?_; refine k_mv ?_; refine k_mv ?_; refine k_mv ?_; refine k_sl ?_; refine k_call (hw _) ?_; refine k_not ?_; refine k_pf ?_; refine k_nil ?_; refine okS ?_ rfl; refine SC.cond_t rfl ?_; refine SC.seq ?_ nofun; refine SC.regK ?_; refine k_bld ?_; refine k_sto ?_ (c' := [SV.i IntKind.i64 4, SV.s [], SV.s []]); refine k_nil ?_; refine okS ?_ rfl; refine SC.ret ?_
            refine ⟨_, retV_ldn rfl (by ((try dsimp only) <;> (repeat first | assumption | with_reducible rfl | exact h_same rfl | refine h_ne (by first | assumption | omega) ?_))) (by exact Nat.le_refl 3) (by rfl), ?_, fun y hy => by ((try dsimp only) <;> (repeat first | assumption | with_reducible rfl | exact h_same rfl | refine h_ne (by first | assumption | omega) ?_)); exact h5 y hy⟩
            rfl
          | true =>
            rw [hwl] at hw
            have hdl : (l.drop (i + 1)).length ≤ 1000000 := by rw [List.length_drop]; omega
            have hv := fun s => rword_sc (l.drop (i + 1)) s hdl
            have hmn := fun s => rmeant_sc (l.drop (i + 1)) s hdl
            unfold meantV at hmn
            by_cases hB : l.take i = bBEGIN ∨ l.take i = bEND
            · simp only [if_pos hB, Bool.true_eq_false, if_false]
              rcases hB with hB | hB
              · have d1 : decide (l.take i = [66, 69, 71, 73, 78]) = true := decide_eq_true hB
                have d2 : decide (l.take i = [69, 78, 68]) = false := by rw [hB]; rfl
                have d3 : ¬ l.take i = bEND := by rw [hB]; decide
                rw [if_neg d3]
                cases hvl : wordL (l.drop (i + 1)) <;> rw [hvl] at hv
                · refine SC.seq ?_ nofun; refine SC.seq ?_ nofun; refine SC.regK ?_; refine k_mv ?_; refine k_mv ?_; refine k_bls ?_; refine k_if ?_; refine k_mv ?_; refine k_mv ?_; refine k_mv ?_; refine k_sl ?_; refine k_call (hw _) ?_; refine k_not ?_; refine k_pf ?_; refine k_nil ?_; refine okS ?_ rfl; refine SC.cond_f rfl ?_; refine SC.skip ?_; refine SC.seq ?_ nofun; refine SC.dregK ?_; refine k_mv ?_; refine k_mv ?_; refine k_sl ?_; refine k_mv ?_; refine k_mv ?_; refine k_add ?_; refine k_sh ?_; refine k_bld ?_; refine k_alc ?_; refine k_sts ?_ (c' := [SV.i IntKind.i64 3, SV.s (List.take i l), SV.s (List.drop (i + 1) l)]); refine k_nil ?_; refine okD (ne := []) ?_ (by kernel_rfl) trivial; refine SC.seq ?_ nofun; refine SC.seq ?_ nofun; refine SC.regK ?_; refine k_fa ?_; refine k_ldp ?_; refine k_st ?_; refine k_mv ?_; refine k_no ?_; refine k_no ?_; refine k_no ?_; refine k_pt ?_; refine k_nil ?_; refine okS ?_ rfl; refine SC.cond_t rfl ?_; refine SC.seq ?_ nofun; refine SC.regK ?_; refine k_fa ?_; refine k_sts ?_ (c' := [SV.i IntKind.i64 1, SV.s (List.take i l), SV.s (List.drop (i + 1) l)]); refine k_nil ?_; refine okS ?_ rfl; refine SC.seq ?_ nofun; refine SC.seq ?_ nofun; refine SC.regK ?_; refine k_fa ?_; refine k_ldp ?_; refine k_sf ?_; refine k_nil ?_; refine okS ?_ rfl; refine SC.cond_f rfl ?_; refine SC.skip ?_; refine SC.seq ?_ nofun; refine SC.seq ?_ nofun; refine SC.regK ?_; refine k_fa ?_; refine k_ldp ?_; refine k_call (hv _) ?_; refine k_not ?_; refine k_nil ?_; refine okS ?_ rfl; refine SC.cond_t rfl ?_; refine SC.regK ?_; refine k_fa ?_; refine k_sts ?_ (c' := [SV.i IntKind.i64 4, SV.s (List.take i l), SV.s (List.drop (i + 1) l)]); refine k_nil ?_; refine okS ?_ rfl; refine SC.seq ?_ nofun; refine SC.regK ?_; refine k_lnp ?_ (c' := [SV.i IntKind.i64 4, SV.s (List.take i l), SV.s (List.drop (i + 1) l)]); refine k_sto ?_ (c' := [SV.i IntKind.i64 4, SV.s (List.take i l), SV.s (List.drop (i + 1) l)]); refine k_nil ?_; refine okS ?_ rfl; refine SC.ret ?_
                  refine ⟨_, retV_ldn rfl (by ((try dsimp only) <;> (repeat first | assumption | with_reducible rfl | exact h_same rfl | refine h_ne (by first | assumption | omega) ?_))) (by exact Nat.le_refl 3) (by rfl), ?_, fun y hy => by ((try dsimp only) <;> (repeat first | assumption | with_reducible rfl | exact h_same rfl | refine h_ne (by first | assumption | omega) ?_)); exact h5 y hy⟩
                  rfl
                · refine SC.seq ?_ nofun; refine SC.seq ?_ nofun; refine SC.regK ?_; refine k_mv ?_; refine k_mv ?_; refine k_bls ?_; refine k_if ?_; refine k_mv ?_; refine k_mv ?_; refine k_mv ?_; refine k_sl ?_; refine k_call (hw _) ?_; refine k_not ?_; refine k_pf ?_; refine k_nil ?_; refine okS ?_ rfl; refine SC.cond_f rfl ?_; refine SC.skip ?_; refine SC.seq ?_ nofun; refine SC.dregK ?_; refine k_mv ?_; refine k_mv ?_; refine k_sl ?_; refine k_mv ?_; refine k_mv ?_; refine k_add ?_; refine k_sh ?_; refine k_bld ?_; refine k_alc ?_; refine k_sts ?_ (c' := [SV.i IntKind.i64 3, SV.s (List.take i l), SV.s (List.drop (i + 1) l)]); refine k_nil ?_; refine okD (ne := []) ?_ (by kernel_rfl) trivial; refine SC.seq ?_ nofun; refine SC.seq ?_ nofun; refine SC.regK ?_; refine k_fa ?_; refine k_ldp ?_; refine k_st ?_; refine k_mv ?_; refine k_no ?_; refine k_no ?_; refine k_no ?_; refine k_pt ?_; refine k_nil ?_; refine okS ?_ rfl; refine SC.cond_t rfl ?_; refine SC.seq ?_ nofun; refine SC.regK ?_; refine k_fa ?_; refine k_sts ?_ (c' := [SV.i IntKind.i64 1, SV.s (List.take i l), SV.s (List.drop (i + 1) l)]); refine k_nil ?_; refine okS ?_ rfl; refine SC.seq ?_ nofun; refine SC.seq ?_ nofun; refine SC.regK ?_; refine k_fa ?_; refine k_ldp ?_; refine k_sf ?_; refine k_nil ?_; refine okS ?_ rfl; refine SC.cond_f rfl ?_; refine SC.skip ?_; refine SC.seq ?_ nofun; refine SC.seq ?_ nofun; refine SC.regK ?_; refine k_fa ?_; refine k_ldp ?_; refine k_call (hv _) ?_; refine k_not ?_; refine k_nil ?_; refine okS ?_ rfl; refine SC.cond_f rfl ?_; refine SC.skip ?_; refine SC.seq ?_ nofun; refine SC.regK ?_; refine k_lnp ?_ (c' := [SV.i IntKind.i64 1, SV.s (List.take i l), SV.s (List.drop (i + 1) l)]); refine k_sto ?_ (c' := [SV.i IntKind.i64 1, SV.s (List.take i l), SV.s (List.drop (i + 1) l)]); refine k_nil ?_; refine okS ?_ rfl; refine SC.ret ?_
                  refine ⟨_, retV_ldn rfl (by ((try dsimp only) <;> (repeat first | assumption | with_reducible rfl | exact h_same rfl | refine h_ne (by first | assumption | omega) ?_))) (by exact Nat.le_refl 3) (by rfl), ?_, fun y hy => by ((try dsimp only) <;> (repeat first | assumption | with_reducible rfl | exact h_same rfl | refine h_ne (by first | assumption | omega) ?_)); exact h5 y hy⟩
                  rfl
              · have d1 : decide (l.take i = [66, 69, 71, 73, 78]) = false := by rw [hB]; rfl
                have d2 : decide (l.take i = [69, 78, 68]) = true := decide_eq_true hB
                rw [if_pos hB]
                cases hvl : wordL (l.drop (i + 1)) <;> rw [hvl] at hv
                · refine SC.seq ?_ nofun; refine SC.seq ?_ nofun; refine SC.regK ?_; refine k_mv ?_; refine k_mv ?_; refine k_bls ?_; refine k_if ?_; refine k_mv ?_; refine k_mv ?_; refine k_mv ?_; refine k_sl ?_; refine k_call (hw _) ?_; refine k_not ?_; refine k_pf ?_; refine k_nil ?_; refine okS ?_ rfl; refine SC.cond_f rfl ?_; refine SC.skip ?_; refine SC.seq ?_ nofun; refine SC.dregK ?_; refine k_mv ?_; refine k_mv ?_; refine k_sl ?_; refine k_mv ?_; refine k_mv ?_; refine k_add ?_; refine k_sh ?_; refine k_bld ?_; refine k_alc ?_; refine k_sts ?_ (c' := [SV.i IntKind.i64 3, SV.s (List.take i l), SV.s (List.drop (i + 1) l)]); refine k_nil ?_; refine okD (ne := []) ?_ (by kernel_rfl) trivial; refine SC.seq ?_ nofun; refine SC.seq ?_ nofun; refine SC.regK ?_; refine k_fa ?_; refine k_ldp ?_; refine k_sf ?_; refine k_mv ?_; refine k_fa ?_; refine k_ldp ?_; refine k_st ?_; refine k_pf ?_; refine k_nil ?_; refine okS ?_ rfl; refine SC.cond_t rfl ?_; refine SC.seq ?_ nofun; refine SC.regK ?_; refine k_fa ?_; refine k_sts ?_ (c' := [SV.i IntKind.i64 1, SV.s (List.take i l), SV.s (List.drop (i + 1) l)]); refine k_nil ?_; refine okS ?_ rfl; refine SC.seq ?_ nofun; refine SC.seq ?_ nofun; refine SC.regK ?_; refine k_fa ?_; refine k_ldp ?_; refine k_st ?_; refine k_nil ?_; refine okS ?_ rfl; refine SC.cond_t rfl ?_; refine SC.regK ?_; refine k_fa ?_; refine k_sts ?_ (c' := [SV.i IntKind.i64 2, SV.s (List.take i l), SV.s (List.drop (i + 1) l)]); refine k_nil ?_; refine okS ?_ rfl; refine SC.seq ?_ nofun; refine SC.seq ?_ nofun; refine SC.regK ?_; refine k_fa ?_; refine k_ldp ?_; refine k_call (hv _) ?_; refine k_not ?_; refine k_nil ?_; refine okS ?_ rfl; refine SC.cond_t rfl ?_; refine SC.regK ?_; refine k_fa ?_; refine k_sts ?_ (c' := [SV.i IntKind.i64 4, SV.s (List.take i l), SV.s (List.drop (i + 1) l)]); refine k_nil ?_; refine okS ?_ rfl; refine SC.seq ?_ nofun; refine SC.regK ?_; refine k_lnp ?_ (c' := [SV.i IntKind.i64 4, SV.s (List.take i l), SV.s (List.drop (i + 1) l)])
                  refine k_sto ?_ (c' := [SV.i IntKind.i64 4, SV.s (List.take i l), SV.s (List.drop (i + 1) l)]); refine k_nil ?_; refine okS ?_ rfl; refine SC.ret ?_
                  refine ⟨_, retV_ldn rfl (by ((try dsimp only) <;> (repeat first | assumption | with_reducible rfl | exact h_same rfl | refine h_ne (by first | assumption | omega) ?_))) (by exact Nat.le_refl 3) (by rfl), ?_, fun y hy => by ((try dsimp only) <;> (repeat first | assumption | with_reducible rfl | exact h_same rfl | refine h_ne (by first | assumption | omega) ?_)); exact h5 y hy⟩
                  rfl
                · refine SC.seq ?_ nofun; refine SC.seq ?_ nofun; refine SC.regK ?_; refine k_mv ?_; refine k_mv ?_; refine k_bls ?_; refine k_if ?_; refine k_mv ?_; refine k_mv ?_; refine k_mv ?_; refine k_sl ?_; refine k_call (hw _) ?_; refine k_not ?_; refine k_pf ?_; refine k_nil ?_; refine okS ?_ rfl; refine SC.cond_f rfl ?_; refine SC.skip ?_; refine SC.seq ?_ nofun; refine SC.dregK ?_; refine k_mv ?_; refine k_mv ?_; refine k_sl ?_; refine k_mv ?_; refine k_mv ?_; refine k_add ?_; refine k_sh ?_; refine k_bld ?_; refine k_alc ?_; refine k_sts ?_ (c' := [SV.i IntKind.i64 3, SV.s (List.take i l), SV.s (List.drop (i + 1) l)]); refine k_nil ?_; refine okD (ne := []) ?_ (by kernel_rfl) trivial; refine SC.seq ?_ nofun; refine SC.seq ?_ nofun; refine SC.regK ?_; refine k_fa ?_; refine k_ldp ?_; refine k_sf ?_; refine k_mv ?_; refine k_fa ?_; refine k_ldp ?_; refine k_st ?_; refine k_pf ?_; refine k_nil ?_; refine okS ?_ rfl; refine SC.cond_t rfl ?_; refine SC.seq ?_ nofun; refine SC.regK ?_; refine k_fa ?_; refine k_sts ?_ (c' := [SV.i IntKind.i64 1, SV.s (List.take i l), SV.s (List.drop (i + 1) l)]); refine k_nil ?_; refine okS ?_ rfl; refine SC.seq ?_ nofun; refine SC.seq ?_ nofun; refine SC.regK ?_; refine k_fa ?_; refine k_ldp ?_; refine k_st ?_; refine k_nil ?_; refine okS ?_ rfl; refine SC.cond_t rfl ?_; refine SC.regK ?_; refine k_fa ?_; refine k_sts ?_ (c' := [SV.i IntKind.i64 2, SV.s (List.take i l), SV.s (List.drop (i + 1) l)]); refine k_nil ?_; refine okS ?_ rfl; refine SC.seq ?_ nofun; refine SC.seq ?_ nofun; refine SC.regK ?_; refine k_fa ?_; refine k_ldp ?_; refine k_call (hv _) ?_; refine k_not ?_; refine k_nil ?_; refine okS ?_ rfl; refine SC.cond_f rfl ?_; refine SC.skip ?_; refine SC.seq ?_ nofun; refine SC.regK ?_; refine k_lnp ?_ (c' := [SV.i IntKind.i64 2, SV.s (List.take i l), SV.s (List.drop (i + 1) l)]); refine k_sto ?_ (c' := [SV.i IntKind.i64 2, SV.s (List.take i l), SV.s (List.drop (i + 1) l)]); refine k_nil ?_; refine okS ?_ rfl; refine SC.ret ?_
                  refine ⟨_, retV_ldn rfl (by ((try dsimp only) <;> (repeat first | assumption | with_reducible rfl | exact h_same rfl | refine h_ne (by first | assumption | omega) ?_))) (by exact Nat.le_refl 3) (by rfl), ?_, fun y hy => by ((try dsimp only) <;> (repeat first | assumption | with_reducible rfl | exact h_same rfl | refine h_ne (by first | assumption | omega) ?_)); exact h5 y hy⟩
                  rfl
            · have d1 : decide (l.take i = [66, 69, 71, 73, 78]) = false := decide_eq_false fun e => hB (.inl e)
              have d2 : decide (l.take i = [69, 78, 68]) = false := decide_eq_false fun e => hB (.inr e)
              simp only [if_neg hB, Bool.true_eq_false, if_false]
              cases hu : unesc (l.drop (i + 1)) with
              | none =>
                simp only [hu] at hmn
                refine SC.seq ?_ nofun; refine SC.seq ?_ nofun; refine SC.regK ?_; refine k_mv ?_; refine k_mv ?_; refine k_bls ?_; refine k_if ?_; refine k_mv ?_; refine k_mv ?_; refine k_mv ?_; refine k_sl ?_; refine k_call (hw _) ?_; refine k_not ?_; refine k_pf ?_; refine k_nil ?_; refine okS ?_ rfl; refine SC.cond_f rfl ?_; refine SC.skip ?_; refine SC.seq ?_ nofun; refine SC.dregK ?_; refine k_mv ?_; refine k_mv ?_; refine k_sl ?_; refine k_mv ?_; refine k_mv ?_; refine k_add ?_; refine k_sh ?_; refine k_bld ?_; refine k_alc ?_; refine k_sts ?_ (c' := [SV.i IntKind.i64 3, SV.s (List.take i l), SV.s (List.drop (i + 1) l)]); refine k_nil ?_; refine okD (ne := []) ?_ (by kernel_rfl) trivial; refine SC.seq ?_ nofun; refine SC.seq ?_ nofun; refine SC.regK ?_; refine k_fa ?_; refine k_ldp ?_; refine k_sf ?_; refine k_mv ?_; refine k_fa ?_; refine k_ldp ?_; refine k_sf ?_; refine k_pf ?_; refine k_nil ?_; refine okS ?_ rfl; refine SC.cond_f rfl ?_; refine SC.skip ?_; refine SC.seq ?_ nofun; refine SC.regK ?_; refine k_fa ?_; refine k_ldp ?_; refine k_call (hmn _) ?_; refine k_mv ?_; refine k_ext ?_; refine k_ext ?_; refine k_mv ?_; refine k_mv ?_; refine k_nil ?_; refine okS ?_ rfl; refine SC.seq ?_ nofun; refine SC.seq ?_ nofun; refine SC.regK ?_; refine k_mv ?_; refine k_not ?_; refine k_mv ?_; refine k_no ?_; refine k_no ?_; refine k_no ?_; refine k_no ?_; refine k_no ?_; refine k_no ?_; refine k_no ?_; refine k_no ?_; refine k_pt ?_; refine k_nil ?_; refine okS ?_ rfl; refine SC.cond_t rfl ?_; refine SC.seq ?_ nofun; refine SC.regK ?_; refine k_bld ?_; refine k_sto ?_ (c' := [SV.i IntKind.i64 4, SV.s [], SV.s []]); refine k_nil ?_; refine okS ?_ rfl; refine SC.ret ?_
                refine ⟨_, retV_ldn rfl (by ((try dsimp only) <;> (repeat first | assumption | with_reducible rfl | exact h_same rfl | refine h_ne (by first | assumption | omega) ?_))) (by exact Nat.le_refl 3) (by rfl), ?_, fun y hy => by ((try dsimp only) <;> (repeat first | assumption | with_reducible rfl | exact h_same rfl | refine h_ne (by first | assumption | omega) ?_)); exact h5 y hy⟩
                rfl
              | some o =>
                simp only [hu] at hmn
                by_cases h80 : o.length > 80
                · have d80 : decide ((o.length : Int) ≤ 80) = false := decide_eq_false (by omega)
                  rw [d80] at hmn
                  simp only [if_pos h80]
                  refine SC.seq ?_ nofun; refine SC.seq ?_ nofun; refine SC.regK ?_; refine k_mv ?_; refine k_mv ?_; refine k_bls ?_; refine k_if ?_; refine k_mv ?_; refine k_mv ?_; refine k_mv ?_; refine k_sl ?_; refine k_call (hw _) ?_; refine k_not ?_; refine k_pf ?_; refine k_nil ?_; refine okS ?_ rfl; refine SC.cond_f rfl ?_; refine SC.skip ?_; refine SC.seq ?_ nofun; refine SC.dregK ?_; refine k_mv ?_; refine k_mv ?_; refine k_sl ?_; refine k_mv ?_; refine k_mv ?_; refine k_add ?_; refine k_sh ?_; refine k_bld ?_; refine k_alc ?_; refine k_sts ?_ (c' := [SV.i IntKind.i64 3, SV.s (List.take i l), SV.s (List.drop (i + 1) l)]); refine k_nil ?_; refine okD (ne := []) ?_ (by kernel_rfl) trivial; refine SC.seq ?_ nofun; refine SC.seq ?_ nofun; refine SC.regK ?_; refine k_fa ?_; refine k_ldp ?_; refine k_sf ?_; refine k_mv ?_; refine k_fa ?_; refine k_ldp ?_; refine k_sf ?_; refine k_pf ?_; refine k_nil ?_; refine okS ?_ rfl; refine SC.cond_f rfl ?_; refine SC.skip ?_; refine SC.seq ?_ nofun; refine SC.regK ?_; refine k_fa ?_; refine k_ldp ?_; refine k_call (hmn _) ?_; refine k_mv ?_; refine k_ext ?_; refine k_ext ?_; refine k_mv ?_; refine k_mv ?_; refine k_nil ?_; refine okS ?_ rfl; refine SC.seq ?_ nofun; refine SC.seq ?_ nofun; refine SC.regK ?_; refine k_mv ?_; refine k_not ?_; refine k_mv ?_; refine k_no ?_; refine k_no ?_; refine k_no ?_; refine k_no ?_; refine k_no ?_; refine k_no ?_; refine k_no ?_; refine k_no ?_; refine k_pt ?_; refine k_nil ?_; refine okS ?_ rfl; refine SC.cond_t rfl ?_; refine SC.seq ?_ nofun; refine SC.regK ?_; refine k_bld ?_; refine k_sto ?_ (c' := [SV.i IntKind.i64 4, SV.s [], SV.s []]); refine k_nil ?_; refine okS ?_ rfl; refine SC.ret ?_
                  refine ⟨_, retV_ldn rfl (by ((try dsimp only) <;> (repeat first | assumption | with_reducible rfl | exact h_same rfl | refine h_ne (by first | assumption | omega) ?_))) (by exact Nat.le_refl 3) (by rfl), ?_, fun y hy => by ((try dsimp only) <;> (repeat first | assumption | with_reducible rfl | exact h_same rfl | refine h_ne (by first | assumption | omega) ?_)); exact h5 y hy⟩
                  rfl
                · have d80 : decide ((o.length : Int) ≤ 80) = true := decide_eq_true (by omega)
                  rw [d80] at hmn
                  have hpl := fun s => plain_sc o s (by omega)
                  simp only [if_neg h80]
                  by_cases hI : l.take i = bID
                  · have d4 : decide (l.take i = [73, 68]) = true := decide_eq_true hI
                    simp only [hI, true_and]
                    cases hp : plainL o <;> rw [hp] at hpl
                    · refine SC.seq ?_ nofun; refine SC.seq ?_ nofun; refine SC.regK ?_; refine k_mv ?_; refine k_mv ?_; refine k_bls ?_; refine k_if ?_; refine k_mv ?_; refine k_mv ?_; refine k_mv ?_; refine k_sl ?_; refine k_call (hw _) ?_; refine k_not ?_; refine k_pf ?_; refine k_nil ?_; refine okS ?_ rfl; refine SC.cond_f rfl ?_; refine SC.skip ?_; refine SC.seq ?_ nofun; refine SC.dregK ?_; refine k_mv ?_; refine k_mv ?_; refine k_sl ?_; refine k_mv ?_; refine k_mv ?_; refine k_add ?_; refine k_sh ?_; refine k_bld ?_; refine k_alc ?_; refine k_sts ?_ (c' := [SV.i IntKind.i64 3, SV.s (List.take i l), SV.s (List.drop (i + 1) l)]); refine k_nil ?_; refine okD (ne := []) ?_ (by kernel_rfl) trivial; refine SC.seq ?_ nofun; refine SC.seq ?_ nofun; refine SC.regK ?_; refine k_fa ?_; refine k_ldp ?_; refine k_sf ?_; refine k_mv ?_; refine k_fa ?_; refine k_ldp ?_; refine k_sf ?_; refine k_pf ?_; refine k_nil ?_; refine okS ?_ rfl; refine SC.cond_f rfl ?_; refine SC.skip ?_; refine SC.seq ?_ nofun; refine SC.regK ?_; refine k_fa ?_; refine k_ldp ?_; refine k_call (hmn _) ?_; refine k_mv ?_; refine k_ext ?_; refine k_ext ?_; refine k_mv ?_; refine k_mv ?_; refine k_nil ?_; refine okS ?_ rfl; refine SC.seq ?_ nofun; refine SC.seq ?_ nofun; refine SC.regK ?_; refine k_mv ?_; refine k_not ?_; refine k_mv ?_; refine k_fa ?_; refine k_ldp ?_; refine k_st ?_; refine k_mv ?_; refine k_mv ?_; refine k_call (hpl _) ?_; refine k_not ?_; refine k_pt ?_; refine k_pf ?_; refine k_nil ?_; refine okS ?_ rfl; refine SC.cond_t rfl ?_; refine SC.seq ?_ nofun; refine SC.regK ?_; refine k_bld ?_; refine k_sto ?_ (c' := [SV.i IntKind.i64 4, SV.s [], SV.s []]); refine k_nil ?_; refine okS ?_ rfl; refine SC.ret ?_
                      refine ⟨_, retV_ldn rfl (by ((try dsimp only) <;> (repeat first | assumption | with_reducible rfl | exact h_same rfl | refine h_ne (by first | assumption | omega) ?_))) (by exact Nat.le_refl 3) (by rfl), ?_, fun y hy => by ((try dsimp only) <;> (repeat first | assumption | with_reducible rfl | exact h_same rfl | refine h_ne (by first | assumption | omega) ?_)); exact h5 y hy⟩
                      first | rfl | (rw [hI]; rfl)
                    · refine SC.seq ?_ nofun; refine SC.seq ?_ nofun; refine SC.regK ?_; refine k_mv ?_; refine k_mv ?_; refine k_bls ?_; refine k_if ?_; refine k_mv ?_; refine k_mv ?_; refine k_mv ?_; refine k_sl ?_; refine k_call (hw _) ?_; refine k_not ?_; refine k_pf ?_; refine k_nil ?_; refine okS ?_ rfl; refine SC.cond_f rfl ?_; refine SC.skip ?_; refine SC.seq ?_ nofun; refine SC.dregK ?_; refine k_mv ?_; refine k_mv ?_; refine k_sl ?_; refine k_mv ?_; refine k_mv ?_; refine k_add ?_; refine k_sh ?_; refine k_bld ?_; refine k_alc ?_; refine k_sts ?_ (c' := [SV.i IntKind.i64 3, SV.s (List.take i l), SV.s (List.drop (i + 1) l)]); refine k_nil ?_; refine okD (ne := []) ?_ (by kernel_rfl) trivial; refine SC.seq ?_ nofun; refine SC.seq ?_ nofun; refine SC.regK ?_; refine k_fa ?_; refine k_ldp ?_; refine k_sf ?_; refine k_mv ?_; refine k_fa ?_; refine k_ldp ?_; refine k_sf ?_; refine k_pf ?_; refine k_nil ?_; refine okS ?_ rfl; refine SC.cond_f rfl ?_; refine SC.skip ?_; refine SC.seq ?_ nofun; refine SC.regK ?_; refine k_fa ?_; refine k_ldp ?_; refine k_call (hmn _) ?_; refine k_mv ?_; refine k_ext ?_; refine k_ext ?_; refine k_mv ?_; refine k_mv ?_; refine k_nil ?_; refine okS ?_ rfl; refine SC.seq ?_ nofun; refine SC.seq ?_ nofun; refine SC.regK ?_; refine k_mv ?_; refine k_not ?_; refine k_mv ?_; refine k_fa ?_; refine k_ldp ?_; refine k_st ?_; refine k_mv ?_; refine k_mv ?_; refine k_call (hpl _) ?_; refine k_not ?_; refine k_pt ?_; refine k_pf ?_; refine k_nil ?_; refine okS ?_ rfl; refine SC.cond_f rfl ?_; refine SC.skip ?_; refine SC.seq ?_ nofun; refine SC.regK ?_; refine k_mv ?_; refine k_fa ?_; refine k_sts ?_ (c' := [SV.i IntKind.i64 3, SV.s (List.take i l), SV.s o]); refine k_nil ?_; refine okS ?_ rfl; refine SC.seq ?_ nofun; refine SC.regK ?_; refine k_lnp ?_ (c' := [SV.i IntKind.i64 3, SV.s (List.take i l), SV.s o]); refine k_sto ?_ (c' := [SV.i IntKind.i64 3, SV.s (List.take i l), SV.s o]); refine k_nil ?_; refine okS ?_ rfl; refine SC.ret ?_
                      refine ⟨_, retV_ldn rfl (by ((try dsimp only) <;> (repeat first | assumption | with_reducible rfl | exact h_same rfl | refine h_ne (by first | assumption | omega) ?_))) (by exact Nat.le_refl 3) (by rfl), ?_, fun y hy => by ((try dsimp only) <;> (repeat first | assumption | with_reducible rfl | exact h_same rfl | refine h_ne (by first | assumption | omega) ?_)); exact h5 y hy⟩
                      first | rfl | (rw [hI]; rfl)
                  · have d4 : decide (l.take i = [73, 68]) = false := decide_eq_false hI
                    simp only [hI, false_and, if_false]
                    refine SC.seq ?_ nofun; refine SC.seq ?_ nofun; refine SC.regK ?_; refine k_mv ?_; refine k_mv ?_; refine k_bls ?_; refine k_if ?_; refine k_mv ?_; refine k_mv ?_; refine k_mv ?_; refine k_sl ?_; refine k_call (hw _) ?_; refine k_not ?_; refine k_pf ?_; refine k_nil ?_; refine okS ?_ rfl; refine SC.cond_f rfl ?_; refine SC.skip ?_; refine SC.seq ?_ nofun; refine SC.dregK ?_; refine k_mv ?_; refine k_mv ?_; refine k_sl ?_; refine k_mv ?_; refine k_mv ?_; refine k_add ?_; refine k_sh ?_; refine k_bld ?_; refine k_alc ?_; refine k_sts ?_ (c' := [SV.i IntKind.i64 3, SV.s (List.take i l), SV.s (List.drop (i + 1) l)]); refine k_nil ?_; refine okD (ne := []) ?_ (by kernel_rfl) trivial; refine SC.seq ?_ nofun; refine SC.seq ?_ nofun; refine SC.regK ?_; refine k_fa ?_; refine k_ldp ?_; refine k_sf ?_; refine k_mv ?_; refine k_fa ?_; refine k_ldp ?_; refine k_sf ?_; refine k_pf ?_; refine k_nil ?_; refine okS ?_ rfl; refine SC.cond_f rfl ?_; refine SC.skip ?_; refine SC.seq ?_ nofun; refine SC.regK ?_; refine k_fa ?_; refine k_ldp ?_; refine k_call (hmn _) ?_; refine k_mv ?_; refine k_ext ?_; refine k_ext ?_; refine k_mv ?_; refine k_mv ?_; refine k_nil ?_; refine okS ?_ rfl; refine SC.seq ?_ nofun; refine SC.seq ?_ nofun; refine SC.regK ?_; refine k_mv ?_; refine k_not ?_; refine k_mv ?_; refine k_fa ?_; refine k_ldp ?_; refine k_sf ?_; refine k_mv ?_; refine k_no ?_; refine k_no ?_; refine k_no ?_; refine k_pf ?_; refine k_pf ?_; refine k_nil ?_; refine okS ?_ rfl; refine SC.cond_f rfl ?_; refine SC.skip ?_; refine SC.seq ?_ nofun; refine SC.regK ?_; refine k_mv ?_; refine k_fa ?_; refine k_sts ?_ (c' := [SV.i IntKind.i64 3, SV.s (List.take i l), SV.s o]); refine k_nil ?_; refine okS ?_ rfl; refine SC.seq ?_ nofun; refine SC.regK ?_; refine k_lnp ?_ (c' := [SV.i IntKind.i64 3, SV.s (List.take i l), SV.s o]); refine k_sto ?_ (c' := [SV.i IntKind.i64 3, SV.s (List.take i l), SV.s o]); refine k_nil ?_; refine okS ?_ rfl; refine SC.ret ?_
                    refine ⟨_, retV_ldn rfl (by ((try dsimp only) <;> (repeat first | assumption | with_reducible rfl | exact h_same rfl | refine h_ne (by first | assumption | omega) ?_))) (by exact Nat.le_refl 3) (by rfl), ?_, fun y hy => by ((try dsimp only) <;> (repeat first | assumption | with_reducible rfl | exact h_same rfl | refine h_ne (by first | assumption | omega) ?_)); exact h5 y hy⟩
                    rfl
        · have hx : ixB 58 l = none := ixB_none fun j e => by
            have := (List.getElem?_eq_some_iff.1 e).1
            exact h1 j (by omega) e
          obtain rfl : i = l.length := by omega
          simp only [hx]
          refine SC.seq ?_ nofun; refine SC.seq ?_ nofun; refine SC.regK ?_; refine k_mv ?_; refine k_mv ?_; refine k_bls ?_; refine k_it ?_; refine k_mv ?_; refine k_no ?_; refine k_no ?_; refine k_no ?_; refine k_no ?_; refine k_no ?_; refine k_pt ?_; refine k_nil ?_; refine okS ?_ rfl; refine SC.cond_t rfl ?_; refine SC.seq ?_ nofun; refine SC.regK ?_; refine k_bld ?_; refine k_sto ?_ (c' := [SV.i IntKind.i64 4, SV.s [], SV.s []]); refine k_nil ?_; refine okS ?_ rfl; refine SC.ret ?_
          refine ⟨_, retV_ldn rfl (by ((try dsimp only) <;> (repeat first | assumption | with_reducible rfl | exact h_same rfl | refine h_ne (by first | assumption | omega) ?_))) (by exact Nat.le_refl 3) (by rfl), ?_, fun y hy => by ((try dsimp only) <;> (repeat first | assumption | with_reducible rfl | exact h_same rfl | refine h_ne (by first | assumption | omega) ?_)); exact h5 y hy⟩
          rfl
      · refine SC.loop [0, 2, 6] (fun vs s' => ∃ i : Nat, i ≤ l.length ∧ vs = [.s l, .p n 0, .i .i64 i] ∧ (∀ j, j < i → l[j]? ≠ some 58) ∧ s'.H n = some (.row 80 3 [.i .i64 0, .s [], .s []]) ∧ s'.nxt = n + 1 ∧ ∀ y, y < n → s'.H y = H y) (fun vs _ => match vs with
          | [_, _, .i _ i] => l.length - i.toNat
          | _ => 0) rfl ⟨0, Nat.zero_le _, rfl, fun j hj => by omega, by ((try dsimp only) <;> (repeat first | assumption | with_reducible rfl | exact h_same rfl | refine h_ne (by first | assumption | omega) ?_)), rfl, fun y hy => by ((try dsimp only) <;> (repeat first | assumption | with_reducible rfl | exact h_same rfl | refine h_ne (by first | assumption | omega) ?_))⟩ nofun ?_
        rintro _ ⟨H', n'⟩ ⟨i, hi, rfl, h1, h3, h4, h5⟩
        dsimp only at h3 h4 h5
        subst h4
        by_cases h : i < l.length
        · obtain ⟨c, hc⟩ : ∃ c, l[i]? = some c := ⟨l[i], List.getElem?_eq_getElem h⟩
          by_cases h58 : c = 58
          · subst h58
            refine SC.seq ?_ nofun; refine SC.seq ?_ nofun; refine SC.regK ?_; refine k_mv ?_; refine k_mv ?_; refine k_bls ?_; refine k_it ?_; refine k_mv ?_; refine k_mv ?_; refine k_mv ?_; refine k_ixs ?_; refine k_if ?_; refine k_pt ?_; refine k_nil ?_; refine okS ?_ rfl; refine SC.cond_f rfl ?_; refine SC.exit ?_
            exact ⟨_, rfl, i, hi, rfl, h1, fun _ => hc, h3, rfl, h5⟩
          · have h2 : ¬ c.toNat = 58 := fun e => h58 (UInt8.toNat_inj.1 e)
            refine SC.seq ?_ nofun; refine SC.seq ?_ nofun; refine SC.regK ?_; refine k_mv ?_; refine k_mv ?_; refine k_bls ?_; refine k_it ?_; refine k_mv ?_; refine k_mv ?_; refine k_mv ?_; refine k_ixs ?_; refine k_it ?_; refine k_pt ?_; refine k_nil ?_; refine okS ?_ rfl; refine SC.cond_t rfl ?_; refine SC.skip ?_; refine SC.blk ?_; refine SC.regK ?_; refine k_mv ?_; refine k_add ?_; refine k_mv ?_; refine k_nil ?_; refine okS ?_ rfl
            refine ⟨_, rfl, ⟨i + 1, h, rfl, fun j hj => ?_, h3, rfl, h5⟩, by simp; omega⟩
            rcases Nat.lt_or_ge j i with h4 | h4
            · exact h1 j h4
            · obtain rfl : j = i := by omega
              rw [hc]; simpa using h58
        · refine SC.seq ?_ nofun; refine SC.seq ?_ nofun; refine SC.regK ?_; refine k_mv ?_; refine k_mv ?_; refine k_bls ?_; refine k_if ?_; refine k_mv ?_; refine k_no ?_; refine k_no ?_; refine k_no ?_; refine k_no ?_; refine k_pf ?_; refine k_nil ?_; refine okS ?_ rfl; refine SC.cond_f rfl ?_; refine SC.exit ?_
          exact ⟨_, rfl, i, hi, rfl, h1, fun h' => absurd h' h, h3, rfl, h5⟩
end Go.Proofs.YtpacfelhjjmmkaaDoor
end
section
namespace Go.Proofs.YtpacfelhjjmmkaaDoor
open Go Go.Sy Go.Tr
set_option linter.unusedVariables false
set_option linter.unusedSimpArgs false
theorem of_quiet {f : Nat} {al : List SV} {s : St} {r : SV} (hE : entersB Tryd.prog f = true) (h : ∀ (σ : Env) (w : World) (vs : List Value), VRs σ al vs → ∃ x, VR σ r x ∧ Calls Tryd.prog f vs.toArray w fun e w' => e = .returned x ∧ w' = w) : SCall Tryd.prog f al s r s :=
  SCall.of hE fun σ w vs hh hv => by
    obtain ⟨x, h1, h2⟩ := h σ w vs hv
    exact h2.mono fun e w' ⟨he, hw⟩ => ⟨x, σ, he, h1, by subst hw; exact .refl hh⟩
theorem two_inv {σ : Env} {a b : SV} {vs : List Value} (h : VRs σ [a, b] vs) : ∃ x y, vs = [x, y] ∧ VR σ a x ∧ VR σ b y := by
  cases h with
  | cons h1 h2 => cases h2 with
    | cons h2 h3 => cases h3; exact ⟨_, _, rfl, h1, h2⟩
def ixI (c : UInt8) (l : List UInt8) : Int := match ixB c l with
  | none => -1
  | some i => (i : Int)
theorem indexByte_ix (c : UInt8) : ∀ l : List UInt8, Lib.indexByte l c = ixI c l
  | [] => rfl
  | b :: l => by
    have ih := indexByte_ix c l
    simp only [Lib.indexByte, ixI, ixB] at ih ⊢
    rw [ih]
    by_cases hb : b = c
    · rw [if_pos (by simpa using hb), if_pos hb]; rfl
    · rw [if_neg (by simpa using hb), if_neg hb]
      cases ixB c l with
      | none => rfl
      | some i =>
        have : ((i : Int) == -1) = false := by simp
        simp only [this, Bool.false_eq_true, if_false, Option.map_some]
        omega
theorem indexByte_sc (l : List UInt8) (c : UInt8) (s : St) : SCall Tryd.prog 46 [.s l, .i .u8 c.toNat] s (.i .i64 (ixI c l)) s := of_quiet (by kernel_rfl) fun σ w vs hv => by
    obtain ⟨x, y, rfl, h1, h2⟩ := two_inv hv
    rw [h1.s_inv, h2.i_inv, ← indexByte_ix]
    refine ⟨_, .i, ?_⟩
    have := Tryd.strings_IndexByte (bA l) c.toNat w
    simpa using this
theorem hasSuffix_sc (l p : List UInt8) (s : St) (hl : l.length ≤ 1000000) : SCall Tryd.prog 48 [.s l, .s p] s (.b (Lib.hasSuffix l p)) s := of_quiet (by kernel_rfl) fun σ w vs hv => by
    obtain ⟨x, y, rfl, h1, h2⟩ := two_inv hv
    rw [h1.s_inv, h2.s_inv]
    refine ⟨_, .b, ?_⟩
    have := Tryd.strings_HasSuffix (bA l) (bA p) w (by show l.toArray.size ≤ _; simp; omega)
    simpa using this
theorem contains1_sc (l : List UInt8) (c : UInt8) (s : St) : SCall Tryd.prog 28 [.s l, .s [c]] s (.b (decide (0 ≤ ixI c l))) s := of_quiet (by kernel_rfl) fun σ w vs hv => by
    obtain ⟨x, y, rfl, h1, h2⟩ := two_inv hv
    rw [h1.s_inv, h2.s_inv]
    refine ⟨_, .b, ?_⟩
    have := Tryd.strings_Contains_one (bA l) c w
    simpa [indexByte_ix] using this
end Go.Proofs.YtpacfelhjjmmkaaDoor
end
section
open Go Go.RowKit Go.Kb Go.Tr
namespace Go.Proofs.YtpacfelhjjmmkaaDoor
theorem info_line : (Tryd.prog.info? 67).map (fun i => (i.zero, i.size, i.bytes)) = some (some (.agg #[.string ⟨#[]⟩, .string ⟨#[]⟩]), 2, 32) := by kernel_rfl
set_option maxRecDepth 100000 in
theorem cloneL_any (w : World) (A : Option Addr) (n c : Nat) (l : List Value) (hR : RV w 2 A n c l) (hn : n ≤ 1000000) :
    Calls Tryd.prog 47 #[.slice A n c] w (ClonePost w 2 n l) := by
  obtain ⟨i0, hif, hz0, hz1, hz2⟩ := info_parts info_line
  have hnil := fun w' a l c => Lib.run_eql_slice_nil (P := Tryd.prog) w' 60 67 a l c 0 0 Tryd.underlying60
  have HR := Lib.hid hR
  cases A with
  | none =>
    obtain ⟨rfl, rfl⟩ := hR.nil rfl
    obtain rfl : l = [] := List.eq_nil_of_length_eq_zero (by simpa using hR.len)
    clear hR
    go_enter Tryd.func47, Tryd.ntmps47
    go_wp2_with fail
    go_ret
    exact ⟨none, 0, rfl, Below.refl _ _, HR.out, (fun ad e => by cases e), by simp [maxLen]⟩
  | some ad =>
    clear hR
    go_enter Tryd.func47, Tryd.ntmps47
    go_wp2_with (first | (at_builtin; refine wpList_ap rfl _ _ 60 rfl w.heap.size 67 i0 _ 2 32 Tryd.underlying60 hif hz0 hz1 hz2 rfl (by decide) _ rfl _ _ _ rfl 0 [] (own_new (w := w) (cur := #[]) rfl (Nat.le_refl _) (by simp [maxLen]) rfl rfl) l (HR.out.below (balloc (Below.refl _ _) (Nat.le_refl _) _)) (by simp only [maxLen]; omega) (by omega) (by simp) ?_; intro A1 c1 w1 hown1 hg1; have HO1 := Lib.hid hown1; clear hown1))
    go_ret
    have h := HO1.out
    rw [Nat.zero_add, List.nil_append] at h
    obtain ⟨A', c', he, hR', hcm, hbl⟩ := own_rv h HR.out.one
    injection he with e1 _ e3
    subst e1
    subst e3
    exact ⟨A1, c1, rfl, below_own (balloc (Below.refl _ _) (Nat.le_refl _) _) hg1 (Nat.le_refl _) (by simp), hR', fun ad e => ⟨(hbl ad e).1, (hbl ad e).2.1⟩, hcm⟩
end Go.Proofs.YtpacfelhjjmmkaaDoor
end
section
namespace Go.Proofs.YtpacfelhjjmmkaaDoor
open Go Go.Sy Go.Tr Go.Kb
set_option linter.unusedVariables false
set_option linter.unusedSimpArgs false
theorem vrs_one {σ : Env} : ∀ {cells : List SV} {xs : List Value}, VRs σ cells xs → cells.all SV.one = true → ∀ u ∈ xs, u.oneCell' = true
  | _, _, .nil, _, u, hu => by cases hu
  | _, _, .cons h t, ho, u, hu => by
    simp only [List.all_cons, Bool.and_eq_true] at ho
    rcases List.mem_cons.1 hu with rfl | hu
    · exact h.one ho.1
    · exact vrs_one t ho.2 u hu
theorem cloneL_sc {s : St} {v : SV} {n : Nat} {cells : List SV} (hv : rdS 2 s v = some (n, cells)) (hl : cells.length = n * 2) (ho : cells.all SV.one = true) (hn : n ≤ 1000000) : SCall Tryd.prog 47 [v] s (.lst n cells) s :=
  SCall.of (by kernel_rfl) fun σ w vs hh hvs => by
    cases hvs with
    | cons h1 h2 =>
      cases h2
      obtain ⟨A, c, xs, rfl, q2, q3, q4, q5, q6, q7⟩ := rdS_sound hh hv hl h1
      have hR : RV w 2 A n c xs := ⟨q3, q5, q4, fun ad e j u hu => q7 ad e w rfl j u hu, vrs_one q2 ho⟩
      refine (cloneL_any w A n c xs hR hn).mono fun e w' h => ?_
      obtain ⟨A', c', rfl, hb, hR', hbl, hcm⟩ := h
      have hg := Good.frzNew hh hb
      exact ⟨_, _, rfl, lst_out (by decide) (q2.ext hg.ext) hR' hbl hcm hl, hg⟩
end Go.Proofs.YtpacfelhjjmmkaaDoor
end
section
namespace Go.Sy
open Go
set_option linter.unusedVariables false
set_option linter.unusedSimpArgs false
mutual
inductive Fz (q : Nat) (cs : List SV) : SV → SV → Prop
  | refl (a : SV) : Fz q cs a a
  | p (o : Nat) : Fz q cs (.p q o) (.pl (cs.drop o))
  | sl (n : Nat) : Fz q cs (.sl q 0 n) (.lst n cs)
  | lst {n : Nat} {c c' : List SV} (h : Fzs q cs c c') : Fz q cs (.lst n c) (.lst n c')
  | agg {c c' : List SV} (h : Fzs q cs c c') : Fz q cs (.agg c) (.agg c')
  | tup {c c' : List SV} (h : Fzs q cs c c') : Fz q cs (.tup c) (.tup c')
  | pl {c c' : List SV} (h : Fzs q cs c c') : Fz q cs (.pl c) (.pl c')
inductive Fzs (q : Nat) (cs : List SV) : List SV → List SV → Prop
  | nil : Fzs q cs [] []
  | cons {a b : SV} {l m : List SV} (h : Fz q cs a b) (t : Fzs q cs l m) : Fzs q cs (a :: l) (b :: m)
end
section
variable {q : Nat} {cs : List SV}
theorem Fzs.refl : ∀ l, Fzs q cs l l
  | [] => .nil
  | a :: l => .cons (.refl a) (Fzs.refl l)
theorem Fzs.append : ∀ {a b c d : List SV}, Fzs q cs a b → Fzs q cs c d → Fzs q cs (a ++ c) (b ++ d)
  | _, _, _, _, .nil, h => h
  | _, _, _, _, .cons h t, k => .cons h (Fzs.append t k)
theorem Fz.one {a b : SV} (h : Fz q cs a b) : b.one = a.one := by cases h <;> rfl
theorem Fzs.one : ∀ {a b : List SV}, Fzs q cs a b → a.all SV.one = true → b.all SV.one = true
  | _, _, .nil, h => h
  | _, _, .cons k t, h => by
    simp only [List.all_cons, Bool.and_eq_true] at h ⊢
    exact ⟨by rw [k.one]; exact h.1, t.one h.2⟩
mutual
theorem VR.fz {σ : Env} {r κ : Nat} {xs : List Value} (ha : σ.a q = some (r, κ)) (hv : σ.v q = false) (hz : σ.z r = some xs) (hx : VRs σ cs xs) : ∀ {a b : SV} {v : Value}, Fz q cs a b → VR σ a v → VR σ b v
  | _, _, _, .refl a, h => h
  | _, _, _, .p o, h => by
    cases h with
    | p e =>
      rw [ha] at e
      obtain ⟨rfl, rfl⟩ := Prod.mk.inj (Option.some.inj e)
      exact .pl hz (hx.drop o) (List.prefix_refl _)
  | _, _, _, .sl n, h => by
    cases h with
    | sl e hn hc h0 =>
      rw [ha] at e
      obtain ⟨rfl, rfl⟩ := Prod.mk.inj (Option.some.inj e)
      exact .lst hz hx (by simp) hn hc
    | sl0 e => rw [hv] at e; cases e
  | _, _, _, .lst k, .lst h hx' hp hn hc => .lst h (VRs.fz ha hv hz hx k hx') hp hn hc
  | _, _, _, .lst k, .lst0 h0 hc hm => by cases k; exact .lst0 h0 hc hm
  | _, _, _, .agg k, .agg h => .agg (VRs.fz ha hv hz hx k h)
  | _, _, _, .tup k, .tup h => .tup (VRs.fz ha hv hz hx k h)
  | _, _, _, .pl k, .pl h hx' hp => .pl h (VRs.fz ha hv hz hx k hx') hp
theorem VRs.fz {σ : Env} {r κ : Nat} {xs : List Value} (ha : σ.a q = some (r, κ)) (hv : σ.v q = false) (hz : σ.z r = some xs) (hx : VRs σ cs xs) : ∀ {a b : List SV} {v : List Value}, Fzs q cs a b → VRs σ a v → VRs σ b v
  | _, _, _, .nil, h => h
  | _, _, _, .cons k t, .cons h r => .cons (VR.fz ha hv hz hx k h) (VRs.fz ha hv hz hx t r)
end
inductive BFz (q : Nat) (cs : List SV) : Blk → Blk → Prop
  | row {e z : Nat} {c c' : List SV} (h : Fzs q cs c c') : BFz q cs (.row e z c) (.row e z c')
theorem BFz.refl : ∀ k, BFz q cs k k
  | .row e z c => .row (Fzs.refl _)
def FzH (q : Nat) (cs : List SV) (s s2 : St) : Prop := s.nxt ≤ s2.nxt ∧ ∀ b k', s2.H b = some k' → b ≠ q ∧ ∃ k, s.H b = some k ∧ BFz q cs k k'
theorem HR.fz {σ : Env} {s s2 : St} {w : World} (h : HR σ s w) {e z : Nat} (hq : s.H q = some (.row e z cs)) (hne : cs ≠ []) (hH : FzH q cs s s2) :
    ∃ σ', Good σ s w σ' s2 w ∧ (∀ a b v, Fz q cs a b → VR σ a v → VR σ' b v) := by
  obtain ⟨r, κ, ha⟩ : ∃ r κ, σ.a q = some (r, κ) := by
    rcases h.blk q _ hq with ⟨_, e', z', h4⟩ | ⟨r, κ, o, h3, _⟩
    · injection h4 with _ _ h4; exact absurd h4 hne
    · exact ⟨r, κ, h3⟩
  have hv : σ.v q = false := by
    cases hv : σ.v q with
    | false => rfl
    | true => rw [h.virt q hv] at ha; cases ha
  obtain ⟨xs, hx, hg⟩ := h.freeze hq ha
  have ha' : (σ.frz r xs).a q = some (r, κ) := ha
  have hv' : (σ.frz r xs).v q = false := hv
  have hz' : (σ.frz r xs).z r = some xs := if_pos rfl
  have hx' := hx.ext hg.ext
  have h' := hg.hr
  have hsub : ∀ b k, s.H b = some k → b ≠ q → (upd s.H q none) b = some k := fun b k hk hb => by rw [upd_ne _ _ hb]; exact hk
  have h2 : Good (σ.frz r xs) { s with H := upd s.H q none } w (σ.frz r xs) s2 w := by
    refine ⟨.refl _, ⟨fun b k' e => ?_, h'.virt, fun b b' k k' r κ κ' e e' => ?_, fun b k r κ e => ?_, h'.frz, fun b hb => h'.fresh b (Nat.le_trans hH.1 hb), h'.lt, h'.m⟩, ⟨rfl, rfl, rfl, Nat.le_refl _, fun _ _ _ => rfl⟩, fun b x r κ e a => ?_, hH.1, fun _ _ => ⟨rfl, rfl⟩, zn_same⟩
    · obtain ⟨hb, k, h1, h2⟩ := hH.2 b k' e
      cases h2 with
      | @row e z c c' hw =>
        rcases h'.blk b _ (hsub b _ h1 hb) with ⟨h3, e', z', h4⟩ | ⟨r', κ', o, h3, h4, cc, ys, lo, hi, rfl, h5, h6, h7, h8, h9⟩
        · injection h4 with _ _ h4
          subst h4
          cases hw
          exact .inl ⟨h3, _, _, rfl⟩
        · exact .inr ⟨r', κ', _, h3, h4, cc, ys, lo, hi, rfl, VRs.fz ha' hv' hz' hx' hw h5, h6, h7, hw.one h8, h9⟩
    · obtain ⟨hb, _, h1, _⟩ := hH.2 b k e
      obtain ⟨hb', _, h2, _⟩ := hH.2 b' k' e'
      exact h'.inj b b' _ _ r κ κ' (hsub _ _ h1 hb) (hsub _ _ h2 hb')
    · obtain ⟨hb, _, h1, _⟩ := hH.2 b k e
      exact h'.apart b _ r κ (hsub _ _ h1 hb)
    · obtain ⟨hb, k, h1, _⟩ := hH.2 b x e
      exact .inr ⟨b, k, κ, hsub _ _ h1 hb, a⟩
  exact ⟨_, hg.trans h2, fun a b v hf hva => VR.fz ha' hv' hz' hx' hf (hva.ext hg.ext)⟩
theorem SC.fz {P : Program} {nt : Nat} {c : AC} {T T2 : Tm} {s s2 : St} {Q : Exit → Tm → St → Prop} {e z : Nat} (hq : s.H q = some (.row e z cs)) (hne : cs ≠ []) (hH : FzH q cs s s2) (hT : ∀ t v', T2.get t = some v' → ∃ v, T.get t = some v ∧ Fz q cs v v') (h : SC P nt c T2 s2 Q) : SC P nt c T s Q := ⟨h.1, fun code hc σ a w ht hh hnt => by
  obtain ⟨σ', hg, hf⟩ := hh.fz hq hne hH
  refine wp_mono (h.2 code hc σ' a w (fun t v' e' => ?_) hg.hr hnt) ?_
  · obtain ⟨v, h1, h2⟩ := hT t v' e'
    exact ⟨(ht t v h1).1, hf _ _ _ h2 (ht t v h1).2⟩
  · rintro e a' w' ⟨σ2, T', s', q1, q2, q3, q4, q5⟩
    exact ⟨σ2, T', s', q1, q2, q3, hg.trans q4, q5⟩⟩
theorem SCallR.fz {P : Program} {f : Nat} {az : List SV} {s : St} {Q : SV → St → Prop} (h : SCallR P f az s fun r s' => ∃ q cs e z r' s2, s'.H q = some (.row e z cs) ∧ cs ≠ [] ∧ Fz q cs r r' ∧ FzH q cs s' s2 ∧ Q r' s2) : SCallR P f az s Q := fun σ w vs hh hv =>
  (h σ w vs hh hv).mono fun x w' ⟨r, s1, σ', h1, h2, q, cs, e, z, r', s2, g1, g2, g3, g4, g5⟩ => by
    obtain ⟨σ2, k1, k2⟩ := h2.hr.fz g1 g2 g4
    exact ⟨r', s2, σ2, k2 _ _ _ g3 h1, h2.trans k1, g5⟩
end
section
variable {P : Program} {T : Tm} {s : St} {σ : Env} {w : World}
theorem op_nilcl {x : SO} {c : List SV} (hx : evO T x = some (.pl c)) : SOpP P (.nilc x) T (.pl c) := SOpP.same fun oo' hcp σ w a ho => by
  obtain ⟨_, opr, _⟩ := oo'
  dsimp only at hcp
  cases hcp with
  | nilc h1 =>
    have p := oo_sound h1 hx ho
    obtain ⟨xs, zs, r, o, p1, h2, h3, h4⟩ := p.pl_inv
    exact ⟨_, by simp [execOp, p1], .pl h2 h3 h4⟩
theorem op_eqln {op : BinOp} {x y : SO} {c : List SV} {v : SV} (hx : evO T x = some (.pl c)) (hy : evO T y = some .nilp) (h : eqOp op false = some v) : SOpP P (.bin op .ptr x y) T v := fun s =>
  op_bin hx hy (fun σ X Y h1 h2 => by cases h1; simp) (fun t w σ X Y _ ht h1 h2 => by
    obtain ⟨e, n, i, k2, k2i, k2s⟩ := (ekOf_cases P t).2.1 ht.symm
    cases h1; cases h2
    refine eq_op (t := t) h ?_ (by simp) (by simp) (by simp) (by simp)
    suffices key : ∀ d ad, (Op.equalIn (d + 1) t (.pointer (some ad)) (.pointer none)).run P w = .ok false w from key 9999 _
    intro d ad
    simp [Op.equalIn, underlying, program, Sem.run, k2])
theorem same_addrl (P : Program) (h : HR σ s w) {b o o' r r' κ e z : Nat} {cs : List SV} {zs : List Value} (g1 : s.H b = some (.row e z cs)) (hz : z ≠ 1) (hcs : cs ≠ []) (e1 : σ.a b = some (r, κ)) (e2 : σ.z r' = some zs) (hzs : zs ≠ []) :
    (sameAddr ⟨r', o', none⟩ ⟨r, o, none⟩).run P w = .ok false w := by
  obtain ⟨c, xs, lo, hi, q1, q3, q4, _, _, _, q2⟩ := h.row g1 e1
  obtain ⟨c', e', fr, q1', q2'⟩ := h.frz r' zs e2
  have hr : r' ≠ r := fun er => by subst er; rw [h.apart b _ r' κ g1 e1] at e2; cases e2
  have f1 : ∀ j, w.frozen? ⟨r, j, none⟩ = false := fun j => by rw [frozen_of_heap q1]; have := q2 hz j; simp; omega
  have hsz : c.size ≠ 0 := fun e0 => by
    have h1 := q4.length_le
    have h2 := q3.length
    have h3 : c.toList.length = 0 := e0
    exact hcs (List.length_eq_zero_iff.1 (by omega))
  obtain ⟨k', hk'⟩ : ∃ k, c'.size = k + 1 := by
    have h1 := q2'.length_le
    have h2 : c'.toList.length = c'.size := rfl
    have h3 := List.length_pos_iff.2 hzs
    exact ⟨c'.size - 1, by omega⟩
  have s1 : w.shape? r = some (e, c.size) := by simp [World.shape?, q1]
  have s2 : w.shape? r' = some (e', c'.size) := by simp [World.shape?, q1']
  rw [hk'] at s2
  simp [sameAddr, hr, frozen, Sem.run, f1, noView, viewAt, shape, s1, s2, mayBeOne, stringish, hsz]
theorem op_nelp {op : BinOp} {x y : SO} {b o e z : Nat} {c cs : List SV} {v : SV} (hx : evO T x = some (.pl c)) (hy : evO T y = some (.p b o)) (g1 : s.H b = some (.row e z cs)) (hz : z ≠ 1) (hcs : cs ≠ []) (hc : c ≠ []) (h : eqOp op false = some v) : SOp P (.bin op .ptr x y) T s v s :=
  op_bin hx hy (fun σ X Y h1 h2 => by cases h1; simp) (fun t w σ X Y hr ht h1 h2 => by
    obtain ⟨te, n, i, k2, k2i, k2s⟩ := (ekOf_cases P t).2.1 ht.symm
    cases h1; cases h2
    rename_i xs zs r' o' e2 hp hxs r κ e1
    refine eq_op (t := t) h ?_ (by simp) (by simp) (by simp) (by simp)
    suffices key : ∀ d, (Op.equalIn (d + 1) t (.pointer (some ⟨r', o', none⟩)) (.pointer (some ⟨r, o, none⟩))).run P w = .ok false w from key 9999
    intro d
    have hzs : zs ≠ [] := fun e0 => by
      subst e0
      have h1 := hp.length_le
      have h2 := hxs.length
      simp at h1
      subst h1
      exact hc (List.length_eq_zero_iff.1 (by simpa using h2))
    have := fun o1 o2 => same_addrl P hr (o := o1) (o' := o2) g1 hz hcs e1 e2 hzs
    simp [Op.equalIn, underlying, program, Sem.run, k2, sizeOf, typeInfo, k2i, k2s, this])
end
section
variable {P : Program} {T : Tm} {s s1 : St} {K : Kn} {l : List AOp} {d : Option Nat} {g : Option (Nat × Bool)} {x y z : SO} {v : SV} {op : BinOp} {H : Nat → Option Blk} {n b o e w : Nat} {c cs : List SV}
theorem k_nilcl (h : SRegK P l (putT T d (.pl c)) s (cK ⟨d, .pl c, false, [], [], s.nxt, s.nxt⟩ K)) (hx : evO T x = some (.pl c) := by rfl) (hw : wants T g = some true := by rfl) : SRegK P (⟨d, g, .nilc x⟩ :: l) T s K := kp hw rfl (op_nilcl hx) h
theorem k_csbn (h : SRegK P l (putT T d (.s [])) ⟨H, n⟩ (cK ⟨d, .s [], false, [], [], n, n⟩ K)) (hx : evO T x = some .nils := by rfl) (hw : wants T g = some true := by rfl) : SRegK P (⟨d, g, .csb x⟩ :: l) T ⟨H, n⟩ K := kf (A := A0) (ch := []) hw rfl A0_sub (op_csb (P := P) (s := ⟨A0, n⟩) (n := 0) (l := []) hx rfl rfl) ch0 (Nat.le_refl _) h
theorem k_ln (h : SRegK P l (putT T d v) s (cK ⟨d, v, false, [], [], s.nxt, s.nxt⟩ K)) (hx : evO T x = some (.pl c) := by rfl) (hy : evO T y = some .nilp := by rfl) (hb : eqOp op false = some v := by rfl) (hw : wants T g = some true := by rfl) : SRegK P (⟨d, g, .bin op .ptr x y⟩ :: l) T s K := kp hw rfl (op_eqln hx hy hb) h
theorem k_lp (h : SRegK P l (putT T d v) ⟨H, n⟩ (cK ⟨d, v, false, [b], [], n, n⟩ K)) (hx : evO T x = some (.pl c) := by rfl) (hy : evO T y = some (.p b o) := by rfl) (g1 : H b = some (.row e w cs) := by ((try dsimp only) <;> (repeat first | assumption | with_reducible rfl | exact h_same rfl | refine h_ne (by first | assumption | omega) ?_))) (hz : w ≠ 1 := by decide) (hcs : cs ≠ [] := by first | assumption | exact nofun | simp) (hc : c ≠ [] := by first | assumption | exact nofun | simp) (hb : eqOp op false = some v := by rfl) (hw : wants T g = some true := by rfl) : SRegK P (⟨d, g, .bin op .ptr x y⟩ :: l) T ⟨H, n⟩ K :=
  kf (A := A1 b (.row e w cs)) (ch := []) hw rfl (A1_sub g1) (op_nelp (P := P) (s := ⟨A1 b (.row e w cs), n⟩) hx hy (A1_at _ _) hz hcs hc hb) ch0 (Nat.le_refl _) h
end
end Go.Sy
end
section
namespace Go.Sy
open Go
set_option linter.unusedVariables false
section
variable {P : Program} {nt : Nat} {T : Tm} {s : St} {Q : Exit → Tm → St → Prop}
theorem SC.goto_loop {pre r0 : AC} (l : Nat) (hf : findL pre l = none) (hb : noBad (.seq pre (.seq (.lbl l) r0)) = true) (L : List Nat) (I : List SV → St → Prop) (μ : List SV → St → Nat)
    (first : SC P nt pre T s (thn (fun T' s' => ∃ vs, getL T' L = some vs ∧ I vs s') (fun e T' s' => match e with
      | .goto _ => False
      | e => Q e T' s')))
    (pass : ∀ vs s, I vs s → SC P nt r0 (L.zip vs) s (fun e T' s' => match e with
      | .goto l' => l' = l ∧ ∃ vs', getL T' L = some vs' ∧ I vs' s' ∧ μ vs' s' < μ vs s
      | e => Q e T' s')) : SC P nt (.scope (.seq pre (.seq (.lbl l) r0))) T s Q := by
  have hr0 : noBad r0 = true := by
    simp only [noBad, Bool.and_eq_true] at hb
    exact hb.2.2
  have hr0' : r0 ≠ .bad := by rintro rfl; cases hr0
  refine SC.label (r := .seq .skip r0) l ?_ hb L I μ ?_ (fun vs s' hI => ?_)
  · simp only [findL, hf]
    have : Nat.beq l l = true := Nat.beq_refl l
    rw [this]
  · refine SC.seq (SC.mono first fun e T' s' h => ?_) (by nofun)
    cases e with
    | normal =>
      obtain ⟨vs, h1, h2⟩ := h
      refine SC.seq (SC.lbl ?_) hr0'
      refine SC.sub (getL_zip L vs h1) ((pass vs s' h2).mono fun e T' s' h => ?_)
      cases e with
      | goto l' =>
        obtain ⟨h3, vs', h4, h5, _⟩ := h
        exact ⟨h3, vs', h4, h5⟩
      | _ => exact h
    | goto l' => exact h.elim
    | _ => exact h
  · exact SC.seq (SC.skip (pass vs s' hI)) hr0'
theorem SC.goto_loop2 {A B r0 : AC} (l : Nat) (hA : findL A l = none) (hB : findL B l = none) (hb : noBad (.seq A (.seq B (.seq (.lbl l) r0))) = true) (L : List Nat) (I : List SV → St → Prop) (μ : List SV → St → Nat)
    (first : SC P nt A T s (thn (fun T' s' => SC P nt B T' s' (thn (fun T' s' => ∃ vs, getL T' L = some vs ∧ I vs s') (fun e T' s' => match e with
      | .goto _ => False
      | e => Q e T' s'))) (fun e T' s' => match e with
      | .goto _ => False
      | e => Q e T' s')))
    (pass : ∀ vs s, I vs s → SC P nt r0 (L.zip vs) s (fun e T' s' => match e with
      | .goto l' => l' = l ∧ ∃ vs', getL T' L = some vs' ∧ I vs' s' ∧ μ vs' s' < μ vs s
      | e => Q e T' s')) : SC P nt (.scope (.seq A (.seq B (.seq (.lbl l) r0)))) T s Q := by
  have hr0 : noBad r0 = true := by
    simp only [noBad, Bool.and_eq_true] at hb
    exact hb.2.2.2
  have hr0' : r0 ≠ .bad := by rintro rfl; cases hr0
  refine SC.label (r := .seq .skip r0) l ?_ hb L I μ ?_ (fun vs s' hI => ?_)
  · simp only [findL, hA, hB]
    have : Nat.beq l l = true := Nat.beq_refl l
    rw [this]
  · refine SC.seq (SC.mono first fun e T' s' h => ?_) (by nofun)
    cases e with
    | normal =>
      refine SC.seq (SC.mono h fun e T' s' h => ?_) (by nofun)
      cases e with
      | normal =>
        obtain ⟨vs, h1, h2⟩ := h
        refine SC.seq (SC.lbl ?_) hr0'
        refine SC.sub (getL_zip L vs h1) ((pass vs s' h2).mono fun e T' s' h => ?_)
        cases e with
        | goto l' =>
          obtain ⟨h3, vs', h4, h5, _⟩ := h
          exact ⟨h3, vs', h4, h5⟩
        | _ => exact h
      | goto l' => exact h.elim
      | _ => exact h
    | goto l' => exact h.elim
    | _ => exact h
  · exact SC.seq (SC.skip (pass vs s' hI)) hr0'
end
end Go.Sy
end
section
set_option maxHeartbeats 20000000
namespace Go.Proofs.YtpacfelhjjmmkaaDoor
open Go Go.Sy Go.Tr Go.Kb
set_option linter.unusedVariables false
set_option linter.unusedSimpArgs false
theorem hasSuffix_one (l : List UInt8) (c : UInt8) : Lib.hasSuffix l [c] = decide (l.getLast? = some c) := by
  rw [Bool.eq_iff_iff, decide_eq_true_eq]
  unfold Lib.hasSuffix
  rw [List.isSuffixOf_iff_suffix, List.getLast?_eq_some_iff]
  constructor
  · rintro ⟨t, rfl⟩; exact ⟨t, rfl⟩
  · rintro ⟨t, rfl⟩; exact ⟨t, rfl⟩
theorem last_take {l : List UInt8} {i : Nat} (hi : i < l.length) (c : UInt8) : (l.take i).getLast? = some c ↔ 0 < i ∧ l[i - 1]? = some c := by
  rw [List.getLast?_eq_getElem?, List.length_take, Nat.min_eq_left (by omega)]
  cases i with
  | zero => simp
  | succ i => simp [List.getElem?_take]
theorem splitC_sc (l : List UInt8) (s : St) (hl : l.length ≤ 1000000) : SCall Tryd.prog 27 [.s l] s (.lst (splitL l).length (lineC (splitL l))) s := by
  obtain ⟨H, n⟩ := s
  refine SCallR.pure (SCallR.enter cc_lines_Split ?_) (.lst (los_lineC _ _))
  dsimp only [c_lines_Split, argT]
  refine SC.seq ?_ nofun; refine SC.regK ?_; refine k_mv ?_; refine k_nil ?_; refine okS ?_ rfl
  refine SC.goto_loop 0 rfl rfl [0, 3] (fun vs s' => ∃ (r : List UInt8) (o : SV) (done : List (List UInt8 × List UInt8)), r.length ≤ l.length ∧ vs = [.s r, o] ∧ splitL l = done ++ splitL r ∧ done.length + r.length ≤ l.length ∧ ((o = .nils ∧ done = []) ∨ ∃ b, o = .sl b 0 done.length ∧ s'.H b = some (.row 67 2 (lineC done)) ∧ n ≤ b ∧ b < s'.nxt) ∧ n ≤ s'.nxt ∧ (∀ y, y < n → s'.H y = H y)) (fun vs _ => match vs with
    | [.s r, _] => r.length
    | _ => 0) ?_ ?_
  · refine SC.regK ?_; refine k_mv ?_; refine k_nil ?_; refine okS ?_ rfl
    exact ⟨_, rfl, l, _, [], Nat.le_refl _, rfl, rfl, by simp, .inl ⟨rfl, rfl⟩, Nat.le_refl _, fun _ _ => rfl⟩
  · rintro _ ⟨H', n'⟩ ⟨r, o, done, hr, rfl, hs, hd, ho, hn, hH⟩
    dsimp only at ho hn hH
    have hix := fun s => indexByte_sc r 10 s
    unfold ixI at hix
    have hll := lineC_len done
    have hoo := lineC_one done
    cases hi : ixB 10 r with
    | none =>
      rw [hi] at hix
      dsimp only at hix
      have hst := splitL_none hi
      by_cases hr0 : r = []
      · subst hr0
        rw [if_pos rfl] at hst
        rw [hst, List.append_nil] at hs
        rcases ho with ⟨rfl, rfl⟩ | ⟨b, rfl, hb, hb1, hb2⟩
        · have hcl := fun s => cloneL_sc (s := s) (v := .nils) (n := 0) (cells := []) rfl rfl rfl (by omega)
          refine SC.seq ?_ nofun; refine SC.regK ?_; refine k_mv ?_; refine k_call (hix _) ?_; refine k_mv ?_; refine k_nil ?_; refine okS ?_ rfl; refine SC.seq ?_ nofun; refine SC.seq ?_ nofun; refine SC.regK ?_; refine k_mv ?_; refine k_it ?_; refine k_nil ?_; refine okS ?_ rfl; refine SC.cond_t rfl ?_; refine SC.seq ?_ nofun; refine SC.seq ?_ nofun; refine SC.regK ?_; refine k_mv ?_; refine k_sf ?_; refine k_nil ?_; refine okS ?_ rfl; refine SC.cond_f rfl ?_; refine SC.skip ?_; refine SC.seq ?_ nofun; refine SC.regK ?_; refine k_mv ?_; refine k_call (hcl _) ?_; refine k_mv ?_; refine k_nil ?_; refine okS ?_ rfl; refine SC.ret ?_
          exact ⟨_, rfl, by rw [hs]; rfl, hH⟩
        · have hcl := fun k => cloneL_sc (s := ⟨A1 b (.row 67 2 (lineC done)), k⟩) (v := .sl b 0 done.length) (n := done.length) (cells := lineC done) (by simp only [rdS, A1_at, List.drop_zero]; rw [List.take_of_length_le (by omega)]) hll hoo (by simp at hd; omega)
          refine SC.seq ?_ nofun; refine SC.regK ?_; refine k_mv ?_; refine k_call (hix _) ?_; refine k_mv ?_; refine k_nil ?_; refine okS ?_ rfl; refine SC.seq ?_ nofun; refine SC.seq ?_ nofun; refine SC.regK ?_; refine k_mv ?_; refine k_it ?_; refine k_nil ?_; refine okS ?_ rfl; refine SC.cond_t rfl ?_; refine SC.seq ?_ nofun; refine SC.seq ?_ nofun; refine SC.regK ?_; refine k_mv ?_; refine k_sf ?_; refine k_nil ?_; refine okS ?_ rfl; refine SC.cond_f rfl ?_; refine SC.skip ?_; refine SC.seq ?_ nofun; refine SC.regK ?_; refine k_mv ?_; refine k_call1 hb (hcl _) ?_; refine k_mv ?_; refine k_nil ?_; refine okS ?_ rfl; refine SC.ret ?_
          exact ⟨_, rfl, by rw [hs], hH⟩
      · rw [if_neg hr0] at hst
        rw [hst] at hs
        have hne : decide (r = []) = false := decide_eq_false hr0
        have hne' : (!decide (r = [])) = true := by rw [hne]; rfl
        have hrl : 0 < r.length := List.length_pos_iff.2 hr0
        rcases ho with ⟨rfl, rfl⟩ | ⟨b, rfl, hb, hb1, hb2⟩
        · have hcl := fun b k => cloneL_sc (s := ⟨A1 b (.row 67 2 [.s r, .s []]), k⟩) (v := .sl b 0 1) (n := 1) (cells := [.s r, .s []]) (by simp only [rdS, A1_at]; rfl) rfl rfl (by omega)
          refine SC.seq ?_ nofun; refine SC.regK ?_; refine k_mv ?_; refine k_call (hix _) ?_; refine k_mv ?_; refine k_nil ?_; refine okS ?_ rfl; refine SC.seq ?_ nofun; refine SC.seq ?_ nofun; refine SC.regK ?_; refine k_mv ?_; refine k_it ?_; refine k_nil ?_; refine okS ?_ rfl; refine SC.cond_t rfl ?_; refine SC.seq ?_ nofun; refine SC.seq ?_ nofun; refine SC.regK ?_; refine k_mv ?_; refine k_st ?_; refine k_nil ?_; refine okS ?_ rfl; refine SC.cond_t rfl ?_; refine SC.regK ?_; refine k_mv ?_; refine k_mv ?_; refine k_bld ?_; refine k_bsl ?_ (c' := [SV.s r, SV.s []]); refine k_app0o ?_ (new := [SV.s r, SV.s []]); refine k_mv ?_; refine k_nil ?_; refine okS ?_ rfl; refine SC.seq ?_ nofun; refine SC.regK ?_; refine k_mv ?_; refine k_call1 (by ((try dsimp only) <;> (repeat first | assumption | with_reducible rfl | exact h_same rfl | refine h_ne (by first | assumption | omega) ?_))) (hcl _ _) ?_; refine k_mv ?_; refine k_nil ?_; refine okS ?_ rfl; refine SC.ret ?_
          exact ⟨_, rfl, by rw [hs]; rfl, fun y hy => by ((try dsimp only) <;> (repeat first | assumption | with_reducible rfl | exact h_same rfl | refine h_ne (by first | assumption | omega) ?_)); exact hH y hy⟩
        · have hcl := fun b k => cloneL_sc (s := ⟨A1 b (.row 67 2 (lineC done ++ [.s r, .s []])), k⟩) (v := .sl b 0 (done.length + 1)) (n := done.length + 1) (cells := lineC done ++ [.s r, .s []]) (by simp only [rdS, A1_at, List.drop_zero]; rw [List.take_of_length_le (by simp; omega)]) (by simp; omega) (by simp [hoo, SV.one]) (by omega)
          refine SC.seq ?_ nofun; refine SC.regK ?_; refine k_mv ?_; refine k_call (hix _) ?_; refine k_mv ?_; refine k_nil ?_; refine okS ?_ rfl; refine SC.seq ?_ nofun; refine SC.seq ?_ nofun; refine SC.regK ?_; refine k_mv ?_; refine k_it ?_; refine k_nil ?_; refine okS ?_ rfl; refine SC.cond_t rfl ?_; refine SC.seq ?_ nofun; refine SC.seq ?_ nofun; refine SC.regK ?_; refine k_mv ?_; refine k_st ?_; refine k_nil ?_; refine okS ?_ rfl; refine SC.cond_t rfl ?_; refine SC.regK ?_; refine k_mv ?_; refine k_mv ?_; refine k_bld ?_; refine k_bsl ?_ (c' := [SV.s r, SV.s []]); refine k_appo ?_ (c' := lineC done ++ [SV.s r, SV.s []]) (new := [SV.s r, SV.s []]); refine k_mv ?_; refine k_nil ?_; refine okS ?_ rfl; refine SC.seq ?_ nofun; refine SC.regK ?_; refine k_mv ?_; refine k_call1 (by ((try dsimp only) <;> (repeat first | assumption | with_reducible rfl | exact h_same rfl | refine h_ne (by first | assumption | omega) ?_))) (hcl _ _) ?_; refine k_mv ?_; refine k_nil ?_; refine okS ?_ rfl; refine SC.ret ?_
          exact ⟨_, rfl, by rw [hs, lineC_app, List.length_append]; rfl, fun y hy => by ((try dsimp only) <;> (repeat first | assumption | with_reducible rfl | exact h_same rfl | refine h_ne (by first | assumption | omega) ?_)); exact hH y hy⟩
    | some i =>
      rw [hi] at hix
      dsimp only at hix
      obtain ⟨hi1, hi2⟩ := ixB_lt hi
      have hst := splitL_some hi
      have hsx := fun s => hasSuffix_sc (r.take i) [13] s (by rw [List.length_take]; omega)
      rw [hasSuffix_one] at hsx
      by_cases hcr : (r.take i).getLast? = some 13
      · rw [decide_eq_true hcr] at hsx
        obtain ⟨h0, hc⟩ := (last_take hi1 13).1 hcr
        obtain ⟨i, rfl⟩ : ∃ k, i = k + 1 := ⟨i - 1, by omega⟩
        rw [Nat.add_sub_cancel] at hc
        have hend := endL_cr (l := r) (a := 0) (Nat.zero_le i) hc hi2
        simp only [List.drop_zero, Nat.sub_zero] at hend
        rw [hend] at hst
        rcases ho with ⟨rfl, rfl⟩ | ⟨b, rfl, hb, hb1, hb2⟩
        · refine SC.seq ?_ nofun; refine SC.regK ?_; refine k_mv ?_; refine k_call (hix _) ?_; refine k_mv ?_; refine k_nil ?_; refine okS ?_ rfl; refine SC.seq ?_ nofun; refine SC.seq ?_ nofun; refine SC.regK ?_; refine k_mv ?_; refine k_if ?_; refine k_nil ?_; refine okS ?_ rfl; refine SC.cond_f rfl ?_; refine SC.skip ?_; refine SC.seq ?_ nofun; refine SC.dregK ?_; refine k_mv ?_; refine k_mv ?_; refine k_sl ?_; refine k_mv ?_; refine k_mv ?_; refine k_mv ?_; refine k_add ?_; refine k_slh ?_; refine k_mv ?_; refine k_mv ?_; refine k_nil ?_; refine okD (ne := []) ?_ (by kernel_rfl) trivial; refine SC.seq ?_ nofun; refine SC.seq ?_ nofun; refine SC.regK ?_; refine k_mv ?_; refine k_call (hsx _) ?_; refine k_nil ?_; refine okS ?_ rfl; refine SC.cond_t rfl ?_; refine SC.dregK ?_; refine k_mv ?_; refine k_mv ?_; refine k_sub ?_; refine k_sl ?_; refine k_mv ?_; refine k_mv ?_; refine k_sub ?_; refine k_mv ?_; refine k_add ?_; refine k_slh ?_; refine k_mv ?_; refine k_mv ?_; refine k_nil ?_; refine okD (ne := []) ?_ (by kernel_rfl) trivial; refine SC.seq ?_ nofun; refine SC.dregK ?_; refine k_mv ?_; refine k_mv ?_; refine k_mv ?_; refine k_bld ?_; refine k_bsl ?_ (c' := [SV.s (List.take i r), SV.s (List.drop i (List.take (i + 1 + 1) r))]); refine k_app0o ?_ (new := [SV.s (List.take i r), SV.s (List.drop i (List.take (i + 1 + 1) r))]); refine k_mv ?_; refine k_mv ?_; refine k_add ?_; refine k_sh ?_; refine k_mv ?_; refine k_mv ?_; refine k_nil ?_; refine okD (ne := []) ?_ (by kernel_rfl) trivial; refine SC.goto ?_
          exact ⟨rfl, _, rfl, ⟨r.drop (i + 1 + 1), _, [_], by simp; omega, rfl, by rw [hs, hst]; rfl, by simp at hd ⊢; omega, .inr ⟨_, rfl, by ((try dsimp only) <;> (repeat first | assumption | with_reducible rfl | exact h_same rfl | refine h_ne (by first | assumption | omega) ?_)), by omega, by dsimp only; omega⟩, by dsimp only; omega, fun y hy => by ((try dsimp only) <;> (repeat first | assumption | with_reducible rfl | exact h_same rfl | refine h_ne (by first | assumption | omega) ?_)); exact hH y hy⟩, by simp; omega⟩
        · refine SC.seq ?_ nofun; refine SC.regK ?_; refine k_mv ?_; refine k_call (hix _) ?_; refine k_mv ?_; refine k_nil ?_; refine okS ?_ rfl; refine SC.seq ?_ nofun; refine SC.seq ?_ nofun; refine SC.regK ?_; refine k_mv ?_; refine k_if ?_; refine k_nil ?_; refine okS ?_ rfl; refine SC.cond_f rfl ?_; refine SC.skip ?_; refine SC.seq ?_ nofun; refine SC.dregK ?_; refine k_mv ?_; refine k_mv ?_; refine k_sl ?_; refine k_mv ?_; refine k_mv ?_; refine k_mv ?_; refine k_add ?_; refine k_slh ?_; refine k_mv ?_; refine k_mv ?_; refine k_nil ?_; refine okD (ne := []) ?_ (by kernel_rfl) trivial; refine SC.seq ?_ nofun; refine SC.seq ?_ nofun; refine SC.regK ?_; refine k_mv ?_; refine k_call (hsx _) ?_; refine k_nil ?_; refine okS ?_ rfl; refine SC.cond_t rfl ?_; refine SC.dregK ?_; refine k_mv ?_; refine k_mv ?_; refine k_sub ?_; refine k_sl ?_; refine k_mv ?_; refine k_mv ?_; refine k_sub ?_; refine k_mv ?_; refine k_add ?_; refine k_slh ?_; refine k_mv ?_; refine k_mv ?_; refine k_nil ?_; refine okD (ne := []) ?_ (by kernel_rfl) trivial; refine SC.seq ?_ nofun; refine SC.dregK ?_; refine k_mv ?_; refine k_mv ?_; refine k_mv ?_; refine k_bld ?_; refine k_bsl ?_ (c' := [SV.s (List.take i r), SV.s (List.drop i (List.take (i + 1 + 1) r))]); refine k_appo ?_ (c' := lineC done ++ [SV.s (List.take i r), SV.s (List.drop i (List.take (i + 1 + 1) r))]) (new := [SV.s (List.take i r), SV.s (List.drop i (List.take (i + 1 + 1) r))]); refine k_mv ?_; refine k_mv ?_; refine k_add ?_; refine k_sh ?_; refine k_mv ?_; refine k_mv ?_; refine k_nil ?_; refine okD (ne := []) ?_ (by kernel_rfl) trivial; refine SC.goto ?_
          exact ⟨rfl, _, rfl, ⟨r.drop (i + 1 + 1), _, done ++ [_], by simp; omega, rfl, by rw [hs, hst, List.append_assoc]; rfl, by simp at hd ⊢; omega, .inr ⟨_, by rw [List.length_append]; rfl, h_same (by rw [lineC_app]; rfl), by omega, by dsimp only; omega⟩, by dsimp only; omega, fun y hy => by ((try dsimp only) <;> (repeat first | assumption | with_reducible rfl | exact h_same rfl | refine h_ne (by first | assumption | omega) ?_)); exact hH y hy⟩, by simp; omega⟩
      · rw [decide_eq_false hcr] at hsx
        have hend := endL_lf (l := r) (a := 0) (Nat.zero_le i) (fun h0 hc => hcr ((last_take hi1 13).2 ⟨h0, hc⟩)) hi2
        simp only [List.drop_zero, Nat.sub_zero] at hend
        rw [hend] at hst
        rcases ho with ⟨rfl, rfl⟩ | ⟨b, rfl, hb, hb1, hb2⟩
        · refine SC.seq ?_ nofun; refine SC.regK ?_; refine k_mv ?_; refine k_call (hix _) ?_; refine k_mv ?_; refine k_nil ?_; refine okS ?_ rfl; refine SC.seq ?_ nofun; refine SC.seq ?_ nofun; refine SC.regK ?_; refine k_mv ?_; refine k_if ?_; refine k_nil ?_; refine okS ?_ rfl; refine SC.cond_f rfl ?_; refine SC.skip ?_; refine SC.seq ?_ nofun; refine SC.dregK ?_; refine k_mv ?_; refine k_mv ?_; refine k_sl ?_; refine k_mv ?_; refine k_mv ?_; refine k_mv ?_; refine k_add ?_; refine k_slh ?_; refine k_mv ?_; refine k_mv ?_; refine k_nil ?_; refine okD (ne := []) ?_ (by kernel_rfl) trivial; refine SC.seq ?_ nofun; refine SC.seq ?_ nofun; refine SC.regK ?_; refine k_mv ?_; refine k_call (hsx _) ?_; refine k_nil ?_; refine okS ?_ rfl; refine SC.cond_f rfl ?_; refine SC.skip ?_; refine SC.seq ?_ nofun; refine SC.dregK ?_; refine k_mv ?_; refine k_mv ?_; refine k_mv ?_; refine k_bld ?_; refine k_bsl ?_ (c' := [SV.s (List.take i r), SV.s (List.drop i (List.take (i + 1) r))]); refine k_app0o ?_ (new := [SV.s (List.take i r), SV.s (List.drop i (List.take (i + 1) r))]); refine k_mv ?_; refine k_mv ?_; refine k_add ?_; refine k_sh ?_; refine k_mv ?_; refine k_mv ?_; refine k_nil ?_; refine okD (ne := []) ?_ (by kernel_rfl) trivial; refine SC.goto ?_
          exact ⟨rfl, _, rfl, ⟨r.drop (i + 1), _, [_], by simp; omega, rfl, by rw [hs, hst]; rfl, by simp at hd ⊢; omega, .inr ⟨_, rfl, by ((try dsimp only) <;> (repeat first | assumption | with_reducible rfl | exact h_same rfl | refine h_ne (by first | assumption | omega) ?_)), by omega, by dsimp only; omega⟩, by dsimp only; omega, fun y hy => by ((try dsimp only) <;> (repeat first | assumption | with_reducible rfl | exact h_same rfl | refine h_ne (by first | assumption | omega) ?_)); exact hH y hy⟩, by simp; omega⟩
        · refine SC.seq ?_ nofun; refine SC.regK ?_; refine k_mv ?_; refine k_call (hix _) ?_; refine k_mv ?_; refine k_nil ?_; refine okS ?_ rfl; refine SC.seq ?_ nofun; refine SC.seq ?_ nofun; refine SC.regK ?_; refine k_mv ?_; refine k_if ?_; refine k_nil ?_; refine okS ?_ rfl; refine SC.cond_f rfl ?_; refine SC.skip ?_; refine SC.seq ?_ nofun; refine SC.dregK ?_; refine k_mv ?_; refine k_mv ?_; refine k_sl ?_; refine k_mv ?_; refine k_mv ?_; refine k_mv ?_; refine k_add ?_; refine k_slh ?_; refine k_mv ?_; refine k_mv ?_; refine k_nil ?_; refine okD (ne := []) ?_ (by kernel_rfl) trivial; refine SC.seq ?_ nofun; refine SC.seq ?_ nofun; refine SC.regK ?_; refine k_mv ?_; refine k_call (hsx _) ?_; refine k_nil ?_; refine okS ?_ rfl; refine SC.cond_f rfl ?_; refine SC.skip ?_; refine SC.seq ?_ nofun; refine SC.dregK ?_; refine k_mv ?_; refine k_mv ?_; refine k_mv ?_; refine k_bld ?_; refine k_bsl ?_ (c' := [SV.s (List.take i r), SV.s (List.drop i (List.take (i + 1) r))]); refine k_appo ?_ (c' := lineC done ++ [SV.s (List.take i r), SV.s (List.drop i (List.take (i + 1) r))]) (new := [SV.s (List.take i r), SV.s (List.drop i (List.take (i + 1) r))]); refine k_mv ?_; refine k_mv ?_; refine k_add ?_; refine k_sh ?_; refine k_mv ?_; refine k_mv ?_; refine k_nil ?_; refine okD (ne := []) ?_ (by kernel_rfl) trivial; refine SC.goto ?_
          exact ⟨rfl, _, rfl, ⟨r.drop (i + 1), _, done ++ [_], by simp; omega, rfl, by rw [hs, hst, List.append_assoc]; rfl, by simp at hd ⊢; omega, .inr ⟨_, by rw [List.length_append]; rfl, h_same (by rw [lineC_app]; rfl), by omega, by dsimp only; omega⟩, by dsimp only; omega, fun y hy => by ((try dsimp only) <;> (repeat first | assumption | with_reducible rfl | exact h_same rfl | refine h_ne (by first | assumption | omega) ?_)); exact hH y hy⟩, by simp; omega⟩
end Go.Proofs.YtpacfelhjjmmkaaDoor
end
section
namespace Go.Kb
open Go
theorem valid_lt {r : Int} (h : Utf8.valid r = true) : 0 ≤ r ∧ r ≤ 1114111 := by
  simp [Utf8.valid] at h
  omega
theorem enc_hi (r : Nat) (h : 128 ≤ r) : ∃ l : List UInt8, Utf8.encode r = ⟨l.toArray⟩ ∧ (∀ b ∈ l, 128 ≤ b.toNat) ∧ 2 ≤ l.length ∧ l.length ≤ 4 := by
  have hc : ∃ c : Nat, c = (if Utf8.valid (r : Int) then (r : Int).toNat else Utf8.runeError) ∧ 128 ≤ c ∧ c ≤ 1114111 := by
    refine ⟨_, rfl, ?_, ?_⟩
    · split
      · simpa using h
      · decide
    · split
      · rename_i hv; have := valid_lt hv; omega
      · decide
  obtain ⟨c, hc, h1, h2⟩ := hc
  unfold Utf8.encode
  simp only [← hc]
  have hb : ∀ n, 128 ≤ n → n < 256 → 128 ≤ (UInt8.ofNat n).toNat := fun n g1 g2 => by rw [show UInt8.toNat (UInt8.ofNat n) = n from UInt8.toNat_ofNat_of_lt' g2]; exact g1
  rw [if_neg (by omega)]
  split
  · exact ⟨[UInt8.ofNat (192 + c / 64), UInt8.ofNat (128 + c % 64)], rfl, by
      intro b hm
      simp only [List.mem_cons, List.not_mem_nil, or_false] at hm
      rcases hm with rfl | rfl <;> exact hb _ (by omega) (by omega), by simp, by simp⟩
  · split
    · exact ⟨[UInt8.ofNat (224 + c / 4096), UInt8.ofNat (128 + c / 64 % 64), UInt8.ofNat (128 + c % 64)], rfl, by
        intro b hm
        simp only [List.mem_cons, List.not_mem_nil, or_false] at hm
        rcases hm with rfl | rfl | rfl <;> exact hb _ (by omega) (by omega), by simp, by simp⟩
    · exact ⟨[UInt8.ofNat (240 + c / 262144), UInt8.ofNat (128 + c / 4096 % 64), UInt8.ofNat (128 + c / 64 % 64), UInt8.ofNat (128 + c % 64)], rfl, by
        intro b hm
        simp only [List.mem_cons, List.not_mem_nil, or_false] at hm
        rcases hm with rfl | rfl | rfl | rfl <;> exact hb _ (by omega) (by omega), by simp, by simp⟩
end Go.Kb
namespace Go.Proofs.YtpacfelhjjmmkaaDoor
open Go Go.RowKit Go.Kb
set_option linter.unusedVariables false
set_option linter.unusedSimpArgs false
set_option maxHeartbeats 4000000 in
set_option maxRecDepth 1000000 in
theorem rune_hi (r : Nat) (h0 : 128 ≤ r) (h1 : r ≤ 2147483647) (w : World) :
    Calls Tryd.prog 99 #[.string ⟨#[10, 13]⟩, .int .i32 r] w fun e w' => e = .returned (.int .i64 (-1)) ∧ Below w.heap.size w w' := by
  by_cases hr : r = 65533
  · subst hr
    have n0 := fun ty => run_next_ascii (P := Tryd.prog) w ⟨#[10, 13]⟩ 0 ty (by decide) (by decide)
    have n1 := fun ty => run_next_ascii (P := Tryd.prog) w ⟨#[10, 13]⟩ 1 ty (by decide) (by decide)
    have n2 := run_next_end (P := Tryd.prog) w ⟨#[10, 13]⟩ 2
    go_enter Tryd.func99, Tryd.ntmps99
    go_wp2_with fail
    go_loopg [5, 6] 2 (fun g _ _ wx => ∃ i : Nat, i + g = 2 ∧ wx = w.iter ⟨#[10, 13]⟩ i)
    case atStart => exact ⟨0, by omega, rfl⟩
    case round =>
      obtain ⟨i, hig, rfl⟩ := hrel
      cases gk with
      | zero =>
        obtain rfl : i = 2 := by omega
        go_wp2
        go_ret
        exact ⟨rfl, balloc (Below.refl _ _) (Nat.le_refl _) _⟩
      | succ g =>
        rcases (show i = 0 ∨ i = 1 by omega) with rfl | rfl
        · go_wp2
          go_roundg g
          case measure => omega
          case rel => exact ⟨1, by omega, rfl⟩
        · go_wp2
          go_roundg g
          case measure => omega
          case rel => exact ⟨2, by omega, rfl⟩
  · obtain ⟨R, hR⟩ : ∃ R : Int, R = (r : Int) := ⟨_, rfl⟩
    obtain ⟨l, hE, hb, hl2, hl4⟩ := enc_hi r h0
    have hr1 : (R == 65533) = false := by simp; omega
    have hlo : decide (R < 128) = false := by simp; omega
    have h00 : decide (0 ≤ R) = true := by simp; omega
    rw [← hR] at hE ⊢
    have HB := Lib.hid hb
    clear hr hR h0 h1 hb
    cases hv : Lib.validRune R with
    | false =>
      go_enter Tryd.func99, Tryd.ntmps99
      go_wp2_with (first | (go_at_call 108; ((with_reducible refine (Tryd.utf8_ValidRune _ _).mono ?_); rintro e w1 ⟨rfl, rfl⟩; rw [hv])))
      go_ret
      exact ⟨rfl, Below.refl _ _⟩
    | true =>
      by_cases h2 : l.length = 2
      · obtain ⟨a, b, hl⟩ : ∃ a b, l = [a, b] := by
          match l, h2 with
          | [a, b], _ => exact ⟨a, b, rfl⟩
        have hb1 : 128 ≤ b.toNat := HB.out b (by rw [hl]; simp)
        subst hl
        have hne : ((13 : Int) == (b.toNat : Int)) = false := by simp; omega
        have hcv : ∀ w', (convert 21 9 (.int .i32 R)).run Tryd.prog w' = .ok (.string ⟨#[a, b]⟩) w' := fun w' => by
          have := run_convert_int_string (P := Tryd.prog) w' 21 9 .i32 R (by kernel_rfl) Tryd.underlying9
          rw [hE] at this
          exact this
        clear hE h2 hl2 hl4 HB
        go_enter Tryd.func99, Tryd.ntmps99
        go_wp2_with (first | (go_at_call 108; ((with_reducible refine (Tryd.utf8_ValidRune _ _).mono ?_); rintro e w1 ⟨rfl, rfl⟩; rw [hv])))
        go_step3
        go_wp2_with fail
        go_loopw [9] (fun v wr => v = .int .i64 1 ∧ wr = w1) (fun _ _ => 0)
        case atStart => exact ⟨rfl, rfl⟩
        case round =>
          obtain ⟨rfl, rfl⟩ := hrel
          have hwr : IntKind.i64.wrap 2 = 2 := by decide
          have e1 : ((⟨#[10, 13]⟩ : ByteArray)[1]'(by decide)).toNat = 13 := rfl
          have e2 : ((⟨#[a, b]⟩ : ByteArray)[1]'(by show 1 < 2; decide)).toNat = b.toNat := rfl
          have CN : Hid (∀ (w' : World) (c : Int), Calls Tryd.prog 46 #[.string ByteArray.empty, .int .u8 c] w' fun e w2 => e = .returned (.int .i64 (-1)) ∧ w2 = w') := Lib.hid (fun w' c => Tryd.strings_IndexByte ByteArray.empty c w')
          go_wp2_with fail
          go_step3
          go_wp2_with fail
          go_quiet (fail)
          go_wp2_with fail
          go_quiet ((go_at_call 46; exact (CN.out _ _).mono fun _ _ ⟨h1, h2⟩ => ⟨h1, _, h2⟩))
          go_wp2_with fail
          simp (config := { zetaDelta := true }) only [Exit.inBlock, Exit.noGoto_ret, Exit.then]
          go_ret
          exact ⟨rfl, bdrewN (Below.refl _ _) _⟩
      · obtain ⟨q, hq⟩ : ∃ q : Nat, l.length = q + 1 := ⟨l.length - 1, by omega⟩
        have hw : wrap64 ((l.length : Int) - 1) = (q : Int) := by rw [IntWalk.wrap64_in _ (by omega)]; omega
        have h22 : decide ((q : Int) < 2) = false := by simp; omega
        have hcv : ∀ w', (convert 21 9 (.int .i32 R)).run Tryd.prog w' = .ok (.string ⟨l.toArray⟩) w' := fun w' => by
          have := run_convert_int_string (P := Tryd.prog) w' 21 9 .i32 R (by kernel_rfl) Tryd.underlying9
          rw [hE] at this
          exact this
        clear hE hq h2 hl2 hl4 HB
        go_enter Tryd.func99, Tryd.ntmps99
        go_wp2_with (first | (go_at_call 108; ((with_reducible refine (Tryd.utf8_ValidRune _ _).mono ?_); rintro e w1 ⟨rfl, rfl⟩; rw [hv])))
        go_step3
        go_wp2_with fail
        go_loopw [9] (fun v wr => v = .int .i64 q ∧ wr = w1) (fun _ _ => 0)
        case atStart => exact ⟨by rw [hw], rfl⟩
        case round =>
          obtain ⟨rfl, rfl⟩ := hrel
          go_wp2_with fail
          rw [Exit.noGoto_ret]
          go_ret
          exact ⟨rfl, Below.refl _ _⟩
end Go.Proofs.YtpacfelhjjmmkaaDoor
end
section
namespace Go.Kb
open Go
theorem decode_low (s : ByteArray) (pos : Nat) (h : pos < s.size) (ha : (s[pos]'h).toNat < 128) : Utf8.decode s pos = ((s[pos]'h).toNat, 1) := by
  simp only [Utf8.decode, get_at s pos h, ha, if_true]
theorem decode_cont (s : ByteArray) (pos k : Nat) (hk : 1 ≤ k) (hn : k < (Utf8.decode s pos).2) : pos + k < s.size ∧ (s.get! (pos + k)).toNat / 64 = 2 := by
  unfold Utf8.decode at hn
  simp only at hn
  repeat' split at hn
  all_goals simp only [Bool.and_eq_true, decide_eq_true_eq, beq_iff_eq, ge_iff_le] at *
  all_goals have hk3 : k = 1 ∨ k = 2 ∨ k = 3 := by omega
  all_goals rcases hk3 with rfl | rfl | rfl
  all_goals first
    | (exfalso; omega; done)
    | (refine ⟨?_, ?_⟩ <;> omega)
def nrB (b : UInt8) : Bool := b == 10 || b == 13
end Go.Kb
namespace Go.Proofs.YtpacfelhjjmmkaaDoor
open Go Go.RowKit Go.Kb
set_option linter.unusedVariables false
set_option linter.unusedSimpArgs false
theorem get_ge (s : ByteArray) (i : Nat) (h : i < s.size) : s.data.toList[i]? = some (s.get! i) := by
  have := Lib.data_getElem? s i h
  rw [this]
  congr 1
  have := get_at s i h
  simpa using this.symm
def runeV (r : Nat) : Int := if r < 128 then Lib.indexByte [10, 13] ((r : Int)).toNat.toUInt8 else -1
theorem runeV_iff (r : Nat) : decide (0 ≤ runeV r) = decide (r = 10 ∨ r = 13) := by
  unfold runeV
  by_cases h : r < 128
  · rw [if_pos h]
    have : ∀ r : Nat, r < 128 → decide (0 ≤ Lib.indexByte [10, 13] ((r : Int)).toNat.toUInt8) = decide (r = 10 ∨ r = 13) := by decide +kernel
    exact this r h
  · rw [if_neg h]
    have : ¬ (r = 10 ∨ r = 13) := by omega
    simp [this]
theorem rune_all (r : Nat) (h1 : r ≤ 2147483647) (w : World) :
    Calls Tryd.prog 99 #[.string ⟨#[10, 13]⟩, .int .i32 r] w fun e w' => e = .returned (.int .i64 (runeV r)) ∧ Below w.heap.size w w' := by
  unfold runeV
  by_cases h : r < 128
  · rw [if_pos h]
    exact (Tryd.strings_IndexRune_ascii ⟨#[10, 13]⟩ (r : Int) w (by omega) (by omega)).mono fun e w' h => ⟨h.1, h.2 ▸ Below.refl _ _⟩
  · rw [if_neg h]; exact rune_hi r (by omega) h1 w
theorem below_iterAt {B : Nat} {w W : World} (h : Below B w W) {k : Nat} (hk : B ≤ k) (s : ByteArray) (pos : Nat) : Below B w (W.iterAt k s pos) :=
  ⟨h.os, h.tape, h.output, by simp only [World.iterAt, Array.size_setIfInBounds]; exact h.size, fun i hi => by
    simp only [World.iterAt]
    rw [Array.getElem?_setIfInBounds_ne (by omega)]
    exact h.block i hi⟩
set_option maxHeartbeats 4000000 in
set_option maxRecDepth 1000000 in
theorem any_short (s : ByteArray) (w : World) (h8 : s.size ≤ 8) :
    Calls Tryd.prog 83 #[.string s, .string ⟨#[10, 13]⟩] w fun e w' => ∃ v : Int, e = .returned (.int .i64 v) ∧ decide (0 ≤ v) = s.data.toList.any nrB ∧ Below w.heap.size w w' := by
  have h8z : decide ((8 : Int) < (s.size : Int)) = false := decide_eq_false (by omega)
  go_enter Tryd.func83, Tryd.ntmps83
  go_wp2_with (first | (go_at_call 100; ((with_reducible refine (Tryd.strings_shouldUseASCIISet _ _).mono ?_); rintro e w1 ⟨rfl, rfl⟩; rw [h8z])))
  go_loopg [9, 10] s.size (fun g _ _ wx => ∃ i : Nat, i + g = s.size ∧ Below w1.heap.size w1 wx ∧ wx.heap[w1.heap.size]? = some (.stringIter s i) ∧ Hid (∀ j b, j < i → s.data.toList[j]? = some b → nrB b = false))
  case atStart => exact ⟨0, by omega, balloc (Below.refl _ _) (Nat.le_refl _) _, heap_alloc_new _ _, Lib.hid (fun j b hj => absurd hj (Nat.not_lt_zero _))⟩
  case round =>
    obtain ⟨i, hig, hb, hit, HN⟩ := hrel
    cases gk with
    | zero =>
      obtain rfl : i = s.size := by omega
      have hnx := fun ty => Lib.run_next_end_at (P := Tryd.prog) wr w1.heap.size s s.size ty hit (Nat.lt_irrefl _)
      go_wp2
      go_ret
      refine ⟨-1, rfl, ?_, hb⟩
      have : s.data.toList.any nrB = false := by
        rw [List.any_eq_false]
        intro b hm
        obtain ⟨j, hj⟩ := List.getElem?_of_mem hm
        have hl : j < s.data.toList.length := (List.getElem?_eq_some_iff.1 hj).1
        rw [HN.out j b (by rw [Lib.size_eq]; exact hl) hj]
        simp
      rw [this]; rfl
    | succ g =>
      have hi : i < s.size := by omega
      have hnx := fun ty => Lib.run_next_any_at (P := Tryd.prog) wr w1.heap.size s i ty hit hi
      have hlo := fun h => decode_low s i hi h
      have hhi := fun h => decode_high s i hi h
      have hcn := decode_cont s i
      have hle := decode_le s i
      obtain ⟨c, n, hd⟩ : ∃ c n, Utf8.decode s i = (c, n) := ⟨_, _, rfl⟩
      rw [hd] at hnx hlo hhi hcn hle
      dsimp only at hnx hlo hhi hcn hle
      have hit2 := Lib.iterAt_heap wr w1.heap.size s i (i + n) hit
      have hb2 := below_iterAt hb (Nat.le_refl _) s (i + n)
      have hgi := get_ge s i hi
      have hgi' : s.get! i = s[i]'hi := by simpa using get_at s i hi
      obtain ⟨x, hx⟩ : ∃ x : UInt8, s[i]'hi = x := ⟨_, rfl⟩
      rw [hgi', hx] at hgi
      rw [hx] at hlo hhi
      have hn1 : 1 ≤ n := by
        rcases Nat.lt_or_ge x.toNat 128 with h | h
        · have := hlo h
          injection this with _ h2
          omega
        · exact (hhi h).2
      have hlb := Below.refl wr.heap.size wr
      have hbz := hb2.size
      generalize wr.iterAt w1.heap.size s (i + n) = W2 at *
      have hk2 : w1.heap.size < W2.heap.size := (Array.getElem?_eq_some_iff.1 hit2).1
      have hrv := runeV_iff c
      have hcall := fun w' => rune_all c hle w'
      generalize runeV c = v at *
      have HC := Lib.hid hcall
      have HLO := Lib.hid hlo
      have HHI := Lib.hid hhi
      have HCN := Lib.hid hcn
      have HG := Lib.hid hgi
      have HRV := Lib.hid hrv
      have HB2 := Lib.hid hb2
      have HIT := Lib.hid hit2
      clear hcall hlo hhi hcn hgi hgi' hx hrv hb2 hit2 hd hb hit hlb
      by_cases hv : 0 ≤ v
      · have hv' : decide (0 ≤ v) = true := decide_eq_true hv
        go_wp2_with (first | (go_at_call 99; ((with_reducible refine (HC.out _).mono ?_); rintro e w3 ⟨rfl, hb3⟩)))
        go_ret
        refine ⟨(i : Int), rfl, ?_, bthen HB2.out (by omega) hb3⟩
        have hc : c = 10 ∨ c = 13 := by
          have := HRV.out
          rw [hv'] at this
          exact of_decide_eq_true this.symm
        have hx : x.toNat = c := by
          rcases Nat.lt_or_ge x.toNat 128 with h | h
          · have := HLO.out h
            injection this with h1 _
            exact h1.symm
          · have := (HHI.out h).1
            omega
        have : s.data.toList.any nrB = true := by
          rw [List.any_eq_true]
          refine ⟨x, List.mem_of_getElem? HG.out, ?_⟩
          simp only [nrB, Bool.or_eq_true, beq_iff_eq]
          rcases hc with rfl | rfl
          · exact .inl (UInt8.toNat_inj.1 hx)
          · exact .inr (UInt8.toNat_inj.1 hx)
        rw [this]
        simp
      · have hv' : decide (0 ≤ v) = false := decide_eq_false hv
        go_wp2_with (first | (go_at_call 99; ((with_reducible refine (HC.out _).mono ?_); rintro e w3 ⟨rfl, hb3⟩)))
        have hin : i + n ≤ s.size := by
          rcases Nat.eq_or_lt_of_le hn1 with h | h
          · omega
          · have := (HCN.out (n - 1) (by omega) (by omega)).1
            omega
        go_roundg (s.size - (i + n))
        case measure => omega
        case rel =>
          refine ⟨i + n, by omega, bthen HB2.out (by omega) hb3, by rw [hb3.block _ hk2]; exact HIT.out, Lib.hid fun j b hj hb => ?_⟩
          rcases Nat.lt_or_ge j i with h | h
          · exact HN.out j b h hb
          · rcases Nat.eq_or_lt_of_le h with h | h
            · subst h
              rw [HG.out] at hb
              obtain rfl := Option.some.inj hb
              have hc : ¬ (c = 10 ∨ c = 13) := by
                have := HRV.out
                rw [hv'] at this
                exact of_decide_eq_false this.symm
              simp only [nrB, Bool.or_eq_false_iff, beq_eq_false_iff_ne]
              have : ¬ (x.toNat = 10 ∨ x.toNat = 13) := by
                rcases Nat.lt_or_ge x.toNat 128 with h | h
                · have := HLO.out h
                  injection this with h1 _
                  rw [← h1]; exact hc
                · omega
              exact ⟨fun e => this (.inl (by rw [e]; rfl)), fun e => this (.inr (by rw [e]; rfl))⟩
            · obtain ⟨q1, q2⟩ := HCN.out (j - i) (by omega) (by omega)
              rw [show i + (j - i) = j by omega] at q1 q2
              rw [get_ge s j q1] at hb
              obtain rfl := Option.some.inj hb
              simp only [nrB, Bool.or_eq_false_iff, beq_eq_false_iff_ne]
              exact ⟨fun e => by rw [e] at q2; exact absurd q2 (by decide), fun e => by rw [e] at q2; exact absurd q2 (by decide)⟩
end Go.Proofs.YtpacfelhjjmmkaaDoor
end
section
namespace Go.Proofs.YtpacfelhjjmmkaaDoor
open Go Go.Sy
def c_internal_stringslite_Cut : AF :=
  ⟨23, (.seq (.reg [⟨(some 4), none, (.mv (.c (.s [])))⟩,
    ⟨(some 5), none, (.mv (.c (.s [])))⟩,
    ⟨(some 6), none, (.mv (.c (.b false)))⟩])
    (.seq (.seq (.reg [⟨(some 8), none, (.mv (.t 0))⟩,
    ⟨(some 9), none, (.mv (.t 1))⟩,
    ⟨(some 10), none, (.call 73 [(.t 8), (.t 9)])⟩,
    ⟨(some 7), none, (.mv (.t 10))⟩])
    (.seq (.reg [⟨(some 11), none, (.mv (.t 7))⟩,
    ⟨(some 12), none, (.bin .geq .other (.t 11) (.c (.i .i64 0)))⟩])
    (.cond (.t 12)
    (.seq (.dreg [⟨⟨(some 13), none, (.mv (.t 0))⟩, 0⟩,
    ⟨⟨(some 14), none, (.mv (.t 7))⟩, 0⟩,
    ⟨⟨(some 15), none, (.sls (.t 13) none (some (.t 14)))⟩, 3⟩,
    ⟨⟨(some 16), none, (.mv (.t 0))⟩, 0⟩,
    ⟨⟨(some 17), none, (.mv (.t 7))⟩, 0⟩,
    ⟨⟨(some 18), none, (.mv (.t 1))⟩, 0⟩,
    ⟨⟨(some 19), none, (.bls (.t 18))⟩, 32⟩,
    ⟨⟨(some 20), none, (.bin .add .other (.t 17) (.t 19))⟩, 112⟩,
    ⟨⟨(some 21), none, (.sls (.t 16) (some (.t 20)) none)⟩, 248⟩,
    ⟨⟨(some 4), none, (.mv (.t 15))⟩, 7⟩,
    ⟨⟨(some 5), none, (.mv (.t 21))⟩, 1023⟩,
    ⟨⟨(some 6), none, (.mv (.c (.b true)))⟩, 2047⟩])
    .ret)
    .skip)))
    (.seq (.reg [⟨(some 22), none, (.mv (.t 0))⟩,
    ⟨(some 4), none, (.mv (.t 22))⟩,
    ⟨(some 5), none, (.mv (.c (.s [])))⟩,
    ⟨(some 6), none, (.mv (.c (.b false)))⟩])
    .ret))), [(.tmp 4), (.tmp 5), (.tmp 6)]⟩
theorem cc_internal_stringslite_Cut : compF Tryd.prog 76 = some c_internal_stringslite_Cut := by kernel_rfl
end Go.Proofs.YtpacfelhjjmmkaaDoor
end
section
set_option maxHeartbeats 20000000
namespace Go.Proofs.YtpacfelhjjmmkaaDoor
open Go Go.Sy Go.Tr Go.Kb Go.RowKit
set_option linter.unusedVariables false
set_option linter.unusedSimpArgs false
theorem indexAny_any (l chars : List UInt8) : decide (0 ≤ Lib.indexAny l chars) = l.any chars.contains := by
  cases h : l.any chars.contains with
  | false =>
    rw [List.any_eq_false] at h
    rw [Lib.indexAny_none (fun j b hj hb => by have := h b (List.mem_of_getElem? hb); simpa using this)]
    rfl
  | true =>
    induction l with
    | nil => cases h
    | cons b l ih =>
      unfold Lib.indexAny
      by_cases hb : chars.contains b = true
      · rw [if_pos hb]; rfl
      · rw [if_neg hb]
        have h' : l.any chars.contains = true := by
          rw [List.any_cons, Bool.or_eq_true] at h
          exact h.resolve_left hb
        have := of_decide_eq_true (ih h')
        have hn : (Lib.indexAny l chars == -1) = false := by simp; omega
        rw [hn]
        simp
        omega
theorem contains_nr : ([10, 13] : List UInt8).contains = nrB := by
  funext b
  rw [Bool.eq_iff_iff]
  simp [nrB, List.contains_cons]
theorem hz_set : ∀ w, (zeroValue 123).run Tryd.prog w = .ok (.agg (Array.replicate 256 (.bool false))) w := (zero_of_info (P := Tryd.prog) (t := 123) (n := 256) (by kernel_rfl)).1
theorem ixany_any (l : List UInt8) (w : World) (hl : l.length < 4294967281) :
    Calls Tryd.prog 83 #[.string ⟨l.toArray⟩, .string ⟨#[10, 13]⟩] w fun e w' => ∃ v : Int, e = .returned (.int .i64 v) ∧ decide (0 ≤ v) = l.any nrB ∧ Below w.heap.size w w' := by
  rcases Nat.lt_or_ge 8 l.length with h8 | h8
  · refine (Tryd.strings_IndexAny_long hz_set ⟨l.toArray⟩ ⟨#[10, 13]⟩ w (by decide) (by show 8 < l.toArray.size; simpa using h8) (by show l.toArray.size < _; simpa using hl) (by decide) (fun j b hb => ?_)).mono ?_
    · have : ∀ b ∈ ([10, 13] : List UInt8), b.toNat < 128 := by decide
      exact this b (List.mem_of_getElem? hb)
    · rintro e w' ⟨rfl, rfl⟩
      refine ⟨_, rfl, ?_, balloc (balloc (Below.refl _ _) (Nat.le_refl _) _) (Nat.le_refl _) _⟩
      have := indexAny_any l [10, 13]
      rw [contains_nr] at this
      simpa using this
  · have := any_short ⟨l.toArray⟩ w (by show l.toArray.size ≤ 8; simpa using h8)
    simpa using this
theorem containsNR_sc (l : List UInt8) (s : St) (hl : l.length < 4294967281) : SCall Tryd.prog 66 [.s l, .s [10, 13]] s (.b (l.any nrB)) s := by
  obtain ⟨H, n⟩ := s
  refine SCallR.pure (SCallR.enter cc_strings_ContainsAny ?_) .b
  dsimp only [c_strings_ContainsAny, argT]
  have hc : ∀ s, SCallR Tryd.prog 83 [.s l, .s [10, 13]] s (fun r s' => ∃ v : Int, r = .i .i64 v ∧ decide (0 ≤ v) = l.any nrB ∧ s' = s) := fun s σ w vs hh hv => by
    obtain ⟨x, y, rfl, h1, h2⟩ := two_inv hv
    rw [h1.s_inv, h2.s_inv]
    refine .inr ⟨enters (by kernel_rfl) _ _, (ixany_any l w hl).mono ?_⟩
    rintro e w' ⟨v, rfl, hv, hb⟩
    exact ⟨_, rfl, _, s, σ, .i, Good.below hh hb, v, rfl, hv, rfl⟩
  refine SC.seq ?_ nofun; refine SC.regK ?_; refine k_mv ?_; refine k_nil ?_; refine okS ?_ rfl; refine SC.seq ?_ nofun; refine SC.regK ?_; refine k_mv ?_; refine k_mv ?_; refine k_callR (hc _) ?_ (hok := okCS rfl)
  rintro _ _ ⟨v, rfl, hv, rfl⟩
  refine k_i ?_; refine k_mv ?_; refine k_nil ?_; refine okS ?_ rfl; refine SC.ret ?_
  refine ⟨_, rfl, ?_, fun _ _ => rfl⟩
  rw [← hv]
theorem sindex1_sc (l : List UInt8) (c : UInt8) (s : St) : SCall Tryd.prog 73 [.s l, .s [c]] s (.i .i64 (ixI c l)) s := of_quiet (by kernel_rfl) fun σ w vs hv => by
    obtain ⟨x, y, rfl, h1, h2⟩ := two_inv hv
    rw [h1.s_inv, h2.s_inv]
    refine ⟨_, .i, ?_⟩
    have := Tryd.stringslite_Index_one (bA l) c w
    simpa [indexByte_ix] using this
def cutV (c : UInt8) (l : List UInt8) : SV := match ixB c l with
  | none => .tup [.s l, .s [], .b false]
  | some i => .tup [.s (l.take i), .s (l.drop (i + 1)), .b true]
theorem lo_cutV (n : Nat) (c : UInt8) (l : List UInt8) : Lo n (cutV c l) := by
  unfold cutV
  split <;> exact .tup (.cons .s (.cons .s (.cons .b .nil)))
theorem scut_sc (l : List UInt8) (c : UInt8) (s : St) (hl : l.length ≤ 1000000) : SCall Tryd.prog 76 [.s l, .s [c]] s (cutV c l) s := by
  obtain ⟨H, n⟩ := s
  refine SCallR.pure (SCallR.enter cc_internal_stringslite_Cut ?_) (lo_cutV _ _ _)
  dsimp only [c_internal_stringslite_Cut, argT]
  have hix := fun s => sindex1_sc l c s
  unfold ixI at hix
  unfold cutV
  cases hi : ixB c l with
  | none =>
    rw [hi] at hix
    dsimp only at hix
    refine SC.seq ?_ nofun; refine SC.regK ?_; refine k_mv ?_; refine k_mv ?_; refine k_mv ?_; refine k_nil ?_; refine okS ?_ rfl; refine SC.seq ?_ nofun; refine SC.seq ?_ nofun; refine SC.regK ?_; refine k_mv ?_; refine k_mv ?_; refine k_call (hix _) ?_; refine k_mv ?_; refine k_nil ?_; refine okS ?_ rfl; refine SC.seq ?_ nofun; refine SC.regK ?_; refine k_mv ?_; refine k_if ?_; refine k_nil ?_; refine okS ?_ rfl; refine SC.cond_f rfl ?_; refine SC.skip ?_; refine SC.seq ?_ nofun; refine SC.regK ?_; refine k_mv ?_; refine k_mv ?_; refine k_mv ?_; refine k_mv ?_; refine k_nil ?_; refine okS ?_ rfl; refine SC.ret ?_
    exact ⟨_, rfl, rfl, fun _ _ => rfl⟩
  | some i =>
    rw [hi] at hix
    dsimp only at hix
    obtain ⟨hi1, hi2⟩ := ixB_lt hi
    have hg : decide ((i : Int) ≥ 0) = true := decide_eq_true (by omega)
    have h1 : ([c] : List UInt8).length = 1 := rfl
    refine SC.seq ?_ nofun; refine SC.regK ?_; refine k_mv ?_; refine k_mv ?_; refine k_mv ?_; refine k_nil ?_; refine okS ?_ rfl; refine SC.seq ?_ nofun; refine SC.seq ?_ nofun; refine SC.regK ?_; refine k_mv ?_; refine k_mv ?_; refine k_call (hix _) ?_; refine k_mv ?_; refine k_nil ?_; refine okS ?_ rfl; refine SC.seq ?_ nofun; refine SC.regK ?_; refine k_mv ?_; refine k_it ?_; refine k_nil ?_; refine okS ?_ rfl; refine SC.cond_t rfl ?_; refine SC.seq ?_ nofun; refine SC.dregK ?_; refine k_mv ?_; refine k_mv ?_; refine k_sl ?_; refine k_mv ?_; refine k_mv ?_; refine k_mv ?_; refine k_bls ?_; refine k_add ?_; refine k_sh ?_; refine k_mv ?_; refine k_mv ?_; refine k_mv ?_; refine k_nil ?_; refine okD (ne := []) ?_ (by kernel_rfl) trivial; refine SC.ret ?_
    exact ⟨_, rfl, rfl, fun _ _ => rfl⟩
theorem cut_sc (l : List UInt8) (c : UInt8) (s : St) (hl : l.length ≤ 1000000) : SCall Tryd.prog 51 [.s l, .s [c]] s (cutV c l) s := by
  obtain ⟨H, n⟩ := s
  refine SCallR.pure (SCallR.enter cc_strings_Cut ?_) (lo_cutV _ _ _)
  dsimp only [c_strings_Cut, argT]
  have hc := fun s => scut_sc l c s hl
  unfold cutV at hc ⊢
  cases hi : ixB c l with
  | none =>
    rw [hi] at hc
    dsimp only at hc
    refine SC.seq ?_ nofun; refine SC.regK ?_; refine k_mv ?_; refine k_mv ?_; refine k_mv ?_; refine k_nil ?_; refine okS ?_ rfl; refine SC.seq ?_ nofun; refine SC.regK ?_; refine k_mv ?_; refine k_mv ?_; refine k_call (hc _) ?_; refine k_ext ?_; refine k_ext ?_; refine k_ext ?_; refine k_mv ?_; refine k_mv ?_; refine k_mv ?_; refine k_nil ?_; refine okS ?_ rfl; refine SC.ret ?_
    exact ⟨_, rfl, rfl, fun _ _ => rfl⟩
  | some i =>
    rw [hi] at hc
    dsimp only at hc
    refine SC.seq ?_ nofun; refine SC.regK ?_; refine k_mv ?_; refine k_mv ?_; refine k_mv ?_; refine k_nil ?_; refine okS ?_ rfl; refine SC.seq ?_ nofun; refine SC.regK ?_; refine k_mv ?_; refine k_mv ?_; refine k_call (hc _) ?_; refine k_ext ?_; refine k_ext ?_; refine k_ext ?_; refine k_mv ?_; refine k_mv ?_; refine k_mv ?_; refine k_nil ?_; refine okS ?_ rfl; refine SC.ret ?_
    exact ⟨_, rfl, rfl, fun _ _ => rfl⟩
def setC (p : UInt8 → Bool) : List SV := (List.range 256).map fun k => .b (p k.toUInt8)
theorem setC_at (p : UInt8 → Bool) (c : UInt8) : (setC p)[c.toNat]? = some (.b (p c)) := by
  unfold setC
  rw [List.getElem?_map, List.getElem?_range (UInt8.toNat_lt c)]
  simp
theorem setC_len (p : UInt8 → Bool) : (setC p).length = 256 := by simp [setC]
theorem setC_one (p : UInt8 → Bool) : (setC p).all SV.one = true := by simp [setC, SV.one]
theorem vrs_of {σ : Env} : ∀ {cells : List SV} {xs : List Value}, cells.length = xs.length → (∀ (j : Nat) v, cells[j]? = some v → ∃ x, xs[j]? = some x ∧ VR σ v x) → VRs σ cells xs
  | [], [], _, _ => .nil
  | [], _ :: _, h, _ => by simp at h
  | _ :: _, [], h, _ => by simp at h
  | a :: l, x :: xs, h, k => by
    obtain ⟨y, h1, h2⟩ := k 0 a rfl
    obtain rfl : x = y := by simpa using h1
    exact .cons h2 (vrs_of (by simpa using h) fun j v hv => by
      obtain ⟨y, q1, q2⟩ := k (j + 1) v (by simpa using hv)
      exact ⟨y, by simpa using q1, q2⟩)
theorem makeSet_sc (chars : List UInt8) (s : St) (hl : chars.length < 4294967281) (ha : ∀ b ∈ chars, b.toNat < 128) : SCall Tryd.prog 87 [.s chars] s (.tup [.agg (setC chars.contains), .b true]) s :=
  SCall.of (by kernel_rfl) fun σ w vs hh hv => by
    cases hv with
    | cons h1 h2 =>
      cases h2
      rw [h1.s_inv]
      refine (Tryd.strings_makeASCIISet hz_set (bA chars) w (by show chars.toArray.size < _; simpa using hl) (fun j b hb => ha b (by simpa using List.mem_of_getElem? hb))).mono ?_
      rintro e w' ⟨rfl, rfl⟩
      refine ⟨_, σ, rfl, .tup (.cons ?_ (.cons .b .nil)), Good.below hh (balloc (Below.refl _ _) (Nat.le_refl _) _)⟩
      have hs := Lib.setCells_size chars
      have : VR σ (.agg (setC chars.contains)) (.agg (Lib.setCells chars).toList.toArray) := .agg (vrs_of (by rw [setC_len]; simpa using hs.symm) fun j v hv => by
        have hj : j < 256 := by have := (List.getElem?_eq_some_iff.1 hv).1; rw [setC_len] at this; exact this
        have e1 := setC_at chars.contains (UInt8.ofNat j)
        have e2 := Lib.setCells_at chars (UInt8.ofNat j)
        rw [show UInt8.toNat (UInt8.ofNat j) = j from UInt8.toNat_ofNat_of_lt' hj] at e1 e2
        rw [hv] at e1
        obtain rfl := Option.some.inj e1
        exact ⟨_, by simpa using e2, .b⟩)
      simpa using this
section
variable {H : Nat → Option Blk} {n b : Nat} {p : UInt8 → Bool}
theorem setHas_sc (hb : H b = some (.row 123 256 (setC p))) (c : UInt8) : SCall Tryd.prog 101 [.p b 0, .i .u8 c.toNat] ⟨H, n⟩ (.b (p c)) ⟨H, n⟩ := by
  refine SCallR.pure (SCallR.enter cc_strings_asciiSet_contains ?_) .b
  dsimp only [c_strings_asciiSet_contains, argT]
  have hat := setC_at p c
  have hlt : c.toNat < 256 := UInt8.toNat_lt c
  generalize setC p = cs at *
  generalize c.toNat = k at *
  refine SC.seq ?_ nofun; refine SC.regK ?_; refine k_mv ?_; refine k_nil ?_; refine okS ?_ rfl; refine SC.seq ?_ nofun; refine SC.regK ?_; refine k_mv ?_; refine k_mv ?_; refine k_nilc ?_; refine k_iaa ?_; refine k_ldp ?_; refine k_mv ?_; refine k_nil ?_; refine okS ?_ rfl; refine SC.ret ?_
  exact ⟨_, rfl, rfl, fun _ _ => rfl⟩
end
end Go.Proofs.YtpacfelhjjmmkaaDoor
end
section
set_option maxHeartbeats 20000000
namespace Go.Proofs.YtpacfelhjjmmkaaDoor
open Go Go.Sy Go.Tr Go.Kb Go.RowKit
set_option linter.unusedVariables false
set_option linter.unusedSimpArgs false
def trimP (p : UInt8 → Bool) (r : List UInt8) : List UInt8 := (r.reverse.dropWhile p).reverse
theorem trimP_snoc (p : UInt8 → Bool) (r : List UInt8) (c : UInt8) : trimP p (r ++ [c]) = if p c = true then trimP p r else r ++ [c] := by
  unfold trimP
  rw [List.reverse_append]
  simp only [List.reverse_cons, List.reverse_nil, List.nil_append, List.singleton_append, List.dropWhile_cons]
  split
  · rfl
  · simp
theorem snoc_of {l : List UInt8} (h : 0 < l.length) : ∃ r c, l = r ++ [c] := ⟨l.dropLast, l.getLast (List.length_pos_iff.1 h), (List.dropLast_concat_getLast _).symm⟩
section
variable {H : Nat → Option Blk} {n b : Nat} {p : UInt8 → Bool}
theorem trimLA_sc (l : List UInt8) (hl : l.length ≤ 1000000) (hb : H b = some (.row 123 256 (setC p))) : SCall Tryd.prog 88 [.s l, .p b 0] ⟨H, n⟩ (.s (l.dropWhile p)) ⟨H, n⟩ := by
  refine SCallR.pure (SCallR.enter cc_strings_trimLeftASCII ?_) .s
  dsimp only [c_strings_trimLeftASCII, argT]
  refine SC.seq ?_ nofun; refine SC.regK ?_; refine k_mv ?_; refine k_nil ?_; refine okS ?_ rfl; refine SC.seq ?_ nofun; refine SC.blk ?_
  refine SC.mid [0] (fun vs s' => vs = [.s (l.dropWhile p)] ∧ s' = ⟨H, n⟩) ?_ ?_
  · rintro _ _ ⟨rfl, rfl⟩
    refine SC.seq ?_ nofun; refine SC.regK ?_; refine k_mv ?_; refine k_mv ?_; refine k_nil ?_; refine okS ?_ rfl; refine SC.ret ?_
    exact ⟨_, rfl, rfl, fun _ _ => rfl⟩
  · refine SC.loop [0, 1] (fun vs s' => ∃ r : List UInt8, r.length ≤ l.length ∧ vs = [.s r, .p b 0] ∧ r.dropWhile p = l.dropWhile p ∧ s' = ⟨H, n⟩) (fun vs _ => match vs with
      | [.s r, _] => r.length
      | _ => 0) rfl ⟨l, Nat.le_refl _, rfl, rfl, rfl⟩ nofun ?_
    rintro _ _ ⟨r, hr, rfl, hd, rfl⟩
    match r, hr, hd with
    | [], _, hd =>
      refine SC.seq ?_ nofun; refine SC.seq ?_ nofun; refine SC.regK ?_; refine k_mv ?_; refine k_bls ?_; refine k_if ?_; refine k_nil ?_; refine okS ?_ rfl; refine SC.cond_f rfl ?_; refine SC.exit ?_
      exact ⟨_, rfl, by rw [← hd]; rfl, rfl⟩
    | c :: r, hr, hd =>
      have hlen : (c :: r).length = r.length + 1 := rfl
      have hrow : (A1 b (.row 123 256 (setC p))) b = some (.row 123 256 (setC p)) := A1_at _ _
      have hc := setHas_sc (n := n) hrow c
      cases hp : p c with
      | true =>
        rw [hp] at hc
        rw [List.dropWhile_cons, if_pos hp] at hd
        refine SC.seq ?_ nofun; refine SC.seq ?_ nofun; refine SC.regK ?_; refine k_mv ?_; refine k_bls ?_; refine k_it ?_; refine k_nil ?_; refine okS ?_ rfl; refine SC.cond_t rfl ?_; refine SC.skip ?_; refine SC.blk ?_; refine SC.seq ?_ nofun; refine SC.seq ?_ nofun; refine SC.regK ?_; refine k_mv ?_; refine k_mv ?_; refine k_ixs ?_; refine k_call1 hb hc ?_; refine k_not ?_; refine k_nil ?_; refine okS ?_ rfl; refine SC.cond_f rfl ?_; refine SC.skip ?_; refine SC.regK ?_; refine k_mv ?_; refine k_sh ?_; refine k_mv ?_; refine k_nil ?_; refine okS ?_ rfl
        exact ⟨_, rfl, ⟨r, by omega, rfl, hd, rfl⟩, by simp⟩
      | false =>
        rw [hp] at hc
        rw [List.dropWhile_cons, if_neg (by simp [hp])] at hd
        refine SC.seq ?_ nofun; refine SC.seq ?_ nofun; refine SC.regK ?_; refine k_mv ?_; refine k_bls ?_; refine k_it ?_; refine k_nil ?_; refine okS ?_ rfl; refine SC.cond_t rfl ?_; refine SC.skip ?_; refine SC.blk ?_; refine SC.seq ?_ nofun; refine SC.seq ?_ nofun; refine SC.regK ?_; refine k_mv ?_; refine k_mv ?_; refine k_ixs ?_; refine k_call1 hb hc ?_; refine k_not ?_; refine k_nil ?_; refine okS ?_ rfl; refine SC.cond_t rfl ?_; refine SC.exit ?_
        exact ⟨_, rfl, by rw [← hd], rfl⟩
theorem trimRA_sc (l : List UInt8) (hl : l.length ≤ 1000000) (hb : H b = some (.row 123 256 (setC p))) : SCall Tryd.prog 89 [.s l, .p b 0] ⟨H, n⟩ (.s (trimP p l)) ⟨H, n⟩ := by
  refine SCallR.pure (SCallR.enter cc_strings_trimRightASCII ?_) .s
  dsimp only [c_strings_trimRightASCII, argT]
  refine SC.seq ?_ nofun; refine SC.regK ?_; refine k_mv ?_; refine k_nil ?_; refine okS ?_ rfl; refine SC.seq ?_ nofun; refine SC.blk ?_
  refine SC.mid [0] (fun vs s' => vs = [.s (trimP p l)] ∧ s' = ⟨H, n⟩) ?_ ?_
  · rintro _ _ ⟨rfl, rfl⟩
    refine SC.seq ?_ nofun; refine SC.regK ?_; refine k_mv ?_; refine k_mv ?_; refine k_nil ?_; refine okS ?_ rfl; refine SC.ret ?_
    exact ⟨_, rfl, rfl, fun _ _ => rfl⟩
  · refine SC.loop [0, 1] (fun vs s' => ∃ r : List UInt8, r.length ≤ l.length ∧ vs = [.s r, .p b 0] ∧ trimP p r = trimP p l ∧ s' = ⟨H, n⟩) (fun vs _ => match vs with
      | [.s r, _] => r.length
      | _ => 0) rfl ⟨l, Nat.le_refl _, rfl, rfl, rfl⟩ nofun ?_
    rintro _ _ ⟨r, hr, rfl, hd, rfl⟩
    rcases Nat.eq_zero_or_pos r.length with h0 | h0
    · obtain rfl := List.length_eq_zero_iff.1 h0
      refine SC.seq ?_ nofun; refine SC.seq ?_ nofun; refine SC.regK ?_; refine k_mv ?_; refine k_bls ?_; refine k_if ?_; refine k_nil ?_; refine okS ?_ rfl; refine SC.cond_f rfl ?_; refine SC.exit ?_
      exact ⟨_, rfl, by rw [← hd]; rfl, rfl⟩
    · obtain ⟨q, c, rfl⟩ := snoc_of h0
      have hlen : (q ++ [c]).length = q.length + 1 := by simp
      have hat : (q ++ [c])[q.length]? = some c := by simp
      have htk : (q ++ [c]).take q.length = q := by simp
      rw [trimP_snoc] at hd
      have hrow : (A1 b (.row 123 256 (setC p))) b = some (.row 123 256 (setC p)) := A1_at _ _
      have hc := setHas_sc (n := n) hrow c
      have hi : (((q ++ [c]).length : Nat) : Int) - 1 = (q.length : Int) := by omega
      cases hp : p c with
      | true =>
        rw [hp] at hc
        rw [if_pos hp] at hd
        refine SC.seq ?_ nofun; refine SC.seq ?_ nofun; refine SC.regK ?_; refine k_mv ?_; refine k_bls ?_; refine k_it ?_; refine k_nil ?_; refine okS ?_ rfl; refine SC.cond_t rfl ?_; refine SC.skip ?_; refine SC.blk ?_; refine SC.seq ?_ nofun; refine SC.seq ?_ nofun; refine SC.regK ?_; refine k_mv ?_; refine k_mv ?_; refine k_mv ?_; refine k_bls ?_; refine k_sub ?_; refine k_ixs ?_; refine k_call1 hb hc ?_; refine k_not ?_; refine k_nil ?_; refine okS ?_ rfl; refine SC.cond_f rfl ?_; refine SC.skip ?_; refine SC.regK ?_; refine k_mv ?_; refine k_mv ?_; refine k_bls ?_; refine k_sub ?_; refine k_sl ?_; refine k_mv ?_; refine k_nil ?_; refine okS ?_ rfl
        exact ⟨_, rfl, ⟨q, by omega, by rw [htk], hd, rfl⟩, by rw [htk]; simp⟩
      | false =>
        rw [hp] at hc
        rw [if_neg (by simp [hp])] at hd
        refine SC.seq ?_ nofun; refine SC.seq ?_ nofun; refine SC.regK ?_; refine k_mv ?_; refine k_bls ?_; refine k_it ?_; refine k_nil ?_; refine okS ?_ rfl; refine SC.cond_t rfl ?_; refine SC.skip ?_; refine SC.blk ?_; refine SC.seq ?_ nofun; refine SC.seq ?_ nofun; refine SC.regK ?_; refine k_mv ?_; refine k_mv ?_; refine k_mv ?_; refine k_bls ?_; refine k_sub ?_; refine k_ixs ?_; refine k_call1 hb hc ?_; refine k_not ?_; refine k_nil ?_; refine okS ?_ rfl; refine SC.cond_t rfl ?_; refine SC.exit ?_
        exact ⟨_, rfl, by rw [← hd], rfl⟩
end
theorem lay_at : ∀ (d pre c : List SV), c.length = d.length → lay (pre ++ c) pre.length d = pre ++ d
  | [], pre, c, h => by
    obtain rfl := List.length_eq_zero_iff.1 (by simpa using h)
    rfl
  | v :: d, pre, [], h => by simp at h
  | v :: d, pre, x :: c, h => by
    have := lay_at d (pre ++ [v]) c (by simpa using h)
    simp only [lay]
    rw [show (pre ++ x :: c).set pre.length v = (pre ++ [v]) ++ c by simp, show pre.length + 1 = (pre ++ [v]).length by simp, this]
    simp
theorem lay_full {c d : List SV} (h : c.length = d.length) : lay c 0 d = d := lay_at d [] c h
theorem rep_one (k : Nat) : (List.replicate k (SV.b false)).all SV.one = true := by simp [SV.one]
theorem rep_len (k : Nat) : (List.replicate k (SV.b false)).length = k := by simp
theorem lay_set (p : UInt8 → Bool) : lay (List.replicate 256 (SV.b false)) 0 (cellsOf (.agg (setC p))) = setC p := lay_full (by rw [rep_len]; exact (setC_len p).symm)
theorem setA_len (p : UInt8 → Bool) : (cellsOf (.agg (setC p))).length = 256 := setC_len p
theorem setA_one (p : UInt8 → Bool) : (cellsOf (.agg (setC p))).all SV.one = true := setC_one p
theorem set_fits : 0 + 256 ≤ (List.replicate 256 (SV.b false)).length := by rw [rep_len]; omega
set_option maxRecDepth 100000 in
theorem trimL_sc (l : List UInt8) (chars : List UInt8) (s : St) (hl : l.length ≤ 1000000) (h2 : 2 ≤ chars.length) (hcl : chars.length ≤ 1000) (ha : ∀ b ∈ chars, b.toNat < 128) : SCall Tryd.prog 74 [.s l, .s chars] s (.s (l.dropWhile chars.contains)) s := by
  obtain ⟨H, n⟩ := s
  refine SCallR.pure (SCallR.enter cc_strings_TrimLeft ?_) .s
  dsimp only [c_strings_TrimLeft, argT]
  have hm := fun s => makeSet_sc chars s (by omega) ha
  have hne : decide (chars = []) = false := decide_eq_false fun e => by subst e; simp at h2
  have h1 : ((chars.length : Int) == 1) = false := by simp; omega
  by_cases h0 : l = []
  · subst h0
    refine SC.seq ?_ nofun; refine SC.regK ?_; refine k_mv ?_; refine k_nil ?_; refine okS ?_ rfl; refine SC.seq ?_ nofun; refine SC.seq ?_ nofun; refine SC.regK ?_; refine k_mv ?_; refine k_st ?_; refine k_mv ?_; refine k_no ?_; refine k_no ?_; refine k_pt ?_; refine k_nil ?_; refine okS ?_ rfl; refine SC.cond_t rfl ?_; refine SC.seq ?_ nofun; refine SC.regK ?_; refine k_mv ?_; refine k_mv ?_; refine k_nil ?_; refine okS ?_ rfl; refine SC.ret ?_
    exact ⟨_, rfl, rfl, fun _ _ => rfl⟩
  · have h0' : decide (l = []) = false := decide_eq_false h0
    have htr := fun k => trimLA_sc (H := A1 n (.row 123 256 (setC chars.contains))) (n := k) (b := n) (p := chars.contains) l hl (A1_at _ _)
    refine SC.seq ?_ nofun; refine SC.regK ?_; refine k_mv ?_; refine k_nil ?_; refine okS ?_ rfl; refine SC.seq ?_ nofun; refine SC.seq ?_ nofun; refine SC.regK ?_; refine k_mv ?_; refine k_sf ?_; refine k_mv ?_; refine k_mv ?_; refine k_sf ?_; refine k_pf ?_; refine k_nil ?_; refine okS ?_ rfl; refine SC.cond_f rfl ?_; refine SC.skip ?_; refine SC.seq ?_ nofun; refine SC.seq ?_ nofun; refine SC.regK ?_; refine k_mv ?_; refine k_bls ?_; refine k_if ?_; refine k_mv ?_; refine k_no ?_; refine k_no ?_; refine k_no ?_; refine k_pf ?_; refine k_nil ?_; refine okS ?_ rfl; refine SC.cond_f rfl ?_; refine SC.skip ?_; refine SC.seq ?_ nofun; refine SC.seq ?_ nofun; refine SC.regK ?_; refine k_mv ?_; refine k_call (hm _) ?_; refine k_mv ?_; refine k_ext ?_; refine k_ext ?_; refine k_alc (hz := rep_len 256) (h1 := rep_one 256) ?_; refine k_sts (c' := setC chars.contains) (hn := setA_len _) (h1 := setA_one _) (hf := set_fits) (hc := lay_set _) ?_; refine k_mv ?_; refine k_nil ?_; refine okS ?_ rfl; refine SC.seq ?_ nofun; refine SC.regK ?_; refine k_mv ?_; refine k_nil ?_; refine okS ?_ rfl; refine SC.cond_t rfl ?_; refine SC.seq ?_ nofun; refine SC.regK ?_; refine k_mv ?_; refine k_call1 (upd_same _ _ _) (htr _) ?_; refine k_mv ?_; refine k_nil ?_; refine okS ?_ rfl; refine SC.ret ?_
    exact ⟨_, rfl, rfl, fun y hy => by ((try dsimp only) <;> (repeat first | assumption | with_reducible rfl | exact h_same rfl | refine h_ne (by first | assumption | omega) ?_))⟩
set_option maxRecDepth 100000 in
theorem trimRt_sc (l : List UInt8) (chars : List UInt8) (s : St) (hl : l.length ≤ 1000000) (h2 : 2 ≤ chars.length) (hcl : chars.length ≤ 1000) (ha : ∀ b ∈ chars, b.toNat < 128) : SCall Tryd.prog 75 [.s l, .s chars] s (.s (trimP chars.contains l)) s := by
  obtain ⟨H, n⟩ := s
  refine SCallR.pure (SCallR.enter cc_strings_TrimRight ?_) .s
  dsimp only [c_strings_TrimRight, argT]
  have hm := fun s => makeSet_sc chars s (by omega) ha
  have hne : decide (chars = []) = false := decide_eq_false fun e => by subst e; simp at h2
  have h1 : ((chars.length : Int) == 1) = false := by simp; omega
  by_cases h0 : l = []
  · subst h0
    refine SC.seq ?_ nofun; refine SC.regK ?_; refine k_mv ?_; refine k_nil ?_; refine okS ?_ rfl; refine SC.seq ?_ nofun; refine SC.seq ?_ nofun; refine SC.regK ?_; refine k_mv ?_; refine k_st ?_; refine k_mv ?_; refine k_no ?_; refine k_no ?_; refine k_pt ?_; refine k_nil ?_; refine okS ?_ rfl; refine SC.cond_t rfl ?_; refine SC.seq ?_ nofun; refine SC.regK ?_; refine k_mv ?_; refine k_mv ?_; refine k_nil ?_; refine okS ?_ rfl; refine SC.ret ?_
    exact ⟨_, rfl, rfl, fun _ _ => rfl⟩
  · have h0' : decide (l = []) = false := decide_eq_false h0
    have htr := fun k => trimRA_sc (H := A1 n (.row 123 256 (setC chars.contains))) (n := k) (b := n) (p := chars.contains) l hl (A1_at _ _)
    refine SC.seq ?_ nofun; refine SC.regK ?_; refine k_mv ?_; refine k_nil ?_; refine okS ?_ rfl; refine SC.seq ?_ nofun; refine SC.seq ?_ nofun; refine SC.regK ?_; refine k_mv ?_; refine k_sf ?_; refine k_mv ?_; refine k_mv ?_; refine k_sf ?_; refine k_pf ?_; refine k_nil ?_; refine okS ?_ rfl; refine SC.cond_f rfl ?_; refine SC.skip ?_; refine SC.seq ?_ nofun; refine SC.seq ?_ nofun; refine SC.regK ?_; refine k_mv ?_; refine k_bls ?_; refine k_if ?_; refine k_mv ?_; refine k_no ?_; refine k_no ?_; refine k_no ?_; refine k_pf ?_; refine k_nil ?_; refine okS ?_ rfl; refine SC.cond_f rfl ?_; refine SC.skip ?_; refine SC.seq ?_ nofun; refine SC.seq ?_ nofun; refine SC.regK ?_; refine k_mv ?_; refine k_call (hm _) ?_; refine k_mv ?_; refine k_ext ?_; refine k_ext ?_; refine k_alc (hz := rep_len 256) (h1 := rep_one 256) ?_; refine k_sts (c' := setC chars.contains) (hn := setA_len _) (h1 := setA_one _) (hf := set_fits) (hc := lay_set _) ?_; refine k_mv ?_; refine k_nil ?_; refine okS ?_ rfl; refine SC.seq ?_ nofun; refine SC.regK ?_; refine k_mv ?_; refine k_nil ?_; refine okS ?_ rfl; refine SC.cond_t rfl ?_; refine SC.seq ?_ nofun; refine SC.regK ?_; refine k_mv ?_; refine k_call1 (upd_same _ _ _) (htr _) ?_; refine k_mv ?_; refine k_nil ?_; refine okS ?_ rfl; refine SC.ret ?_
    exact ⟨_, rfl, rfl, fun y hy => by ((try dsimp only) <;> (repeat first | assumption | with_reducible rfl | exact h_same rfl | refine h_ne (by first | assumption | omega) ?_))⟩
set_option maxRecDepth 100000 in
theorem trimB_sc (l : List UInt8) (chars : List UInt8) (s : St) (hl : l.length ≤ 1000000) (h2 : 2 ≤ chars.length) (hcl : chars.length ≤ 1000) (ha : ∀ b ∈ chars, b.toNat < 128) : SCall Tryd.prog 70 [.s l, .s chars] s (.s ((trimP chars.contains l).dropWhile chars.contains)) s := by
  obtain ⟨H, n⟩ := s
  refine SCallR.pure (SCallR.enter cc_strings_Trim ?_) .s
  dsimp only [c_strings_Trim, argT]
  have hm := fun s => makeSet_sc chars s (by omega) ha
  have hne : decide (chars = []) = false := decide_eq_false fun e => by subst e; simp at h2
  have h1 : ((chars.length : Int) == 1) = false := by simp; omega
  by_cases h0 : l = []
  · subst h0
    refine SC.seq ?_ nofun; refine SC.regK ?_; refine k_mv ?_; refine k_nil ?_; refine okS ?_ rfl; refine SC.seq ?_ nofun; refine SC.seq ?_ nofun; refine SC.regK ?_; refine k_mv ?_; refine k_st ?_; refine k_mv ?_; refine k_no ?_; refine k_no ?_; refine k_pt ?_; refine k_nil ?_; refine okS ?_ rfl; refine SC.cond_t rfl ?_; refine SC.seq ?_ nofun; refine SC.regK ?_; refine k_mv ?_; refine k_mv ?_; refine k_nil ?_; refine okS ?_ rfl; refine SC.ret ?_
    exact ⟨_, rfl, rfl, fun _ _ => rfl⟩
  · have h0' : decide (l = []) = false := decide_eq_false h0
    have htl : (trimP chars.contains l).length ≤ 1000000 := by
      have : (trimP chars.contains l).length ≤ l.length := by
        unfold trimP
        rw [List.length_reverse]
        have := (List.dropWhile_suffix chars.contains (l := l.reverse)).length_le
        simpa using this
      omega
    have htr := fun k => trimRA_sc (H := A1 n (.row 123 256 (setC chars.contains))) (n := k) (b := n) (p := chars.contains) l hl (A1_at _ _)
    have htl := fun k => trimLA_sc (H := A1 n (.row 123 256 (setC chars.contains))) (n := k) (b := n) (p := chars.contains) (trimP chars.contains l) htl (A1_at _ _)
    refine SC.seq ?_ nofun; refine SC.regK ?_; refine k_mv ?_; refine k_nil ?_; refine okS ?_ rfl; refine SC.seq ?_ nofun; refine SC.seq ?_ nofun; refine SC.regK ?_; refine k_mv ?_; refine k_sf ?_; refine k_mv ?_; refine k_mv ?_; refine k_sf ?_; refine k_pf ?_; refine k_nil ?_; refine okS ?_ rfl; refine SC.cond_f rfl ?_; refine SC.skip ?_; refine SC.seq ?_ nofun; refine SC.seq ?_ nofun; refine SC.regK ?_; refine k_mv ?_; refine k_bls ?_; refine k_if ?_; refine k_mv ?_; refine k_no ?_; refine k_no ?_; refine k_no ?_; refine k_pf ?_; refine k_nil ?_; refine okS ?_ rfl; refine SC.cond_f rfl ?_; refine SC.skip ?_; refine SC.seq ?_ nofun; refine SC.seq ?_ nofun; refine SC.regK ?_; refine k_mv ?_; refine k_call (hm _) ?_; refine k_mv ?_; refine k_ext ?_; refine k_ext ?_; refine k_alc (hz := rep_len 256) (h1 := rep_one 256) ?_; refine k_sts (c' := setC chars.contains) (hn := setA_len _) (h1 := setA_one _) (hf := set_fits) (hc := lay_set _) ?_; refine k_mv ?_; refine k_nil ?_; refine okS ?_ rfl; refine SC.seq ?_ nofun; refine SC.regK ?_; refine k_mv ?_; refine k_nil ?_; refine okS ?_ rfl; refine SC.cond_t rfl ?_; refine SC.seq ?_ nofun; refine SC.regK ?_; refine k_mv ?_; refine k_call1 (upd_same _ _ _) (htr _) ?_; refine k_call1 (upd_same _ _ _) (htl _) ?_; refine k_mv ?_; refine k_nil ?_; refine okS ?_ rfl; refine SC.ret ?_
    exact ⟨_, rfl, rfl, fun y hy => by ((try dsimp only) <;> (repeat first | assumption | with_reducible rfl | exact h_same rfl | refine h_ne (by first | assumption | omega) ?_))⟩
theorem blk_contains : ([32, 9] : List UInt8).contains = blk := by
  funext b
  rw [Bool.eq_iff_iff]
  simp [blk, List.contains_cons]
def trimV (l : List UInt8) : SV := .tup [.s (l.take (l.length - (l.dropWhile blk).length)), .s (trimR (l.dropWhile blk)), .s ((l.dropWhile blk).drop (trimR (l.dropWhile blk)).length)]
theorem ltrim_sc (l : List UInt8) (s : St) (hl : l.length ≤ 1000000) : SCall Tryd.prog 50 [.s l] s (trimV l) s := by
  obtain ⟨H, n⟩ := s
  refine SCallR.pure (SCallR.enter cc_lines_Trim ?_) (.tup (.cons .s (.cons .s (.cons .s .nil))))
  dsimp only [c_lines_Trim, argT]
  have h32 : ∀ b ∈ ([32, 9] : List UInt8), b.toNat < 128 := by decide
  have hA : (l.dropWhile blk).length ≤ l.length := (List.dropWhile_suffix blk).length_le
  have hB : (trimR (l.dropWhile blk)).length ≤ (l.dropWhile blk).length := by
    unfold trimR
    rw [List.length_reverse]
    have := (List.dropWhile_suffix blk (l := (l.dropWhile blk).reverse)).length_le
    simpa using this
  have c1 := fun s => trimL_sc l [32, 9] s hl (by decide) (by decide) h32
  have c2 := fun s => trimRt_sc (l.dropWhile blk) [32, 9] s (by omega) (by decide) (by decide) h32
  rw [blk_contains] at c1 c2
  have e : trimP blk (l.dropWhile blk) = trimR (l.dropWhile blk) := rfl
  rw [e] at c2
  have hsub : ((l.length : Int) - ((l.dropWhile blk).length : Int)) = ((l.length - (l.dropWhile blk).length : Nat) : Int) := by omega
  refine SC.seq ?_ nofun; refine SC.regK ?_; refine k_mv ?_; refine k_mv ?_; refine k_mv ?_; refine k_nil ?_; refine okS ?_ rfl; refine SC.seq ?_ nofun; refine SC.regK ?_; refine k_mv ?_; refine k_call (c1 _) ?_; refine k_mv ?_; refine k_nil ?_; refine okS ?_ rfl; refine SC.seq ?_ nofun; refine SC.regK ?_; refine k_mv ?_; refine k_call (c2 _) ?_; refine k_mv ?_; refine k_nil ?_; refine okS ?_ rfl; refine SC.seq ?_ nofun; refine SC.dregK ?_; refine k_mv ?_; refine k_mv ?_; refine k_bls ?_; refine k_mv ?_; refine k_bls ?_; refine k_sub ?_; refine k_sl ?_; refine k_mv ?_; refine k_mv ?_; refine k_mv ?_; refine k_bls ?_; refine k_sh ?_; refine k_mv ?_; refine k_mv ?_; refine k_mv ?_; refine k_nil ?_; refine okD (ne := []) ?_ (by kernel_rfl) trivial; refine SC.ret ?_
  exact ⟨_, rfl, rfl, fun _ _ => rfl⟩
end Go.Proofs.YtpacfelhjjmmkaaDoor
end
section
set_option maxHeartbeats 20000000
namespace Go.Proofs.YtpacfelhjjmmkaaDoor
open Go Go.Sy Go.Tr Go.Kb Go.RowKit
set_option linter.unusedVariables false
set_option linter.unusedSimpArgs false
theorem bare_nr (l : List UInt8) : bareL l = !l.any nrB := by
  induction l with
  | nil => rfl
  | cons b l ih =>
    unfold bareL at ih ⊢
    rw [List.all_cons, List.any_cons, ih]
    show (!(nrB b) && !l.any nrB) = _
    rw [← Bool.not_or]
theorem cplain_sc (l : List UInt8) (s : St) (hl : l.length ≤ 1000000) : SCall Tryd.prog 41 [.s l] s (.b (plainL l)) s := by
  obtain ⟨H, n⟩ := s
  refine SCallR.pure (SCallR.enter cc_card_plain ?_) .b
  dsimp only [c_card_plain, argT]
  have hc := fun s => containsNR_sc l s (by omega)
  unfold plainL
  rw [bare_nr]
  by_cases h0 : l = []
  · subst h0
    refine SC.seq ?_ nofun; refine SC.regK ?_; refine k_mv ?_; refine k_nil ?_; refine okS ?_ rfl; refine SC.seq ?_ nofun; refine SC.regK ?_; refine k_mv ?_; refine k_sf ?_; refine k_mv ?_; refine k_no ?_; refine k_no ?_; refine k_no ?_; refine k_pf ?_; refine k_mv ?_; refine k_no ?_; refine k_no ?_; refine k_no ?_; refine k_pf ?_; refine k_mv ?_; refine k_nil ?_; refine okS ?_ rfl; refine SC.ret ?_
    exact ⟨_, rfl, rfl, fun _ _ => rfl⟩
  · have h1 : decide (l = []) = false := decide_eq_false h0
    have h2 : (!decide (l = [])) = true := by rw [h1]; rfl
    have h3 : (l != []) = true := by simpa using h0
    by_cases h80 : l.length ≤ 80
    · have h4 : decide ((l.length : Int) ≤ 80) = true := decide_eq_true (by omega)
      rw [h3, decide_eq_true h80]
      cases ha : l.any nrB <;> rw [ha] at hc
      · refine SC.seq ?_ nofun; refine SC.regK ?_; refine k_mv ?_; refine k_nil ?_; refine okS ?_ rfl; refine SC.seq ?_ nofun; refine SC.regK ?_; refine k_mv ?_; refine k_st ?_; refine k_mv ?_; refine k_mv ?_; refine k_bls ?_; refine k_it ?_; refine k_pt ?_; refine k_mv ?_; refine k_mv ?_; refine k_call (hc _) ?_; refine k_not ?_; refine k_pt ?_; refine k_mv ?_; refine k_nil ?_; refine okS ?_ rfl; refine SC.ret ?_
        exact ⟨_, rfl, rfl, fun _ _ => rfl⟩
      · refine SC.seq ?_ nofun; refine SC.regK ?_; refine k_mv ?_; refine k_nil ?_; refine okS ?_ rfl; refine SC.seq ?_ nofun; refine SC.regK ?_; refine k_mv ?_; refine k_st ?_; refine k_mv ?_; refine k_mv ?_; refine k_bls ?_; refine k_it ?_; refine k_pt ?_; refine k_mv ?_; refine k_mv ?_; refine k_call (hc _) ?_; refine k_not ?_; refine k_pt ?_; refine k_mv ?_; refine k_nil ?_; refine okS ?_ rfl; refine SC.ret ?_
        exact ⟨_, rfl, rfl, fun _ _ => rfl⟩
    · have h4 : decide ((l.length : Int) ≤ 80) = false := decide_eq_false (by omega)
      rw [decide_eq_false h80]
      refine SC.seq ?_ nofun; refine SC.regK ?_; refine k_mv ?_; refine k_nil ?_; refine okS ?_ rfl; refine SC.seq ?_ nofun; refine SC.regK ?_; refine k_mv ?_; refine k_st ?_; refine k_mv ?_; refine k_mv ?_; refine k_bls ?_; refine k_if ?_; refine k_pt ?_; refine k_mv ?_; refine k_no ?_; refine k_no ?_; refine k_no ?_; refine k_pf ?_; refine k_mv ?_; refine k_nil ?_; refine okS ?_ rfl; refine SC.ret ?_
      exact ⟨_, rfl, by rw [Bool.and_false, Bool.false_and], fun _ _ => rfl⟩
def letters : List UInt8 := [65, 66, 67, 68, 69, 70, 71, 72, 73, 74, 75, 76, 77, 78, 79, 80, 81, 82, 83, 84, 85, 86, 87, 88, 89, 90, 48, 49, 50, 51, 52, 53, 54, 55, 56, 57, 45]
theorem letters_let : letters.contains = letL := by
  funext c
  have : ∀ n : Nat, n < 256 → letters.contains (UInt8.ofNat n) = letL (UInt8.ofNat n) := by decide +kernel
  have := this c.toNat (UInt8.toNat_lt c)
  simpa using this
theorem dropWhile_nil {p : UInt8 → Bool} : ∀ {l : List UInt8}, l.dropWhile p = [] ↔ l.all p = true
  | [] => by simp
  | b :: l => by
    rw [List.dropWhile_cons]
    by_cases h : p b = true
    · rw [if_pos h, dropWhile_nil]; simp [h]
    · rw [if_neg h]; simp [h]
theorem dropWhile_not {p : UInt8 → Bool} : ∀ {l : List UInt8} {c : UInt8} {r : List UInt8}, l.dropWhile p = c :: r → p c = false
  | [], _, _, h => by cases h
  | b :: l, c, r, h => by
    rw [List.dropWhile_cons] at h
    split at h
    · exact dropWhile_not h
    · rename_i hb; injection h with h1; subst h1; simpa using hb
theorem trim_all (p : UInt8 → Bool) (l : List UInt8) : (trimP p l).dropWhile p = [] ↔ l.all p = true := by
  rw [dropWhile_nil]
  unfold trimP
  rw [List.all_reverse]
  constructor
  · intro h
    cases hd : l.reverse.dropWhile p with
    | nil => have := dropWhile_nil.1 hd; rwa [List.all_reverse] at this
    | cons c r =>
      rw [hd] at h
      have h1 := dropWhile_not hd
      simp [h1] at h
  · intro h
    have : l.reverse.dropWhile p = [] := dropWhile_nil.2 (by rw [List.all_reverse]; exact h)
    rw [this]; rfl
theorem containsA_sc (l chars : List UInt8) (s : St) (hl : l.length ≤ 1000000) (hcl : chars.length ≤ 1000) (has : ∀ b ∈ l, b.toNat < 128) (hac : ∀ b ∈ chars, b.toNat < 128) : SCall Tryd.prog 66 [.s l, .s chars] s (.b (l.any chars.contains)) s :=
  SCall.of (by kernel_rfl) fun σ w vs hh hv => by
    obtain ⟨x, y, rfl, h1, h2⟩ := two_inv hv
    rw [h1.s_inv, h2.s_inv]
    refine (Tryd.strings_ContainsAny_laid (bA l) (bA chars) w (by show l.toArray.size < _; simp; omega) (by show chars.toArray.size < _; simp; omega) (fun j b hb => has b (by simpa using List.mem_of_getElem? hb)) (fun j b hb => hac b (by simpa using List.mem_of_getElem? hb))).mono ?_
    rintro e w' ⟨rfl, hb⟩
    refine ⟨_, σ, rfl, ?_, Good.below hh hb⟩
    have := indexAny_any l chars
    unfold Lib.containsAny
    simp only [data_bA]
    rw [this]
    exact .b
theorem cword_sc (l : List UInt8) (s : St) (hl : l.length ≤ 1000000) : SCall Tryd.prog 45 [.s l] s (.b (wordL l)) s := by
  obtain ⟨H, n⟩ := s
  refine SCallR.pure (SCallR.enter cc_card_word ?_) .b
  dsimp only [c_card_word, argT]
  have hla : ∀ b ∈ letters, b.toNat < 128 := by decide +kernel
  have ht := fun s => trimB_sc l letters s hl (by decide) (by decide) hla
  rw [letters_let] at ht
  unfold letters at ht
  unfold wordL
  by_cases h0 : l = []
  · subst h0
    refine SC.seq ?_ nofun; refine SC.regK ?_; refine k_mv ?_; refine k_nil ?_; refine okS ?_ rfl; refine SC.seq ?_ nofun; refine SC.regK ?_; refine k_mv ?_; refine k_sf ?_; refine k_mv ?_; refine k_no ?_; refine k_no ?_; refine k_no ?_; refine k_pf ?_; refine k_mv ?_; refine k_no ?_; refine k_no ?_; refine k_no ?_; refine k_pf ?_; refine k_mv ?_; refine k_no ?_; refine k_no ?_; refine k_no ?_; refine k_pf ?_; refine k_mv ?_; refine k_nil ?_; refine okS ?_ rfl; refine SC.ret ?_
    exact ⟨_, rfl, rfl, fun _ _ => rfl⟩
  · have h1 : decide (l = []) = false := decide_eq_false h0
    have h2 : (!decide (l = [])) = true := by rw [h1]; rfl
    have h3 : (l != []) = true := by simpa using h0
    by_cases h20 : l.length ≤ 20
    · have h4 : decide ((l.length : Int) ≤ 20) = true := decide_eq_true (by omega)
      rw [h3, decide_eq_true h20]
      cases ha : l.all letL with
      | false =>
        have h5 : decide ((trimP letL l).dropWhile letL = []) = false := decide_eq_false fun e => by rw [(trim_all letL l).1 e] at ha; cases ha
        refine SC.seq ?_ nofun; refine SC.regK ?_; refine k_mv ?_; refine k_nil ?_; refine okS ?_ rfl; refine SC.seq ?_ nofun; refine SC.regK ?_; refine k_mv ?_; refine k_st ?_; refine k_mv ?_; refine k_mv ?_; refine k_bls ?_; refine k_it ?_; refine k_pt ?_; refine k_mv ?_; refine k_mv ?_; refine k_call (ht _) ?_; refine k_sf ?_; refine k_pt ?_; refine k_mv ?_; refine k_no ?_; refine k_no ?_; refine k_no ?_; refine k_pf ?_; refine k_mv ?_; refine k_nil ?_; refine okS ?_ rfl; refine SC.ret ?_
        exact ⟨_, rfl, rfl, fun _ _ => rfl⟩
      | true =>
        have h5 : decide ((trimP letL l).dropWhile letL = []) = true := decide_eq_true ((trim_all letL l).2 ha)
        have hlet : ∀ b ∈ l, letL b = true := by simpa using ha
        have hkn : ∀ n : Nat, n < 256 → letL (UInt8.ofNat n) = true → (UInt8.ofNat n).toNat < 128 ∧ ([32, 9] : List UInt8).contains (UInt8.ofNat n) = false := by decide +kernel
        have hkb : ∀ b : UInt8, letL b = true → b.toNat < 128 ∧ ([32, 9] : List UInt8).contains b = false := fun b hb => by
          have := hkn b.toNat (UInt8.toNat_lt b)
          simp only [UInt8.ofNat_toNat] at this
          exact this hb
        have hcA := fun s => containsA_sc l [32, 9] s hl (by decide) (fun b hb => (hkb b (hlet b hb)).1) (by decide)
        have : l.any ([32, 9] : List UInt8).contains = false := by
          rw [List.any_eq_false]
          intro b hb
          rw [(hkb b (hlet b hb)).2]; simp
        rw [this] at hcA
        clear hlet hkb hkn
        refine SC.seq ?_ nofun; refine SC.regK ?_; refine k_mv ?_; refine k_nil ?_; refine okS ?_ rfl; refine SC.seq ?_ nofun; refine SC.regK ?_; refine k_mv ?_; refine k_st ?_; refine k_mv ?_; refine k_mv ?_; refine k_bls ?_; refine k_it ?_; refine k_pt ?_; refine k_mv ?_; refine k_mv ?_; refine k_call (ht _) ?_; refine k_st ?_; refine k_pt ?_; refine k_mv ?_; refine k_mv ?_; refine k_call (hcA _) ?_; refine k_not ?_; refine k_pt ?_; refine k_mv ?_; refine k_nil ?_; refine okS ?_ rfl; refine SC.ret ?_
        exact ⟨_, rfl, rfl, fun _ _ => rfl⟩
    · have h4 : decide ((l.length : Int) ≤ 20) = false := decide_eq_false (by omega)
      rw [decide_eq_false h20]
      refine SC.seq ?_ nofun; refine SC.regK ?_; refine k_mv ?_; refine k_nil ?_; refine okS ?_ rfl; refine SC.seq ?_ nofun; refine SC.regK ?_; refine k_mv ?_; refine k_st ?_; refine k_mv ?_; refine k_mv ?_; refine k_bls ?_; refine k_if ?_; refine k_pt ?_; refine k_mv ?_; refine k_no ?_; refine k_no ?_; refine k_no ?_; refine k_pf ?_; refine k_mv ?_; refine k_no ?_; refine k_no ?_; refine k_no ?_; refine k_pf ?_; refine k_mv ?_; refine k_nil ?_; refine okS ?_ rfl; refine SC.ret ?_
      exact ⟨_, rfl, by rw [Bool.and_false], fun _ _ => rfl⟩
theorem bl_one (o : List UInt8) : (o.map bSV).all SV.one = true := by simp [bSV, SV.one]
theorem bl_len (o : List UInt8) : (o.map bSV).length = o.length * 1 := by simp
theorem lo_meantV (n : Nat) (l : List UInt8) : Lo n (meantV l) := by
  unfold meantV
  split <;> exact .tup (.cons .s (.cons .b .nil))
theorem cmeaning_sc (l : List UInt8) (s : St) (hl : l.length ≤ 1000000) : SCall Tryd.prog 78 [.s l] s (meantV l) s := by
  obtain ⟨H, n⟩ := s
  refine SCallR.pure (SCallR.enter cc_card_meaning ?_) (lo_meantV _ _)
  dsimp only [c_card_meaning, argT]
  refine SC.seq ?_ nofun; refine SC.regK ?_; refine k_mv ?_; refine k_mv ?_; refine k_nil ?_; refine okS ?_ rfl
  refine SC.goto_loop2 0 rfl rfl rfl [0, 4, 5] (fun vs s' => ∃ (i : Nat) (o : List UInt8) (ov : SV), i ≤ l.length ∧ vs = [.s l, ov, .i .i64 i] ∧ unesc l = (unesc (l.drop i)).map (o ++ ·) ∧ o.length ≤ i ∧ ((ov = .nils ∧ o = []) ∨ ∃ b, ov = .sl b 0 o.length ∧ s'.H b = some (.row 5 1 (o.map bSV)) ∧ n ≤ b ∧ b < s'.nxt) ∧ n ≤ s'.nxt ∧ (∀ y, y < n → s'.H y = H y)) (fun vs _ => match vs with
    | [_, _, .i _ i] => l.length - i.toNat
    | _ => 0) ?_ ?_
  · refine SC.regK ?_; refine k_mv ?_; refine k_nil ?_; refine okS ?_ rfl; refine SC.regK ?_; refine k_mv ?_; refine k_nil ?_; refine okS ?_ rfl
    exact ⟨_, rfl, 0, [], _, Nat.zero_le _, rfl, by simp, Nat.le_refl _, .inl ⟨rfl, rfl⟩, Nat.le_refl _, fun _ _ => rfl⟩
  · rintro _ ⟨H', n'⟩ ⟨i, o, ov, hi, rfl, hu, hol, hov, hn, hH⟩
    dsimp only at hov hn hH
    have ho1 := bl_one o
    have hol2 := bl_len o
    by_cases h : i < l.length
    · obtain ⟨c, hc⟩ : ∃ c, l[i]? = some c := ⟨l[i], List.getElem?_eq_getElem h⟩
      have hne : ((i : Int) == (l.length : Int)) = false := by simp; omega
      rw [drop_cons hc] at hu
      have hin := fun s => fun e => indexByte_sc [110, 114, 92] e s
      by_cases h92 : c = 92
      · subst h92
        by_cases h1 : i + 1 < l.length
        · obtain ⟨e, he⟩ : ∃ e, l[i + 1]? = some e := ⟨l[i + 1], List.getElem?_eq_getElem h1⟩
          have hmn : min ((i : Int) + 1) ((l.length : Int) - 1) = ((i + 1 : Nat) : Int) := by omega
          have hne1 : (((i : Int) + 1) == (l.length : Int)) = false := by simp; omega
          rw [drop_cons he, unesc_esc] at hu
          by_cases e1 : e = 110
          · subst e1
            rw [if_pos rfl] at hu
            rcases hov with ⟨rfl, rfl⟩ | ⟨b, rfl, hb, hb1, hb2⟩
            · refine SC.seq ?_ nofun; refine SC.seq ?_ nofun; refine SC.regK ?_; refine k_mv ?_; refine k_mv ?_; refine k_bls ?_; refine k_if ?_; refine k_nil ?_; refine okS ?_ rfl; refine SC.cond_f rfl ?_; refine SC.skip ?_; refine SC.seq ?_ nofun; refine SC.regK ?_; refine k_mv ?_; refine k_mv ?_; refine k_ixs ?_; refine k_mv ?_; refine k_nil ?_; refine okS ?_ rfl; refine SC.seq ?_ nofun; refine SC.seq ?_ nofun; refine SC.regK ?_; refine k_mv ?_; refine k_it ?_; refine k_nil ?_; refine okS ?_ rfl; refine SC.cond_t rfl ?_; refine SC.seq ?_ nofun; refine SC.regK ?_; refine k_mv ?_; refine k_add ?_; refine k_mv ?_; refine k_nil ?_; refine okS ?_ rfl; refine SC.seq ?_ nofun; refine SC.regK ?_; refine k_mv ?_; refine k_mv ?_; refine k_mv ?_; refine k_bls ?_; refine k_sub ?_; refine k_bmn ?_; refine k_ixs ?_; refine k_call (hin _ _) ?_; refine k_mv ?_; refine k_nil ?_; refine okS ?_ rfl; refine SC.seq ?_ nofun; refine SC.seq ?_ nofun; refine SC.regK ?_; refine k_mv ?_; refine k_mv ?_; refine k_bls ?_; refine k_if ?_; refine k_mv ?_; refine k_mv ?_; refine k_if ?_; refine k_pf ?_; refine k_nil ?_; refine okS ?_ rfl; refine SC.cond_f rfl ?_; refine SC.skip ?_; refine SC.regK ?_; refine k_mv ?_; refine k_ixs ?_; refine k_mv ?_; refine k_nil ?_; refine okS ?_ rfl; refine SC.seq ?_ nofun; refine SC.regK ?_; refine k_mv ?_; refine k_mv ?_; refine k_bsl ?_ (c' := [SV.i IntKind.u8 (↑(UInt8.toNat 10) : Int)]); refine k_app0o ?_ (new := [SV.i IntKind.u8 (↑(UInt8.toNat 10) : Int)]); refine k_mv ?_; refine k_nil ?_; refine okS ?_ rfl; refine SC.seq ?_ nofun; refine SC.regK ?_; refine k_mv ?_; refine k_add ?_; refine k_mv ?_; refine k_nil ?_; refine okS ?_ rfl; refine SC.goto ?_
              refine ⟨rfl, _, rfl, ⟨i + 1 + 1, [10], _, h1, rfl, ?_, by simp, .inr ⟨_, rfl, by ((try dsimp only) <;> (repeat first | assumption | with_reducible rfl | exact h_same rfl | refine h_ne (by first | assumption | omega) ?_)), by omega, by dsimp only; omega⟩, by dsimp only; omega, fun y hy => by ((try dsimp only) <;> (repeat first | assumption | with_reducible rfl | exact h_same rfl | refine h_ne (by first | assumption | omega) ?_)); exact hH y hy⟩, by simp; omega⟩
              rw [hu, Option.map_map]; congr 1
            · refine SC.seq ?_ nofun; refine SC.seq ?_ nofun; refine SC.regK ?_; refine k_mv ?_; refine k_mv ?_; refine k_bls ?_; refine k_if ?_; refine k_nil ?_; refine okS ?_ rfl; refine SC.cond_f rfl ?_; refine SC.skip ?_; refine SC.seq ?_ nofun; refine SC.regK ?_; refine k_mv ?_; refine k_mv ?_; refine k_ixs ?_; refine k_mv ?_; refine k_nil ?_; refine okS ?_ rfl; refine SC.seq ?_ nofun; refine SC.seq ?_ nofun; refine SC.regK ?_; refine k_mv ?_; refine k_it ?_; refine k_nil ?_; refine okS ?_ rfl; refine SC.cond_t rfl ?_; refine SC.seq ?_ nofun; refine SC.regK ?_; refine k_mv ?_; refine k_add ?_; refine k_mv ?_; refine k_nil ?_; refine okS ?_ rfl; refine SC.seq ?_ nofun; refine SC.regK ?_; refine k_mv ?_; refine k_mv ?_; refine k_mv ?_; refine k_bls ?_; refine k_sub ?_; refine k_bmn ?_; refine k_ixs ?_; refine k_call (hin _ _) ?_; refine k_mv ?_; refine k_nil ?_; refine okS ?_ rfl; refine SC.seq ?_ nofun; refine SC.seq ?_ nofun; refine SC.regK ?_; refine k_mv ?_; refine k_mv ?_; refine k_bls ?_; refine k_if ?_; refine k_mv ?_; refine k_mv ?_; refine k_if ?_; refine k_pf ?_; refine k_nil ?_; refine okS ?_ rfl; refine SC.cond_f rfl ?_; refine SC.skip ?_; refine SC.regK ?_; refine k_mv ?_; refine k_ixs ?_; refine k_mv ?_; refine k_nil ?_; refine okS ?_ rfl; refine SC.seq ?_ nofun; refine SC.regK ?_; refine k_mv ?_; refine k_mv ?_; refine k_bsl ?_ (c' := [SV.i IntKind.u8 (↑(UInt8.toNat 10) : Int)]); refine k_appo ?_ (c' := List.map bSV o ++ [SV.i IntKind.u8 (↑(UInt8.toNat 10) : Int)]) (new := [SV.i IntKind.u8 (↑(UInt8.toNat 10) : Int)]); refine k_mv ?_; refine k_nil ?_; refine okS ?_ rfl; refine SC.seq ?_ nofun; refine SC.regK ?_; refine k_mv ?_; refine k_add ?_; refine k_mv ?_; refine k_nil ?_; refine okS ?_ rfl; refine SC.goto ?_
              refine ⟨rfl, _, rfl, ⟨i + 1 + 1, o ++ [10], _, h1, by rw [List.length_append]; rfl, ?_, by simp; omega, .inr ⟨_, rfl, h_same (by rw [List.map_append]; rfl), by omega, by dsimp only; omega⟩, by dsimp only; omega, fun y hy => by ((try dsimp only) <;> (repeat first | assumption | with_reducible rfl | exact h_same rfl | refine h_ne (by first | assumption | omega) ?_)); exact hH y hy⟩, by simp; omega⟩
              rw [hu, Option.map_map]; congr 1; funext x; simp
          · rw [if_neg e1] at hu
            by_cases e2 : e = 114
            · subst e2
              rw [if_pos rfl] at hu
              rcases hov with ⟨rfl, rfl⟩ | ⟨b, rfl, hb, hb1, hb2⟩
              · refine SC.seq ?_ nofun; refine SC.seq ?_ nofun; refine SC.regK ?_; refine k_mv ?_; refine k_mv ?_; refine k_bls ?_; refine k_if ?_; refine k_nil ?_; refine okS ?_ rfl; refine SC.cond_f rfl ?_; refine SC.skip ?_; refine SC.seq ?_ nofun; refine SC.regK ?_; refine k_mv ?_; refine k_mv ?_; refine k_ixs ?_; refine k_mv ?_; refine k_nil ?_; refine okS ?_ rfl; refine SC.seq ?_ nofun; refine SC.seq ?_ nofun; refine SC.regK ?_; refine k_mv ?_; refine k_it ?_; refine k_nil ?_; refine okS ?_ rfl; refine SC.cond_t rfl ?_; refine SC.seq ?_ nofun; refine SC.regK ?_; refine k_mv ?_; refine k_add ?_; refine k_mv ?_; refine k_nil ?_; refine okS ?_ rfl; refine SC.seq ?_ nofun; refine SC.regK ?_; refine k_mv ?_; refine k_mv ?_; refine k_mv ?_; refine k_bls ?_; refine k_sub ?_; refine k_bmn ?_; refine k_ixs ?_; refine k_call (hin _ _) ?_; refine k_mv ?_; refine k_nil ?_; refine okS ?_ rfl; refine SC.seq ?_ nofun; refine SC.seq ?_ nofun; refine SC.regK ?_; refine k_mv ?_; refine k_mv ?_; refine k_bls ?_; refine k_if ?_; refine k_mv ?_; refine k_mv ?_; refine k_if ?_; refine k_pf ?_; refine k_nil ?_; refine okS ?_ rfl; refine SC.cond_f rfl ?_; refine SC.skip ?_; refine SC.regK ?_; refine k_mv ?_; refine k_ixs ?_; refine k_mv ?_; refine k_nil ?_; refine okS ?_ rfl; refine SC.seq ?_ nofun; refine SC.regK ?_; refine k_mv ?_; refine k_mv ?_; refine k_bsl ?_ (c' := [SV.i IntKind.u8 (↑(UInt8.toNat 13) : Int)]); refine k_app0o ?_ (new := [SV.i IntKind.u8 (↑(UInt8.toNat 13) : Int)]); refine k_mv ?_; refine k_nil ?_; refine okS ?_ rfl; refine SC.seq ?_ nofun; refine SC.regK ?_; refine k_mv ?_; refine k_add ?_; refine k_mv ?_; refine k_nil ?_; refine okS ?_ rfl; refine SC.goto ?_
                refine ⟨rfl, _, rfl, ⟨i + 1 + 1, [13], _, h1, rfl, ?_, by simp, .inr ⟨_, rfl, by ((try dsimp only) <;> (repeat first | assumption | with_reducible rfl | exact h_same rfl | refine h_ne (by first | assumption | omega) ?_)), by omega, by dsimp only; omega⟩, by dsimp only; omega, fun y hy => by ((try dsimp only) <;> (repeat first | assumption | with_reducible rfl | exact h_same rfl | refine h_ne (by first | assumption | omega) ?_)); exact hH y hy⟩, by simp; omega⟩
                rw [hu, Option.map_map]; congr 1
              · refine SC.seq ?_ nofun; refine SC.seq ?_ nofun; refine SC.regK ?_; refine k_mv ?_; refine k_mv ?_; refine k_bls ?_; refine k_if ?_; refine k_nil ?_; refine okS ?_ rfl; refine SC.cond_f rfl ?_; refine SC.skip ?_; refine SC.seq ?_ nofun; refine SC.regK ?_; refine k_mv ?_; refine k_mv ?_; refine k_ixs ?_; refine k_mv ?_; refine k_nil ?_; refine okS ?_ rfl; refine SC.seq ?_ nofun; refine SC.seq ?_ nofun; refine SC.regK ?_; refine k_mv ?_; refine k_it ?_; refine k_nil ?_; refine okS ?_ rfl; refine SC.cond_t rfl ?_; refine SC.seq ?_ nofun; refine SC.regK ?_; refine k_mv ?_; refine k_add ?_; refine k_mv ?_; refine k_nil ?_; refine okS ?_ rfl; refine SC.seq ?_ nofun; refine SC.regK ?_; refine k_mv ?_; refine k_mv ?_; refine k_mv ?_; refine k_bls ?_; refine k_sub ?_; refine k_bmn ?_; refine k_ixs ?_; refine k_call (hin _ _) ?_; refine k_mv ?_; refine k_nil ?_; refine okS ?_ rfl; refine SC.seq ?_ nofun; refine SC.seq ?_ nofun; refine SC.regK ?_; refine k_mv ?_; refine k_mv ?_; refine k_bls ?_; refine k_if ?_; refine k_mv ?_; refine k_mv ?_; refine k_if ?_; refine k_pf ?_; refine k_nil ?_; refine okS ?_ rfl; refine SC.cond_f rfl ?_; refine SC.skip ?_; refine SC.regK ?_; refine k_mv ?_; refine k_ixs ?_; refine k_mv ?_; refine k_nil ?_; refine okS ?_ rfl; refine SC.seq ?_ nofun; refine SC.regK ?_; refine k_mv ?_; refine k_mv ?_; refine k_bsl ?_ (c' := [SV.i IntKind.u8 (↑(UInt8.toNat 13) : Int)]); refine k_appo ?_ (c' := List.map bSV o ++ [SV.i IntKind.u8 (↑(UInt8.toNat 13) : Int)]) (new := [SV.i IntKind.u8 (↑(UInt8.toNat 13) : Int)]); refine k_mv ?_; refine k_nil ?_; refine okS ?_ rfl; refine SC.seq ?_ nofun; refine SC.regK ?_; refine k_mv ?_; refine k_add ?_; refine k_mv ?_; refine k_nil ?_; refine okS ?_ rfl; refine SC.goto ?_
                refine ⟨rfl, _, rfl, ⟨i + 1 + 1, o ++ [13], _, h1, by rw [List.length_append]; rfl, ?_, by simp; omega, .inr ⟨_, rfl, h_same (by rw [List.map_append]; rfl), by omega, by dsimp only; omega⟩, by dsimp only; omega, fun y hy => by ((try dsimp only) <;> (repeat first | assumption | with_reducible rfl | exact h_same rfl | refine h_ne (by first | assumption | omega) ?_)); exact hH y hy⟩, by simp; omega⟩
                rw [hu, Option.map_map]; congr 1; funext x; simp
            · rw [if_neg e2] at hu
              by_cases e3 : e = 92
              · subst e3
                rw [if_pos rfl] at hu
                rcases hov with ⟨rfl, rfl⟩ | ⟨b, rfl, hb, hb1, hb2⟩
                · refine SC.seq ?_ nofun; refine SC.seq ?_ nofun; refine SC.regK ?_; refine k_mv ?_; refine k_mv ?_; refine k_bls ?_; refine k_if ?_; refine k_nil ?_; refine okS ?_ rfl; refine SC.cond_f rfl ?_; refine SC.skip ?_; refine SC.seq ?_ nofun; refine SC.regK ?_; refine k_mv ?_; refine k_mv ?_; refine k_ixs ?_; refine k_mv ?_; refine k_nil ?_; refine okS ?_ rfl; refine SC.seq ?_ nofun; refine SC.seq ?_ nofun; refine SC.regK ?_; refine k_mv ?_; refine k_it ?_; refine k_nil ?_; refine okS ?_ rfl; refine SC.cond_t rfl ?_; refine SC.seq ?_ nofun; refine SC.regK ?_; refine k_mv ?_; refine k_add ?_; refine k_mv ?_; refine k_nil ?_; refine okS ?_ rfl; refine SC.seq ?_ nofun; refine SC.regK ?_; refine k_mv ?_; refine k_mv ?_; refine k_mv ?_; refine k_bls ?_; refine k_sub ?_; refine k_bmn ?_; refine k_ixs ?_; refine k_call (hin _ _) ?_; refine k_mv ?_; refine k_nil ?_; refine okS ?_ rfl; refine SC.seq ?_ nofun; refine SC.seq ?_ nofun; refine SC.regK ?_; refine k_mv ?_; refine k_mv ?_; refine k_bls ?_; refine k_if ?_; refine k_mv ?_; refine k_mv ?_; refine k_if ?_; refine k_pf ?_; refine k_nil ?_; refine okS ?_ rfl; refine SC.cond_f rfl ?_; refine SC.skip ?_; refine SC.regK ?_; refine k_mv ?_; refine k_ixs ?_; refine k_mv ?_; refine k_nil ?_; refine okS ?_ rfl; refine SC.seq ?_ nofun; refine SC.regK ?_; refine k_mv ?_; refine k_mv ?_; refine k_bsl ?_ (c' := [SV.i IntKind.u8 (↑(UInt8.toNat 92) : Int)]); refine k_app0o ?_ (new := [SV.i IntKind.u8 (↑(UInt8.toNat 92) : Int)]); refine k_mv ?_; refine k_nil ?_; refine okS ?_ rfl; refine SC.seq ?_ nofun; refine SC.regK ?_; refine k_mv ?_; refine k_add ?_; refine k_mv ?_; refine k_nil ?_; refine okS ?_ rfl; refine SC.goto ?_
                  refine ⟨rfl, _, rfl, ⟨i + 1 + 1, [92], _, h1, rfl, ?_, by simp, .inr ⟨_, rfl, by ((try dsimp only) <;> (repeat first | assumption | with_reducible rfl | exact h_same rfl | refine h_ne (by first | assumption | omega) ?_)), by omega, by dsimp only; omega⟩, by dsimp only; omega, fun y hy => by ((try dsimp only) <;> (repeat first | assumption | with_reducible rfl | exact h_same rfl | refine h_ne (by first | assumption | omega) ?_)); exact hH y hy⟩, by simp; omega⟩
                  rw [hu, Option.map_map]; congr 1
                · refine SC.seq ?_ nofun; refine SC.seq ?_ nofun; refine SC.regK ?_; refine k_mv ?_; refine k_mv ?_; refine k_bls ?_; refine k_if ?_; refine k_nil ?_; refine okS ?_ rfl; refine SC.cond_f rfl ?_; refine SC.skip ?_; refine SC.seq ?_ nofun; refine SC.regK ?_; refine k_mv ?_; refine k_mv ?_; refine k_ixs ?_; refine k_mv ?_; refine k_nil ?_; refine okS ?_ rfl; refine SC.seq ?_ nofun; refine SC.seq ?_ nofun; refine SC.regK ?_; refine k_mv ?_; refine k_it ?_; refine k_nil ?_; refine okS ?_ rfl; refine SC.cond_t rfl ?_; refine SC.seq ?_ nofun; refine SC.regK ?_; refine k_mv ?_; refine k_add ?_; refine k_mv ?_; refine k_nil ?_; refine okS ?_ rfl; refine SC.seq ?_ nofun; refine SC.regK ?_; refine k_mv ?_; refine k_mv ?_; refine k_mv ?_; refine k_bls ?_; refine k_sub ?_; refine k_bmn ?_; refine k_ixs ?_; refine k_call (hin _ _) ?_; refine k_mv ?_; refine k_nil ?_; refine okS ?_ rfl; refine SC.seq ?_ nofun; refine SC.seq ?_ nofun; refine SC.regK ?_; refine k_mv ?_; refine k_mv ?_; refine k_bls ?_; refine k_if ?_; refine k_mv ?_; refine k_mv ?_; refine k_if ?_; refine k_pf ?_; refine k_nil ?_; refine okS ?_ rfl; refine SC.cond_f rfl ?_; refine SC.skip ?_; refine SC.regK ?_; refine k_mv ?_; refine k_ixs ?_; refine k_mv ?_; refine k_nil ?_; refine okS ?_ rfl; refine SC.seq ?_ nofun; refine SC.regK ?_; refine k_mv ?_; refine k_mv ?_; refine k_bsl ?_ (c' := [SV.i IntKind.u8 (↑(UInt8.toNat 92) : Int)]); refine k_appo ?_ (c' := List.map bSV o ++ [SV.i IntKind.u8 (↑(UInt8.toNat 92) : Int)]) (new := [SV.i IntKind.u8 (↑(UInt8.toNat 92) : Int)]); refine k_mv ?_; refine k_nil ?_; refine okS ?_ rfl; refine SC.seq ?_ nofun; refine SC.regK ?_; refine k_mv ?_; refine k_add ?_; refine k_mv ?_; refine k_nil ?_; refine okS ?_ rfl; refine SC.goto ?_
                  refine ⟨rfl, _, rfl, ⟨i + 1 + 1, o ++ [92], _, h1, by rw [List.length_append]; rfl, ?_, by simp; omega, .inr ⟨_, rfl, h_same (by rw [List.map_append]; rfl), by omega, by dsimp only; omega⟩, by dsimp only; omega, fun y hy => by ((try dsimp only) <;> (repeat first | assumption | with_reducible rfl | exact h_same rfl | refine h_ne (by first | assumption | omega) ?_)); exact hH y hy⟩, by simp; omega⟩
                  rw [hu, Option.map_map]; congr 1; funext x; simp
              · rw [if_neg e3] at hu
                have hix : ixI e [110, 114, 92] = -1 := by
                  simp only [ixI, ixB]
                  rw [if_neg (fun q => e1 q.symm), if_neg (fun q => e2 q.symm), if_neg (fun q => e3 q.symm)]
                  rfl
                have hin2 := fun s => hin s e
                rw [hix] at hin2
                have hm : meantV l = .tup [.s [], .b false] := by
                  unfold meantV; rw [hu]; rfl
                rw [hm]
                refine SC.seq ?_ nofun; refine SC.seq ?_ nofun; refine SC.regK ?_; refine k_mv ?_; refine k_mv ?_; refine k_bls ?_; refine k_if ?_; refine k_nil ?_; refine okS ?_ rfl; refine SC.cond_f rfl ?_; refine SC.skip ?_; refine SC.seq ?_ nofun; refine SC.regK ?_; refine k_mv ?_; refine k_mv ?_; refine k_ixs ?_; refine k_mv ?_; refine k_nil ?_; refine okS ?_ rfl; refine SC.seq ?_ nofun; refine SC.seq ?_ nofun; refine SC.regK ?_; refine k_mv ?_; refine k_it ?_; refine k_nil ?_; refine okS ?_ rfl; refine SC.cond_t rfl ?_; refine SC.seq ?_ nofun; refine SC.regK ?_; refine k_mv ?_; refine k_add ?_; refine k_mv ?_; refine k_nil ?_; refine okS ?_ rfl; refine SC.seq ?_ nofun; refine SC.regK ?_; refine k_mv ?_; refine k_mv ?_; refine k_mv ?_; refine k_bls ?_; refine k_sub ?_; refine k_bmn ?_; refine k_ixs ?_; refine k_call (hin2 _) ?_; refine k_mv ?_; refine k_nil ?_; refine okS ?_ rfl; refine SC.seq ?_ nofun; refine SC.seq ?_ nofun; refine SC.regK ?_; refine k_mv ?_; refine k_mv ?_; refine k_bls ?_; refine k_if ?_; refine k_mv ?_; refine k_mv ?_; refine k_it ?_; refine k_pf ?_; refine k_nil ?_; refine okS ?_ rfl; refine SC.cond_t rfl ?_; refine SC.seq ?_ nofun; refine SC.regK ?_; refine k_mv ?_; refine k_mv ?_; refine k_nil ?_; refine okS ?_ rfl; refine SC.ret ?_
                exact ⟨_, rfl, rfl, fun y hy => by ((try dsimp only) <;> (repeat first | assumption | with_reducible rfl | exact h_same rfl | refine h_ne (by first | assumption | omega) ?_)); exact hH y hy⟩
        · have hil : i + 1 = l.length := by omega
          have h0 : l.drop (i + 1) = [] := List.drop_of_length_le (by omega)
          rw [h0, unesc_end] at hu
          have hm : meantV l = .tup [.s [], .b false] := by
            unfold meantV; rw [hu]; rfl
          rw [hm]
          have hmn : min ((i : Int) + 1) ((l.length : Int) - 1) = ((i : Nat) : Int) := by omega
          have heq : (((i : Int) + 1) == (l.length : Int)) = true := by simp; omega
          refine SC.seq ?_ nofun; refine SC.seq ?_ nofun; refine SC.regK ?_; refine k_mv ?_; refine k_mv ?_; refine k_bls ?_; refine k_if ?_; refine k_nil ?_; refine okS ?_ rfl; refine SC.cond_f rfl ?_; refine SC.skip ?_; refine SC.seq ?_ nofun; refine SC.regK ?_; refine k_mv ?_; refine k_mv ?_; refine k_ixs ?_; refine k_mv ?_; refine k_nil ?_; refine okS ?_ rfl; refine SC.seq ?_ nofun; refine SC.seq ?_ nofun; refine SC.regK ?_; refine k_mv ?_; refine k_it ?_; refine k_nil ?_; refine okS ?_ rfl; refine SC.cond_t rfl ?_; refine SC.seq ?_ nofun; refine SC.regK ?_; refine k_mv ?_; refine k_add ?_; refine k_mv ?_; refine k_nil ?_; refine okS ?_ rfl; refine SC.seq ?_ nofun; refine SC.regK ?_; refine k_mv ?_; refine k_mv ?_; refine k_mv ?_; refine k_bls ?_; refine k_sub ?_; refine k_bmn ?_; refine k_ixs ?_; refine k_call (hin _ _) ?_; refine k_mv ?_; refine k_nil ?_; refine okS ?_ rfl; refine SC.seq ?_ nofun; refine SC.seq ?_ nofun; refine SC.regK ?_; refine k_mv ?_; refine k_mv ?_; refine k_bls ?_; refine k_it ?_; refine k_mv ?_; refine k_no ?_; refine k_no ?_; refine k_pt ?_; refine k_nil ?_; refine okS ?_ rfl; refine SC.cond_t rfl ?_; refine SC.seq ?_ nofun; refine SC.regK ?_; refine k_mv ?_; refine k_mv ?_; refine k_nil ?_; refine okS ?_ rfl; refine SC.ret ?_
          exact ⟨_, rfl, rfl, fun y hy => by ((try dsimp only) <;> (repeat first | assumption | with_reducible rfl | exact h_same rfl | refine h_ne (by first | assumption | omega) ?_)); exact hH y hy⟩
      · have h92' : ((c.toNat : Int) == 92) = false := by
          simp only [beq_eq_false_iff_ne, ne_eq]
          exact fun e => h92 (UInt8.toNat_inj.1 (by have : (92 : UInt8).toNat = 92 := rfl; omega))
        rw [unesc_plain h92] at hu
        rcases hov with ⟨rfl, rfl⟩ | ⟨b, rfl, hb, hb1, hb2⟩
        · refine SC.seq ?_ nofun; refine SC.seq ?_ nofun; refine SC.regK ?_; refine k_mv ?_; refine k_mv ?_; refine k_bls ?_; refine k_if ?_; refine k_nil ?_; refine okS ?_ rfl; refine SC.cond_f rfl ?_; refine SC.skip ?_; refine SC.seq ?_ nofun; refine SC.regK ?_; refine k_mv ?_; refine k_mv ?_; refine k_ixs ?_; refine k_mv ?_; refine k_nil ?_; refine okS ?_ rfl; refine SC.seq ?_ nofun; refine SC.seq ?_ nofun; refine SC.regK ?_; refine k_mv ?_; refine k_if ?_; refine k_nil ?_; refine okS ?_ rfl; refine SC.cond_f rfl ?_; refine SC.skip ?_; refine SC.seq ?_ nofun; refine SC.regK ?_; refine k_mv ?_; refine k_mv ?_; refine k_bsl ?_ (c' := [SV.i IntKind.u8 (↑(UInt8.toNat c) : Int)]); refine k_app0o ?_ (new := [SV.i IntKind.u8 (↑(UInt8.toNat c) : Int)]); refine k_mv ?_; refine k_nil ?_; refine okS ?_ rfl; refine SC.seq ?_ nofun; refine SC.regK ?_; refine k_mv ?_; refine k_add ?_; refine k_mv ?_; refine k_nil ?_; refine okS ?_ rfl; refine SC.goto ?_
          refine ⟨rfl, _, rfl, ⟨i + 1, [c], _, h, rfl, ?_, by simp, .inr ⟨_, rfl, by ((try dsimp only) <;> (repeat first | assumption | with_reducible rfl | exact h_same rfl | refine h_ne (by first | assumption | omega) ?_)), by omega, by dsimp only; omega⟩, by dsimp only; omega, fun y hy => by ((try dsimp only) <;> (repeat first | assumption | with_reducible rfl | exact h_same rfl | refine h_ne (by first | assumption | omega) ?_)); exact hH y hy⟩, by simp; omega⟩
          rw [hu, Option.map_map]; congr 1
        · refine SC.seq ?_ nofun; refine SC.seq ?_ nofun; refine SC.regK ?_; refine k_mv ?_; refine k_mv ?_; refine k_bls ?_; refine k_if ?_; refine k_nil ?_; refine okS ?_ rfl; refine SC.cond_f rfl ?_; refine SC.skip ?_; refine SC.seq ?_ nofun; refine SC.regK ?_; refine k_mv ?_; refine k_mv ?_; refine k_ixs ?_; refine k_mv ?_; refine k_nil ?_; refine okS ?_ rfl; refine SC.seq ?_ nofun; refine SC.seq ?_ nofun; refine SC.regK ?_; refine k_mv ?_; refine k_if ?_; refine k_nil ?_; refine okS ?_ rfl; refine SC.cond_f rfl ?_; refine SC.skip ?_; refine SC.seq ?_ nofun; refine SC.regK ?_; refine k_mv ?_; refine k_mv ?_; refine k_bsl ?_ (c' := [SV.i IntKind.u8 (↑(UInt8.toNat c) : Int)]); refine k_appo ?_ (c' := List.map bSV o ++ [SV.i IntKind.u8 (↑(UInt8.toNat c) : Int)]) (new := [SV.i IntKind.u8 (↑(UInt8.toNat c) : Int)]); refine k_mv ?_; refine k_nil ?_; refine okS ?_ rfl; refine SC.seq ?_ nofun; refine SC.regK ?_; refine k_mv ?_; refine k_add ?_; refine k_mv ?_; refine k_nil ?_; refine okS ?_ rfl; refine SC.goto ?_
          refine ⟨rfl, _, rfl, ⟨i + 1, o ++ [c], _, h, by rw [List.length_append]; rfl, ?_, by simp; omega, .inr ⟨_, rfl, h_same (by rw [List.map_append]; rfl), by omega, by dsimp only; omega⟩, by dsimp only; omega, fun y hy => by ((try dsimp only) <;> (repeat first | assumption | with_reducible rfl | exact h_same rfl | refine h_ne (by first | assumption | omega) ?_)); exact hH y hy⟩, by simp; omega⟩
          rw [hu, Option.map_map]; congr 1; funext x; simp
    · obtain rfl : i = l.length := by omega
      have heq : ((l.length : Int) == (l.length : Int)) = true := by simp
      have h0 : l.drop l.length = [] := List.drop_length
      rw [h0] at hu
      have hm : meantV l = .tup [.s o, .b (decide ((o.length : Int) ≤ 80))] := by
        unfold meantV; rw [hu]; simp [unesc]
      rw [hm]
      rcases hov with ⟨rfl, rfl⟩ | ⟨b, rfl, hb, hb1, hb2⟩
      · refine SC.seq ?_ nofun; refine SC.seq ?_ nofun; refine SC.regK ?_; refine k_mv ?_; refine k_mv ?_; refine k_bls ?_; refine k_it ?_; refine k_nil ?_; refine okS ?_ rfl; refine SC.cond_t rfl ?_; refine SC.seq ?_ nofun; refine SC.regK ?_; refine k_mv ?_; refine k_csbn ?_; refine k_mv ?_; refine k_bll ?_; refine k_it ?_; refine k_mv ?_; refine k_mv ?_; refine k_nil ?_; refine okS ?_ rfl; refine SC.ret ?_
        exact ⟨_, rfl, rfl, fun y hy => by ((try dsimp only) <;> (repeat first | assumption | with_reducible rfl | exact h_same rfl | refine h_ne (by first | assumption | omega) ?_)); exact hH y hy⟩
      · have htk : ((o.map bSV).drop 0).take o.length = o.map bSV := by rw [List.drop_zero, List.take_of_length_le (by simp)]
        refine SC.seq ?_ nofun; refine SC.seq ?_ nofun; refine SC.regK ?_; refine k_mv ?_; refine k_mv ?_; refine k_bls ?_; refine k_it ?_; refine k_nil ?_; refine okS ?_ rfl; refine SC.cond_t rfl ?_; refine SC.seq ?_ nofun; refine SC.regK ?_; refine k_mv ?_; refine k_csb ?_ (X := o); refine k_mv ?_; refine k_bll ?_; refine k_i ?_; refine k_mv ?_; refine k_mv ?_; refine k_nil ?_; refine okS ?_ rfl; refine SC.ret ?_
        exact ⟨_, rfl, rfl, fun y hy => by ((try dsimp only) <;> (repeat first | assumption | with_reducible rfl | exact h_same rfl | refine h_ne (by first | assumption | omega) ?_)); exact hH y hy⟩
end Go.Proofs.YtpacfelhjjmmkaaDoor
end
section
set_option maxHeartbeats 20000000
namespace Go.Tr
open Go Go.Sy
theorem tvc_at : ∀ {t : Tr} {i : Nat} {nm : ByteArray} {kd : Tr}, t.at? i = some (nm, kd) → (tvc t)[i * 2]? = some (.s nm.data.toList) ∧ (tvc t)[i * 2 + 1]? = some (tv kd)
  | .nil, i, nm, kd, h => by simp [Tr.at?] at h
  | .cons a k r, 0, nm, kd, h => by
    simp only [Tr.at?, Option.some.injEq, Prod.mk.injEq] at h
    obtain ⟨rfl, rfl⟩ := h
    exact ⟨rfl, rfl⟩
  | .cons a k r, i + 1, nm, kd, h => by
    have := tvc_at (t := r) (i := i) h
    simp only [tvc]
    rw [show (i + 1) * 2 = i * 2 + 1 + 1 by omega]
    simpa using this
end Go.Tr
namespace Go.Proofs.YtpacfelhjjmmkaaDoor
open Go Go.Sy Go.Tr
set_option linter.unusedVariables false
set_option linter.unusedSimpArgs false
theorem ltB_toList (a b : ByteArray) : Op.bytesLess a.data.toList b.data.toList = ltB a b := rfl
theorem at_sc (t : Tr) (nm : ByteArray) (s : St) (hz : t.len ≤ 1000000) : SCall Tryd.prog 64 [tv t, .s nm.data.toList] s (.tup [.i .i64 (posL t.names nm), .b (hasL t.names nm)]) s := by
  obtain ⟨H, n⟩ := s
  refine SCallR.pure (SCallR.enter cc_cadenceref2_At ?_) (.tup (.cons .i (.cons .b .nil)))
  dsimp only [c_cadenceref2_At, argT, tv]
  refine SC.seq ?_ nofun; refine SC.regK ?_; refine k_mv ?_; refine k_mv ?_; refine k_nil ?_; refine okS ?_ rfl; refine SC.seq ?_ nofun; refine SC.regK ?_; refine k_mv ?_; refine k_nil ?_; refine okS ?_ rfl; refine SC.seq ?_ nofun; refine SC.blk ?_
  refine SC.loop [0, 1, 6] (fun vs s' => ∃ i : Nat, i ≤ t.len ∧ vs = [.lst t.len (tvc t), .s nm.data.toList, .i .i64 i] ∧ (∀ k a, k < i → t.names[k]? = some a → ltB a nm = true) ∧ s' = ⟨H, n⟩) (fun vs _ => match vs with
    | [_, _, .i _ i] => t.len - i.toNat
    | _ => 0) rfl ⟨0, Nat.zero_le _, rfl, fun k a hk => by omega, rfl⟩ nofun ?_
  rintro _ _ ⟨i, hi, rfl, ha, rfl⟩
  by_cases h : i < t.len
  · obtain ⟨a, kd, hat⟩ := t.at_some h
    obtain ⟨h1, h2⟩ := tvc_at hat
    have hna : t.names[i]? = some a := by rw [Tr.names_get, hat]; rfl
    cases hlt : ltB a nm with
    | true =>
      have hlt' : Op.bytesLess a.data.toList nm.data.toList = true := hlt
      refine SC.seq ?_ nofun; refine SC.seq ?_ nofun; refine SC.regK ?_; refine k_mv ?_; refine k_mv ?_; refine k_bll ?_; refine k_it ?_; refine k_mv ?_; refine k_mv ?_; refine k_mv ?_; refine k_ial ?_; refine k_fal ?_; refine k_ldl ?_; refine k_mv ?_; refine k_st ?_; refine k_pt ?_; refine k_nil ?_; refine okS ?_ rfl; refine SC.cond_t rfl ?_; refine SC.skip ?_; refine SC.blk ?_; refine SC.regK ?_; refine k_mv ?_; refine k_add ?_; refine k_mv ?_; refine k_nil ?_; refine okS ?_ rfl
      refine ⟨_, rfl, ⟨i + 1, h, rfl, fun k b hk hb => ?_, rfl⟩, by simp; omega⟩
      rcases Nat.lt_or_ge k i with h4 | h4
      · exact ha k b h4 hb
      · obtain rfl : k = i := by omega
        rw [hna] at hb
        obtain rfl := Option.some.inj hb
        exact hlt
    | false =>
      have hlt' : Op.bytesLess a.data.toList nm.data.toList = false := hlt
      have hp : posL t.names nm = i := posL_eq (by rw [Tr.names_length]; exact hi) ha (fun b hb => by rw [hna] at hb; obtain rfl := Option.some.inj hb; exact hlt)
      have hh : hasL t.names nm = decide (a.data.toList = nm.data.toList) := by
        unfold hasL
        rw [hp, hna]
        show (a.data.toList == nm.data.toList) = _
        rw [Bool.eq_iff_iff]; simp only [beq_iff_eq, decide_eq_true_eq]
      refine SC.seq ?_ nofun; refine SC.seq ?_ nofun; refine SC.regK ?_; refine k_mv ?_; refine k_mv ?_; refine k_bll ?_; refine k_it ?_; refine k_mv ?_; refine k_mv ?_; refine k_mv ?_; refine k_ial ?_; refine k_fal ?_; refine k_ldl ?_; refine k_mv ?_; refine k_sf ?_; refine k_pt ?_; refine k_nil ?_; refine okS ?_ rfl; refine SC.cond_f rfl ?_; refine SC.exit ?_; refine SC.seq ?_ nofun; refine SC.dregK ?_; refine k_mv ?_; refine k_mv ?_; refine k_mv ?_; refine k_bll ?_; refine k_it ?_; refine k_mv ?_; refine k_mv ?_; refine k_mv ?_; refine k_ial ?_; refine k_fal ?_; refine k_ldl ?_; refine k_mv ?_; refine k_s ?_; refine k_pt ?_; refine k_mv ?_; refine k_mv ?_; refine k_nil ?_; refine okD (ne := []) ?_ (by kernel_rfl) trivial; refine SC.ret ?_
      refine ⟨_, rfl, ?_, fun _ _ => rfl⟩
      rw [hp, hh]
  · have hp : posL t.names nm = i := posL_eq (by rw [Tr.names_length]; exact hi) ha (fun b hb => by
      have := (List.getElem?_eq_some_iff.1 hb).1
      rw [Tr.names_length] at this; omega)
    have hh : hasL t.names nm = false := hasL_no (by rw [hp, Tr.names_length]; omega)
    refine SC.seq ?_ nofun; refine SC.seq ?_ nofun; refine SC.regK ?_; refine k_mv ?_; refine k_mv ?_; refine k_bll ?_; refine k_if ?_; refine k_mv ?_; refine k_no ?_; refine k_no ?_; refine k_no ?_; refine k_no ?_; refine k_no ?_; refine k_no ?_; refine k_no ?_; refine k_pf ?_; refine k_nil ?_; refine okS ?_ rfl; refine SC.cond_f rfl ?_; refine SC.exit ?_; refine SC.seq ?_ nofun; refine SC.dregK ?_; refine k_mv ?_; refine k_mv ?_; refine k_mv ?_; refine k_bll ?_; refine k_if ?_; refine k_mv ?_; refine k_no ?_; refine k_no ?_; refine k_no ?_; refine k_no ?_; refine k_no ?_; refine k_no ?_; refine k_no ?_; refine k_pf ?_; refine k_mv ?_; refine k_mv ?_; refine k_nil ?_; refine okD (ne := []) ?_ (by kernel_rfl) trivial; refine SC.ret ?_
    refine ⟨_, rfl, ?_, fun _ _ => rfl⟩
    rw [hp, hh]
end Go.Proofs.YtpacfelhjjmmkaaDoor
end
section
set_option maxHeartbeats 20000000
namespace Go.Tr
open Go Go.Sy
theorem los_tvc (n : Nat) : ∀ t : Tr, Los n (tvc t)
  | .nil => .nil
  | .cons _ k r => .cons .s (.cons (.lst (los_tvc n k)) (los_tvc n r))
theorem lo_tv (n : Nat) (t : Tr) : Lo n (tv t) := .lst (los_tvc n t)
theorem Tr.len_set1 (nm : ByteArray) (x : Tr) : ∀ t : Tr, (t.set1 nm x).len = if hasL t.names nm then t.len else t.len + 1
  | .nil => rfl
  | .cons a k r => by
    have ih := Tr.len_set1 nm x r
    unfold Tr.set1
    split
    · rename_i h
      simp only [Tr.len, Tr.names, hasL_cons_lt h]
      rw [ih]; split <;> rfl
    · rename_i h
      split
      · rename_i he
        rw [show hasL (Tr.cons a k r).names nm = true from (hasL_cons_ge h).2 he]; rfl
      · rename_i he
        have : hasL (Tr.cons a k r).names nm = false := by
          rw [← Bool.not_eq_true]; exact fun e => he ((hasL_cons_ge h).1 e)
        rw [this]; rfl
theorem tvc_set1 (nm : ByteArray) (x : Tr) : ∀ t : Tr, tvc (t.set1 nm x) = (tvc t).take (posL t.names nm * 2) ++ [.s nm.data.toList, tv x] ++ (tvc t).drop ((posL t.names nm + if hasL t.names nm then 1 else 0) * 2)
  | .nil => rfl
  | .cons a k r => by
    have ih := tvc_set1 nm x r
    unfold Tr.set1
    split
    · rename_i h
      have e1 : posL (Tr.cons a k r).names nm = posL r.names nm + 1 := by simp only [Tr.names, posL, h, if_true]
      rw [e1, show hasL (Tr.cons a k r).names nm = hasL r.names nm from hasL_cons_lt h]
      simp only [tvc]
      rw [ih, show (posL r.names nm + 1) * 2 = posL r.names nm * 2 + 1 + 1 by omega, List.take_succ_cons, List.take_succ_cons]
      rw [show ∀ q, (posL r.names nm + 1 + q) * 2 = (posL r.names nm + q) * 2 + 1 + 1 by intro q; omega, List.drop_succ_cons, List.drop_succ_cons]
      simp
    · rename_i h
      have e1 : posL (Tr.cons a k r).names nm = 0 := by simp only [Tr.names, posL, if_neg h]
      rw [e1]
      split
      · rename_i he
        rw [show hasL (Tr.cons a k r).names nm = true from (hasL_cons_ge h).2 he]
        simp [tvc, tv]
      · rename_i he
        have : hasL (Tr.cons a k r).names nm = false := by
          rw [← Bool.not_eq_true]; exact fun e => he ((hasL_cons_ge h).1 e)
        rw [this]
        simp [tvc, tv]
def sameT : Tr → Tr → Bool
  | .nil, .nil => true
  | .cons a k r, .cons a' k' r' => decide (a.data.toList = a'.data.toList) && sameT k k' && sameT r r'
  | _, _ => false
theorem sameT_eq : ∀ {a b : Tr}, sameT a b = true ↔ a = b
  | .nil, .nil => by simp [sameT]
  | .nil, .cons _ _ _ => by simp [sameT]
  | .cons _ _ _, .nil => by simp [sameT]
  | .cons a k r, .cons a' k' r' => by
    simp only [sameT, Bool.and_eq_true, decide_eq_true_eq, sameT_eq (a := k), sameT_eq (a := r), Tr.cons.injEq]
    constructor
    · rintro ⟨⟨h1, h2⟩, h3⟩
      refine ⟨?_, h2, h3⟩
      cases a; cases a'
      simp at h1
      rw [h1]
    · rintro ⟨rfl, rfl, rfl⟩; exact ⟨⟨rfl, rfl⟩, rfl⟩
theorem sameT_len {a b : Tr} (h : a.len ≠ b.len) : sameT a b = false := by
  rw [← Bool.not_eq_true, sameT_eq]
  rintro rfl; exact h rfl
end Go.Tr
namespace Go.Proofs.YtpacfelhjjmmkaaDoor
open Go Go.Sy Go.Tr
set_option linter.unusedVariables false
set_option linter.unusedSimpArgs false
theorem with_sc (t x : Tr) (nm : ByteArray) (s : St) (hz : t.len ≤ 1000000) : SCall Tryd.prog 36 [tv t, .s nm.data.toList, tv x] s (tv (t.set1 nm x)) s := by
  obtain ⟨H, n⟩ := s
  refine SCallR.pure (SCallR.frz (SCallR.enter cc_cadenceref2_With ?_)) (lo_tv _ _)
  have hat := at_sc t nm
  have hls := tvc_set1 nm x t
  have hll := Tr.len_set1 nm x t
  have hpl := posL_le t.names nm
  rw [Tr.names_length] at hpl
  have hcl := tvc_length t
  have hone := tvc_one t
  have hpos : hasL t.names nm = true → posL t.names nm < t.len := fun hh => by
    have := (List.getElem?_eq_some_iff.1 (hasL_iff.1 hh)).1
    rwa [Tr.names_length] at this
  dsimp only [c_cadenceref2_With, argT, tv] at hat hls ⊢
  have t1 : ((tvc t).take (posL t.names nm * 2)).length = posL t.names nm * 2 := by rw [List.length_take]; omega
  have t2 : ((tvc t).take (posL t.names nm * 2)).all SV.one = true := by
    rw [List.all_eq_true] at hone ⊢
    exact fun y hy => hone y (List.mem_of_mem_take hy)
  have t3 : ∀ q, ((tvc t).drop q).all SV.one = true := fun q => by
    rw [List.all_eq_true] at hone ⊢
    exact fun y hy => hone y (List.mem_of_mem_drop hy)
  have t3p := t3 (posL t.names nm * 2)
  have t3q := t3 ((posL t.names nm + 1) * 2)
  cases hh : hasL t.names nm with
  | false =>
    rw [hh] at hat hls hll
    generalize posL t.names nm = p at *
    refine SC.seq ?_ nofun; refine SC.regK ?_; refine k_mv ?_; refine k_nil ?_; refine okS ?_ rfl; refine SC.seq ?_ nofun; refine SC.regK ?_; refine k_mv ?_; refine k_mv ?_; refine k_call (hat _ hz) ?_; refine k_mv ?_; refine k_ext ?_; refine k_ext ?_; refine k_mv ?_; refine k_mv ?_; refine k_nil ?_; refine okS ?_ rfl; refine SC.seq ?_ nofun; refine SC.regK ?_; refine k_mv ?_; refine k_nil ?_; refine okS ?_ rfl; refine SC.seq ?_ nofun; refine SC.regK ?_; refine k_mv ?_; refine k_mv ?_; refine k_mv ?_; refine k_fh ?_ (c' := List.take (p * 2) (tvc t)); refine k_app0 ?_; refine k_mv ?_; refine k_nil ?_; refine okS ?_ rfl; refine SC.seq ?_ nofun; refine SC.regK ?_; refine k_mv ?_; refine k_mv ?_; refine k_mv ?_; refine k_bld ?_; refine k_bsl ?_ (c' := [SV.s (Array.toList (ByteArray.data nm)), SV.lst (Tr.len x) (tvc x)]); refine k_appo ?_ (c' := List.take (p * 2) (tvc t) ++ [SV.s (Array.toList (ByteArray.data nm)), SV.lst (Tr.len x) (tvc x)]) (new := [SV.s (Array.toList (ByteArray.data nm)), SV.lst (Tr.len x) (tvc x)]); refine k_mv ?_; refine k_nil ?_; refine okS ?_ rfl; refine SC.seq ?_ nofun; refine SC.seq ?_ nofun; refine SC.regK ?_; refine k_mv ?_; refine k_nil ?_; refine okS ?_ rfl; refine SC.cond_f rfl ?_; refine SC.skip ?_; refine SC.seq ?_ nofun; refine SC.regK ?_; refine k_mv ?_; refine k_mv ?_; refine k_mv ?_; refine k_fl ?_ (c' := List.drop (p * 2) (tvc t)); refine k_app ?_ (c' := List.take (p * 2) (tvc t) ++ [SV.s (Array.toList (ByteArray.data nm)), SV.lst (Tr.len x) (tvc x)] ++ List.drop (p * 2) (tvc t)); refine k_mv ?_; refine k_nil ?_; refine okS ?_ rfl; refine SC.ret ?_
    refine ⟨_, rfl, _, _, _, _, _, rfl, by ((try dsimp only) <;> (repeat first | assumption | with_reducible rfl | exact h_same rfl | refine h_ne (by first | assumption | omega) ?_)), ?_, fun y hy => by ((try dsimp only) <;> (repeat first | assumption | with_reducible rfl | exact h_same rfl | refine h_ne (by first | assumption | omega) ?_))⟩
    rw [hll, hls]
    simp
    omega
  | true =>
    rw [hh] at hat hls hll
    have hpos := hpos hh
    generalize posL t.names nm = p at *
    refine SC.seq ?_ nofun; refine SC.regK ?_; refine k_mv ?_; refine k_nil ?_; refine okS ?_ rfl; refine SC.seq ?_ nofun; refine SC.regK ?_; refine k_mv ?_; refine k_mv ?_; refine k_call (hat _ hz) ?_; refine k_mv ?_; refine k_ext ?_; refine k_ext ?_; refine k_mv ?_; refine k_mv ?_; refine k_nil ?_; refine okS ?_ rfl; refine SC.seq ?_ nofun; refine SC.regK ?_; refine k_mv ?_; refine k_nil ?_; refine okS ?_ rfl; refine SC.seq ?_ nofun; refine SC.regK ?_; refine k_mv ?_; refine k_mv ?_; refine k_mv ?_; refine k_fh ?_ (c' := List.take (p * 2) (tvc t)); refine k_app0 ?_; refine k_mv ?_; refine k_nil ?_; refine okS ?_ rfl; refine SC.seq ?_ nofun; refine SC.regK ?_; refine k_mv ?_; refine k_mv ?_; refine k_mv ?_; refine k_bld ?_; refine k_bsl ?_ (c' := [SV.s (Array.toList (ByteArray.data nm)), SV.lst (Tr.len x) (tvc x)]); refine k_appo ?_ (c' := List.take (p * 2) (tvc t) ++ [SV.s (Array.toList (ByteArray.data nm)), SV.lst (Tr.len x) (tvc x)]) (new := [SV.s (Array.toList (ByteArray.data nm)), SV.lst (Tr.len x) (tvc x)]); refine k_mv ?_; refine k_nil ?_; refine okS ?_ rfl; refine SC.seq ?_ nofun; refine SC.seq ?_ nofun; refine SC.regK ?_; refine k_mv ?_; refine k_nil ?_; refine okS ?_ rfl; refine SC.cond_t rfl ?_; refine SC.regK ?_; refine k_mv ?_; refine k_add ?_; refine k_mv ?_; refine k_nil ?_; refine okS ?_ rfl; refine SC.seq ?_ nofun; refine SC.regK ?_; refine k_mv ?_; refine k_mv ?_; refine k_mv ?_; refine k_fl ?_ (c' := List.drop ((p + 1) * 2) (tvc t)); refine k_app ?_ (c' := List.take (p * 2) (tvc t) ++ [SV.s (Array.toList (ByteArray.data nm)), SV.lst (Tr.len x) (tvc x)] ++ List.drop ((p + 1) * 2) (tvc t)); refine k_mv ?_; refine k_nil ?_; refine okS ?_ rfl; refine SC.ret ?_
    refine ⟨_, rfl, _, _, _, _, _, rfl, by ((try dsimp only) <;> (repeat first | assumption | with_reducible rfl | exact h_same rfl | refine h_ne (by first | assumption | omega) ?_)), ?_, fun y hy => by ((try dsimp only) <;> (repeat first | assumption | with_reducible rfl | exact h_same rfl | refine h_ne (by first | assumption | omega) ?_))⟩
    rw [hll, hls]
    simp
    omega
end Go.Proofs.YtpacfelhjjmmkaaDoor
end
section
set_option maxHeartbeats 20000000
namespace Go.Proofs.YtpacfelhjjmmkaaDoor
open Go Go.Sy Go.Tr
set_option linter.unusedVariables false
set_option linter.unusedSimpArgs false
theorem same_sc : ∀ (m : Nat) (a b : Tr), a.size < m → a.size ≤ 1000000 → b.size ≤ 1000000 → ∀ s : St, SCall Tryd.prog 12 [tv a, tv b] s (.b (sameT a b)) s := by
  intro m
  induction m with
  | zero => intro a b h; omega
  | succ m ih =>
  intro a b hm ha hb s
  obtain ⟨H, n⟩ := s
  refine SCallR.pure (SCallR.enter cc_cadenceref2_Same ?_) .b
  have hla := a.len_le
  have hlb := b.len_le
  dsimp only [c_cadenceref2_Same, argT, tv]
  by_cases hl : a.len = b.len
  · refine SC.seq ?_ nofun; refine SC.regK ?_; refine k_mv ?_; refine k_nil ?_; refine okS ?_ rfl; refine SC.seq ?_ nofun; refine SC.seq ?_ nofun; refine SC.regK ?_; refine k_mv ?_; refine k_bll ?_; refine k_mv ?_; refine k_bll ?_; refine k_if ?_; refine k_nil ?_; refine okS ?_ rfl; refine SC.cond_f rfl ?_; refine SC.skip ?_; refine SC.seq ?_ nofun; refine SC.seq ?_ nofun; refine SC.regK ?_; refine k_mv ?_; refine k_nil ?_; refine okS ?_ rfl; refine SC.blk ?_
    refine SC.loop [0, 1, 5] (fun vs s' => ∃ i : Nat, i ≤ a.len ∧ vs = [.lst a.len (tvc a), .lst b.len (tvc b), .i .i64 i] ∧ sameT a b = sameT (a.drop i) (b.drop i) ∧ s' = ⟨H, n⟩) (fun vs _ => match vs with
      | [_, _, .i _ i] => a.len - i.toNat
      | _ => 0) rfl ⟨0, Nat.zero_le _, rfl, by rw [Tr.drop_zero, Tr.drop_zero], rfl⟩ nofun ?_
    rintro _ _ ⟨i, hi, rfl, hs, rfl⟩
    by_cases h : i < a.len
    · obtain ⟨x, kx, hx⟩ := a.at_some h
      obtain ⟨y, ky, hy⟩ := b.at_some (by omega : i < b.len)
      obtain ⟨x1, x2⟩ := tvc_at hx
      obtain ⟨y1, y2⟩ := tvc_at hy
      have hkx := Tr.at_lt hx
      have hky := Tr.at_lt hy
      rw [Tr.drop_at hx, Tr.drop_at hy] at hs
      simp only [sameT] at hs
      have hi2 : i < b.len := by omega
      have hc := fun s => ih kx ky (by omega) (by omega) (by omega) s
      simp only [tv] at x2 y2 hc
      focus
        refine SC.seq ?_ nofun; refine SC.seq ?_ nofun; refine SC.regK ?_; refine k_mv ?_; refine k_mv ?_; refine k_bll ?_; refine k_it ?_; refine k_nil ?_; refine okS ?_ rfl; refine SC.cond_t rfl ?_; refine SC.skip ?_; refine SC.seq ?_ nofun; refine SC.blk ?_; refine SC.seq ?_ nofun; refine SC.dregK ?_; refine k_mv ?_; refine k_mv ?_; refine k_ial ?_; refine k_fal ?_; refine k_ldl ?_; refine k_mv ?_; refine k_mv ?_; refine k_ial ?_; refine k_fal ?_; refine k_ldl ?_; refine k_s ?_; refine k_mv ?_; generalize hq : (!decide (Array.toList (ByteArray.data x) = Array.toList (ByteArray.data y))) = bq; cases bq; simp only [decide_eq_true_eq, decide_eq_false_iff_not, Int.not_lt, Int.not_le, Bool.not_eq_true', Bool.not_eq_false'] at hq; refine k_mv ?_; refine k_mv ?_; refine k_ial ?_; refine k_fal ?_; refine k_ldl ?_; refine k_mv ?_; refine k_mv ?_; refine k_ial ?_; refine k_fal ?_; refine k_ldl ?_; refine k_call (hc _) ?_; refine k_not ?_; refine k_pf ?_; refine k_nil ?_; refine okD (ne := []) ?_ (by kernel_rfl) trivial; generalize hq : (!sameT kx ky) = bq; cases bq; simp only [decide_eq_true_eq, decide_eq_false_iff_not, Int.not_lt, Int.not_le, Bool.not_eq_true', Bool.not_eq_false'] at hq; refine SC.cond_f rfl ?_; refine SC.skip ?_; refine SC.regK ?_; refine k_mv ?_; refine k_add ?_; refine k_mv ?_; refine k_nil ?_; refine okS ?_ rfl; rotate_left; simp only [decide_eq_true_eq, decide_eq_false_iff_not, Int.not_lt, Int.not_le, Bool.not_eq_true', Bool.not_eq_false'] at hq; refine SC.cond_t rfl ?_; refine SC.seq ?_ nofun; refine SC.regK ?_; refine k_mv ?_; refine k_nil ?_; refine okS ?_ rfl; refine SC.ret ?_; rotate_left; simp only [decide_eq_true_eq, decide_eq_false_iff_not, Int.not_lt, Int.not_le, Bool.not_eq_true', Bool.not_eq_false'] at hq; refine k_no ?_; refine k_no ?_; refine k_no ?_; refine k_no ?_; refine k_no ?_; refine k_no ?_; refine k_no ?_; refine k_no ?_; refine k_no ?_; refine k_no ?_; refine k_no ?_; refine k_no ?_; refine k_pt ?_; refine k_nil ?_
        refine okD (ne := []) ?_ (by kernel_rfl) trivial; refine SC.cond_t rfl ?_; refine SC.seq ?_ nofun; refine SC.regK ?_; refine k_mv ?_; refine k_nil ?_; refine okS ?_ rfl; refine SC.ret ?_; rotate_left
      · rename_i he
        refine ⟨_, rfl, ⟨i + 1, h, rfl, ?_, rfl⟩, by simp; omega⟩
        rw [hs, hq, decide_eq_true he]; rfl
      · refine ⟨_, rfl, ?_, fun _ _ => rfl⟩
        rw [hs, hq]; simp
      · refine ⟨_, rfl, ?_, fun _ _ => rfl⟩
        rw [hs, decide_eq_false hq]; rfl
    · obtain rfl : i = a.len := by omega
      have e1 : a.drop a.len = .nil := Tr.drop_len a
      have e2 : b.drop a.len = .nil := by rw [hl]; exact Tr.drop_len b
      rw [e1, e2] at hs
      refine SC.seq ?_ nofun; refine SC.seq ?_ nofun; refine SC.regK ?_; refine k_mv ?_; refine k_mv ?_; refine k_bll ?_; refine k_if ?_; refine k_nil ?_; refine okS ?_ rfl; refine SC.cond_f rfl ?_; refine SC.exit ?_; refine SC.seq ?_ nofun; refine SC.regK ?_; refine k_mv ?_; refine k_nil ?_; refine okS ?_ rfl; refine SC.ret ?_
      refine ⟨_, rfl, ?_, fun _ _ => rfl⟩
      rw [hs]; rfl
  · refine SC.seq ?_ nofun; refine SC.regK ?_; refine k_mv ?_; refine k_nil ?_; refine okS ?_ rfl; refine SC.seq ?_ nofun; refine SC.seq ?_ nofun; refine SC.regK ?_; refine k_mv ?_; refine k_bll ?_; refine k_mv ?_; refine k_bll ?_; refine k_it ?_; refine k_nil ?_; refine okS ?_ rfl; refine SC.cond_t rfl ?_; refine SC.seq ?_ nofun; refine SC.regK ?_; refine k_mv ?_; refine k_nil ?_; refine okS ?_ rfl; refine SC.ret ?_
    refine ⟨_, rfl, ?_, fun _ _ => rfl⟩
    rw [sameT_len hl]
end Go.Proofs.YtpacfelhjjmmkaaDoor
end
section
namespace Go.Tr
open Go Go.Sy
theorem Tr.set1_size2 (nm : ByteArray) (y : Tr) : ∀ t : Tr, (t.set1 nm y).size + ((t.get1 nm).getD .nil).size ≤ t.size + y.size + 1
  | .nil => by simp [Tr.set1, Tr.get1, Tr.names, hasL, posL, Tr.size]
  | .cons a k r => by
    have ih := Tr.set1_size2 nm y r
    rw [Tr.get1_cons, Tr.set1]
    by_cases h : ltB a nm = true
    · rw [if_pos h, if_pos h]
      simp only [Tr.size]
      omega
    · rw [if_neg h, if_neg h]
      by_cases he : a = nm
      · rw [if_pos he, if_pos he]
        simp only [Tr.size, Option.getD_some]
        omega
      · rw [if_neg he, if_neg he]
        simp only [Tr.size, Option.getD_none]
        omega
theorem Tr.putp_size2 {x : Tr} : ∀ (p : List ByteArray) (t : Tr), (t.putp p x).size ≤ t.size + p.length + x.size
  | [], t => by simp [Tr.putp]
  | nm :: p, t => by
    have h1 := Tr.putp_size2 (x := x) p ((t.get1 nm).getD .nil)
    have h2 := Tr.set1_size2 nm (((t.get1 nm).getD .nil).putp p x) t
    rw [Tr.putp, List.length_cons]
    omega
end Go.Tr
namespace Go.Cd
open Go Go.Sy Go.Tr
inductive Rf where
  | no
  | op (i : Nat)
  | cl (inn : Rf) (w d : List UInt8) (nm : Bool) (c : Tr)
structure Ln where
  text : List UInt8
  ed : List UInt8
  of : Rf
  word : List UInt8
  value : List UInt8
structure OB where
  w : List UInt8
  d : List UInt8
  nm : Bool
  c : Tr
structure M where
  ls : List Ln
  k : Nat
  B : Nat → OB
  t : Tr
def nBlocks : List UInt8 := [98, 108, 111, 99, 107, 115]
def nProps : List UInt8 := [112, 114, 111, 112, 115]
def emptyT : Tr := .cons (bA nBlocks) .nil (.cons (bA nProps) .nil .nil)
theorem emptyT_ok : emptyT.ok := ⟨fun b hb => by
  simp only [Tr.names, List.mem_cons, List.not_mem_nil, or_false] at hb
  subst hb
  decide +kernel, trivial, fun b hb => by simp [Tr.names] at hb, trivial, trivial⟩
def setB (B : Nat → OB) (i : Nat) (b : OB) : Nat → OB := fun j => if j = i then b else B j
theorem setB_same (B : Nat → OB) (i : Nat) (b : OB) : setB B i b i = b := if_pos rfl
theorem setB_ne (B : Nat → OB) {i j : Nat} (b : OB) (h : j ≠ i) : setB B i b j = B j := if_neg h
def pth (l : List (List UInt8)) : List ByteArray := l.map bA
def closeM (m : M) (w : List UInt8) : Int × M :=
  match m.k with
  | 0 => (6, m)
  | 1 => if (m.B 0).w ≠ w ∨ (m.B 0).nm = false then (6, m) else
    match m.t.getp (pth [(m.B 0).w, (m.B 0).d]) with
    | some _ => (7, m)
    | none => (0, { m with k := 0, t := m.t.putp (pth [(m.B 0).w, (m.B 0).d]) (m.B 0).c })
  | k + 2 => if (m.B (k + 1)).w ≠ w ∨ (m.B (k + 1)).nm = false then (6, m) else
    match (m.B k).c.getp (pth [nBlocks, (m.B (k + 1)).w, (m.B (k + 1)).d]) with
    | some _ => (7, m)
    | none => (0, { m with k := k + 1, B := setB m.B k { m.B k with c := (m.B k).c.putp (pth [nBlocks, (m.B (k + 1)).w, (m.B (k + 1)).d]) (m.B (k + 1)).c } })
def propM (m : M) (isId : Bool) (plain : Bool) (w v : List UInt8) : Int × M :=
  match m.k with
  | 0 => (6, m)
  | k + 1 => if isId = true then
      if plain = false then (6, m) else
      if (m.B k).nm = true then (7, m) else (0, { m with B := setB m.B k { m.B k with d := v, nm := true } })
    else match (m.B k).c.getp (pth [nProps, w, v]) with
      | some _ => (7, m)
      | none => (0, { m with B := setB m.B k { m.B k with c := (m.B k).c.putp (pth [nProps, w, v]) .nil } })
def atV (k : Nat) (ix : Nat → Nat) : SV := match k with
  | 0 => .nilp
  | k + 1 => .p (ix k) 0
def blkC (ix : Nat → Nat) (i : Nat) (b : OB) : List SV := [atV i ix, .s b.w, .s b.d, .b b.nm, tv b.c]
end Go.Cd
end
section
set_option maxHeartbeats 20000000
namespace Go.Proofs.YtpacfelhjjmmkaaDoor
open Go Go.Sy Go.Tr Go.Kb Go.RowKit Go.Cd
set_option linter.unusedVariables false
set_option linter.unusedSimpArgs false
theorem get_row (t : Tr) (p : List (List UInt8)) (q e k : Nat) (ht : t.ok) (hz : t.size ≤ 900000) (hp : p.length ≤ 1000) : SCall Tryd.prog 19 [tv t, .sl q 0 p.length] ⟨A1 q (.row e 1 (p.map SV.s)), k⟩ (getV (t.getp (pth p))) ⟨A1 q (.row e 1 (p.map SV.s)), k⟩ :=
  get_sc rfl (by simp only [rdS, A1_at, List.drop_zero]; rw [List.take_of_length_le (by simp)]) ht (by omega) (by omega)
theorem put_row (t x : Tr) (p : List (List UInt8)) (q e k : Nat) (ht : t.ok) (hz : t.size ≤ 900000) (hx : x.size ≤ 900000) (hp : p.length ≤ 1000) : SCall Tryd.prog 77 [tv t, .sl q 0 p.length, tv x] ⟨A1 q (.row e 1 (p.map SV.s)), k⟩ (tv (t.putp (pth p) x)) ⟨A1 q (.row e 1 (p.map SV.s)), k⟩ :=
  put_sc rfl (by simp only [rdS, A1_at, List.drop_zero]; rw [List.take_of_length_le (by simp)]) rfl ht hz hx (by omega)
theorem cempty_sc (s : St) : SCall Tryd.prog 52 [] s (tv emptyT) s := by
  refine SCall.weak (r := .lst 2 [.s nBlocks, .nils, .s nProps, .nils]) ?_ (.lst (.cons (.refl _) (.cons .nil (.cons (.refl _) (.cons .nil .nil)))))
  obtain ⟨H, n⟩ := s
  refine SCallR.pure (SCallR.frz (SCallR.enter cc_card_empty ?_)) (.lst (.cons .s (.cons .nils (.cons .s (.cons .nils .nil)))))
  dsimp only [c_card_empty, argT]
  refine SC.seq ?_ nofun; refine SC.regK ?_; refine k_mv ?_; refine k_nil ?_; refine okS ?_ rfl; refine SC.seq ?_ nofun; refine SC.regK ?_; refine k_bld ?_; refine k_bld ?_; refine k_bsl ?_ (c' := [SV.s [98, 108, 111, 99, 107, 115], SV.nils, SV.s [112, 114, 111, 112, 115], SV.nils]); refine k_mv ?_; refine k_nil ?_; refine okS ?_ rfl; refine SC.ret ?_
  exact ⟨_, rfl, _, _, _, _, _, rfl, by ((try dsimp only) <;> (repeat first | assumption | with_reducible rfl | exact h_same rfl | refine h_ne (by first | assumption | omega) ?_)), rfl, fun y hy => by ((try dsimp only) <;> (repeat first | assumption | with_reducible rfl | exact h_same rfl | refine h_ne (by first | assumption | omega) ?_))⟩
structure CI (F : Nat) (H : Nat → Option Blk) (nx k : Nat) (ix : Nat → Nat) (B : Nat → OB) (lv : SV) (t : Tr) : Prop where
  lt : F < nx
  hf : H F = some (.row 56 3 [lv, atV k ix, tv t])
  hb : ∀ i, i < k → H (ix i) = some (.row 105 5 (blkC ix i (B i)))
  nf : ∀ i, i < k → ix i ≠ F ∧ ix i < nx
  inj : ∀ i j, i < j → j < k → ix i ≠ ix j
theorem deep_sc (F : Nat) (ix : Nat → Nat) (B : Nat → OB) : ∀ (k : Nat) (H : Nat → Option Blk) (n : Nat), k ≤ 100 → (∀ i, i < k → H (ix i) = some (.row 105 5 (blkC ix i (B i)))) → SCall Tryd.prog 53 [atV k ix] ⟨H, n⟩ (.i .i64 k) ⟨H, n⟩ := by
  intro k
  induction k with
  | zero =>
    intro H n _ _
    refine SCallR.pure (SCallR.enter cc_card_block_deep ?_) .i
    dsimp only [c_card_block_deep, argT, atV]
    refine SC.seq ?_ nofun; refine SC.regK ?_; refine k_mv ?_; refine k_nil ?_; refine okS ?_ rfl; refine SC.seq ?_ nofun; refine SC.seq ?_ nofun; refine SC.regK ?_; refine k_mv ?_; refine k_nn ?_; refine k_nil ?_; refine okS ?_ rfl; refine SC.cond_t rfl ?_; refine SC.seq ?_ nofun; refine SC.regK ?_; refine k_mv ?_; refine k_nil ?_; refine okS ?_ rfl; refine SC.ret ?_
    exact ⟨_, rfl, rfl, fun _ _ => rfl⟩
  | succ k ih =>
    intro H n hk hb
    refine SCallR.pure (SCallR.enter cc_card_block_deep ?_) .i
    have h0 := hb k (Nat.lt_succ_self k)
    have hi := ih H n (by omega) (fun i hi => hb i (by omega))
    dsimp only [c_card_block_deep, argT, atV, blkC] at h0 ⊢
    refine SC.seq ?_ nofun; refine SC.regK ?_; refine k_mv ?_; refine k_nil ?_; refine okS ?_ rfl; refine SC.seq ?_ nofun; refine SC.seq ?_ nofun; refine SC.regK ?_; refine k_mv ?_; refine k_pn ?_; refine k_nil ?_; refine okS ?_ rfl; refine SC.cond_f rfl ?_; refine SC.skip ?_; refine SC.seq ?_ nofun; refine SC.regK ?_; refine k_mv ?_; refine k_nilc ?_; refine k_fa ?_; refine k_ldp ?_; refine k_callA hi ?_; refine k_add ?_; refine k_mv ?_; refine k_nil ?_; refine okS ?_ rfl; refine SC.ret ?_
    refine ⟨_, rfl, ?_, fun _ _ => rfl⟩
    congr 1
    omega
theorem setB_get (B : Nat → OB) (i j : Nat) (b : OB) : setB B i b j = if j = i then b else B j := rfl
def OnOld (n : Nat) (s' : St) (H : Nat → Option Blk) : Prop := n ≤ s'.nxt ∧ ∀ y, y < n → s'.H y = H y
abbrev rowF (a b c : SV) : Option Blk := some (.row 56 3 [a, b, c])
abbrev rowB (a b c d e : SV) : Option Blk := some (.row 105 5 [a, b, c, d, e])
section
variable {F q p n : Nat} {H : Nat → Option Blk} {bw bd pw pd w : List UInt8} {bnm pnm : Bool} {bc pc t : Tr} {lv pin : SV}
theorem close0_sc (hF : H F = rowF lv .nilp (tv t)) : SCallR Tryd.prog 54 [.p F 0, .s w] ⟨H, n⟩ (fun r s' => r = .i .i64 6 ∧ OnOld n s' H) := by
  refine SCallR.enter cc_card_file_close ?_
  dsimp only [c_card_file_close, argT]
  refine SC.seq ?_ nofun; refine SC.regK ?_; refine k_mv ?_; refine k_nil ?_; refine okS ?_ rfl; refine SC.seq ?_ nofun; refine SC.regK ?_; refine k_mv ?_; refine k_nilc ?_; refine k_fa ?_; refine k_ldp ?_; refine k_mv ?_; refine k_nil ?_; refine okS ?_ rfl; refine SC.seq ?_ nofun; refine SC.seq ?_ nofun; refine SC.regK ?_; refine k_mv ?_; refine k_nn ?_; refine k_mv ?_; refine k_no ?_; refine k_no ?_; refine k_no ?_; refine k_no ?_; refine k_no ?_; refine k_no ?_; refine k_pt ?_; refine k_mv ?_; refine k_no ?_; refine k_no ?_; refine k_no ?_; refine k_no ?_; refine k_no ?_; refine k_pt ?_; refine k_nil ?_; refine okS ?_ rfl; refine SC.cond_t rfl ?_; refine SC.seq ?_ nofun; refine SC.regK ?_; refine k_mv ?_; refine k_nil ?_; refine okS ?_ rfl; refine SC.ret ?_
  exact ⟨_, rfl, rfl, Nat.le_refl _, fun y hy => by ((try dsimp only) <;> (repeat first | assumption | with_reducible rfl | exact h_same rfl | refine h_ne (by first | assumption | omega) ?_))⟩
theorem close1_sc (hF : H F = rowF lv (.p q 0) (tv t)) (hQ : H q = rowB .nilp (.s bw) (.s bd) (.b bnm) (tv bc)) (hne : q ≠ F) (hFn : F < n) (hqn : q < n) (ht : t.ok) (hz : t.size ≤ 800000) (hbz : bc.size ≤ 800000) :
    SCallR Tryd.prog 54 [.p F 0, .s w] ⟨H, n⟩ (fun r s' => if bw ≠ w ∨ bnm = false then r = .i .i64 6 ∧ OnOld n s' H else
      match t.getp (pth [bw, bd]) with
      | some _ => r = .i .i64 7 ∧ OnOld n s' (upd H F (rowF lv .nilp (tv t)))
      | none => r = .i .i64 0 ∧ OnOld n s' (upd H F (rowF lv .nilp (tv (t.putp (pth [bw, bd]) bc))))) := by
  refine SCallR.enter cc_card_file_close ?_
  dsimp only [c_card_file_close, argT]
  by_cases h1 : bw = w
  · have d1 : (!decide (bw = w)) = false := by rw [decide_eq_true h1]; rfl
    cases bnm with
    | false =>
      refine SC.seq ?_ nofun; refine SC.regK ?_; refine k_mv ?_; refine k_nil ?_; refine okS ?_ rfl; refine SC.seq ?_ nofun; refine SC.regK ?_; refine k_mv ?_; refine k_nilc ?_; refine k_fa ?_; refine k_ldp ?_; refine k_mv ?_; refine k_nil ?_; refine okS ?_ rfl; refine SC.seq ?_ nofun; refine SC.seq ?_ nofun; refine SC.regK ?_; refine k_mv ?_; refine k_pn ?_; refine k_mv ?_; refine k_mv ?_; refine k_nilc ?_; refine k_fa ?_; refine k_ldp ?_; refine k_mv ?_; refine k_sf ?_; refine k_pf ?_; refine k_mv ?_; refine k_mv ?_; refine k_nilc ?_; refine k_fa ?_; refine k_ldp ?_; refine k_not ?_; refine k_pf ?_; refine k_nil ?_; refine okS ?_ rfl; refine SC.cond_t rfl ?_; refine SC.seq ?_ nofun; refine SC.regK ?_; refine k_mv ?_; refine k_nil ?_; refine okS ?_ rfl; refine SC.ret ?_
      refine ⟨_, rfl, ?_⟩
      dsimp only
      rw [if_pos (.inr rfl)]
      exact ⟨rfl, Nat.le_refl _, fun y hy => by ((try dsimp only) <;> (repeat first | assumption | with_reducible rfl | exact h_same rfl | refine h_ne (by first | assumption | omega) ?_))⟩
    | true =>
      have hn : ¬ (bw ≠ w ∨ true = false) := by simp [h1]
      have hg := fun e k => get_row t [bw, bd] (n + 0) e k ht (by omega) (by simp)
      have hp := fun e k => put_row t bc [bw, bd] (n + 0) e k ht (by omega) (by omega) (by simp)
      simp only [List.length_cons, List.length_nil, Nat.zero_add, Nat.reduceAdd, List.map_cons, List.map_nil, Nat.add_zero] at hg hp
      cases hgt : t.getp (pth [bw, bd]) with
      | some x =>
        rw [hgt] at hg
        refine SC.seq ?_ nofun; refine SC.regK ?_; refine k_mv ?_; refine k_nil ?_; refine okS ?_ rfl; refine SC.seq ?_ nofun; refine SC.regK ?_; refine k_mv ?_; refine k_nilc ?_; refine k_fa ?_; refine k_ldp ?_; refine k_mv ?_; refine k_nil ?_; refine okS ?_ rfl; refine SC.seq ?_ nofun; refine SC.seq ?_ nofun; refine SC.regK ?_; refine k_mv ?_; refine k_pn ?_; refine k_mv ?_; refine k_mv ?_; refine k_nilc ?_; refine k_fa ?_; refine k_ldp ?_; refine k_mv ?_; refine k_sf ?_; refine k_pf ?_; refine k_mv ?_; refine k_mv ?_; refine k_nilc ?_; refine k_fa ?_; refine k_ldp ?_; refine k_not ?_; refine k_pf ?_; refine k_nil ?_; refine okS ?_ rfl; refine SC.cond_f rfl ?_; refine SC.skip ?_; refine SC.seq ?_ nofun; refine SC.regK ?_; refine k_mv ?_; refine k_mv ?_; refine k_nilc ?_; refine k_fa ?_; refine k_ldp ?_; refine k_nilc ?_; refine k_fa ?_; refine k_sto ?_ (c' := [lv, SV.nilp, tv t]); refine k_nil ?_; refine okS ?_ rfl; refine SC.seq ?_ nofun; refine SC.dregK ?_; refine k_mv ?_; refine k_nilc ?_; refine k_fa ?_; refine k_mv ?_; refine k_nilc ?_; refine k_fa ?_; refine k_ldp ?_; refine k_mv ?_; refine k_nilc ?_; refine k_fa ?_; refine k_ldp ?_; refine k_bsl ?_ (c' := [SV.s bw, SV.s bd]); refine k_mv ?_; refine k_mv ?_; refine k_nil ?_; refine okD (ne := []) ?_ (by kernel_rfl) trivial; refine SC.seq ?_ nofun; refine SC.seq ?_ nofun; refine SC.regK ?_; refine k_mv ?_; refine k_nilc ?_; refine k_fa ?_; refine k_ldp ?_; refine k_nn ?_; refine k_nil ?_; refine okS ?_ rfl; refine SC.cond_f rfl ?_; refine SC.skip ?_; refine SC.seq ?_ nofun; refine SC.seq ?_ nofun; refine SC.regK ?_; refine k_mv ?_; refine k_nilc ?_; refine k_ldp ?_; refine k_mv ?_; refine k_call1 (by ((try dsimp only) <;> (repeat first | assumption | with_reducible rfl | exact h_same rfl | refine h_ne (by first | assumption | omega) ?_))) (hg _ _) ?_; refine k_mv ?_; refine k_ext ?_; refine k_ext ?_; refine k_mv ?_; refine k_mv ?_; refine k_nil ?_; refine okS ?_ rfl; refine SC.seq ?_ nofun; refine SC.regK ?_
        refine k_mv ?_; refine k_nil ?_; refine okS ?_ rfl; refine SC.cond_t rfl ?_; refine SC.seq ?_ nofun; refine SC.regK ?_; refine k_mv ?_; refine k_nil ?_; refine okS ?_ rfl; refine SC.ret ?_
        refine ⟨_, rfl, ?_⟩
        dsimp only
        rw [if_neg hn]
        refine ⟨rfl, by dsimp only; omega, fun y hy => ?_⟩
        by_cases hyF : y = F
        · subst hyF; rw [upd_same]; ((try dsimp only) <;> (repeat first | assumption | with_reducible rfl | exact h_same rfl | refine h_ne (by first | assumption | omega) ?_))
        · rw [upd_ne _ _ hyF]; ((try dsimp only) <;> (repeat first | assumption | with_reducible rfl | exact h_same rfl | refine h_ne (by first | assumption | omega) ?_))
      | none =>
        rw [hgt] at hg
        refine SC.seq ?_ nofun; refine SC.regK ?_; refine k_mv ?_; refine k_nil ?_; refine okS ?_ rfl; refine SC.seq ?_ nofun; refine SC.regK ?_; refine k_mv ?_; refine k_nilc ?_; refine k_fa ?_; refine k_ldp ?_; refine k_mv ?_; refine k_nil ?_; refine okS ?_ rfl; refine SC.seq ?_ nofun; refine SC.seq ?_ nofun; refine SC.regK ?_; refine k_mv ?_; refine k_pn ?_; refine k_mv ?_; refine k_mv ?_; refine k_nilc ?_; refine k_fa ?_; refine k_ldp ?_; refine k_mv ?_; refine k_sf ?_; refine k_pf ?_; refine k_mv ?_; refine k_mv ?_; refine k_nilc ?_; refine k_fa ?_; refine k_ldp ?_; refine k_not ?_; refine k_pf ?_; refine k_nil ?_; refine okS ?_ rfl; refine SC.cond_f rfl ?_; refine SC.skip ?_; refine SC.seq ?_ nofun; refine SC.regK ?_; refine k_mv ?_; refine k_mv ?_; refine k_nilc ?_; refine k_fa ?_; refine k_ldp ?_; refine k_nilc ?_; refine k_fa ?_; refine k_sto ?_ (c' := [lv, SV.nilp, tv t]); refine k_nil ?_; refine okS ?_ rfl; refine SC.seq ?_ nofun; refine SC.dregK ?_; refine k_mv ?_; refine k_nilc ?_; refine k_fa ?_; refine k_mv ?_; refine k_nilc ?_; refine k_fa ?_; refine k_ldp ?_; refine k_mv ?_; refine k_nilc ?_; refine k_fa ?_; refine k_ldp ?_; refine k_bsl ?_ (c' := [SV.s bw, SV.s bd]); refine k_mv ?_; refine k_mv ?_; refine k_nil ?_; refine okD (ne := []) ?_ (by kernel_rfl) trivial; refine SC.seq ?_ nofun; refine SC.seq ?_ nofun; refine SC.regK ?_; refine k_mv ?_; refine k_nilc ?_; refine k_fa ?_; refine k_ldp ?_; refine k_nn ?_; refine k_nil ?_; refine okS ?_ rfl; refine SC.cond_f rfl ?_; refine SC.skip ?_; refine SC.seq ?_ nofun; refine SC.seq ?_ nofun; refine SC.regK ?_; refine k_mv ?_; refine k_nilc ?_; refine k_ldp ?_; refine k_mv ?_; refine k_call1 (by ((try dsimp only) <;> (repeat first | assumption | with_reducible rfl | exact h_same rfl | refine h_ne (by first | assumption | omega) ?_))) (hg _ _) ?_; refine k_mv ?_; refine k_ext ?_; refine k_ext ?_; refine k_mv ?_; refine k_mv ?_; refine k_nil ?_; refine okS ?_ rfl; refine SC.seq ?_ nofun; refine SC.regK ?_
        refine k_mv ?_; refine k_nil ?_; refine okS ?_ rfl; refine SC.cond_f rfl ?_; refine SC.skip ?_; refine SC.seq ?_ nofun; refine SC.dregK ?_; refine k_mv ?_; refine k_mv ?_; refine k_nilc ?_; refine k_ldp ?_; refine k_mv ?_; refine k_mv ?_; refine k_nilc ?_; refine k_fa ?_; refine k_ldp ?_; refine k_call1 (by ((try dsimp only) <;> (repeat first | assumption | with_reducible rfl | exact h_same rfl | refine h_ne (by first | assumption | omega) ?_))) (hp _ _) ?_; refine k_nilc ?_; refine k_sto ?_ (c' := [lv, SV.nilp, tv (Tr.putp t (pth [bw, bd]) bc)]); refine k_nil ?_; refine okD (ne := []) ?_ (by kernel_rfl) trivial; refine SC.seq ?_ nofun; refine SC.regK ?_; refine k_mv ?_; refine k_nil ?_; refine okS ?_ rfl; refine SC.ret ?_
        refine ⟨_, rfl, ?_⟩
        dsimp only
        rw [if_neg hn]
        refine ⟨rfl, by dsimp only; omega, fun y hy => ?_⟩
        by_cases hyF : y = F
        · subst hyF; rw [upd_same]; ((try dsimp only) <;> (repeat first | assumption | with_reducible rfl | exact h_same rfl | refine h_ne (by first | assumption | omega) ?_))
        · rw [upd_ne _ _ hyF]; ((try dsimp only) <;> (repeat first | assumption | with_reducible rfl | exact h_same rfl | refine h_ne (by first | assumption | omega) ?_))
  · have d1 : (!decide (bw = w)) = true := by rw [decide_eq_false h1]; rfl
    refine SC.seq ?_ nofun; refine SC.regK ?_; refine k_mv ?_; refine k_nil ?_; refine okS ?_ rfl; refine SC.seq ?_ nofun; refine SC.regK ?_; refine k_mv ?_; refine k_nilc ?_; refine k_fa ?_; refine k_ldp ?_; refine k_mv ?_; refine k_nil ?_; refine okS ?_ rfl; refine SC.seq ?_ nofun; refine SC.seq ?_ nofun; refine SC.regK ?_; refine k_mv ?_; refine k_pn ?_; refine k_mv ?_; refine k_mv ?_; refine k_nilc ?_; refine k_fa ?_; refine k_ldp ?_; refine k_mv ?_; refine k_st ?_; refine k_pf ?_; refine k_mv ?_; refine k_no ?_; refine k_no ?_; refine k_no ?_; refine k_no ?_; refine k_no ?_; refine k_pt ?_; refine k_nil ?_; refine okS ?_ rfl; refine SC.cond_t rfl ?_; refine SC.seq ?_ nofun; refine SC.regK ?_; refine k_mv ?_; refine k_nil ?_; refine okS ?_ rfl; refine SC.ret ?_
    refine ⟨_, rfl, ?_⟩
    dsimp only
    rw [if_pos (.inl h1)]
    exact ⟨rfl, Nat.le_refl _, fun y hy => by ((try dsimp only) <;> (repeat first | assumption | with_reducible rfl | exact h_same rfl | refine h_ne (by first | assumption | omega) ?_))⟩
theorem close2_sc (hF : H F = rowF lv (.p q 0) (tv t)) (hQ : H q = rowB (.p p 0) (.s bw) (.s bd) (.b bnm) (tv bc)) (hP : H p = rowB pin (.s pw) (.s pd) (.b pnm) (tv pc)) (hne : q ≠ F) (hpF : p ≠ F) (hqp : q ≠ p) (hFn : F < n) (hqn : q < n) (hpn : p < n) (ht : pc.ok) (hz : pc.size ≤ 800000) (hbz : bc.size ≤ 800000) :
    SCallR Tryd.prog 54 [.p F 0, .s w] ⟨H, n⟩ (fun r s' => if bw ≠ w ∨ bnm = false then r = .i .i64 6 ∧ OnOld n s' H else
      match pc.getp (pth [nBlocks, bw, bd]) with
      | some _ => r = .i .i64 7 ∧ OnOld n s' (upd H F (rowF lv (.p p 0) (tv t)))
      | none => r = .i .i64 0 ∧ OnOld n s' (upd (upd H F (rowF lv (.p p 0) (tv t))) p (rowB pin (.s pw) (.s pd) (.b pnm) (tv (pc.putp (pth [nBlocks, bw, bd]) bc))))) := by
  refine SCallR.enter cc_card_file_close ?_
  dsimp only [c_card_file_close, argT]
  by_cases h1 : bw = w
  · have d1 : (!decide (bw = w)) = false := by rw [decide_eq_true h1]; rfl
    cases bnm with
    | false =>
      refine SC.seq ?_ nofun; refine SC.regK ?_; refine k_mv ?_; refine k_nil ?_; refine okS ?_ rfl; refine SC.seq ?_ nofun; refine SC.regK ?_; refine k_mv ?_; refine k_nilc ?_; refine k_fa ?_; refine k_ldp ?_; refine k_mv ?_; refine k_nil ?_; refine okS ?_ rfl; refine SC.seq ?_ nofun; refine SC.seq ?_ nofun; refine SC.regK ?_; refine k_mv ?_; refine k_pn ?_; refine k_mv ?_; refine k_mv ?_; refine k_nilc ?_; refine k_fa ?_; refine k_ldp ?_; refine k_mv ?_; refine k_sf ?_; refine k_pf ?_; refine k_mv ?_; refine k_mv ?_; refine k_nilc ?_; refine k_fa ?_; refine k_ldp ?_; refine k_not ?_; refine k_pf ?_; refine k_nil ?_; refine okS ?_ rfl; refine SC.cond_t rfl ?_; refine SC.seq ?_ nofun; refine SC.regK ?_; refine k_mv ?_; refine k_nil ?_; refine okS ?_ rfl; refine SC.ret ?_
      refine ⟨_, rfl, ?_⟩
      dsimp only
      rw [if_pos (.inr rfl)]
      exact ⟨rfl, Nat.le_refl _, fun y hy => by ((try dsimp only) <;> (repeat first | assumption | with_reducible rfl | exact h_same rfl | refine h_ne (by first | assumption | omega) ?_))⟩
    | true =>
      have hn : ¬ (bw ≠ w ∨ true = false) := by simp [h1]
      have hg := fun q e k => get_row pc [nBlocks, bw, bd] q e k ht (by omega) (by simp)
      have hp := fun q e k => put_row pc bc [nBlocks, bw, bd] q e k ht (by omega) (by omega) (by simp)
      simp only [List.length_cons, List.length_nil, Nat.zero_add, Nat.reduceAdd, List.map_cons, List.map_nil, Nat.add_zero] at hg hp
      cases hgt : pc.getp (pth [nBlocks, bw, bd]) with
      | some x =>
        rw [hgt] at hg
        refine SC.seq ?_ nofun; refine SC.regK ?_; refine k_mv ?_; refine k_nil ?_; refine okS ?_ rfl; refine SC.seq ?_ nofun; refine SC.regK ?_; refine k_mv ?_; refine k_nilc ?_; refine k_fa ?_; refine k_ldp ?_; refine k_mv ?_; refine k_nil ?_; refine okS ?_ rfl; refine SC.seq ?_ nofun; refine SC.seq ?_ nofun; refine SC.regK ?_; refine k_mv ?_; refine k_pn ?_; refine k_mv ?_; refine k_mv ?_; refine k_nilc ?_; refine k_fa ?_; refine k_ldp ?_; refine k_mv ?_; refine k_sf ?_; refine k_pf ?_; refine k_mv ?_; refine k_mv ?_; refine k_nilc ?_; refine k_fa ?_; refine k_ldp ?_; refine k_not ?_; refine k_pf ?_; refine k_nil ?_; refine okS ?_ rfl; refine SC.cond_f rfl ?_; refine SC.skip ?_; refine SC.seq ?_ nofun; refine SC.regK ?_; refine k_mv ?_; refine k_mv ?_; refine k_nilc ?_; refine k_fa ?_; refine k_ldp ?_; refine k_nilc ?_; refine k_fa ?_; refine k_sto ?_ (c' := [lv, SV.p p 0, tv t]); refine k_nil ?_; refine okS ?_ rfl; refine SC.seq ?_ nofun; refine SC.dregK ?_; refine k_mv ?_; refine k_nilc ?_; refine k_fa ?_; refine k_mv ?_; refine k_nilc ?_; refine k_fa ?_; refine k_ldp ?_; refine k_mv ?_; refine k_nilc ?_; refine k_fa ?_; refine k_ldp ?_; refine k_bsl ?_ (c' := [SV.s bw, SV.s bd]); refine k_mv ?_; refine k_mv ?_; refine k_nil ?_; refine okD (ne := []) ?_ (by kernel_rfl) trivial; refine SC.seq ?_ nofun; refine SC.seq ?_ nofun; refine SC.regK ?_; refine k_mv ?_; refine k_nilc ?_; refine k_fa ?_; refine k_ldp ?_; refine k_pn ?_; refine k_nil ?_; refine okS ?_ rfl; refine SC.cond_t rfl ?_; refine SC.dregK ?_; refine k_mv ?_; refine k_nilc ?_; refine k_fa ?_; refine k_ldp ?_; refine k_nilc ?_; refine k_fa ?_; refine k_mv ?_; refine k_nilc ?_; refine k_fa ?_; refine k_ldp ?_; refine k_mv ?_; refine k_nilc ?_; refine k_fa ?_; refine k_ldp ?_; refine k_bsl ?_ (c' := [SV.s [98, 108, 111, 99, 107, 115], SV.s bw, SV.s bd]); refine k_mv ?_; refine k_mv ?_; refine k_nil ?_
        refine okD (ne := [(n + 1, q)]) ?_ (by kernel_rfl) (by first | (simp only [AllNe]; omega) | (simp only [AllNe]; and_intros <;> first | omega | trivial)); refine SC.seq ?_ nofun; refine SC.seq ?_ nofun; refine SC.regK ?_; refine k_mv ?_; refine k_nilc ?_; refine k_ldp ?_; refine k_mv ?_; refine k_call1 (by ((try dsimp only) <;> (repeat first | assumption | with_reducible rfl | exact h_same rfl | refine h_ne (by first | assumption | omega) ?_))) (hg _ _ _) ?_; refine k_mv ?_; refine k_ext ?_; refine k_ext ?_; refine k_mv ?_; refine k_mv ?_; refine k_nil ?_; refine okS ?_ rfl; refine SC.seq ?_ nofun; refine SC.regK ?_; refine k_mv ?_; refine k_nil ?_; refine okS ?_ rfl; refine SC.cond_t rfl ?_; refine SC.seq ?_ nofun; refine SC.regK ?_; refine k_mv ?_; refine k_nil ?_; refine okS ?_ rfl; refine SC.ret ?_
        refine ⟨_, rfl, ?_⟩
        dsimp only
        rw [if_neg hn]
        refine ⟨rfl, by dsimp only; omega, fun y hy => ?_⟩
        by_cases hyF : y = F
        · subst hyF; rw [upd_same]; ((try dsimp only) <;> (repeat first | assumption | with_reducible rfl | exact h_same rfl | refine h_ne (by first | assumption | omega) ?_))
        · rw [upd_ne _ _ hyF]; ((try dsimp only) <;> (repeat first | assumption | with_reducible rfl | exact h_same rfl | refine h_ne (by first | assumption | omega) ?_))
      | none =>
        rw [hgt] at hg
        refine SC.seq ?_ nofun; refine SC.regK ?_; refine k_mv ?_; refine k_nil ?_; refine okS ?_ rfl; refine SC.seq ?_ nofun; refine SC.regK ?_; refine k_mv ?_; refine k_nilc ?_; refine k_fa ?_; refine k_ldp ?_; refine k_mv ?_; refine k_nil ?_; refine okS ?_ rfl; refine SC.seq ?_ nofun; refine SC.seq ?_ nofun; refine SC.regK ?_; refine k_mv ?_; refine k_pn ?_; refine k_mv ?_; refine k_mv ?_; refine k_nilc ?_; refine k_fa ?_; refine k_ldp ?_; refine k_mv ?_; refine k_sf ?_; refine k_pf ?_; refine k_mv ?_; refine k_mv ?_; refine k_nilc ?_; refine k_fa ?_; refine k_ldp ?_; refine k_not ?_; refine k_pf ?_; refine k_nil ?_; refine okS ?_ rfl; refine SC.cond_f rfl ?_; refine SC.skip ?_; refine SC.seq ?_ nofun; refine SC.regK ?_; refine k_mv ?_; refine k_mv ?_; refine k_nilc ?_; refine k_fa ?_; refine k_ldp ?_; refine k_nilc ?_; refine k_fa ?_; refine k_sto ?_ (c' := [lv, SV.p p 0, tv t]); refine k_nil ?_; refine okS ?_ rfl; refine SC.seq ?_ nofun; refine SC.dregK ?_; refine k_mv ?_; refine k_nilc ?_; refine k_fa ?_; refine k_mv ?_; refine k_nilc ?_; refine k_fa ?_; refine k_ldp ?_; refine k_mv ?_; refine k_nilc ?_; refine k_fa ?_; refine k_ldp ?_; refine k_bsl ?_ (c' := [SV.s bw, SV.s bd]); refine k_mv ?_; refine k_mv ?_; refine k_nil ?_; refine okD (ne := []) ?_ (by kernel_rfl) trivial; refine SC.seq ?_ nofun; refine SC.seq ?_ nofun; refine SC.regK ?_; refine k_mv ?_; refine k_nilc ?_; refine k_fa ?_; refine k_ldp ?_; refine k_pn ?_; refine k_nil ?_; refine okS ?_ rfl; refine SC.cond_t rfl ?_; refine SC.dregK ?_; refine k_mv ?_; refine k_nilc ?_; refine k_fa ?_; refine k_ldp ?_; refine k_nilc ?_; refine k_fa ?_; refine k_mv ?_; refine k_nilc ?_; refine k_fa ?_; refine k_ldp ?_; refine k_mv ?_; refine k_nilc ?_; refine k_fa ?_; refine k_ldp ?_; refine k_bsl ?_ (c' := [SV.s [98, 108, 111, 99, 107, 115], SV.s bw, SV.s bd]); refine k_mv ?_; refine k_mv ?_; refine k_nil ?_
        refine okD (ne := [(n + 1, q)]) ?_ (by kernel_rfl) (by first | (simp only [AllNe]; omega) | (simp only [AllNe]; and_intros <;> first | omega | trivial)); refine SC.seq ?_ nofun; refine SC.seq ?_ nofun; refine SC.regK ?_; refine k_mv ?_; refine k_nilc ?_; refine k_ldp ?_; refine k_mv ?_; refine k_call1 (by ((try dsimp only) <;> (repeat first | assumption | with_reducible rfl | exact h_same rfl | refine h_ne (by first | assumption | omega) ?_))) (hg _ _ _) ?_; refine k_mv ?_; refine k_ext ?_; refine k_ext ?_; refine k_mv ?_; refine k_mv ?_; refine k_nil ?_; refine okS ?_ rfl; refine SC.seq ?_ nofun; refine SC.regK ?_; refine k_mv ?_; refine k_nil ?_; refine okS ?_ rfl; refine SC.cond_f rfl ?_; refine SC.skip ?_; refine SC.seq ?_ nofun; refine SC.dregK ?_; refine k_mv ?_; refine k_mv ?_; refine k_nilc ?_; refine k_ldp ?_; refine k_mv ?_; refine k_mv ?_; refine k_nilc ?_; refine k_fa ?_; refine k_ldp ?_; refine k_call1 (by ((try dsimp only) <;> (repeat first | assumption | with_reducible rfl | exact h_same rfl | refine h_ne (by first | assumption | omega) ?_))) (hp _ _ _) ?_; refine k_nilc ?_; refine k_sto ?_ (c' := [pin, SV.s pw, SV.s pd, SV.b pnm, tv (Tr.putp pc (pth [nBlocks, bw, bd]) bc)]); refine k_nil ?_; refine okD (ne := []) ?_ (by kernel_rfl) trivial; refine SC.seq ?_ nofun; refine SC.regK ?_; refine k_mv ?_; refine k_nil ?_; refine okS ?_ rfl; refine SC.ret ?_
        refine ⟨_, rfl, ?_⟩
        dsimp only
        rw [if_neg hn]
        refine ⟨rfl, by dsimp only; omega, fun y hy => ?_⟩
        by_cases hyp : y = p
        · subst hyp; rw [upd_same]; ((try dsimp only) <;> (repeat first | assumption | with_reducible rfl | exact h_same rfl | refine h_ne (by first | assumption | omega) ?_))
        · rw [upd_ne _ _ hyp]
          by_cases hyF : y = F
          · subst hyF; rw [upd_same]; ((try dsimp only) <;> (repeat first | assumption | with_reducible rfl | exact h_same rfl | refine h_ne (by first | assumption | omega) ?_))
          · rw [upd_ne _ _ hyF]; ((try dsimp only) <;> (repeat first | assumption | with_reducible rfl | exact h_same rfl | refine h_ne (by first | assumption | omega) ?_))
  · have d1 : (!decide (bw = w)) = true := by rw [decide_eq_false h1]; rfl
    refine SC.seq ?_ nofun; refine SC.regK ?_; refine k_mv ?_; refine k_nil ?_; refine okS ?_ rfl; refine SC.seq ?_ nofun; refine SC.regK ?_; refine k_mv ?_; refine k_nilc ?_; refine k_fa ?_; refine k_ldp ?_; refine k_mv ?_; refine k_nil ?_; refine okS ?_ rfl; refine SC.seq ?_ nofun; refine SC.seq ?_ nofun; refine SC.regK ?_; refine k_mv ?_; refine k_pn ?_; refine k_mv ?_; refine k_mv ?_; refine k_nilc ?_; refine k_fa ?_; refine k_ldp ?_; refine k_mv ?_; refine k_st ?_; refine k_pf ?_; refine k_mv ?_; refine k_no ?_; refine k_no ?_; refine k_no ?_; refine k_no ?_; refine k_no ?_; refine k_pt ?_; refine k_nil ?_; refine okS ?_ rfl; refine SC.cond_t rfl ?_; refine SC.seq ?_ nofun; refine SC.regK ?_; refine k_mv ?_; refine k_nil ?_; refine okS ?_ rfl; refine SC.ret ?_
    refine ⟨_, rfl, ?_⟩
    dsimp only
    rw [if_pos (.inl h1)]
    exact ⟨rfl, Nat.le_refl _, fun y hy => by ((try dsimp only) <;> (repeat first | assumption | with_reducible rfl | exact h_same rfl | refine h_ne (by first | assumption | omega) ?_))⟩
end
end Go.Proofs.YtpacfelhjjmmkaaDoor
end
