/- Part of a proof: contracts and lemmas; no condition. -/
import Derived.Test.YtpacfelhjjmmkaaDoorGle
section
set_option maxHeartbeats 20000000
namespace Go.Proofs.YtpacfelhjjmmkaaDoor
open Go Go.Sy Go.Tr Go.Kb Go.RowKit Go.Cd
set_option linter.unusedVariables false
set_option linter.unusedSimpArgs false
theorem put_rowN (t : Tr) (p : List (List UInt8)) (q e k : Nat) (ht : t.ok) (hz : t.size ≤ 900000) (hp : p.length ≤ 1000) : SCall Tryd.prog 77 [tv t, .sl q 0 p.length, .nils] ⟨A1 q (.row e 1 (p.map SV.s)), k⟩ (tv (t.putp (pth p) .nil)) ⟨A1 q (.row e 1 (p.map SV.s)), k⟩ :=
  put_sc rfl (by simp only [rdS, A1_at, List.drop_zero]; rw [List.take_of_length_le (by simp)]) rfl ht hz (by simp [Tr.size]) (by omega)
abbrev rowX (a b c d e : SV) : Option Blk := some (.row 71 5 [a, b, c, d, e])
def vOf (l : List UInt8) : Option (List UInt8) := match unesc l with
  | none => none
  | some o => if o.length ≤ 80 then some o else none
section
variable {F q X n : Nat} {H : Nat → Option Blk} {bw bd tx ed wd va says : List UInt8} {bnm : Bool} {bc t : Tr} {lv pin ofv tvv : SV}
theorem prop0_sc (hF : H F = rowF lv .nilp tvv) (hl : says.length ≤ 1000000) : SCallR Tryd.prog 55 [.p F 0, .p X 0, .s says] ⟨H, n⟩ (fun r s' => r = .i .i64 6 ∧ OnOld n s' H) := by
  refine SCallR.enter cc_card_file_property ?_
  dsimp only [c_card_file_property, argT]
  have hm := fun s => cmeaning_sc says s hl
  unfold meantV at hm
  cases hu : unesc says with
  | none =>
    simp only [hu] at hm
    refine SC.seq ?_ nofun; refine SC.regK ?_; refine k_mv ?_; refine k_nil ?_; refine okS ?_ rfl; refine SC.seq ?_ nofun; refine SC.regK ?_; refine k_mv ?_; refine k_nilc ?_; refine k_fa ?_; refine k_ldp ?_; refine k_mv ?_; refine k_nil ?_; refine okS ?_ rfl; refine SC.seq ?_ nofun; refine SC.regK ?_; refine k_mv ?_; refine k_call (hm _) ?_; refine k_mv ?_; refine k_ext ?_; refine k_ext ?_; refine k_mv ?_; refine k_mv ?_; refine k_nil ?_; refine okS ?_ rfl; refine SC.seq ?_ nofun; refine SC.seq ?_ nofun; refine SC.regK ?_; refine k_mv ?_; refine k_nn ?_; refine k_mv ?_; refine k_no ?_; refine k_no ?_; refine k_pt ?_; refine k_mv ?_; refine k_no ?_; refine k_no ?_; refine k_no ?_; refine k_no ?_; refine k_no ?_; refine k_no ?_; refine k_no ?_; refine k_no ?_; refine k_no ?_; refine k_no ?_; refine k_pt ?_; refine k_nil ?_; refine okS ?_ rfl; refine SC.cond_t rfl ?_; refine SC.seq ?_ nofun; refine SC.regK ?_; refine k_mv ?_; refine k_nil ?_; refine okS ?_ rfl; refine SC.ret ?_
    exact ⟨_, rfl, rfl, Nat.le_refl _, fun y hy => by ((try dsimp only) <;> (repeat first | assumption | with_reducible rfl | exact h_same rfl | refine h_ne (by first | assumption | omega) ?_))⟩
  | some o =>
    simp only [hu] at hm
    refine SC.seq ?_ nofun; refine SC.regK ?_; refine k_mv ?_; refine k_nil ?_; refine okS ?_ rfl; refine SC.seq ?_ nofun; refine SC.regK ?_; refine k_mv ?_; refine k_nilc ?_; refine k_fa ?_; refine k_ldp ?_; refine k_mv ?_; refine k_nil ?_; refine okS ?_ rfl; refine SC.seq ?_ nofun; refine SC.regK ?_; refine k_mv ?_; refine k_call (hm _) ?_; refine k_mv ?_; refine k_ext ?_; refine k_ext ?_; refine k_mv ?_; refine k_mv ?_; refine k_nil ?_; refine okS ?_ rfl; refine SC.seq ?_ nofun; refine SC.seq ?_ nofun; refine SC.regK ?_; refine k_mv ?_; refine k_nn ?_; refine k_mv ?_; refine k_no ?_; refine k_no ?_; refine k_pt ?_; refine k_mv ?_; refine k_no ?_; refine k_no ?_; refine k_no ?_; refine k_no ?_; refine k_no ?_; refine k_no ?_; refine k_no ?_; refine k_no ?_; refine k_no ?_; refine k_no ?_; refine k_pt ?_; refine k_nil ?_; refine okS ?_ rfl; refine SC.cond_t rfl ?_; refine SC.seq ?_ nofun; refine SC.regK ?_; refine k_mv ?_; refine k_nil ?_; refine okS ?_ rfl; refine SC.ret ?_
    exact ⟨_, rfl, rfl, Nat.le_refl _, fun y hy => by ((try dsimp only) <;> (repeat first | assumption | with_reducible rfl | exact h_same rfl | refine h_ne (by first | assumption | omega) ?_))⟩
theorem prop_sc (hF : H F = rowF lv (.p q 0) tvv) (hQ : H q = rowB pin (.s bw) (.s bd) (.b bnm) (tv bc)) (hX : H X = rowX (.s tx) (.s ed) ofv (.s wd) (.s va)) (hqF : q ≠ F) (hXF : X ≠ F) (hqX : q ≠ X) (hFn : F < n) (hqn : q < n) (hXn : X < n) (hl : says.length ≤ 1000000) (ht : bc.ok) (hz : bc.size ≤ 800000) :
    SCallR Tryd.prog 55 [.p F 0, .p X 0, .s says] ⟨H, n⟩ (fun r s' => match vOf says with
      | none => r = .i .i64 6 ∧ OnOld n s' H
      | some v => if wd = bID then (if plainL v = false then r = .i .i64 6 ∧ OnOld n s' H else if bnm = true then r = .i .i64 7 ∧ OnOld n s' (upd H X (rowX (.s tx) (.s ed) ofv (.s wd) (.s v))) else
            r = .i .i64 0 ∧ OnOld n s' (upd (upd H X (rowX (.s tx) (.s ed) ofv (.s wd) (.s v))) q (rowB pin (.s bw) (.s v) (.b true) (tv bc))))
          else match bc.getp (pth [nProps, wd, v]) with
            | some _ => r = .i .i64 7 ∧ OnOld n s' (upd H X (rowX (.s tx) (.s ed) ofv (.s wd) (.s v)))
            | none => r = .i .i64 0 ∧ OnOld n s' (upd (upd H X (rowX (.s tx) (.s ed) ofv (.s wd) (.s v))) q (rowB pin (.s bw) (.s bd) (.b bnm) (tv (bc.putp (pth [nProps, wd, v]) .nil))))) := by
  refine SCallR.enter cc_card_file_property ?_
  dsimp only [c_card_file_property, argT]
  have hm := fun s => cmeaning_sc says s hl
  unfold meantV at hm
  unfold vOf
  cases hu : unesc says with
  | none =>
    simp only [hu] at hm
    refine SC.seq ?_ nofun; refine SC.regK ?_; refine k_mv ?_; refine k_nil ?_; refine okS ?_ rfl; refine SC.seq ?_ nofun; refine SC.regK ?_; refine k_mv ?_; refine k_nilc ?_; refine k_fa ?_; refine k_ldp ?_; refine k_mv ?_; refine k_nil ?_; refine okS ?_ rfl; refine SC.seq ?_ nofun; refine SC.regK ?_; refine k_mv ?_; refine k_call (hm _) ?_; refine k_mv ?_; refine k_ext ?_; refine k_ext ?_; refine k_mv ?_; refine k_mv ?_; refine k_nil ?_; refine okS ?_ rfl; refine SC.seq ?_ nofun; refine SC.seq ?_ nofun; refine SC.regK ?_; refine k_mv ?_; refine k_pn ?_; refine k_mv ?_; refine k_mv ?_; refine k_not ?_; refine k_pf ?_; refine k_mv ?_; refine k_no ?_; refine k_no ?_; refine k_no ?_; refine k_no ?_; refine k_no ?_; refine k_no ?_; refine k_no ?_; refine k_no ?_; refine k_no ?_; refine k_no ?_; refine k_pt ?_; refine k_nil ?_; refine okS ?_ rfl; refine SC.cond_t rfl ?_; refine SC.seq ?_ nofun; refine SC.regK ?_; refine k_mv ?_; refine k_nil ?_; refine okS ?_ rfl; refine SC.ret ?_
    exact ⟨_, rfl, rfl, Nat.le_refl _, fun y hy => by ((try dsimp only) <;> (repeat first | assumption | with_reducible rfl | exact h_same rfl | refine h_ne (by first | assumption | omega) ?_))⟩
  | some o =>
    simp only [hu] at hm
    by_cases h80 : o.length ≤ 80
    · rw [decide_eq_true (show ((o.length : Int) ≤ 80) by omega)] at hm
      have hpl := fun s => cplain_sc o s (by omega)
      by_cases hI : wd = bID
      · have dI : decide (wd = [73, 68]) = true := decide_eq_true hI
        cases hp : plainL o with
        | false =>
          rw [hp] at hpl
          refine SC.seq ?_ nofun; refine SC.regK ?_; refine k_mv ?_; refine k_nil ?_; refine okS ?_ rfl; refine SC.seq ?_ nofun; refine SC.regK ?_; refine k_mv ?_; refine k_nilc ?_; refine k_fa ?_; refine k_ldp ?_; refine k_mv ?_; refine k_nil ?_; refine okS ?_ rfl; refine SC.seq ?_ nofun; refine SC.regK ?_; refine k_mv ?_; refine k_call (hm _) ?_; refine k_mv ?_; refine k_ext ?_; refine k_ext ?_; refine k_mv ?_; refine k_mv ?_; refine k_nil ?_; refine okS ?_ rfl; refine SC.seq ?_ nofun; refine SC.seq ?_ nofun; refine SC.regK ?_; refine k_mv ?_; refine k_pn ?_; refine k_mv ?_; refine k_mv ?_; refine k_not ?_; refine k_pf ?_; refine k_mv ?_; refine k_mv ?_; refine k_nilc ?_; refine k_fa ?_; refine k_ldp ?_; refine k_st ?_; refine k_mv ?_; refine k_mv ?_; refine k_call (hpl _) ?_; refine k_not ?_; refine k_pt ?_; refine k_pf ?_; refine k_nil ?_; refine okS ?_ rfl; refine SC.cond_t rfl ?_; refine SC.seq ?_ nofun; refine SC.regK ?_; refine k_mv ?_; refine k_nil ?_; refine okS ?_ rfl; refine SC.ret ?_
          refine ⟨_, rfl, ?_⟩
          dsimp only
          rw [if_pos h80]
          dsimp only
          rw [if_pos hI, if_pos hp]
          exact ⟨rfl, Nat.le_refl _, fun y hy => by ((try dsimp only) <;> (repeat first | assumption | with_reducible rfl | exact h_same rfl | refine h_ne (by first | assumption | omega) ?_))⟩
        | true =>
          rw [hp] at hpl
          cases bnm with
          | true =>
            refine SC.seq ?_ nofun; refine SC.regK ?_; refine k_mv ?_; refine k_nil ?_; refine okS ?_ rfl; refine SC.seq ?_ nofun; refine SC.regK ?_; refine k_mv ?_; refine k_nilc ?_; refine k_fa ?_; refine k_ldp ?_; refine k_mv ?_; refine k_nil ?_; refine okS ?_ rfl; refine SC.seq ?_ nofun; refine SC.regK ?_; refine k_mv ?_; refine k_call (hm _) ?_; refine k_mv ?_; refine k_ext ?_; refine k_ext ?_; refine k_mv ?_; refine k_mv ?_; refine k_nil ?_; refine okS ?_ rfl; refine SC.seq ?_ nofun; refine SC.seq ?_ nofun; refine SC.regK ?_; refine k_mv ?_; refine k_pn ?_; refine k_mv ?_; refine k_mv ?_; refine k_not ?_; refine k_pf ?_; refine k_mv ?_; refine k_mv ?_; refine k_nilc ?_; refine k_fa ?_; refine k_ldp ?_; refine k_st ?_; refine k_mv ?_; refine k_mv ?_; refine k_call (hpl _) ?_; refine k_not ?_; refine k_pt ?_; refine k_pf ?_; refine k_nil ?_; refine okS ?_ rfl; refine SC.cond_f rfl ?_; refine SC.skip ?_; refine SC.seq ?_ nofun; refine SC.regK ?_; refine k_mv ?_; refine k_mv ?_; refine k_nilc ?_; refine k_fa ?_; refine k_sto ?_ (c' := [SV.s tx, SV.s ed, ofv, SV.s wd, SV.s o]); refine k_nil ?_; refine okS ?_ rfl; refine SC.seq ?_ nofun; refine SC.seq ?_ nofun; refine SC.regK ?_; refine k_mv ?_; refine k_nilc ?_; refine k_fa ?_; refine k_ldp ?_; refine k_st ?_; refine k_nil ?_; refine okS ?_ rfl; refine SC.cond_t rfl ?_; refine SC.seq ?_ nofun; refine SC.seq ?_ nofun; refine SC.regK ?_; refine k_mv ?_; refine k_nilc ?_; refine k_fa ?_; refine k_ldp ?_; refine k_nil ?_; refine okS ?_ rfl; refine SC.cond_t rfl ?_; refine SC.seq ?_ nofun; refine SC.regK ?_; refine k_mv ?_; refine k_nil ?_; refine okS ?_ rfl; refine SC.ret ?_
            refine ⟨_, rfl, ?_⟩
            dsimp only
            rw [if_pos h80]
            dsimp only
            rw [if_pos hI, if_neg (by simp [hp]), if_pos rfl]
            refine ⟨rfl, by dsimp only; omega, fun y hy => ?_⟩
            by_cases hyX : y = X
            · subst hyX; rw [upd_same]; ((try dsimp only) <;> (repeat first | assumption | with_reducible rfl | exact h_same rfl | refine h_ne (by first | assumption | omega) ?_))
            · rw [upd_ne _ _ hyX]; ((try dsimp only) <;> (repeat first | assumption | with_reducible rfl | exact h_same rfl | refine h_ne (by first | assumption | omega) ?_))
          | false =>
            refine SC.seq ?_ nofun; refine SC.regK ?_; refine k_mv ?_; refine k_nil ?_; refine okS ?_ rfl; refine SC.seq ?_ nofun; refine SC.regK ?_; refine k_mv ?_; refine k_nilc ?_; refine k_fa ?_; refine k_ldp ?_; refine k_mv ?_; refine k_nil ?_; refine okS ?_ rfl; refine SC.seq ?_ nofun; refine SC.regK ?_; refine k_mv ?_; refine k_call (hm _) ?_; refine k_mv ?_; refine k_ext ?_; refine k_ext ?_; refine k_mv ?_; refine k_mv ?_; refine k_nil ?_; refine okS ?_ rfl; refine SC.seq ?_ nofun; refine SC.seq ?_ nofun; refine SC.regK ?_; refine k_mv ?_; refine k_pn ?_; refine k_mv ?_; refine k_mv ?_; refine k_not ?_; refine k_pf ?_; refine k_mv ?_; refine k_mv ?_; refine k_nilc ?_; refine k_fa ?_; refine k_ldp ?_; refine k_st ?_; refine k_mv ?_; refine k_mv ?_; refine k_call (hpl _) ?_; refine k_not ?_; refine k_pt ?_; refine k_pf ?_; refine k_nil ?_; refine okS ?_ rfl; refine SC.cond_f rfl ?_; refine SC.skip ?_; refine SC.seq ?_ nofun; refine SC.regK ?_; refine k_mv ?_; refine k_mv ?_; refine k_nilc ?_; refine k_fa ?_; refine k_sto ?_ (c' := [SV.s tx, SV.s ed, ofv, SV.s wd, SV.s o]); refine k_nil ?_; refine okS ?_ rfl; refine SC.seq ?_ nofun; refine SC.seq ?_ nofun; refine SC.regK ?_; refine k_mv ?_; refine k_nilc ?_; refine k_fa ?_; refine k_ldp ?_; refine k_st ?_; refine k_nil ?_; refine okS ?_ rfl; refine SC.cond_t rfl ?_; refine SC.seq ?_ nofun; refine SC.seq ?_ nofun; refine SC.regK ?_; refine k_mv ?_; refine k_nilc ?_; refine k_fa ?_; refine k_ldp ?_; refine k_nil ?_; refine okS ?_ rfl; refine SC.cond_f rfl ?_; refine SC.skip ?_; refine SC.seq ?_ nofun; refine SC.regK ?_; refine k_mv ?_; refine k_mv ?_; refine k_mv ?_; refine k_nilc ?_; refine k_fa ?_; refine k_sto ?_ (c' := [pin, SV.s bw, SV.s o, SV.b false, tv bc]); refine k_nilc ?_; refine k_fa ?_; refine k_sts ?_ (c' := [pin, SV.s bw, SV.s o, SV.b true, tv bc]); refine k_nil ?_; refine okS ?_ rfl; refine SC.seq ?_ nofun; refine SC.regK ?_; refine k_mv ?_; refine k_nil ?_; refine okS ?_ rfl; refine SC.ret ?_
            refine ⟨_, rfl, ?_⟩
            dsimp only
            rw [if_pos h80]
            dsimp only
            rw [if_pos hI, if_neg (by simp [hp]), if_neg (by simp)]
            refine ⟨rfl, by dsimp only; omega, fun y hy => ?_⟩
            by_cases hyq : y = q
            · subst hyq; rw [upd_same]; ((try dsimp only) <;> (repeat first | assumption | with_reducible rfl | exact h_same rfl | refine h_ne (by first | assumption | omega) ?_))
            · rw [upd_ne _ _ hyq]
              by_cases hyX : y = X
              · subst hyX; rw [upd_same]; ((try dsimp only) <;> (repeat first | assumption | with_reducible rfl | exact h_same rfl | refine h_ne (by first | assumption | omega) ?_))
              · rw [upd_ne _ _ hyX]; ((try dsimp only) <;> (repeat first | assumption | with_reducible rfl | exact h_same rfl | refine h_ne (by first | assumption | omega) ?_))
      · have dI : decide (wd = [73, 68]) = false := decide_eq_false hI
        have hg := fun q e k => get_row bc [nProps, wd, o] q e k ht (by omega) (by simp)
        have hp := fun q e k => put_rowN bc [nProps, wd, o] q e k ht (by omega) (by simp)
        simp only [List.length_cons, List.length_nil, Nat.zero_add, Nat.reduceAdd, List.map_cons, List.map_nil, Nat.add_zero] at hg hp
        cases hgt : bc.getp (pth [nProps, wd, o]) with
        | some x =>
          rw [hgt] at hg
          refine SC.seq ?_ nofun; refine SC.regK ?_; refine k_mv ?_; refine k_nil ?_; refine okS ?_ rfl; refine SC.seq ?_ nofun; refine SC.regK ?_; refine k_mv ?_; refine k_nilc ?_; refine k_fa ?_; refine k_ldp ?_; refine k_mv ?_; refine k_nil ?_; refine okS ?_ rfl; refine SC.seq ?_ nofun; refine SC.regK ?_; refine k_mv ?_; refine k_call (hm _) ?_; refine k_mv ?_; refine k_ext ?_; refine k_ext ?_; refine k_mv ?_; refine k_mv ?_; refine k_nil ?_; refine okS ?_ rfl; refine SC.seq ?_ nofun; refine SC.seq ?_ nofun; refine SC.regK ?_; refine k_mv ?_; refine k_pn ?_; refine k_mv ?_; refine k_mv ?_; refine k_not ?_; refine k_pf ?_; refine k_mv ?_; refine k_mv ?_; refine k_nilc ?_; refine k_fa ?_; refine k_ldp ?_; refine k_sf ?_; refine k_mv ?_; refine k_no ?_; refine k_no ?_; refine k_no ?_; refine k_pf ?_; refine k_pf ?_; refine k_nil ?_; refine okS ?_ rfl; refine SC.cond_f rfl ?_; refine SC.skip ?_; refine SC.seq ?_ nofun; refine SC.regK ?_; refine k_mv ?_; refine k_mv ?_; refine k_nilc ?_; refine k_fa ?_; refine k_sto ?_ (c' := [SV.s tx, SV.s ed, ofv, SV.s wd, SV.s o]); refine k_nil ?_; refine okS ?_ rfl; refine SC.seq ?_ nofun; refine SC.seq ?_ nofun; refine SC.regK ?_; refine k_mv ?_; refine k_nilc ?_; refine k_fa ?_; refine k_ldp ?_; refine k_sf ?_; refine k_nil ?_; refine okS ?_ rfl; refine SC.cond_f rfl ?_; refine SC.skip ?_; refine SC.seq ?_ nofun; refine SC.seq ?_ nofun; refine SC.dregK ?_; refine k_mv ?_; refine k_nilc ?_; refine k_fa ?_; refine k_ldp ?_; refine k_mv ?_; refine k_nilc ?_; refine k_fa ?_; refine k_ldp ?_; refine k_mv ?_; refine k_bsl ?_ (c' := [SV.s [112, 114, 111, 112, 115], SV.s wd, SV.s o]); refine k_call1 (by ((try dsimp only) <;> (repeat first | assumption | with_reducible rfl | exact h_same rfl | refine h_ne (by first | assumption | omega) ?_))) (hg _ _ _) ?_; refine k_mv ?_; refine k_ext ?_; refine k_ext ?_; refine k_mv ?_; refine k_mv ?_; refine k_nil ?_
          refine okD (ne := [(n, q)]) ?_ (by kernel_rfl) (by first | (simp only [AllNe]; omega) | (simp only [AllNe]; and_intros <;> first | omega | trivial)); refine SC.seq ?_ nofun; refine SC.regK ?_; refine k_mv ?_; refine k_nil ?_; refine okS ?_ rfl; refine SC.cond_t rfl ?_; refine SC.seq ?_ nofun; refine SC.regK ?_; refine k_mv ?_; refine k_nil ?_; refine okS ?_ rfl; refine SC.ret ?_
          refine ⟨_, rfl, ?_⟩
          dsimp only
          rw [if_pos h80]
          dsimp only
          rw [if_neg hI, hgt]
          refine ⟨rfl, by dsimp only; omega, fun y hy => ?_⟩
          by_cases hyX : y = X
          · subst hyX; rw [upd_same]; ((try dsimp only) <;> (repeat first | assumption | with_reducible rfl | exact h_same rfl | refine h_ne (by first | assumption | omega) ?_))
          · rw [upd_ne _ _ hyX]; ((try dsimp only) <;> (repeat first | assumption | with_reducible rfl | exact h_same rfl | refine h_ne (by first | assumption | omega) ?_))
        | none =>
          rw [hgt] at hg
          refine SC.seq ?_ nofun; refine SC.regK ?_; refine k_mv ?_; refine k_nil ?_; refine okS ?_ rfl; refine SC.seq ?_ nofun; refine SC.regK ?_; refine k_mv ?_; refine k_nilc ?_; refine k_fa ?_; refine k_ldp ?_; refine k_mv ?_; refine k_nil ?_; refine okS ?_ rfl; refine SC.seq ?_ nofun; refine SC.regK ?_; refine k_mv ?_; refine k_call (hm _) ?_; refine k_mv ?_; refine k_ext ?_; refine k_ext ?_; refine k_mv ?_; refine k_mv ?_; refine k_nil ?_; refine okS ?_ rfl; refine SC.seq ?_ nofun; refine SC.seq ?_ nofun; refine SC.regK ?_; refine k_mv ?_; refine k_pn ?_; refine k_mv ?_; refine k_mv ?_; refine k_not ?_; refine k_pf ?_; refine k_mv ?_; refine k_mv ?_; refine k_nilc ?_; refine k_fa ?_; refine k_ldp ?_; refine k_sf ?_; refine k_mv ?_; refine k_no ?_; refine k_no ?_; refine k_no ?_; refine k_pf ?_; refine k_pf ?_; refine k_nil ?_; refine okS ?_ rfl; refine SC.cond_f rfl ?_; refine SC.skip ?_; refine SC.seq ?_ nofun; refine SC.regK ?_; refine k_mv ?_; refine k_mv ?_; refine k_nilc ?_; refine k_fa ?_; refine k_sto ?_ (c' := [SV.s tx, SV.s ed, ofv, SV.s wd, SV.s o]); refine k_nil ?_; refine okS ?_ rfl; refine SC.seq ?_ nofun; refine SC.seq ?_ nofun; refine SC.regK ?_; refine k_mv ?_; refine k_nilc ?_; refine k_fa ?_; refine k_ldp ?_; refine k_sf ?_; refine k_nil ?_; refine okS ?_ rfl; refine SC.cond_f rfl ?_; refine SC.skip ?_; refine SC.seq ?_ nofun; refine SC.seq ?_ nofun; refine SC.dregK ?_; refine k_mv ?_; refine k_nilc ?_; refine k_fa ?_; refine k_ldp ?_; refine k_mv ?_; refine k_nilc ?_; refine k_fa ?_; refine k_ldp ?_; refine k_mv ?_; refine k_bsl ?_ (c' := [SV.s [112, 114, 111, 112, 115], SV.s wd, SV.s o]); refine k_call1 (by ((try dsimp only) <;> (repeat first | assumption | with_reducible rfl | exact h_same rfl | refine h_ne (by first | assumption | omega) ?_))) (hg _ _ _) ?_; refine k_mv ?_; refine k_ext ?_; refine k_ext ?_; refine k_mv ?_; refine k_mv ?_; refine k_nil ?_
          refine okD (ne := [(n, q)]) ?_ (by kernel_rfl) (by first | (simp only [AllNe]; omega) | (simp only [AllNe]; and_intros <;> first | omega | trivial)); refine SC.seq ?_ nofun; refine SC.regK ?_; refine k_mv ?_; refine k_nil ?_; refine okS ?_ rfl; refine SC.cond_f rfl ?_; refine SC.skip ?_; refine SC.seq ?_ nofun; refine SC.dregK ?_; refine k_mv ?_; refine k_mv ?_; refine k_nilc ?_; refine k_fa ?_; refine k_ldp ?_; refine k_mv ?_; refine k_nilc ?_; refine k_fa ?_; refine k_ldp ?_; refine k_mv ?_; refine k_bsl ?_ (c' := [SV.s [112, 114, 111, 112, 115], SV.s wd, SV.s o]); refine k_call1 (by ((try dsimp only) <;> (repeat first | assumption | with_reducible rfl | exact h_same rfl | refine h_ne (by first | assumption | omega) ?_))) (hp _ _ _) ?_; refine k_nilc ?_; refine k_fa ?_; refine k_sto ?_ (c' := [pin, SV.s bw, SV.s bd, SV.b bnm, tv (Tr.putp bc (pth [nProps, wd, o]) Tr.nil)]); refine k_nil ?_; refine okD (ne := [(n + 1, q)]) ?_ (by kernel_rfl) (by first | (simp only [AllNe]; omega) | (simp only [AllNe]; and_intros <;> first | omega | trivial)); refine SC.seq ?_ nofun; refine SC.regK ?_; refine k_mv ?_; refine k_nil ?_; refine okS ?_ rfl; refine SC.ret ?_
          refine ⟨_, rfl, ?_⟩
          dsimp only
          rw [if_pos h80]
          dsimp only
          rw [if_neg hI, hgt]
          refine ⟨rfl, by dsimp only; omega, fun y hy => ?_⟩
          by_cases hyq : y = q
          · subst hyq; rw [upd_same]; ((try dsimp only) <;> (repeat first | assumption | with_reducible rfl | exact h_same rfl | refine h_ne (by first | assumption | omega) ?_))
          · rw [upd_ne _ _ hyq]
            by_cases hyX : y = X
            · subst hyX; rw [upd_same]; ((try dsimp only) <;> (repeat first | assumption | with_reducible rfl | exact h_same rfl | refine h_ne (by first | assumption | omega) ?_))
            · rw [upd_ne _ _ hyX]; ((try dsimp only) <;> (repeat first | assumption | with_reducible rfl | exact h_same rfl | refine h_ne (by first | assumption | omega) ?_))
    · rw [decide_eq_false (show ¬ ((o.length : Int) ≤ 80) by omega)] at hm
      refine SC.seq ?_ nofun; refine SC.regK ?_; refine k_mv ?_; refine k_nil ?_; refine okS ?_ rfl; refine SC.seq ?_ nofun; refine SC.regK ?_; refine k_mv ?_; refine k_nilc ?_; refine k_fa ?_; refine k_ldp ?_; refine k_mv ?_; refine k_nil ?_; refine okS ?_ rfl; refine SC.seq ?_ nofun; refine SC.regK ?_; refine k_mv ?_; refine k_call (hm _) ?_; refine k_mv ?_; refine k_ext ?_; refine k_ext ?_; refine k_mv ?_; refine k_mv ?_; refine k_nil ?_; refine okS ?_ rfl; refine SC.seq ?_ nofun; refine SC.seq ?_ nofun; refine SC.regK ?_; refine k_mv ?_; refine k_pn ?_; refine k_mv ?_; refine k_mv ?_; refine k_not ?_; refine k_pf ?_; refine k_mv ?_; refine k_no ?_; refine k_no ?_; refine k_no ?_; refine k_no ?_; refine k_no ?_; refine k_no ?_; refine k_no ?_; refine k_no ?_; refine k_no ?_; refine k_no ?_; refine k_pt ?_; refine k_nil ?_; refine okS ?_ rfl; refine SC.cond_t rfl ?_; refine SC.seq ?_ nofun; refine SC.regK ?_; refine k_mv ?_; refine k_nil ?_; refine okS ?_ rfl; refine SC.ret ?_
      refine ⟨_, rfl, ?_⟩
      dsimp only
      rw [if_neg h80]
      exact ⟨rfl, Nat.le_refl _, fun y hy => by ((try dsimp only) <;> (repeat first | assumption | with_reducible rfl | exact h_same rfl | refine h_ne (by first | assumption | omega) ?_))⟩
end
end Go.Proofs.YtpacfelhjjmmkaaDoor
end
section
set_option maxHeartbeats 20000000
namespace Go.Proofs.YtpacfelhjjmmkaaDoor
open Go Go.Sy Go.Tr Go.Kb Go.RowKit Go.Cd
set_option linter.unusedVariables false
set_option linter.unusedSimpArgs false
abbrev rowL (c : List SV) : Option Blk := some (.row 71 5 c)
def Laid (n F L m : Nat) (H : Nat → Option Blk) (lc c : List SV) (at_ tvv : SV) (s' : St) : Prop :=
  ∃ L', n ≤ L' ∧ L' < s'.nxt ∧ n ≤ s'.nxt ∧ s'.H F = rowF (.sl L' 0 (m + 1)) at_ tvv ∧ s'.H L' = rowL (lc ++ c) ∧ ∀ y, y < n → y ≠ F → y ≠ L → s'.H y = H y
section
variable {F L m n : Nat} {H : Nat → Option Blk} {tx ed : List UInt8} {lc : List SV} {at_ tvv : SV}
theorem take_blank (hF : H F = rowF (.sl L 0 m) at_ tvv) (hL : H L = rowL lc) (hll : lc.length = m * 5) (hlo : lc.all SV.one = true) (hat : at_ = .nilp ∨ ∃ q, at_ = .p q 0) (hFL : F ≠ L) (hFn : F < n) (hLn : L < n) (hm : m ≤ 1000000) (hl : tx.length ≤ 1000000)
    (hb : trimR (tx.dropWhile blk) = []) : SCallR Tryd.prog 29 [.p F 0, .agg [.s tx, .s ed, .nilp, .s [], .s []]] ⟨H, n⟩ (fun r s' => r = .i .i64 0 ∧ Laid n F L m H lc [.s tx, .s ed, at_, .s [], .s []] at_ tvv s') := by
  refine SCallR.enter cc_card_file_take ?_
  dsimp only [c_card_file_take, argT]
  have ht := fun s => ltrim_sc tx s hl
  unfold trimV at ht
  rw [hb] at ht
  rcases hat with rfl | ⟨q, rfl⟩
  · refine SC.seq ?_ nofun; refine SC.regK ?_; refine k_box ?_ (c := [SV.s tx, SV.s ed, SV.nilp, SV.s [], SV.s []]); refine k_mv ?_; refine k_nil ?_; refine okS ?_ rfl; refine SC.seq ?_ nofun; refine SC.regK ?_; refine k_fa ?_; refine k_fa ?_; refine k_ldp ?_; refine k_call (ht _) ?_; refine k_mv ?_; refine k_ext ?_; refine k_ext ?_; refine k_ext ?_; refine k_mv ?_; refine k_mv ?_; refine k_mv ?_; refine k_nil ?_; refine okS ?_ rfl; refine SC.seq ?_ nofun; refine SC.seq ?_ nofun; refine SC.regK ?_; refine k_mv ?_; refine k_st ?_; refine k_nil ?_; refine okS ?_ rfl; refine SC.cond_t rfl ?_; refine SC.seq ?_ nofun; refine SC.regK ?_; refine k_mv ?_; refine k_nilc ?_; refine k_fa ?_; refine k_ldp ?_; refine k_fa ?_; refine k_sts ?_ (c' := [SV.s tx, SV.s ed, SV.nilp, SV.s [], SV.s []]); refine k_nil ?_; refine okS ?_ rfl; refine SC.seq ?_ nofun; refine SC.dregK ?_; refine k_mv ?_; refine k_mv ?_; refine k_nilc ?_; refine k_fa ?_; refine k_ldp ?_; refine k_lnp ?_ (c' := [SV.s tx, SV.s ed, SV.nilp, SV.s [], SV.s []]); refine k_bsl ?_ (c' := [SV.s tx, SV.s ed, SV.nilp, SV.s [], SV.s []]); refine k_appo ?_ (c' := lc ++ [SV.s tx, SV.s ed, SV.nilp, SV.s [], SV.s []]) (new := [SV.s tx, SV.s ed, SV.nilp, SV.s [], SV.s []]); refine k_nilc ?_; refine k_fa ?_; refine k_sto ?_ (c' := [SV.sl (n + 1 + 1) 0 (m + 1), SV.nilp, tvv]); refine k_nil ?_; refine okD (ne := [(n + 1, F)]) ?_ (by kernel_rfl) (by first | (simp only [AllNe]; omega) | (simp only [AllNe]; and_intros <;> first | omega | trivial)); refine SC.seq ?_ nofun; refine SC.regK ?_; refine k_mv ?_; refine k_nil ?_; refine okS ?_ rfl; refine SC.ret ?_
    refine ⟨_, rfl, rfl, _, ?_, ?_, ?_, by ((try dsimp only) <;> (repeat first | assumption | with_reducible rfl | exact h_same rfl | refine h_ne (by first | assumption | omega) ?_)), by ((try dsimp only) <;> (repeat first | assumption | with_reducible rfl | exact h_same rfl | refine h_ne (by first | assumption | omega) ?_)), fun y h1 h2 h3 => by ((try dsimp only) <;> (repeat first | assumption | with_reducible rfl | exact h_same rfl | refine h_ne (by first | assumption | omega) ?_))⟩ <;> ((try dsimp only); omega)
  · refine SC.seq ?_ nofun; refine SC.regK ?_; refine k_box ?_ (c := [SV.s tx, SV.s ed, SV.nilp, SV.s [], SV.s []]); refine k_mv ?_; refine k_nil ?_; refine okS ?_ rfl; refine SC.seq ?_ nofun; refine SC.regK ?_; refine k_fa ?_; refine k_fa ?_; refine k_ldp ?_; refine k_call (ht _) ?_; refine k_mv ?_; refine k_ext ?_; refine k_ext ?_; refine k_ext ?_; refine k_mv ?_; refine k_mv ?_; refine k_mv ?_; refine k_nil ?_; refine okS ?_ rfl; refine SC.seq ?_ nofun; refine SC.seq ?_ nofun; refine SC.regK ?_; refine k_mv ?_; refine k_st ?_; refine k_nil ?_; refine okS ?_ rfl; refine SC.cond_t rfl ?_; refine SC.seq ?_ nofun; refine SC.regK ?_; refine k_mv ?_; refine k_nilc ?_; refine k_fa ?_; refine k_ldp ?_; refine k_fa ?_; refine k_sts ?_ (c' := [SV.s tx, SV.s ed, SV.p q 0, SV.s [], SV.s []]); refine k_nil ?_; refine okS ?_ rfl; refine SC.seq ?_ nofun; refine SC.dregK ?_; refine k_mv ?_; refine k_mv ?_; refine k_nilc ?_; refine k_fa ?_; refine k_ldp ?_; refine k_lnp ?_ (c' := [SV.s tx, SV.s ed, SV.p q 0, SV.s [], SV.s []]); refine k_bsl ?_ (c' := [SV.s tx, SV.s ed, SV.p q 0, SV.s [], SV.s []]); refine k_appo ?_ (c' := lc ++ [SV.s tx, SV.s ed, SV.p q 0, SV.s [], SV.s []]) (new := [SV.s tx, SV.s ed, SV.p q 0, SV.s [], SV.s []]); refine k_nilc ?_; refine k_fa ?_; refine k_sto ?_ (c' := [SV.sl (n + 1 + 1) 0 (m + 1), SV.p q 0, tvv]); refine k_nil ?_; refine okD (ne := [(n + 1, F)]) ?_ (by kernel_rfl) (by first | (simp only [AllNe]; omega) | (simp only [AllNe]; and_intros <;> first | omega | trivial)); refine SC.seq ?_ nofun; refine SC.regK ?_; refine k_mv ?_; refine k_nil ?_; refine okS ?_ rfl; refine SC.ret ?_
    refine ⟨_, rfl, rfl, _, ?_, ?_, ?_, by ((try dsimp only) <;> (repeat first | assumption | with_reducible rfl | exact h_same rfl | refine h_ne (by first | assumption | omega) ?_)), by ((try dsimp only) <;> (repeat first | assumption | with_reducible rfl | exact h_same rfl | refine h_ne (by first | assumption | omega) ?_)), fun y h1 h2 h3 => by ((try dsimp only) <;> (repeat first | assumption | with_reducible rfl | exact h_same rfl | refine h_ne (by first | assumption | omega) ?_))⟩ <;> ((try dsimp only); omega)
theorem take_bad (hF : H F = rowF (.sl L 0 m) at_ tvv) (hFn : F < n) (hl : tx.length ≤ 1000000)
    (hb : trimR (tx.dropWhile blk) ≠ []) (hbad : ∀ i, ixB 58 tx = some i → wordL (tx.take i) = true → (tx.take i = bBEGIN ∨ tx.take i = bEND) ∧ wordL (tx.drop (i + 1)) = false) : SCallR Tryd.prog 29 [.p F 0, .agg [.s tx, .s ed, .nilp, .s [], .s []]] ⟨H, n⟩ (fun r s' => r = .i .i64 6) := by
  refine SCallR.enter cc_card_file_take ?_
  dsimp only [c_card_file_take, argT]
  have ht := fun s => ltrim_sc tx s hl
  have hb' : decide (trimR (tx.dropWhile blk) = []) = false := decide_eq_false hb
  unfold trimV at ht
  have hc := fun s => cut_sc tx 58 s hl
  unfold cutV at hc
  cases hi : ixB 58 tx with
  | none =>
    rw [hi] at hc
    dsimp only at hc
    refine SC.seq ?_ nofun; refine SC.regK ?_; refine k_box ?_ (c := [SV.s tx, SV.s ed, SV.nilp, SV.s [], SV.s []]); refine k_mv ?_; refine k_nil ?_; refine okS ?_ rfl; refine SC.seq ?_ nofun; refine SC.regK ?_; refine k_fa ?_; refine k_fa ?_; refine k_ldp ?_; refine k_call (ht _) ?_; refine k_mv ?_; refine k_ext ?_; refine k_ext ?_; refine k_ext ?_; refine k_mv ?_; refine k_mv ?_; refine k_mv ?_; refine k_nil ?_; refine okS ?_ rfl; refine SC.seq ?_ nofun; refine SC.seq ?_ nofun; refine SC.regK ?_; refine k_mv ?_; refine k_sf ?_; refine k_nil ?_; refine okS ?_ rfl; refine SC.cond_f rfl ?_; refine SC.skip ?_; refine SC.seq ?_ nofun; refine SC.regK ?_; refine k_mv ?_; refine k_nil ?_; refine okS ?_ rfl; refine SC.seq ?_ nofun; refine SC.regK ?_; refine k_mv ?_; refine k_nil ?_; refine okS ?_ rfl; refine SC.seq ?_ nofun; refine SC.regK ?_; refine k_fa ?_; refine k_fa ?_; refine k_ldp ?_; refine k_call (hc _) ?_; refine k_mv ?_; refine k_ext ?_; refine k_ext ?_; refine k_ext ?_; refine k_fa ?_; refine k_sts ?_ (c' := [SV.s tx, SV.s ed, SV.nilp, SV.s tx, SV.s []]); refine k_mv ?_; refine k_mv ?_; refine k_nil ?_; refine okS ?_ rfl; refine SC.seq ?_ nofun; refine SC.seq ?_ nofun; refine SC.regK ?_; refine k_mv ?_; refine k_not ?_; refine k_mv ?_; refine k_no ?_; refine k_no ?_; refine k_no ?_; refine k_no ?_; refine k_pt ?_; refine k_mv ?_; refine k_no ?_; refine k_no ?_; refine k_no ?_; refine k_no ?_; refine k_no ?_; refine k_no ?_; refine k_no ?_; refine k_no ?_; refine k_no ?_; refine k_no ?_; refine k_no ?_; refine k_no ?_; refine k_no ?_; refine k_pt ?_; refine k_nil ?_; refine okS ?_ rfl; refine SC.cond_t rfl ?_; refine SC.seq ?_ nofun; refine SC.regK ?_; refine k_mv ?_; refine k_nil ?_; refine okS ?_ rfl; refine SC.ret ?_
    exact ⟨_, rfl, rfl⟩
  | some i =>
    rw [hi] at hc
    dsimp only at hc
    have hw := fun s => cword_sc (tx.take i) s (by rw [List.length_take]; omega)
    cases hwl : wordL (tx.take i) with
    | false =>
      rw [hwl] at hw
      refine SC.seq ?_ nofun; refine SC.regK ?_; refine k_box ?_ (c := [SV.s tx, SV.s ed, SV.nilp, SV.s [], SV.s []]); refine k_mv ?_; refine k_nil ?_; refine okS ?_ rfl; refine SC.seq ?_ nofun; refine SC.regK ?_; refine k_fa ?_; refine k_fa ?_; refine k_ldp ?_; refine k_call (ht _) ?_; refine k_mv ?_; refine k_ext ?_; refine k_ext ?_; refine k_ext ?_; refine k_mv ?_; refine k_mv ?_; refine k_mv ?_; refine k_nil ?_; refine okS ?_ rfl; refine SC.seq ?_ nofun; refine SC.seq ?_ nofun; refine SC.regK ?_; refine k_mv ?_; refine k_sf ?_; refine k_nil ?_; refine okS ?_ rfl; refine SC.cond_f rfl ?_; refine SC.skip ?_; refine SC.seq ?_ nofun; refine SC.regK ?_; refine k_mv ?_; refine k_nil ?_; refine okS ?_ rfl; refine SC.seq ?_ nofun; refine SC.regK ?_; refine k_mv ?_; refine k_nil ?_; refine okS ?_ rfl; refine SC.seq ?_ nofun; refine SC.regK ?_; refine k_fa ?_; refine k_fa ?_; refine k_ldp ?_; refine k_call (hc _) ?_; refine k_mv ?_; refine k_ext ?_; refine k_ext ?_; refine k_ext ?_; refine k_fa ?_; refine k_sts ?_ (c' := [SV.s tx, SV.s ed, SV.nilp, SV.s (List.take i tx), SV.s []]); refine k_mv ?_; refine k_mv ?_; refine k_nil ?_; refine okS ?_ rfl; refine SC.seq ?_ nofun; refine SC.seq ?_ nofun; refine SC.regK ?_; refine k_mv ?_; refine k_not ?_; refine k_mv ?_; refine k_fa ?_; refine k_ldp ?_; refine k_call (hw _) ?_; refine k_not ?_; refine k_pf ?_; refine k_mv ?_; refine k_no ?_; refine k_no ?_; refine k_no ?_; refine k_no ?_; refine k_no ?_; refine k_no ?_; refine k_no ?_; refine k_no ?_; refine k_no ?_; refine k_no ?_; refine k_no ?_; refine k_no ?_; refine k_no ?_; refine k_pt ?_; refine k_nil ?_; refine okS ?_ rfl; refine SC.cond_t rfl ?_; refine SC.seq ?_ nofun; refine SC.regK ?_; refine k_mv ?_; refine k_nil ?_; refine okS ?_ rfl; refine SC.ret ?_
      exact ⟨_, rfl, rfl⟩
    | true =>
      rw [hwl] at hw
      obtain ⟨h1, h2⟩ := hbad i hi hwl
      have hv := fun s => cword_sc (tx.drop (i + 1)) s (by rw [List.length_drop]; omega)
      rw [h2] at hv
      rcases h1 with hB | hB
      · have d1 : decide (tx.take i = [66, 69, 71, 73, 78]) = true := decide_eq_true hB
        refine SC.seq ?_ nofun; refine SC.regK ?_; refine k_box ?_ (c := [SV.s tx, SV.s ed, SV.nilp, SV.s [], SV.s []]); refine k_mv ?_; refine k_nil ?_; refine okS ?_ rfl; refine SC.seq ?_ nofun; refine SC.regK ?_; refine k_fa ?_; refine k_fa ?_; refine k_ldp ?_; refine k_call (ht _) ?_; refine k_mv ?_; refine k_ext ?_; refine k_ext ?_; refine k_ext ?_; refine k_mv ?_; refine k_mv ?_; refine k_mv ?_; refine k_nil ?_; refine okS ?_ rfl; refine SC.seq ?_ nofun; refine SC.seq ?_ nofun; refine SC.regK ?_; refine k_mv ?_; refine k_sf ?_; refine k_nil ?_; refine okS ?_ rfl; refine SC.cond_f rfl ?_; refine SC.skip ?_; refine SC.seq ?_ nofun; refine SC.regK ?_; refine k_mv ?_; refine k_nil ?_; refine okS ?_ rfl; refine SC.seq ?_ nofun; refine SC.regK ?_; refine k_mv ?_; refine k_nil ?_; refine okS ?_ rfl; refine SC.seq ?_ nofun; refine SC.regK ?_; refine k_fa ?_; refine k_fa ?_; refine k_ldp ?_; refine k_call (hc _) ?_; refine k_mv ?_; refine k_ext ?_; refine k_ext ?_; refine k_ext ?_; refine k_fa ?_; refine k_sts ?_ (c' := [SV.s tx, SV.s ed, SV.nilp, SV.s (List.take i tx), SV.s []]); refine k_mv ?_; refine k_mv ?_; refine k_nil ?_; refine okS ?_ rfl; refine SC.seq ?_ nofun; refine SC.seq ?_ nofun; refine SC.regK ?_; refine k_mv ?_; refine k_not ?_; refine k_mv ?_; refine k_fa ?_; refine k_ldp ?_; refine k_call (hw _) ?_; refine k_not ?_; refine k_pf ?_; refine k_mv ?_; refine k_fa ?_; refine k_ldp ?_; refine k_st ?_; refine k_mv ?_; refine k_no ?_; refine k_no ?_; refine k_no ?_; refine k_pt ?_; refine k_mv ?_; refine k_mv ?_; refine k_call (hv _) ?_; refine k_not ?_; refine k_pt ?_; refine k_pf ?_; refine k_nil ?_; refine okS ?_ rfl; refine SC.cond_t rfl ?_; refine SC.seq ?_ nofun; refine SC.regK ?_; refine k_mv ?_; refine k_nil ?_; refine okS ?_ rfl; refine SC.ret ?_
        exact ⟨_, rfl, rfl⟩
      · have d1 : decide (tx.take i = [66, 69, 71, 73, 78]) = false := by rw [hB]; rfl
        have d2 : decide (tx.take i = [69, 78, 68]) = true := decide_eq_true hB
        refine SC.seq ?_ nofun; refine SC.regK ?_; refine k_box ?_ (c := [SV.s tx, SV.s ed, SV.nilp, SV.s [], SV.s []]); refine k_mv ?_; refine k_nil ?_; refine okS ?_ rfl; refine SC.seq ?_ nofun; refine SC.regK ?_; refine k_fa ?_; refine k_fa ?_; refine k_ldp ?_; refine k_call (ht _) ?_; refine k_mv ?_; refine k_ext ?_; refine k_ext ?_; refine k_ext ?_; refine k_mv ?_; refine k_mv ?_; refine k_mv ?_; refine k_nil ?_; refine okS ?_ rfl; refine SC.seq ?_ nofun; refine SC.seq ?_ nofun; refine SC.regK ?_; refine k_mv ?_; refine k_sf ?_; refine k_nil ?_; refine okS ?_ rfl; refine SC.cond_f rfl ?_; refine SC.skip ?_; refine SC.seq ?_ nofun; refine SC.regK ?_; refine k_mv ?_; refine k_nil ?_; refine okS ?_ rfl; refine SC.seq ?_ nofun; refine SC.regK ?_; refine k_mv ?_; refine k_nil ?_; refine okS ?_ rfl; refine SC.seq ?_ nofun; refine SC.regK ?_; refine k_fa ?_; refine k_fa ?_; refine k_ldp ?_; refine k_call (hc _) ?_; refine k_mv ?_; refine k_ext ?_; refine k_ext ?_; refine k_ext ?_; refine k_fa ?_; refine k_sts ?_ (c' := [SV.s tx, SV.s ed, SV.nilp, SV.s (List.take i tx), SV.s []]); refine k_mv ?_; refine k_mv ?_; refine k_nil ?_; refine okS ?_ rfl; refine SC.seq ?_ nofun; refine SC.seq ?_ nofun; refine SC.regK ?_; refine k_mv ?_; refine k_not ?_; refine k_mv ?_; refine k_fa ?_; refine k_ldp ?_; refine k_call (hw _) ?_; refine k_not ?_; refine k_pf ?_; refine k_mv ?_; refine k_fa ?_; refine k_ldp ?_; refine k_sf ?_; refine k_mv ?_; refine k_fa ?_; refine k_ldp ?_; refine k_st ?_; refine k_pf ?_; refine k_mv ?_; refine k_mv ?_; refine k_call (hv _) ?_; refine k_not ?_; refine k_pt ?_; refine k_pf ?_; refine k_nil ?_; refine okS ?_ rfl; refine SC.cond_t rfl ?_; refine SC.seq ?_ nofun; refine SC.regK ?_; refine k_mv ?_; refine k_nil ?_; refine okS ?_ rfl; refine SC.ret ?_
        exact ⟨_, rfl, rfl⟩
theorem deep_new {k q n : Nat} {ix : Nat → Nat} {B : Nat → OB} {H : Nat → Option Blk} {b c d e : SV} (hq : H q = rowB (atV k ix) b c d e) (hk : k ≤ 100) (hB : ∀ i, i < k → H (ix i) = some (.row 105 5 (blkC ix i (B i)))) : SCall Tryd.prog 53 [.p q 0] ⟨H, n⟩ (.i .i64 ((k + 1 : Nat) : Int)) ⟨H, n⟩ := by
  refine SCallR.pure (SCallR.enter cc_card_block_deep ?_) .i
  have hi := deep_sc 0 ix B k H n hk hB
  dsimp only [c_card_block_deep, argT]
  refine SC.seq ?_ nofun; refine SC.regK ?_; refine k_mv ?_; refine k_nil ?_; refine okS ?_ rfl; refine SC.seq ?_ nofun; refine SC.seq ?_ nofun; refine SC.regK ?_; refine k_mv ?_; refine k_pn ?_; refine k_nil ?_; refine okS ?_ rfl; refine SC.cond_f rfl ?_; refine SC.skip ?_; refine SC.seq ?_ nofun; refine SC.regK ?_; refine k_mv ?_; refine k_nilc ?_; refine k_fa ?_; refine k_ldp ?_; refine k_callA hi ?_; refine k_add ?_; refine k_mv ?_; refine k_nil ?_; refine okS ?_ rfl; refine SC.ret ?_
  refine ⟨_, rfl, ?_, fun _ _ => rfl⟩
  congr 1
  omega
theorem take_begin {k : Nat} {ix : Nat → Nat} {B : Nat → OB} (hF : H F = rowF (.sl L 0 m) (atV k ix) tvv) (hL : H L = rowL lc) (hll : lc.length = m * 5) (hlo : lc.all SV.one = true) (hFL : F ≠ L) (hFn : F < n) (hLn : L < n) (hm : m ≤ 1000000) (hl : tx.length ≤ 1000000) (hk : k ≤ 50)
    (hB : ∀ i, i < k → H (ix i) = some (.row 105 5 (blkC ix i (B i)))) (hn : ∀ i, i < k → ix i ≠ F ∧ ix i ≠ L ∧ ix i < n)
    (hb : trimR (tx.dropWhile blk) ≠ []) {i : Nat} (hi : ixB 58 tx = some i) (hw : tx.take i = bBEGIN) (hv : wordL (tx.drop (i + 1)) = true) :
    SCallR Tryd.prog 29 [.p F 0, .agg [.s tx, .s ed, .nilp, .s [], .s []]] ⟨H, n⟩ (fun r s' => if 3 < k + 1 then r = .i .i64 11 else
      r = .i .i64 0 ∧ ∃ q, n ≤ q ∧ q < s'.nxt ∧ s'.H q = rowB (atV k ix) (.s (tx.drop (i + 1))) (.s []) (.b false) (tv emptyT) ∧ Laid n F L m H lc [.s tx, .s ed, .p q 0, .s bBEGIN, .s []] (.p q 0) tvv s') := by
  refine SCallR.enter cc_card_file_take ?_
  dsimp only [c_card_file_take, argT]
  have ht := fun s => ltrim_sc tx s hl
  have hb' : decide (trimR (tx.dropWhile blk) = []) = false := decide_eq_false hb
  unfold trimV at ht
  have hc := fun s => cut_sc tx 58 s hl
  unfold cutV at hc
  rw [hi] at hc
  dsimp only at hc
  rw [hw] at hc
  have hwd := fun s => cword_sc bBEGIN s (by decide)
  have hwt : wordL bBEGIN = true := by decide +kernel
  rw [hwt] at hwd
  have hvd := fun s => cword_sc (tx.drop (i + 1)) s (by rw [List.length_drop]; omega)
  rw [hv] at hvd
  unfold bBEGIN at hc hwd
  have he := cempty_sc
  cases k with
  | zero =>
    dsimp only [atV] at hF
    refine SC.seq ?_ nofun; refine SC.regK ?_; refine k_box ?_ (c := [SV.s tx, SV.s ed, SV.nilp, SV.s [], SV.s []]); refine k_mv ?_; refine k_nil ?_; refine okS ?_ rfl; refine SC.seq ?_ nofun; refine SC.regK ?_; refine k_fa ?_; refine k_fa ?_; refine k_ldp ?_; refine k_call (ht _) ?_; refine k_mv ?_; refine k_ext ?_; refine k_ext ?_; refine k_ext ?_; refine k_mv ?_; refine k_mv ?_; refine k_mv ?_; refine k_nil ?_; refine okS ?_ rfl; refine SC.seq ?_ nofun; refine SC.seq ?_ nofun; refine SC.regK ?_; refine k_mv ?_; refine k_sf ?_; refine k_nil ?_; refine okS ?_ rfl; refine SC.cond_f rfl ?_; refine SC.skip ?_; refine SC.seq ?_ nofun; refine SC.regK ?_; refine k_mv ?_; refine k_nil ?_; refine okS ?_ rfl; refine SC.seq ?_ nofun; refine SC.regK ?_; refine k_mv ?_; refine k_nil ?_; refine okS ?_ rfl; refine SC.seq ?_ nofun; refine SC.regK ?_; refine k_fa ?_; refine k_fa ?_; refine k_ldp ?_; refine k_call (hc _) ?_; refine k_mv ?_; refine k_ext ?_; refine k_ext ?_; refine k_ext ?_; refine k_fa ?_; refine k_sts ?_ (c' := [SV.s tx, SV.s ed, SV.nilp, SV.s [66, 69, 71, 73, 78], SV.s []]); refine k_mv ?_; refine k_mv ?_; refine k_nil ?_; refine okS ?_ rfl; refine SC.seq ?_ nofun; refine SC.seq ?_ nofun; refine SC.regK ?_; refine k_mv ?_; refine k_not ?_; refine k_mv ?_; refine k_fa ?_; refine k_ldp ?_; refine k_call (hwd _) ?_; refine k_not ?_; refine k_pf ?_; refine k_mv ?_; refine k_fa ?_; refine k_ldp ?_; refine k_st ?_; refine k_mv ?_; refine k_no ?_; refine k_no ?_; refine k_no ?_; refine k_pt ?_; refine k_mv ?_; refine k_mv ?_; refine k_call (hvd _) ?_; refine k_not ?_; refine k_pt ?_; refine k_pf ?_; refine k_nil ?_; refine okS ?_ rfl; refine SC.cond_f rfl ?_; refine SC.skip ?_; refine SC.seq ?_ nofun; refine SC.regK ?_; refine k_mv ?_; refine k_nilc ?_; refine k_fa ?_; refine k_ldp ?_; refine k_fa ?_; refine k_sts ?_ (c' := [SV.s tx, SV.s ed, SV.nilp, SV.s [66, 69, 71, 73, 78], SV.s []]); refine k_nil ?_; refine okS ?_ rfl; refine SC.seq ?_ nofun; refine SC.regK ?_
    refine k_mv ?_; refine k_nil ?_; refine okS ?_ rfl; refine SC.seq ?_ nofun; refine SC.seq ?_ nofun; refine SC.regK ?_; refine k_fa ?_; refine k_ldp ?_; refine k_nil ?_; refine okS ?_ rfl; refine SC.blk ?_; refine SC.seq ?_ nofun; refine SC.regK ?_; refine k_st ?_; refine k_mv ?_; refine k_nil ?_; refine okS ?_ rfl; refine SC.cond_t rfl ?_; refine SC.seq ?_ nofun; refine SC.dregK ?_; refine k_mv ?_; refine k_mv ?_; refine k_nilc ?_; refine k_fa ?_; refine k_ldp ?_; refine k_mv ?_; refine k_call (he _) ?_; refine k_bld ?_; refine k_box ?_ (c := [SV.nilp, SV.s (List.drop (i + 1) tx), SV.s [], SV.b false, tv emptyT]); refine k_nilc ?_; refine k_fa ?_; refine k_sto ?_ (c' := [SV.sl L 0 m, SV.p (n + 1) 0, tvv]); refine k_nil ?_; refine okD (ne := []) ?_ (by kernel_rfl) trivial; refine SC.seq ?_ nofun; refine SC.regK ?_; refine k_mv ?_; refine k_nilc ?_; refine k_fa ?_; refine k_ldp ?_; refine k_fa ?_; refine k_sto ?_ (c' := [SV.s tx, SV.s ed, SV.p (n + 1) 0, SV.s [66, 69, 71, 73, 78], SV.s []]); refine k_nil ?_; refine okS ?_ rfl; refine SC.seq ?_ nofun; refine SC.regK ?_; refine k_mv ?_; refine k_nilc ?_; refine k_fa ?_; refine k_ldp ?_
    refine k_callA (deep_new (q := n + 1) (b := .s (tx.drop (i + 1))) (c := .s []) (d := .b false) (e := tv emptyT) (k := 0) (ix := ix) (B := B) (by ((try dsimp only) <;> (repeat first | assumption | with_reducible rfl | exact h_same rfl | refine h_ne (by first | assumption | omega) ?_))) (by omega) (fun i hi => absurd hi (Nat.not_lt_zero _))) ?_
    refine k_if ?_; refine k_nil ?_; refine okS ?_ rfl; refine SC.cond_f rfl ?_; refine SC.skip ?_; refine SC.seq ?_ nofun; refine SC.dregK ?_; refine k_mv ?_; refine k_mv ?_; refine k_nilc ?_; refine k_fa ?_; refine k_ldp ?_; refine k_lnp ?_ (c' := [SV.s tx, SV.s ed, SV.p (n + 1) 0, SV.s [66, 69, 71, 73, 78], SV.s []]); refine k_bsl ?_ (c' := [SV.s tx, SV.s ed, SV.p (n + 1) 0, SV.s [66, 69, 71, 73, 78], SV.s []]); refine k_appo ?_ (c' := lc ++ [SV.s tx, SV.s ed, SV.p (n + 1) 0, SV.s [66, 69, 71, 73, 78], SV.s []]) (new := [SV.s tx, SV.s ed, SV.p (n + 1) 0, SV.s [66, 69, 71, 73, 78], SV.s []]); refine k_nilc ?_; refine k_fa ?_; refine k_sto ?_ (c' := [SV.sl (n + 1 + 1 + 1) 0 (m + 1), SV.p (n + 1) 0, tvv]); refine k_nil ?_; refine okD (ne := [(n + 2, F)]) ?_ (by kernel_rfl) (by first | (simp only [AllNe]; omega) | (simp only [AllNe]; and_intros <;> first | omega | trivial)); refine SC.seq ?_ nofun; refine SC.regK ?_; refine k_mv ?_; refine k_mv ?_; refine k_nil ?_; refine okS ?_ rfl; refine SC.ret ?_
    refine ⟨_, rfl, ?_⟩
    dsimp only
    rw [if_neg (by omega)]
    refine ⟨rfl, n + 1, by omega, by omega, by ((try dsimp only) <;> (repeat first | assumption | with_reducible rfl | exact h_same rfl | refine h_ne (by first | assumption | omega) ?_)), _, ?_, ?_, ?_, by ((try dsimp only) <;> (repeat first | assumption | with_reducible rfl | exact h_same rfl | refine h_ne (by first | assumption | omega) ?_)), by ((try dsimp only) <;> (repeat first | assumption | with_reducible rfl | exact h_same rfl | refine h_ne (by first | assumption | omega) ?_)), fun y h1 h2 h3 => by ((try dsimp only) <;> (repeat first | assumption | with_reducible rfl | exact h_same rfl | refine h_ne (by first | assumption | omega) ?_))⟩ <;> ((try dsimp only); omega)
  | succ k =>
    dsimp only [atV] at hF
    have hBc := fun (H' : Nat → Option Blk) (h : ∀ y, y < n → y ≠ F → y ≠ L → H' y = H y) => (fun i hi => by
      obtain ⟨h1, h2, h3⟩ := hn i hi
      rw [h _ h3 h1 h2]; exact hB i hi : ∀ i, i < k + 1 → H' (ix i) = some (.row 105 5 (blkC ix i (B i))))
    refine SC.seq ?_ nofun; refine SC.regK ?_; refine k_box ?_ (c := [SV.s tx, SV.s ed, SV.nilp, SV.s [], SV.s []]); refine k_mv ?_; refine k_nil ?_; refine okS ?_ rfl; refine SC.seq ?_ nofun; refine SC.regK ?_; refine k_fa ?_; refine k_fa ?_; refine k_ldp ?_; refine k_call (ht _) ?_; refine k_mv ?_; refine k_ext ?_; refine k_ext ?_; refine k_ext ?_; refine k_mv ?_; refine k_mv ?_; refine k_mv ?_; refine k_nil ?_; refine okS ?_ rfl; refine SC.seq ?_ nofun; refine SC.seq ?_ nofun; refine SC.regK ?_; refine k_mv ?_; refine k_sf ?_; refine k_nil ?_; refine okS ?_ rfl; refine SC.cond_f rfl ?_; refine SC.skip ?_; refine SC.seq ?_ nofun; refine SC.regK ?_; refine k_mv ?_; refine k_nil ?_; refine okS ?_ rfl; refine SC.seq ?_ nofun; refine SC.regK ?_; refine k_mv ?_; refine k_nil ?_; refine okS ?_ rfl; refine SC.seq ?_ nofun; refine SC.regK ?_; refine k_fa ?_; refine k_fa ?_; refine k_ldp ?_; refine k_call (hc _) ?_; refine k_mv ?_; refine k_ext ?_; refine k_ext ?_; refine k_ext ?_; refine k_fa ?_; refine k_sts ?_ (c' := [SV.s tx, SV.s ed, SV.nilp, SV.s [66, 69, 71, 73, 78], SV.s []]); refine k_mv ?_; refine k_mv ?_; refine k_nil ?_; refine okS ?_ rfl; refine SC.seq ?_ nofun; refine SC.seq ?_ nofun; refine SC.regK ?_; refine k_mv ?_; refine k_not ?_; refine k_mv ?_; refine k_fa ?_; refine k_ldp ?_; refine k_call (hwd _) ?_; refine k_not ?_; refine k_pf ?_; refine k_mv ?_; refine k_fa ?_; refine k_ldp ?_; refine k_st ?_; refine k_mv ?_; refine k_no ?_; refine k_no ?_; refine k_no ?_; refine k_pt ?_; refine k_mv ?_; refine k_mv ?_; refine k_call (hvd _) ?_; refine k_not ?_; refine k_pt ?_; refine k_pf ?_; refine k_nil ?_; refine okS ?_ rfl; refine SC.cond_f rfl ?_; refine SC.skip ?_; refine SC.seq ?_ nofun; refine SC.regK ?_; refine k_mv ?_; refine k_nilc ?_; refine k_fa ?_; refine k_ldp ?_; refine k_fa ?_; refine k_sts ?_ (c' := [SV.s tx, SV.s ed, SV.p (ix k) 0, SV.s [66, 69, 71, 73, 78], SV.s []]); refine k_nil ?_; refine okS ?_ rfl; refine SC.seq ?_ nofun; refine SC.regK ?_
    refine k_mv ?_; refine k_nil ?_; refine okS ?_ rfl; refine SC.seq ?_ nofun; refine SC.seq ?_ nofun; refine SC.regK ?_; refine k_fa ?_; refine k_ldp ?_; refine k_nil ?_; refine okS ?_ rfl; refine SC.blk ?_; refine SC.seq ?_ nofun; refine SC.regK ?_; refine k_st ?_; refine k_mv ?_; refine k_nil ?_; refine okS ?_ rfl; refine SC.cond_t rfl ?_; refine SC.seq ?_ nofun; refine SC.dregK ?_; refine k_mv ?_; refine k_mv ?_; refine k_nilc ?_; refine k_fa ?_; refine k_ldp ?_; refine k_mv ?_; refine k_call (he _) ?_; refine k_bld ?_; refine k_box ?_ (c := [SV.p (ix k) 0, SV.s (List.drop (i + 1) tx), SV.s [], SV.b false, tv emptyT]); refine k_nilc ?_; refine k_fa ?_; refine k_sto ?_ (c' := [SV.sl L 0 m, SV.p (n + 1) 0, tvv]); refine k_nil ?_; refine okD (ne := []) ?_ (by kernel_rfl) trivial; refine SC.seq ?_ nofun; refine SC.regK ?_; refine k_mv ?_; refine k_nilc ?_; refine k_fa ?_; refine k_ldp ?_; refine k_fa ?_; refine k_sto ?_ (c' := [SV.s tx, SV.s ed, SV.p (n + 1) 0, SV.s [66, 69, 71, 73, 78], SV.s []]); refine k_nil ?_; refine okS ?_ rfl; refine SC.seq ?_ nofun; refine SC.regK ?_; refine k_mv ?_; refine k_nilc ?_; refine k_fa ?_; refine k_ldp ?_
    refine k_callA (deep_new (q := n + 1) (b := .s (tx.drop (i + 1))) (c := .s []) (d := .b false) (e := tv emptyT) (k := k + 1) (ix := ix) (B := B) (by ((try dsimp only) <;> (repeat first | assumption | with_reducible rfl | exact h_same rfl | refine h_ne (by first | assumption | omega) ?_))) (by omega) (hBc _ fun y h1 h2 h3 => by ((try dsimp only) <;> (repeat first | assumption | with_reducible rfl | exact h_same rfl | refine h_ne (by first | assumption | omega) ?_)))) ?_
    clear hBc
    by_cases h3 : 3 < k + 1 + 1
    · refine k_it ?_; refine k_nil ?_; refine okS ?_ rfl; refine SC.cond_t rfl ?_; refine SC.regK ?_; refine k_mv ?_; refine k_nil ?_; refine okS ?_ rfl; refine SC.seq ?_ nofun; refine SC.dregK ?_; refine k_mv ?_; refine k_mv ?_; refine k_nilc ?_; refine k_fa ?_; refine k_ldp ?_; refine k_lnp ?_ (c' := [SV.s tx, SV.s ed, SV.p (n + 1) 0, SV.s [66, 69, 71, 73, 78], SV.s []]); refine k_bsl ?_ (c' := [SV.s tx, SV.s ed, SV.p (n + 1) 0, SV.s [66, 69, 71, 73, 78], SV.s []]); refine k_appo ?_ (c' := lc ++ [SV.s tx, SV.s ed, SV.p (n + 1) 0, SV.s [66, 69, 71, 73, 78], SV.s []]) (new := [SV.s tx, SV.s ed, SV.p (n + 1) 0, SV.s [66, 69, 71, 73, 78], SV.s []]); refine k_nilc ?_; refine k_fa ?_; refine k_sto ?_ (c' := [SV.sl (n + 1 + 1 + 1) 0 (m + 1), SV.p (n + 1) 0, tvv]); refine k_nil ?_; refine okD (ne := [(n + 2, F)]) ?_ (by kernel_rfl) (by first | (simp only [AllNe]; omega) | (simp only [AllNe]; and_intros <;> first | omega | trivial)); refine SC.seq ?_ nofun; refine SC.regK ?_; refine k_mv ?_; refine k_mv ?_; refine k_nil ?_; refine okS ?_ rfl; refine SC.ret ?_
      refine ⟨_, rfl, ?_⟩
      dsimp only
      rw [if_pos h3]
    · refine k_if ?_; refine k_nil ?_; refine okS ?_ rfl; refine SC.cond_f rfl ?_; refine SC.skip ?_; refine SC.seq ?_ nofun; refine SC.dregK ?_; refine k_mv ?_; refine k_mv ?_; refine k_nilc ?_; refine k_fa ?_; refine k_ldp ?_; refine k_lnp ?_ (c' := [SV.s tx, SV.s ed, SV.p (n + 1) 0, SV.s [66, 69, 71, 73, 78], SV.s []]); refine k_bsl ?_ (c' := [SV.s tx, SV.s ed, SV.p (n + 1) 0, SV.s [66, 69, 71, 73, 78], SV.s []]); refine k_appo ?_ (c' := lc ++ [SV.s tx, SV.s ed, SV.p (n + 1) 0, SV.s [66, 69, 71, 73, 78], SV.s []]) (new := [SV.s tx, SV.s ed, SV.p (n + 1) 0, SV.s [66, 69, 71, 73, 78], SV.s []]); refine k_nilc ?_; refine k_fa ?_; refine k_sto ?_ (c' := [SV.sl (n + 1 + 1 + 1) 0 (m + 1), SV.p (n + 1) 0, tvv]); refine k_nil ?_; refine okD (ne := [(n + 2, F)]) ?_ (by kernel_rfl) (by first | (simp only [AllNe]; omega) | (simp only [AllNe]; and_intros <;> first | omega | trivial)); refine SC.seq ?_ nofun; refine SC.regK ?_; refine k_mv ?_; refine k_mv ?_; refine k_nil ?_; refine okS ?_ rfl; refine SC.ret ?_
      refine ⟨_, rfl, ?_⟩
      dsimp only
      rw [if_neg h3]
      refine ⟨rfl, n + 1, by omega, by omega, by ((try dsimp only) <;> (repeat first | assumption | with_reducible rfl | exact h_same rfl | refine h_ne (by first | assumption | omega) ?_)), _, ?_, ?_, ?_, by ((try dsimp only) <;> (repeat first | assumption | with_reducible rfl | exact h_same rfl | refine h_ne (by first | assumption | omega) ?_)), by ((try dsimp only) <;> (repeat first | assumption | with_reducible rfl | exact h_same rfl | refine h_ne (by first | assumption | omega) ?_)), fun y h1 h2 h3 => by ((try dsimp only) <;> (repeat first | assumption | with_reducible rfl | exact h_same rfl | refine h_ne (by first | assumption | omega) ?_))⟩ <;> ((try dsimp only); omega)
end
end Go.Proofs.YtpacfelhjjmmkaaDoor
end
section
set_option maxHeartbeats 20000000
namespace Go.Proofs.YtpacfelhjjmmkaaDoor
open Go Go.Sy Go.Tr Go.Kb Go.RowKit Go.Cd
set_option linter.unusedVariables false
set_option linter.unusedSimpArgs false
def Laid1 (n F L m : Nat) (s1 : St) (lc c : List SV) (s' : St) : Prop :=
  ∃ L', n ≤ L' ∧ L' < s'.nxt ∧ n ≤ s'.nxt ∧ (∀ a t, s1.H F = rowF (.sl L 0 m) a t → s'.H F = rowF (.sl L' 0 (m + 1)) a t) ∧ s'.H L' = rowL (lc ++ c) ∧ ∀ y, y < n → y ≠ F → y ≠ L → s'.H y = s1.H y
section
variable {F L m n : Nat} {H : Nat → Option Blk} {tx ed : List UInt8} {lc : List SV} {at_ tvv : SV} {R : Int → List UInt8 → St → Prop}
theorem take_end (hF : H F = rowF (.sl L 0 m) at_ tvv) (hL : H L = rowL lc) (hll : lc.length = m * 5) (hlo : lc.all SV.one = true) (hat : at_ = .nilp ∨ ∃ q, at_ = .p q 0) (hFL : F ≠ L) (hFn : F < n) (hLn : L < n) (hm : m ≤ 1000000) (hl : tx.length ≤ 1000000)
    (hb : trimR (tx.dropWhile blk) ≠ []) {i : Nat} (hi : ixB 58 tx = some i) (hw : tx.take i = bEND) (hv : wordL (tx.drop (i + 1)) = true)
    (hcl : SCallR Tryd.prog 54 [.p F 0, .s (tx.drop (i + 1))] ⟨upd H n (rowX (.s tx) (.s ed) at_ (.s bEND) (.s [])), n + 1⟩ (fun r s1 => ∃ e, r = .i .i64 e ∧ R e [] s1))
    (hR : ∀ e s1, R e [] s1 → n + 1 ≤ s1.nxt ∧ (∃ a1 t1, s1.H F = rowF (.sl L 0 m) a1 t1) ∧ s1.H L = rowL lc ∧ s1.H n = rowX (.s tx) (.s ed) at_ (.s bEND) (.s [])) :
    SCallR Tryd.prog 29 [.p F 0, .agg [.s tx, .s ed, .nilp, .s [], .s []]] ⟨H, n⟩ (fun r s' => ∃ e s1, r = .i .i64 e ∧ R e [] s1 ∧ Laid1 n F L m s1 lc [.s tx, .s ed, at_, .s bEND, .s []] s') := by
  refine SCallR.enter cc_card_file_take ?_
  dsimp only [c_card_file_take, argT]
  have ht := fun s => ltrim_sc tx s hl
  have hb' : decide (trimR (tx.dropWhile blk) = []) = false := decide_eq_false hb
  unfold trimV at ht
  have hc := fun s => cut_sc tx 58 s hl
  unfold cutV at hc
  rw [hi] at hc
  dsimp only at hc
  rw [hw] at hc
  have hwd := fun s => cword_sc bEND s (by decide)
  have hwt : wordL bEND = true := by decide +kernel
  rw [hwt] at hwd
  have hvd := fun s => cword_sc (tx.drop (i + 1)) s (by rw [List.length_drop]; omega)
  rw [hv] at hvd
  unfold bEND at hc hwd hcl hR
  rcases hat with rfl | ⟨q, rfl⟩
  · refine SC.seq ?_ nofun; refine SC.regK ?_; refine k_box ?_ (c := [SV.s tx, SV.s ed, SV.nilp, SV.s [], SV.s []]); refine k_mv ?_; refine k_nil ?_; refine okS ?_ rfl; refine SC.seq ?_ nofun; refine SC.regK ?_; refine k_fa ?_; refine k_fa ?_; refine k_ldp ?_; refine k_call (ht _) ?_; refine k_mv ?_; refine k_ext ?_; refine k_ext ?_; refine k_ext ?_; refine k_mv ?_; refine k_mv ?_; refine k_mv ?_; refine k_nil ?_; refine okS ?_ rfl; refine SC.seq ?_ nofun; refine SC.seq ?_ nofun; refine SC.regK ?_; refine k_mv ?_; refine k_sf ?_; refine k_nil ?_; refine okS ?_ rfl; refine SC.cond_f rfl ?_; refine SC.skip ?_; refine SC.seq ?_ nofun; refine SC.regK ?_; refine k_mv ?_; refine k_nil ?_; refine okS ?_ rfl; refine SC.seq ?_ nofun; refine SC.regK ?_; refine k_mv ?_; refine k_nil ?_; refine okS ?_ rfl; refine SC.seq ?_ nofun; refine SC.regK ?_; refine k_fa ?_; refine k_fa ?_; refine k_ldp ?_; refine k_call (hc _) ?_; refine k_mv ?_; refine k_ext ?_; refine k_ext ?_; refine k_ext ?_; refine k_fa ?_; refine k_sts ?_ (c' := [SV.s tx, SV.s ed, SV.nilp, SV.s [69, 78, 68], SV.s []]); refine k_mv ?_; refine k_mv ?_; refine k_nil ?_; refine okS ?_ rfl; refine SC.seq ?_ nofun; refine SC.seq ?_ nofun; refine SC.regK ?_; refine k_mv ?_; refine k_not ?_; refine k_mv ?_; refine k_fa ?_; refine k_ldp ?_; refine k_call (hwd _) ?_; refine k_not ?_; refine k_pf ?_; refine k_mv ?_; refine k_fa ?_; refine k_ldp ?_; refine k_sf ?_; refine k_mv ?_; refine k_fa ?_; refine k_ldp ?_; refine k_st ?_; refine k_pf ?_; refine k_mv ?_; refine k_mv ?_; refine k_call (hvd _) ?_; refine k_not ?_; refine k_pt ?_; refine k_pf ?_; refine k_nil ?_; refine okS ?_ rfl; refine SC.cond_f rfl ?_; refine SC.skip ?_; refine SC.seq ?_ nofun; refine SC.regK ?_; refine k_mv ?_; refine k_nilc ?_; refine k_fa ?_; refine k_ldp ?_; refine k_fa ?_; refine k_sts ?_ (c' := [SV.s tx, SV.s ed, SV.nilp, SV.s [69, 78, 68], SV.s []]); refine k_nil ?_; refine okS ?_ rfl; refine SC.seq ?_ nofun; refine SC.regK ?_; refine k_mv ?_
    refine k_nil ?_; refine okS ?_ rfl; refine SC.seq ?_ nofun; refine SC.seq ?_ nofun; refine SC.regK ?_; refine k_fa ?_; refine k_ldp ?_; refine k_nil ?_; refine okS ?_ rfl; refine SC.blk ?_; refine SC.seq ?_ nofun; refine SC.regK ?_; refine k_sf ?_; refine k_mv ?_; refine k_nil ?_; refine okS ?_ rfl; refine SC.cond_f rfl ?_; refine SC.seq ?_ nofun; refine SC.regK ?_; refine k_st ?_; refine k_mv ?_; refine k_nil ?_; refine okS ?_ rfl; refine SC.cond_t rfl ?_; refine SC.regK ?_; refine k_mv ?_; refine k_mv ?_; refine k_callR (hcl) ?_ (hok := okCS rfl)
    rintro _ ⟨H1, n1⟩ ⟨e, rfl, hr⟩
    obtain ⟨g1, ⟨a1, t1, g2⟩, g3, g4⟩ := hR e _ hr
    dsimp only at g1 g2 g3 g4
    refine k_mv ?_; refine k_nil ?_; refine okS ?_ rfl; refine SC.seq ?_ nofun; refine SC.dregK ?_; refine k_mv ?_; refine k_mv ?_; refine k_nilc ?_; refine k_fa ?_; refine k_ldp ?_; refine k_lnp ?_ (c' := [SV.s tx, SV.s ed, SV.nilp, SV.s [69, 78, 68], SV.s []]); refine k_bsl ?_ (c' := [SV.s tx, SV.s ed, SV.nilp, SV.s [69, 78, 68], SV.s []]); refine k_appo ?_ (c' := lc ++ [SV.s tx, SV.s ed, SV.nilp, SV.s [69, 78, 68], SV.s []]) (new := [SV.s tx, SV.s ed, SV.nilp, SV.s [69, 78, 68], SV.s []]); refine k_nilc ?_; refine k_fa ?_; refine k_sto ?_ (c' := [SV.sl (n1 + 1) 0 (m + 1), a1, t1]); refine k_nil ?_; refine okD (ne := [(n1, F)]) ?_ (by kernel_rfl) (by first | (simp only [AllNe]; omega) | (simp only [AllNe]; and_intros <;> first | omega | trivial)); refine SC.seq ?_ nofun; refine SC.regK ?_; refine k_mv ?_; refine k_mv ?_; refine k_nil ?_; refine okS ?_ rfl; refine SC.ret ?_
    refine ⟨_, rfl, e, ⟨H1, n1⟩, rfl, hr, n1 + 1, ?_, ?_, ?_, fun a t h => ?_, by ((try dsimp only) <;> (repeat first | assumption | with_reducible rfl | exact h_same rfl | refine h_ne (by first | assumption | omega) ?_)), fun y h1 h2 h3 => by ((try dsimp only) <;> (repeat first | assumption | with_reducible rfl | exact h_same rfl | refine h_ne (by first | assumption | omega) ?_))⟩
    · omega
    · dsimp only; omega
    · dsimp only; omega
    · dsimp only at h
      rw [g2] at h
      injection h with h
      injection h with _ _ h
      injection h with _ h
      injection h with h1 h
      injection h with h2 _
      subst h1
      subst h2
      ((try dsimp only) <;> (repeat first | assumption | with_reducible rfl | exact h_same rfl | refine h_ne (by first | assumption | omega) ?_))
  · refine SC.seq ?_ nofun; refine SC.regK ?_; refine k_box ?_ (c := [SV.s tx, SV.s ed, SV.nilp, SV.s [], SV.s []]); refine k_mv ?_; refine k_nil ?_; refine okS ?_ rfl; refine SC.seq ?_ nofun; refine SC.regK ?_; refine k_fa ?_; refine k_fa ?_; refine k_ldp ?_; refine k_call (ht _) ?_; refine k_mv ?_; refine k_ext ?_; refine k_ext ?_; refine k_ext ?_; refine k_mv ?_; refine k_mv ?_; refine k_mv ?_; refine k_nil ?_; refine okS ?_ rfl; refine SC.seq ?_ nofun; refine SC.seq ?_ nofun; refine SC.regK ?_; refine k_mv ?_; refine k_sf ?_; refine k_nil ?_; refine okS ?_ rfl; refine SC.cond_f rfl ?_; refine SC.skip ?_; refine SC.seq ?_ nofun; refine SC.regK ?_; refine k_mv ?_; refine k_nil ?_; refine okS ?_ rfl; refine SC.seq ?_ nofun; refine SC.regK ?_; refine k_mv ?_; refine k_nil ?_; refine okS ?_ rfl; refine SC.seq ?_ nofun; refine SC.regK ?_; refine k_fa ?_; refine k_fa ?_; refine k_ldp ?_; refine k_call (hc _) ?_; refine k_mv ?_; refine k_ext ?_; refine k_ext ?_; refine k_ext ?_; refine k_fa ?_; refine k_sts ?_ (c' := [SV.s tx, SV.s ed, SV.nilp, SV.s [69, 78, 68], SV.s []]); refine k_mv ?_; refine k_mv ?_; refine k_nil ?_; refine okS ?_ rfl; refine SC.seq ?_ nofun; refine SC.seq ?_ nofun; refine SC.regK ?_; refine k_mv ?_; refine k_not ?_; refine k_mv ?_; refine k_fa ?_; refine k_ldp ?_; refine k_call (hwd _) ?_; refine k_not ?_; refine k_pf ?_; refine k_mv ?_; refine k_fa ?_; refine k_ldp ?_; refine k_sf ?_; refine k_mv ?_; refine k_fa ?_; refine k_ldp ?_; refine k_st ?_; refine k_pf ?_; refine k_mv ?_; refine k_mv ?_; refine k_call (hvd _) ?_; refine k_not ?_; refine k_pt ?_; refine k_pf ?_; refine k_nil ?_; refine okS ?_ rfl; refine SC.cond_f rfl ?_; refine SC.skip ?_; refine SC.seq ?_ nofun; refine SC.regK ?_; refine k_mv ?_; refine k_nilc ?_; refine k_fa ?_; refine k_ldp ?_; refine k_fa ?_; refine k_sts ?_ (c' := [SV.s tx, SV.s ed, SV.p q 0, SV.s [69, 78, 68], SV.s []]); refine k_nil ?_; refine okS ?_ rfl; refine SC.seq ?_ nofun; refine SC.regK ?_; refine k_mv ?_
    refine k_nil ?_; refine okS ?_ rfl; refine SC.seq ?_ nofun; refine SC.seq ?_ nofun; refine SC.regK ?_; refine k_fa ?_; refine k_ldp ?_; refine k_nil ?_; refine okS ?_ rfl; refine SC.blk ?_; refine SC.seq ?_ nofun; refine SC.regK ?_; refine k_sf ?_; refine k_mv ?_; refine k_nil ?_; refine okS ?_ rfl; refine SC.cond_f rfl ?_; refine SC.seq ?_ nofun; refine SC.regK ?_; refine k_st ?_; refine k_mv ?_; refine k_nil ?_; refine okS ?_ rfl; refine SC.cond_t rfl ?_; refine SC.regK ?_; refine k_mv ?_; refine k_mv ?_; refine k_callR (hcl) ?_ (hok := okCS rfl)
    rintro _ ⟨H1, n1⟩ ⟨e, rfl, hr⟩
    obtain ⟨g1, ⟨a1, t1, g2⟩, g3, g4⟩ := hR e _ hr
    dsimp only at g1 g2 g3 g4
    refine k_mv ?_; refine k_nil ?_; refine okS ?_ rfl; refine SC.seq ?_ nofun; refine SC.dregK ?_; refine k_mv ?_; refine k_mv ?_; refine k_nilc ?_; refine k_fa ?_; refine k_ldp ?_; refine k_lnp ?_ (c' := [SV.s tx, SV.s ed, SV.p q 0, SV.s [69, 78, 68], SV.s []]); refine k_bsl ?_ (c' := [SV.s tx, SV.s ed, SV.p q 0, SV.s [69, 78, 68], SV.s []]); refine k_appo ?_ (c' := lc ++ [SV.s tx, SV.s ed, SV.p q 0, SV.s [69, 78, 68], SV.s []]) (new := [SV.s tx, SV.s ed, SV.p q 0, SV.s [69, 78, 68], SV.s []]); refine k_nilc ?_; refine k_fa ?_; refine k_sto ?_ (c' := [SV.sl (n1 + 1) 0 (m + 1), a1, t1]); refine k_nil ?_; refine okD (ne := [(n1, F)]) ?_ (by kernel_rfl) (by first | (simp only [AllNe]; omega) | (simp only [AllNe]; and_intros <;> first | omega | trivial)); refine SC.seq ?_ nofun; refine SC.regK ?_; refine k_mv ?_; refine k_mv ?_; refine k_nil ?_; refine okS ?_ rfl; refine SC.ret ?_
    refine ⟨_, rfl, e, ⟨H1, n1⟩, rfl, hr, n1 + 1, ?_, ?_, ?_, fun a t h => ?_, by ((try dsimp only) <;> (repeat first | assumption | with_reducible rfl | exact h_same rfl | refine h_ne (by first | assumption | omega) ?_)), fun y h1 h2 h3 => by ((try dsimp only) <;> (repeat first | assumption | with_reducible rfl | exact h_same rfl | refine h_ne (by first | assumption | omega) ?_))⟩
    · omega
    · dsimp only; omega
    · dsimp only; omega
    · dsimp only at h
      rw [g2] at h
      injection h with h
      injection h with _ _ h
      injection h with _ h
      injection h with h1 h
      injection h with h2 _
      subst h1
      subst h2
      ((try dsimp only) <;> (repeat first | assumption | with_reducible rfl | exact h_same rfl | refine h_ne (by first | assumption | omega) ?_))
theorem take_prop (hF : H F = rowF (.sl L 0 m) at_ tvv) (hL : H L = rowL lc) (hll : lc.length = m * 5) (hlo : lc.all SV.one = true) (hat : at_ = .nilp ∨ ∃ q, at_ = .p q 0) (hFL : F ≠ L) (hFn : F < n) (hLn : L < n) (hm : m ≤ 1000000) (hl : tx.length ≤ 1000000)
    (hb : trimR (tx.dropWhile blk) ≠ []) {i : Nat} (hi : ixB 58 tx = some i) (hw : wordL (tx.take i) = true) (hw1 : tx.take i ≠ bBEGIN) (hw2 : tx.take i ≠ bEND)
    (hcl : SCallR Tryd.prog 55 [.p F 0, .p n 0, .s (tx.drop (i + 1))] ⟨upd H n (rowX (.s tx) (.s ed) at_ (.s (tx.take i)) (.s [])), n + 1⟩ (fun r s1 => ∃ e va, r = .i .i64 e ∧ R e va s1))
    (hR : ∀ e va s1, R e va s1 → n + 1 ≤ s1.nxt ∧ (∃ a1 t1, s1.H F = rowF (.sl L 0 m) a1 t1) ∧ s1.H L = rowL lc ∧ s1.H n = rowX (.s tx) (.s ed) at_ (.s (tx.take i)) (.s va)) :
    SCallR Tryd.prog 29 [.p F 0, .agg [.s tx, .s ed, .nilp, .s [], .s []]] ⟨H, n⟩ (fun r s' => ∃ e va s1, r = .i .i64 e ∧ R e va s1 ∧ Laid1 n F L m s1 lc [.s tx, .s ed, at_, .s (tx.take i), .s va] s') := by
  refine SCallR.enter cc_card_file_take ?_
  dsimp only [c_card_file_take, argT]
  have ht := fun s => ltrim_sc tx s hl
  have hb' : decide (trimR (tx.dropWhile blk) = []) = false := decide_eq_false hb
  unfold trimV at ht
  have hc := fun s => cut_sc tx 58 s hl
  unfold cutV at hc
  rw [hi] at hc
  dsimp only at hc
  have hwd := fun s => cword_sc (tx.take i) s (by rw [List.length_take]; omega)
  rw [hw] at hwd
  have d1 : decide (tx.take i = [66, 69, 71, 73, 78]) = false := decide_eq_false hw1
  have d2 : decide (tx.take i = [69, 78, 68]) = false := decide_eq_false hw2
  rcases hat with rfl | ⟨q, rfl⟩
  · refine SC.seq ?_ nofun; refine SC.regK ?_; refine k_box ?_ (c := [SV.s tx, SV.s ed, SV.nilp, SV.s [], SV.s []]); refine k_mv ?_; refine k_nil ?_; refine okS ?_ rfl; refine SC.seq ?_ nofun; refine SC.regK ?_; refine k_fa ?_; refine k_fa ?_; refine k_ldp ?_; refine k_call (ht _) ?_; refine k_mv ?_; refine k_ext ?_; refine k_ext ?_; refine k_ext ?_; refine k_mv ?_; refine k_mv ?_; refine k_mv ?_; refine k_nil ?_; refine okS ?_ rfl; refine SC.seq ?_ nofun; refine SC.seq ?_ nofun; refine SC.regK ?_; refine k_mv ?_; refine k_sf ?_; refine k_nil ?_; refine okS ?_ rfl; refine SC.cond_f rfl ?_; refine SC.skip ?_; refine SC.seq ?_ nofun; refine SC.regK ?_; refine k_mv ?_; refine k_nil ?_; refine okS ?_ rfl; refine SC.seq ?_ nofun; refine SC.regK ?_; refine k_mv ?_; refine k_nil ?_; refine okS ?_ rfl; refine SC.seq ?_ nofun; refine SC.regK ?_; refine k_fa ?_; refine k_fa ?_; refine k_ldp ?_; refine k_call (hc _) ?_; refine k_mv ?_; refine k_ext ?_; refine k_ext ?_; refine k_ext ?_; refine k_fa ?_; refine k_sts ?_ (c' := [SV.s tx, SV.s ed, SV.nilp, SV.s (List.take i tx), SV.s []]); refine k_mv ?_; refine k_mv ?_; refine k_nil ?_; refine okS ?_ rfl; refine SC.seq ?_ nofun; refine SC.seq ?_ nofun; refine SC.regK ?_; refine k_mv ?_; refine k_not ?_; refine k_mv ?_; refine k_fa ?_; refine k_ldp ?_; refine k_call (hwd _) ?_; refine k_not ?_; refine k_pf ?_; refine k_mv ?_; refine k_fa ?_; refine k_ldp ?_; refine k_sf ?_; refine k_mv ?_; refine k_fa ?_; refine k_ldp ?_; refine k_sf ?_; refine k_pf ?_; refine k_mv ?_; refine k_no ?_; refine k_no ?_; refine k_no ?_; refine k_pf ?_; refine k_pf ?_; refine k_nil ?_; refine okS ?_ rfl; refine SC.cond_f rfl ?_; refine SC.skip ?_; refine SC.seq ?_ nofun; refine SC.regK ?_; refine k_mv ?_; refine k_nilc ?_; refine k_fa ?_; refine k_ldp ?_; refine k_fa ?_; refine k_sts ?_ (c' := [SV.s tx, SV.s ed, SV.nilp, SV.s (List.take i tx), SV.s []]); refine k_nil ?_; refine okS ?_ rfl; refine SC.seq ?_ nofun; refine SC.regK ?_; refine k_mv ?_
    refine k_nil ?_; refine okS ?_ rfl; refine SC.seq ?_ nofun; refine SC.seq ?_ nofun; refine SC.regK ?_; refine k_fa ?_; refine k_ldp ?_; refine k_nil ?_; refine okS ?_ rfl; refine SC.blk ?_; refine SC.seq ?_ nofun; refine SC.regK ?_; refine k_sf ?_; refine k_mv ?_; refine k_nil ?_; refine okS ?_ rfl; refine SC.cond_f rfl ?_; refine SC.seq ?_ nofun; refine SC.regK ?_; refine k_sf ?_; refine k_mv ?_; refine k_nil ?_; refine okS ?_ rfl; refine SC.cond_f rfl ?_; refine SC.regK ?_; refine k_mv ?_; refine k_mv ?_; refine k_callR (hcl) ?_ (hok := okCS rfl)
    rintro _ ⟨H1, n1⟩ ⟨e, va, rfl, hr⟩
    obtain ⟨g1, ⟨a1, t1, g2⟩, g3, g4⟩ := hR e va _ hr
    dsimp only at g1 g2 g3 g4
    refine k_mv ?_; refine k_nil ?_; refine okS ?_ rfl; refine SC.seq ?_ nofun; refine SC.dregK ?_; refine k_mv ?_; refine k_mv ?_; refine k_nilc ?_; refine k_fa ?_; refine k_ldp ?_; refine k_lnp ?_ (c' := [SV.s tx, SV.s ed, SV.nilp, SV.s (List.take i tx), SV.s va]); refine k_bsl ?_ (c' := [SV.s tx, SV.s ed, SV.nilp, SV.s (List.take i tx), SV.s va]); refine k_appo ?_ (c' := lc ++ [SV.s tx, SV.s ed, SV.nilp, SV.s (List.take i tx), SV.s va]) (new := [SV.s tx, SV.s ed, SV.nilp, SV.s (List.take i tx), SV.s va]); refine k_nilc ?_; refine k_fa ?_; refine k_sto ?_ (c' := [SV.sl (n1 + 1) 0 (m + 1), a1, t1]); refine k_nil ?_; refine okD (ne := [(n1, F)]) ?_ (by kernel_rfl) (by first | (simp only [AllNe]; omega) | (simp only [AllNe]; and_intros <;> first | omega | trivial)); refine SC.seq ?_ nofun; refine SC.regK ?_; refine k_mv ?_; refine k_mv ?_; refine k_nil ?_; refine okS ?_ rfl; refine SC.ret ?_
    refine ⟨_, rfl, e, va, ⟨H1, n1⟩, rfl, hr, n1 + 1, ?_, ?_, ?_, fun a t h => ?_, by ((try dsimp only) <;> (repeat first | assumption | with_reducible rfl | exact h_same rfl | refine h_ne (by first | assumption | omega) ?_)), fun y h1 h2 h3 => by ((try dsimp only) <;> (repeat first | assumption | with_reducible rfl | exact h_same rfl | refine h_ne (by first | assumption | omega) ?_))⟩
    · omega
    · dsimp only; omega
    · dsimp only; omega
    · dsimp only at h
      rw [g2] at h
      injection h with h
      injection h with _ _ h
      injection h with _ h
      injection h with h1 h
      injection h with h2 _
      subst h1
      subst h2
      ((try dsimp only) <;> (repeat first | assumption | with_reducible rfl | exact h_same rfl | refine h_ne (by first | assumption | omega) ?_))
  · refine SC.seq ?_ nofun; refine SC.regK ?_; refine k_box ?_ (c := [SV.s tx, SV.s ed, SV.nilp, SV.s [], SV.s []]); refine k_mv ?_; refine k_nil ?_; refine okS ?_ rfl; refine SC.seq ?_ nofun; refine SC.regK ?_; refine k_fa ?_; refine k_fa ?_; refine k_ldp ?_; refine k_call (ht _) ?_; refine k_mv ?_; refine k_ext ?_; refine k_ext ?_; refine k_ext ?_; refine k_mv ?_; refine k_mv ?_; refine k_mv ?_; refine k_nil ?_; refine okS ?_ rfl; refine SC.seq ?_ nofun; refine SC.seq ?_ nofun; refine SC.regK ?_; refine k_mv ?_; refine k_sf ?_; refine k_nil ?_; refine okS ?_ rfl; refine SC.cond_f rfl ?_; refine SC.skip ?_; refine SC.seq ?_ nofun; refine SC.regK ?_; refine k_mv ?_; refine k_nil ?_; refine okS ?_ rfl; refine SC.seq ?_ nofun; refine SC.regK ?_; refine k_mv ?_; refine k_nil ?_; refine okS ?_ rfl; refine SC.seq ?_ nofun; refine SC.regK ?_; refine k_fa ?_; refine k_fa ?_; refine k_ldp ?_; refine k_call (hc _) ?_; refine k_mv ?_; refine k_ext ?_; refine k_ext ?_; refine k_ext ?_; refine k_fa ?_; refine k_sts ?_ (c' := [SV.s tx, SV.s ed, SV.nilp, SV.s (List.take i tx), SV.s []]); refine k_mv ?_; refine k_mv ?_; refine k_nil ?_; refine okS ?_ rfl; refine SC.seq ?_ nofun; refine SC.seq ?_ nofun; refine SC.regK ?_; refine k_mv ?_; refine k_not ?_; refine k_mv ?_; refine k_fa ?_; refine k_ldp ?_; refine k_call (hwd _) ?_; refine k_not ?_; refine k_pf ?_; refine k_mv ?_; refine k_fa ?_; refine k_ldp ?_; refine k_sf ?_; refine k_mv ?_; refine k_fa ?_; refine k_ldp ?_; refine k_sf ?_; refine k_pf ?_; refine k_mv ?_; refine k_no ?_; refine k_no ?_; refine k_no ?_; refine k_pf ?_; refine k_pf ?_; refine k_nil ?_; refine okS ?_ rfl; refine SC.cond_f rfl ?_; refine SC.skip ?_; refine SC.seq ?_ nofun; refine SC.regK ?_; refine k_mv ?_; refine k_nilc ?_; refine k_fa ?_; refine k_ldp ?_; refine k_fa ?_; refine k_sts ?_ (c' := [SV.s tx, SV.s ed, SV.p q 0, SV.s (List.take i tx), SV.s []]); refine k_nil ?_; refine okS ?_ rfl; refine SC.seq ?_ nofun; refine SC.regK ?_; refine k_mv ?_
    refine k_nil ?_; refine okS ?_ rfl; refine SC.seq ?_ nofun; refine SC.seq ?_ nofun; refine SC.regK ?_; refine k_fa ?_; refine k_ldp ?_; refine k_nil ?_; refine okS ?_ rfl; refine SC.blk ?_; refine SC.seq ?_ nofun; refine SC.regK ?_; refine k_sf ?_; refine k_mv ?_; refine k_nil ?_; refine okS ?_ rfl; refine SC.cond_f rfl ?_; refine SC.seq ?_ nofun; refine SC.regK ?_; refine k_sf ?_; refine k_mv ?_; refine k_nil ?_; refine okS ?_ rfl; refine SC.cond_f rfl ?_; refine SC.regK ?_; refine k_mv ?_; refine k_mv ?_; refine k_callR (hcl) ?_ (hok := okCS rfl)
    rintro _ ⟨H1, n1⟩ ⟨e, va, rfl, hr⟩
    obtain ⟨g1, ⟨a1, t1, g2⟩, g3, g4⟩ := hR e va _ hr
    dsimp only at g1 g2 g3 g4
    refine k_mv ?_; refine k_nil ?_; refine okS ?_ rfl; refine SC.seq ?_ nofun; refine SC.dregK ?_; refine k_mv ?_; refine k_mv ?_; refine k_nilc ?_; refine k_fa ?_; refine k_ldp ?_; refine k_lnp ?_ (c' := [SV.s tx, SV.s ed, SV.p q 0, SV.s (List.take i tx), SV.s va]); refine k_bsl ?_ (c' := [SV.s tx, SV.s ed, SV.p q 0, SV.s (List.take i tx), SV.s va]); refine k_appo ?_ (c' := lc ++ [SV.s tx, SV.s ed, SV.p q 0, SV.s (List.take i tx), SV.s va]) (new := [SV.s tx, SV.s ed, SV.p q 0, SV.s (List.take i tx), SV.s va]); refine k_nilc ?_; refine k_fa ?_; refine k_sto ?_ (c' := [SV.sl (n1 + 1) 0 (m + 1), a1, t1]); refine k_nil ?_; refine okD (ne := [(n1, F)]) ?_ (by kernel_rfl) (by first | (simp only [AllNe]; omega) | (simp only [AllNe]; and_intros <;> first | omega | trivial)); refine SC.seq ?_ nofun; refine SC.regK ?_; refine k_mv ?_; refine k_mv ?_; refine k_nil ?_; refine okS ?_ rfl; refine SC.ret ?_
    refine ⟨_, rfl, e, va, ⟨H1, n1⟩, rfl, hr, n1 + 1, ?_, ?_, ?_, fun a t h => ?_, by ((try dsimp only) <;> (repeat first | assumption | with_reducible rfl | exact h_same rfl | refine h_ne (by first | assumption | omega) ?_)), fun y h1 h2 h3 => by ((try dsimp only) <;> (repeat first | assumption | with_reducible rfl | exact h_same rfl | refine h_ne (by first | assumption | omega) ?_))⟩
    · omega
    · dsimp only; omega
    · dsimp only; omega
    · dsimp only at h
      rw [g2] at h
      injection h with h
      injection h with _ _ h
      injection h with _ h
      injection h with h1 h
      injection h with h2 _
      subst h1
      subst h2
      ((try dsimp only) <;> (repeat first | assumption | with_reducible rfl | exact h_same rfl | refine h_ne (by first | assumption | omega) ?_))
end
end Go.Proofs.YtpacfelhjjmmkaaDoor
end
section
namespace Go.Cd
open Go Go.Sy Go.Tr
set_option linter.unusedVariables false
set_option linter.unusedSimpArgs false
def topR : Nat → Rf
  | 0 => .no
  | k + 1 => .op k
def rfV (ix : Nat → Nat) : Rf → SV
  | .no => .nilp
  | .op i => .p (ix i) 0
  | .cl inn w d nm c => .pl [rfV ix inn, .s w, .s d, .b nm, tv c]
def lnC (ix : Nat → Nat) (l : Ln) : List SV := [.s l.text, .s l.ed, rfV ix l.of, .s l.word, .s l.value]
def lsC (ix : Nat → Nat) (ls : List Ln) : List SV := ls.flatMap (lnC ix)
theorem rfV_top (ix : Nat → Nat) (k : Nat) : rfV ix (topR k) = atV k ix := by cases k <;> rfl
theorem lsC_snoc (ix : Nat → Nat) (ls : List Ln) (l : Ln) : lsC ix (ls ++ [l]) = lsC ix ls ++ lnC ix l := by simp [lsC]
theorem lsC_len (ix : Nat → Nat) : ∀ ls : List Ln, (lsC ix ls).length = ls.length * 5
  | [] => rfl
  | l :: ls => by
    have := lsC_len ix ls
    simp only [lsC, List.flatMap_cons, List.length_append] at this ⊢
    rw [this]
    simp [lnC]
    omega
theorem rfV_one (ix : Nat → Nat) (r : Rf) : (rfV ix r).one = true := by cases r <;> rfl
theorem lsC_one (ix : Nat → Nat) : ∀ ls : List Ln, (lsC ix ls).all SV.one = true
  | [] => rfl
  | l :: ls => by
    have := lsC_one ix ls
    simp only [lsC, List.flatMap_cons, List.all_append, Bool.and_eq_true] at this ⊢
    refine ⟨?_, this⟩
    have h := rfV_one ix l.of
    simp only [lnC, List.all_cons, List.all_nil, Bool.and_true, h]
    rfl
def Rf.lt (k : Nat) : Rf → Prop
  | .no => True
  | .op i => i < k
  | .cl inn _ _ _ _ => inn.lt k
theorem Rf.lt_mono {k k' : Nat} (h : k ≤ k') : ∀ {r : Rf}, r.lt k → r.lt k'
  | .no, _ => trivial
  | .op i, hi => Nat.lt_of_lt_of_le hi h
  | .cl inn _ _ _ _, hi => Rf.lt_mono (r := inn) h hi
theorem topR_lt (k : Nat) : (topR k).lt k := by cases k <;> simp [topR, Rf.lt]
theorem rfV_agree {k : Nat} {ix ix' : Nat → Nat} (h : ∀ i, i < k → ix' i = ix i) : ∀ {r : Rf}, r.lt k → rfV ix' r = rfV ix r
  | .no, _ => rfl
  | .op i, hi => by simp only [rfV, h i hi]
  | .cl inn _ _ _ _, hi => by simp only [rfV, rfV_agree (r := inn) h hi]
theorem lsC_agree {k : Nat} {ix ix' : Nat → Nat} (h : ∀ i, i < k → ix' i = ix i) {ls : List Ln} (hl : ∀ l ∈ ls, l.of.lt k) : lsC ix' ls = lsC ix ls := by
  unfold lsC
  rw [List.flatMap_def, List.flatMap_def]
  congr 1
  apply List.map_congr_left
  intro l hm
  simp only [lnC, rfV_agree h (hl l hm)]
def substR (K : Nat) (x : Rf) : Rf → Rf
  | .no => .no
  | .op i => if i = K then x else .op i
  | .cl inn w d nm c => .cl (substR K x inn) w d nm c
theorem substR_lt {K : Nat} {x : Rf} (hx : x.lt K) : ∀ {r : Rf}, r.lt (K + 1) → (substR K x r).lt K
  | .no, _ => trivial
  | .op i, hi => by
    have hi : i < K + 1 := hi
    simp only [substR]
    split
    · exact hx
    · show i < K; omega
  | .cl inn _ _ _ _, hi => substR_lt (r := inn) hx hi
def blkR (K : Nat) (b : OB) : Rf := .cl (topR K) b.w b.d b.nm b.c
theorem rfV_blk (ix : Nat → Nat) (K : Nat) (b : OB) : rfV ix (blkR K b) = .pl (blkC ix K b) := by
  simp only [blkR, rfV, rfV_top, blkC]
theorem substR_fz (ix : Nat → Nat) (K : Nat) (b : OB) : ∀ r : Rf, Fz (ix K) (blkC ix K b) (rfV ix r) (rfV ix (substR K (blkR K b) r))
  | .no => .refl _
  | .op i => by
    simp only [substR]
    split
    · rename_i h; subst h
      rw [rfV_blk]
      exact .p 0
    · exact .refl _
  | .cl inn w d nm c => .pl (.cons (substR_fz ix K b inn) (Fzs.refl _))
def substL (K : Nat) (x : Rf) (l : Ln) : Ln := { l with of := substR K x l.of }
theorem lsC_fz (ix : Nat → Nat) (K : Nat) (b : OB) : ∀ ls : List Ln, Fzs (ix K) (blkC ix K b) (lsC ix ls) (lsC ix (ls.map (substL K (blkR K b))))
  | [] => .nil
  | l :: ls => by
    have := lsC_fz ix K b ls
    simp only [lsC, List.map_cons, List.flatMap_cons] at this ⊢
    exact Fzs.append (.cons (.refl _) (.cons (.refl _) (.cons (substR_fz ix K b _) (.cons (.refl _) (.cons (.refl _) .nil))))) this
def sumB (B : Nat → OB) : Nat → Nat
  | 0 => 0
  | k + 1 => sumB B k + (B k).c.size
theorem sumB_le (B : Nat → OB) : ∀ {k i : Nat}, i < k → (B i).c.size ≤ sumB B k
  | k + 1, i, h => by
    rcases Nat.lt_succ_iff_lt_or_eq.1 h with h | rfl
    · exact Nat.le_trans (sumB_le B h) (Nat.le_add_right _ _)
    · exact Nat.le_add_left _ _
theorem sumB_agree {B B' : Nat → OB} : ∀ {k : Nat}, (∀ i, i < k → B' i = B i) → sumB B' k = sumB B k
  | 0, _ => rfl
  | k + 1, h => by
    simp only [sumB]
    rw [sumB_agree (fun i hi => h i (by omega)), h k (Nat.lt_succ_self k)]
theorem sumB_set (B : Nat → OB) (b : OB) : ∀ {k i : Nat}, i < k → sumB (setB B i b) k + (B i).c.size = sumB B k + b.c.size
  | k + 1, i, h => by
    simp only [sumB]
    rcases Nat.lt_succ_iff_lt_or_eq.1 h with h | rfl
    · rw [setB_ne _ _ (by omega : k ≠ i)]
      have := sumB_set B b h
      omega
    · have e := sumB_agree (B := B) (B' := setB B i b) (k := i) (fun j hj => setB_ne _ _ (by omega : j ≠ i))
      rw [setB_same, e]
      omega
structure Mok (m : M) : Prop where
  t : m.t.ok
  B : ∀ i, i < m.k → (m.B i).c.ok
  sz : m.t.size + sumB m.B m.k ≤ 5 * m.ls.length
  k : m.k ≤ 3
  ls : ∀ l ∈ m.ls, l.of.lt m.k
end Go.Cd
end
section
namespace Go.Proofs.YtpacfelhjjmmkaaDoor
open Go Go.Sy Go.Tr Go.Kb Go.RowKit Go.Cd
set_option linter.unusedVariables false
set_option linter.unusedSimpArgs false
def takeM (m : M) (text ed : List UInt8) : Int × M := match readL text with
  | (0, _, _) => (0, { m with ls := m.ls ++ [⟨text, ed, topR m.k, [], []⟩] })
  | (1, _, says) => if 3 < m.k + 1 then (11, m) else (0, { m with k := m.k + 1, B := setB m.B m.k ⟨says, [], false, emptyT⟩, ls := m.ls ++ [⟨text, ed, .op m.k, bBEGIN, []⟩] })
  | (2, _, says) => ((closeM m says).1, { (closeM m says).2 with ls := (m.ls ++ [(⟨text, ed, topR m.k, bEND, []⟩ : Ln)]).map (substL (m.k - 1) (blkR (m.k - 1) (m.B (m.k - 1)))) })
  | (3, w, v) => ((propM m (decide (w = bID)) true w v).1, { (propM m (decide (w = bID)) true w v).2 with ls := m.ls ++ [⟨text, ed, topR m.k, w, v⟩] })
  | _ => (6, m)
structure Inv (F base : Nat) (H0 : Nat → Option Blk) (m : M) (ix : Nat → Nat) (L : Nat) (s : St) : Prop where
  hF : s.H F = rowF (.sl L 0 m.ls.length) (atV m.k ix) (tv m.t)
  hL : s.H L = rowL (lsC ix m.ls)
  hB : ∀ i, i < m.k → s.H (ix i) = some (.row 105 5 (blkC ix i (m.B i)))
  bF : base ≤ F ∧ F < s.nxt
  bL : base ≤ L ∧ L < s.nxt ∧ F ≠ L
  bi : ∀ i, i < m.k → base ≤ ix i ∧ ix i < s.nxt ∧ ix i ≠ F ∧ ix i ≠ L
  inj : ∀ i j, i < j → j < m.k → ix i ≠ ix j
  old : ∀ y, y < base → s.H y = H0 y
theorem blkC_agree {k i : Nat} {ix ix' : Nat → Nat} (h : ∀ j, j < k → ix' j = ix j) (hi : i ≤ k) (b : OB) : blkC ix' i b = blkC ix i b := by
  unfold blkC atV
  cases i with
  | zero => rfl
  | succ i => simp only [h i (by omega)]
theorem at_or (k : Nat) (ix : Nat → Nat) : atV k ix = .nilp ∨ ∃ q, atV k ix = .p q 0 := by
  cases k with
  | zero => exact .inl rfl
  | succ k => exact .inr ⟨_, rfl⟩
section
variable {F base : Nat} {H0 : Nat → Option Blk} {m : M} {ix : Nat → Nat} {L : Nat} {s : St} {text ed : List UInt8}
theorem take_sc0 (hI : Inv F base H0 m ix L s) (hl : m.ls.length ≤ 100000) (ht : text.length ≤ 1000000) (hm : Mok m) (hb : trimR (text.dropWhile blk) = []) :
    SCallR Tryd.prog 29 [.p F 0, .agg [.s text, .s ed, .nilp, .s [], .s []]] s (fun r s' => r = .i .i64 0 ∧ ∃ ix' L', Inv F base H0 { m with ls := m.ls ++ [⟨text, ed, topR m.k, [], []⟩] } ix' L' s') := by
  obtain ⟨H, n⟩ := s
  refine (take_blank (m := m.ls.length) hI.hF hI.hL (lsC_len _ _) (lsC_one _ _) (at_or _ _) hI.bL.2.2 hI.bF.2 hI.bL.2.1 (by omega) ht hb).mono ?_
  rintro r s' ⟨rfl, L', g1, g2, g3, g4, g5, g6⟩
  have hbi := hI.bi
  refine ⟨rfl, ix, L', ⟨?_, ?_, fun i hi => ?_, ⟨hI.bF.1, Nat.lt_of_lt_of_le hI.bF.2 g3⟩, ⟨?_, g2, ?_⟩, fun i hi => ?_, hI.inj, fun y hy => ?_⟩⟩
  · rw [List.length_append]; exact g4
  · rw [lsC_snoc, lnC, rfV_top]; exact g5
  · obtain ⟨q1, q2, q3, q4⟩ := hbi i hi
    rw [g6 _ q2 q3 q4]; exact hI.hB i hi
  · have := hI.bL.1; have := hI.bL.2.1; dsimp only at *; omega
  · have := hI.bF.2; dsimp only at *; omega
  · obtain ⟨q1, q2, q3, q4⟩ := hbi i hi
    dsimp only at *
    exact ⟨q1, by omega, q3, by omega⟩
  · have h1 := hI.bF
    have h2 := hI.bL
    dsimp only at *
    rw [g6 y (by omega) (by omega) (by omega)]; exact hI.old y hy
theorem take_sc1 (hI : Inv F base H0 m ix L s) (hl : m.ls.length ≤ 100000) (ht : text.length ≤ 1000000) (hm : Mok m) (hb : trimR (text.dropWhile blk) ≠ []) {i : Nat} (hi : ixB 58 text = some i) (hw : text.take i = bBEGIN) (hv : wordL (text.drop (i + 1)) = true) :
    SCallR Tryd.prog 29 [.p F 0, .agg [.s text, .s ed, .nilp, .s [], .s []]] s (fun r s' => if 3 < m.k + 1 then r = .i .i64 11 else r = .i .i64 0 ∧ ∃ ix' L', Inv F base H0 { m with k := m.k + 1, B := setB m.B m.k ⟨text.drop (i + 1), [], false, emptyT⟩, ls := m.ls ++ [⟨text, ed, .op m.k, bBEGIN, []⟩] } ix' L' s') := by
  obtain ⟨H, n⟩ := s
  have hbi := hI.bi
  refine (take_begin (m := m.ls.length) (k := m.k) (ix := ix) (B := m.B) hI.hF hI.hL (lsC_len _ _) (lsC_one _ _) hI.bL.2.2 hI.bF.2 hI.bL.2.1 (by omega) ht (by have := hm.k; omega) hI.hB (fun i hi => ⟨(hbi i hi).2.2.1, (hbi i hi).2.2.2, (hbi i hi).2.1⟩) hb hi hw hv).mono ?_
  intro r s' h
  split
  · rename_i h3; rw [if_pos h3] at h; exact h
  · rename_i h3
    rw [if_neg h3] at h
    obtain ⟨rfl, q, q1, q2, q3, L', g1, g2, g3, g4, g5, g6⟩ := h
    obtain ⟨jx, hq, hqk⟩ : ∃ jx : Nat → Nat, (∀ j, j < m.k → jx j = ix j) ∧ jx m.k = q := ⟨fun j => if j = m.k then q else ix j, fun j hj => if_neg (by omega), if_pos rfl⟩
    have hqL : q ≠ L' := fun e => by
      subst e
      rw [g5] at q3
      injection q3 with q3
      injection q3 with e1
      exact absurd e1 (by decide)
    refine ⟨rfl, jx, L', ⟨?_, ?_, fun i hi => ?_, ⟨hI.bF.1, Nat.lt_of_lt_of_le hI.bF.2 g3⟩, ⟨?_, g2, ?_⟩, fun i hi => ?_, fun i j hij hj => ?_, fun y hy => ?_⟩⟩
    · rw [List.length_append]
      show s'.H F = rowF _ (.p (jx m.k) 0) _
      rw [hqk]; exact g4
    · show s'.H L' = rowL (lsC jx (m.ls ++ [_]))
      rw [lsC_snoc, lnC, lsC_agree hq hm.ls]
      simp only [rfV]
      rw [hqk]
      exact g5
    · show s'.H (jx i) = some (.row _ 5 (blkC jx i (setB m.B m.k _ i)))
      have hi : i < m.k + 1 := hi
      rcases Nat.lt_succ_iff_lt_or_eq.1 hi with hi | rfl
      · obtain ⟨p1, p2, p3, p4⟩ := hbi i hi
        rw [hq i hi, setB_ne _ _ (by omega : i ≠ m.k), blkC_agree hq (by omega), g6 _ p2 p3 p4]
        exact hI.hB i hi
      · rw [hqk, setB_same, blkC_agree hq (Nat.le_refl _)]
        exact q3
    · have := hI.bL.1; have := hI.bL.2.1; dsimp only at *; omega
    · have := hI.bF.2; dsimp only at *; omega
    · have hi : i < m.k + 1 := hi
      have hF2 : base ≤ F ∧ F < n := hI.bF
      have q1' : n ≤ q := q1
      rcases Nat.lt_succ_iff_lt_or_eq.1 hi with hi | rfl
      · obtain ⟨p1, p2, p3, p4⟩ := hbi i hi
        rw [hq i hi]
        dsimp only at *
        exact ⟨p1, by omega, p3, by omega⟩
      · rw [hqk]
        exact ⟨by omega, q2, by omega, hqL⟩
    · have hj : j < m.k + 1 := hj
      rcases Nat.lt_succ_iff_lt_or_eq.1 hj with hj | rfl
      · rw [hq i (by omega), hq j hj]; exact hI.inj i j hij hj
      · rw [hq i hij, hqk]
        have h1 : ix i < n := (hbi i hij).2.1
        have q1' : n ≤ q := q1
        omega
    · have h1 := hI.bF
      have h2 := hI.bL
      dsimp only at *
      rw [g6 y (by omega) (by omega) (by omega)]; exact hI.old y hy
end
end Go.Proofs.YtpacfelhjjmmkaaDoor
end
section
namespace Go.Proofs.YtpacfelhjjmmkaaDoor
open Go Go.Sy Go.Tr Go.Kb Go.RowKit Go.Cd
set_option linter.unusedVariables false
set_option linter.unusedSimpArgs false
structure RC (F L n base : Nat) (H : Nat → Option Blk) (ix : Nat → Nat) (lc : List SV) (X : Option Blk) (m : M) (w : List UInt8) (e : Int) (s1 : St) : Prop where
  fe : e = (closeM m w).1
  fn : n + 1 ≤ s1.nxt
  fF : ∃ a1 t1, s1.H F = rowF (.sl L 0 m.ls.length) a1 t1 ∧ (e = 0 → a1 = atV (m.k - 1) ix ∧ t1 = tv (closeM m w).2.t)
  fL : s1.H L = rowL lc
  fX : s1.H n = X
  fB : e = 0 → 0 < m.k ∧ (closeM m w).2.k = m.k - 1 ∧ (∀ i, i < m.k - 1 → s1.H (ix i) = some (.row 105 5 (blkC ix i ((closeM m w).2.B i)))) ∧ s1.H (ix (m.k - 1)) = some (.row 105 5 (blkC ix (m.k - 1) (m.B (m.k - 1))))
  fold : ∀ y, y < base → s1.H y = H y
section
variable {F base : Nat} {H0 : Nat → Option Blk} {m : M} {ix : Nat → Nat} {L : Nat} {text ed w : List UInt8}
theorem _root_.Go.Cd.Mok.size (hm : Mok m) (hl : m.ls.length ≤ 100000) : m.t.size ≤ 500000 ∧ ∀ i, i < m.k → (m.B i).c.size ≤ 500000 := by
  have h := hm.sz
  refine ⟨by omega, fun i hi => ?_⟩
  have := sumB_le m.B hi
  omega
theorem close_sc {H : Nat → Option Blk} {n : Nat} {X : Option Blk} (hI : Inv F base H0 m ix L ⟨H, n⟩) (hl : m.ls.length ≤ 100000) (hm : Mok m) :
    SCallR Tryd.prog 54 [.p F 0, .s w] ⟨upd H n X, n + 1⟩ (fun r s1 => ∃ e, r = .i .i64 e ∧ RC F L n base H ix (lsC ix m.ls) X m w e s1) := by
  obtain ⟨hz1, hz2⟩ := hm.size hl
  have hbi := hI.bi
  have hinj := hI.inj
  have hF := hI.hF
  have hL := hI.hL
  have hB := hI.hB
  have hbF := hI.bF
  have hbL := hI.bL
  have ht := hm.t
  have hBo := hm.B
  obtain ⟨ls, k, B, t⟩ := m
  dsimp only at *
  have hF' : upd H n X F = rowF (.sl L 0 ls.length) (atV k ix) (tv t) := by rw [upd_ne _ _ (by omega : F ≠ n)]; exact hF
  have hB' : ∀ i, i < k → upd H n X (ix i) = some (.row 105 5 (blkC ix i (B i))) := fun i hi => by
    have := (hbi i hi).2.1
    rw [upd_ne _ _ (by omega : ix i ≠ n)]; exact hB i hi
  match k, hbi, hinj, hF, hB, hBo, hz2, hF', hB' with
  | 0, hbi, hinj, hF, hB, hBo, hz2, hF', hB' =>
    refine (close0_sc hF').mono ?_
    rintro r s1 ⟨rfl, g1, g2⟩
    refine ⟨6, rfl, ⟨rfl, g1, ⟨_, _, (g2 _ (by omega)).trans hF', fun h => absurd h (by decide)⟩, ?_, ?_, fun h => absurd h (by decide), fun y hy => ?_⟩⟩
    · rw [g2 _ (by omega), upd_ne _ _ (by omega)]; exact hL
    · rw [g2 _ (by omega), upd_same]
    · rw [g2 _ (by omega), upd_ne _ _ (by omega)]
  | 1, hbi, hinj, hF, hB, hBo, hz2, hF', hB' =>
    obtain ⟨b1, b2, b3, b4⟩ := hbi 0 (by omega)
    refine (close1_sc hF' (hB' 0 (by omega)) b3 (by omega) (Nat.lt_succ_of_lt b2) ht (by omega) (by have := hz2 0 (by omega); omega)).mono ?_
    intro r s1 h
    by_cases h1 : (B 0).w ≠ w ∨ (B 0).nm = false
    · rw [if_pos h1] at h
      obtain ⟨rfl, g1, g2⟩ := h
      refine ⟨6, rfl, ⟨by simp only [closeM]; rw [if_pos h1], g1, ⟨_, _, (g2 _ (by omega)).trans hF', fun h => absurd h (by decide)⟩, ?_, ?_, fun h => absurd h (by decide), fun y hy => ?_⟩⟩
      · rw [g2 _ (by omega), upd_ne _ _ (by omega)]; exact hL
      · rw [g2 _ (by omega), upd_same]
      · rw [g2 _ (by omega), upd_ne _ _ (by omega)]
    · rw [if_neg h1] at h
      cases hg : t.getp (pth [(B 0).w, (B 0).d]) with
      | some x =>
        rw [hg] at h
        obtain ⟨rfl, g1, g2⟩ := h
        refine ⟨7, rfl, ⟨by simp only [closeM]; rw [if_neg h1, hg], g1, ⟨_, _, (g2 _ (by omega)).trans (upd_same _ _ _), fun h => absurd h (by decide)⟩, ?_, ?_, fun h => absurd h (by decide), fun y hy => ?_⟩⟩
        · rw [g2 _ (by omega), upd_ne _ _ (by omega), upd_ne _ _ (by omega)]; exact hL
        · rw [g2 _ (by omega), upd_ne _ _ (by omega), upd_same]
        · rw [g2 _ (by omega), upd_ne _ _ (by omega), upd_ne _ _ (by omega)]
      | none =>
        rw [hg] at h
        obtain ⟨rfl, g1, g2⟩ := h
        have e : closeM ⟨ls, 1, B, t⟩ w = (0, ⟨ls, 0, B, t.putp (pth [(B 0).w, (B 0).d]) (B 0).c⟩) := by simp only [closeM]; rw [if_neg h1, hg]
        refine ⟨0, rfl, ⟨by rw [e], g1, ⟨_, _, (g2 _ (by omega)).trans (upd_same _ _ _), fun h => ⟨rfl, by rw [e]⟩⟩, ?_, ?_, fun h => ⟨Nat.succ_pos _, by rw [e]; rfl, fun i hi => absurd hi (Nat.not_lt_zero _), ?_⟩, fun y hy => ?_⟩⟩
        · rw [g2 _ (by omega), upd_ne _ _ (by omega), upd_ne _ _ (by omega)]; exact hL
        · rw [g2 _ (by omega), upd_ne _ _ (by omega), upd_same]
        · show s1.H (ix 0) = _
          rw [g2 _ (by omega), upd_ne _ _ (by omega)]; exact hB' 0 (by omega)
        · rw [g2 _ (by omega), upd_ne _ _ (by omega), upd_ne _ _ (by omega)]
  | k + 2, hbi, hinj, hF, hB, hBo, hz2, hF', hB' =>
    obtain ⟨b1, b2, b3, b4⟩ := hbi (k + 1) (by omega)
    obtain ⟨p1, p2, p3, p4⟩ := hbi k (by omega)
    have hij := hinj k (k + 1) (by omega) (by omega)
    refine (close2_sc hF' (hB' (k + 1) (by omega)) (hB' k (by omega)) b3 p3 (fun e => hij e.symm) (by omega) (by omega) (by omega) (hBo k (by omega)) (by have := hz2 k (by omega); omega) (by have := hz2 (k + 1) (by omega); omega)).mono ?_
    intro r s1 h
    by_cases h1 : (B (k + 1)).w ≠ w ∨ (B (k + 1)).nm = false
    · rw [if_pos h1] at h
      obtain ⟨rfl, g1, g2⟩ := h
      refine ⟨6, rfl, ⟨by simp only [closeM]; rw [if_pos h1], g1, ⟨_, _, (g2 _ (by omega)).trans hF', fun h => absurd h (by decide)⟩, ?_, ?_, fun h => absurd h (by decide), fun y hy => ?_⟩⟩
      · rw [g2 _ (by omega), upd_ne _ _ (by omega)]; exact hL
      · rw [g2 _ (by omega), upd_same]
      · rw [g2 _ (by omega), upd_ne _ _ (by omega)]
    · rw [if_neg h1] at h
      cases hg : (B k).c.getp (pth [nBlocks, (B (k + 1)).w, (B (k + 1)).d]) with
      | some x =>
        rw [hg] at h
        obtain ⟨rfl, g1, g2⟩ := h
        refine ⟨7, rfl, ⟨by simp only [closeM]; rw [if_neg h1, hg], g1, ⟨_, _, (g2 _ (by omega)).trans (upd_same _ _ _), fun h => absurd h (by decide)⟩, ?_, ?_, fun h => absurd h (by decide), fun y hy => ?_⟩⟩
        · rw [g2 _ (by omega), upd_ne _ _ (by omega), upd_ne _ _ (by omega)]; exact hL
        · rw [g2 _ (by omega), upd_ne _ _ (by omega), upd_same]
        · rw [g2 _ (by omega), upd_ne _ _ (by omega), upd_ne _ _ (by omega)]
      | none =>
        rw [hg] at h
        obtain ⟨rfl, g1, g2⟩ := h
        have e : closeM ⟨ls, k + 2, B, t⟩ w = (0, ⟨ls, k + 1, setB B k { B k with c := (B k).c.putp (pth [nBlocks, (B (k + 1)).w, (B (k + 1)).d]) (B (k + 1)).c }, t⟩) := by simp only [closeM]; rw [if_neg h1, hg]
        refine ⟨0, rfl, ⟨by rw [e], g1, ⟨_, _, (g2 _ (by omega)).trans ((upd_ne _ _ (fun e => p3 e.symm)).trans (upd_same _ _ _)), fun h => ⟨rfl, by rw [e]⟩⟩, ?_, ?_, fun h => ⟨Nat.succ_pos _, by rw [e]; rfl, fun i hi => ?_, ?_⟩, fun y hy => ?_⟩⟩
        · rw [g2 _ (by omega), upd_ne _ _ (by omega), upd_ne _ _ (by omega), upd_ne _ _ (by omega)]; exact hL
        · rw [g2 _ (by omega), upd_ne _ _ (by omega), upd_ne _ _ (by omega), upd_same]
        · rw [e]
          dsimp only at hi ⊢
          have hi : i < k + 1 := hi
          have q2 := (hbi i (by omega)).2.1
          have q3 := (hbi i (by omega)).2.2.1
          rcases Nat.lt_succ_iff_lt_or_eq.1 hi with hi | rfl
          · have := hinj i k hi (by omega)
            rw [g2 _ (by omega), upd_ne _ _ this, upd_ne _ _ q3, setB_ne _ _ (by omega : i ≠ k)]
            exact hB' i (by omega)
          · rw [g2 _ (by omega), upd_same, setB_same]
            rfl
        · show s1.H (ix (k + 1)) = _
          rw [g2 _ (by omega), upd_ne _ _ (fun e => hij e.symm), upd_ne _ _ b3]; exact hB' (k + 1) (by omega)
        · rw [g2 _ (by omega), upd_ne _ _ (by omega), upd_ne _ _ (by omega), upd_ne _ _ (by omega)]
theorem blkC_ne (ix : Nat → Nat) (i : Nat) (b : OB) : blkC ix i b ≠ [] := by simp [blkC]
theorem take_sc2 {s : St} (hI : Inv F base H0 m ix L s) (hl : m.ls.length ≤ 100000) (ht : text.length ≤ 1000000) (hm : Mok m) (hb : trimR (text.dropWhile blk) ≠ []) {i : Nat} (hi : ixB 58 text = some i) (hw : text.take i = bEND) (hv : wordL (text.drop (i + 1)) = true) :
    SCallR Tryd.prog 29 [.p F 0, .agg [.s text, .s ed, .nilp, .s [], .s []]] s (fun r s' => r = .i .i64 (closeM m (text.drop (i + 1))).1 ∧ ((closeM m (text.drop (i + 1))).1 = 0 → ∃ ix' L', Inv F base H0 { (closeM m (text.drop (i + 1))).2 with ls := (m.ls ++ [(⟨text, ed, topR m.k, bEND, []⟩ : Ln)]).map (substL (m.k - 1) (blkR (m.k - 1) (m.B (m.k - 1)))) } ix' L' s')) := by
  obtain ⟨H, n⟩ := s
  have hT := take_end (ed := ed) (m := m.ls.length) (R := fun e _ s1 => RC F L n base H ix (lsC ix m.ls) (rowX (.s text) (.s ed) (atV m.k ix) (.s bEND) (.s [])) m (text.drop (i + 1)) e s1) hI.hF hI.hL (lsC_len _ _) (lsC_one _ _) (at_or _ _) hI.bL.2.2 hI.bF.2 hI.bL.2.1 (by omega) ht hb hi hw hv (close_sc hI hl hm)
    (fun e s1 r => ⟨r.fn, by obtain ⟨a, t, h, _⟩ := r.fF; exact ⟨a, t, h⟩, r.fL, r.fX⟩)
  by_cases h0 : (closeM m (text.drop (i + 1))).1 = 0
  · refine SCallR.fz (hT.mono ?_)
    rintro r s' ⟨e, s1, rfl, hr, L', g1, g2, g3, g4, g5, g6⟩
    have he := hr.fe
    rw [h0] at he
    dsimp only at g1 g3 g6
    obtain ⟨a1, t1, f1, f2⟩ := hr.fF
    obtain ⟨rfl, rfl⟩ := f2 he
    obtain ⟨k0, k1, k2, k3⟩ := hr.fB he
    have g4 := g4 _ _ f1
    have hbi := hI.bi
    have hinj := hI.inj
    have hbF : base ≤ F ∧ F < n := hI.bF
    have hbL : base ≤ L ∧ L < n ∧ F ≠ L := hI.bL
    obtain ⟨q1, q2, q3, q4⟩ := hbi (m.k - 1) (by omega)
    dsimp only at q2
    refine ⟨ix (m.k - 1), blkC ix (m.k - 1) (m.B (m.k - 1)), 105, 5, _, ⟨upd (upd s'.H (ix (m.k - 1)) none) L' (rowL (lsC ix ((m.ls ++ [(⟨text, ed, topR m.k, bEND, []⟩ : Ln)]).map (substL (m.k - 1) (blkR (m.k - 1) (m.B (m.k - 1))))))), s'.nxt⟩, ?_, blkC_ne _ _ _, .refl _, ⟨Nat.le_refl _, fun b k' hb' => ?_⟩, ?_, fun _ => ⟨ix, L', ⟨?_, ?_, fun j hj => ?_, ⟨hbF.1, Nat.lt_of_lt_of_le hbF.2 g3⟩, ⟨by omega, g2, by omega⟩, fun j hj => ?_, fun i j hij hj => ?_, fun y hy => ?_⟩⟩⟩
    · rw [g6 _ (by omega) q3 q4]; exact k3
    · dsimp only at hb'
      by_cases hbL' : b = L'
      · subst hbL'
        rw [upd_same] at hb'
        injection hb' with hb'
        subst hb'
        refine ⟨by omega, _, g5, ?_⟩
        have := lsC_fz ix (m.k - 1) (m.B (m.k - 1)) (m.ls ++ [(⟨text, ed, topR m.k, bEND, []⟩ : Ln)])
        rw [lsC_snoc ix m.ls, lnC, rfV_top] at this
        exact .row this
      · rw [upd_ne _ _ hbL'] at hb'
        by_cases hbq : b = ix (m.k - 1)
        · subst hbq; rw [upd_same] at hb'; cases hb'
        · rw [upd_ne _ _ hbq] at hb'
          exact ⟨hbq, _, hb', .refl _⟩
    · rw [he, h0]
    · show upd (upd s'.H (ix (m.k - 1)) none) L' _ F = _
      rw [upd_ne _ _ (by omega), upd_ne _ _ (fun e => q3 e.symm), g4]
      simp only [List.length_map, List.length_append, List.length_cons, List.length_nil, Nat.zero_add, k1]
    · exact upd_same _ _ _
    · dsimp only at hj ⊢
      rw [k1] at hj
      obtain ⟨p1, p2, p3, p4⟩ := hbi j (by omega)
      dsimp only at p2
      have := hinj j (m.k - 1) (by omega) (by omega)
      rw [upd_ne _ _ (by omega), upd_ne _ _ this, g6 _ (by omega) p3 p4]
      exact k2 j hj
    · dsimp only at hj ⊢
      rw [k1] at hj
      obtain ⟨p1, p2, p3, p4⟩ := hbi j (by omega)
      dsimp only at p2
      exact ⟨p1, by omega, p3, by omega⟩
    · dsimp only at hj
      rw [k1] at hj
      exact hinj i j hij (by omega)
    · dsimp only
      rw [upd_ne _ _ (by omega), upd_ne _ _ (by omega), g6 _ (by omega) (by omega) (by omega), hr.fold y hy]
      exact hI.old y hy
  · refine hT.mono ?_
    rintro r s' ⟨e, s1, rfl, hr, _⟩
    exact ⟨by rw [hr.fe], fun h => absurd h h0⟩
end
end Go.Proofs.YtpacfelhjjmmkaaDoor
end
section
namespace Go.Proofs.YtpacfelhjjmmkaaDoor
open Go Go.Sy Go.Tr Go.Kb Go.RowKit Go.Cd
set_option linter.unusedVariables false
set_option linter.unusedSimpArgs false
def propE (m : M) (w says : List UInt8) : Int × M := match vOf says with
  | none => (6, m)
  | some v => propM m (decide (w = bID)) (plainL v) w v
def vD (says : List UInt8) : List UInt8 := (vOf says).getD []
structure RP (F L n base : Nat) (H : Nat → Option Blk) (ix : Nat → Nat) (lc : List SV) (tx ed : List UInt8) (m : M) (w says : List UInt8) (e : Int) (va : List UInt8) (s1 : St) : Prop where
  fe : e = (propE m w says).1
  fn : n + 1 ≤ s1.nxt
  fF : s1.H F = rowF (.sl L 0 m.ls.length) (atV m.k ix) (tv m.t)
  fL : s1.H L = rowL lc
  fX : s1.H n = rowX (.s tx) (.s ed) (atV m.k ix) (.s w) (.s va)
  fB : e = 0 → va = vD says ∧ (propE m w says).2.k = m.k ∧ (propE m w says).2.t = m.t ∧ ∀ i, i < m.k → s1.H (ix i) = some (.row 105 5 (blkC ix i ((propE m w says).2.B i)))
  fo : ∀ y, y < base → s1.H y = H y
section
variable {F base : Nat} {H0 : Nat → Option Blk} {m : M} {ix : Nat → Nat} {L : Nat} {text ed w says : List UInt8}
set_option maxHeartbeats 1000000 in
theorem property_sc {H : Nat → Option Blk} {n : Nat} (hI : Inv F base H0 m ix L ⟨H, n⟩) (hl : m.ls.length ≤ 100000) (hm : Mok m) (hs : says.length ≤ 1000000) :
    SCallR Tryd.prog 55 [.p F 0, .p n 0, .s says] ⟨upd H n (rowX (.s text) (.s ed) (atV m.k ix) (.s w) (.s [])), n + 1⟩ (fun r s1 => ∃ e va, r = .i .i64 e ∧ RP F L n base H ix (lsC ix m.ls) text ed m w says e va s1) := by
  obtain ⟨hz1, hz2⟩ := hm.size hl
  have hbi := hI.bi
  have hinj := hI.inj
  have hF := hI.hF
  have hL := hI.hL
  have hB := hI.hB
  have hbF := hI.bF
  have hbL := hI.bL
  have ht := hm.t
  have hBo := hm.B
  obtain ⟨ls, k, B, t⟩ := m
  dsimp only at *
  have hF' : upd H n (rowX (.s text) (.s ed) (atV k ix) (.s w) (.s [])) F = rowF (.sl L 0 ls.length) (atV k ix) (tv t) := by rw [upd_ne _ _ (by omega : F ≠ n)]; exact hF
  have hB' : ∀ i, i < k → upd H n (rowX (.s text) (.s ed) (atV k ix) (.s w) (.s [])) (ix i) = some (.row 105 5 (blkC ix i (B i))) := fun i hi => by
    have := (hbi i hi).2.1
    rw [upd_ne _ _ (by omega : ix i ≠ n)]; exact hB i hi
  match k, hbi, hinj, hF, hB, hBo, hz2, hF', hB' with
  | 0, hbi, hinj, hF, hB, hBo, hz2, hF', hB' =>
    refine (prop0_sc hF' hs).mono ?_
    rintro r s1 ⟨rfl, g1, g2⟩
    refine ⟨6, [], rfl, ⟨?_, g1, (g2 _ (by omega)).trans hF', ?_, ?_, fun h => absurd h (by decide), fun y hy => ?_⟩⟩
    · unfold propE
      cases vOf says <;> rfl
    · rw [g2 _ (by omega), upd_ne _ _ (by omega)]; exact hL
    · rw [g2 _ (by omega), upd_same]
    · rw [g2 _ (by omega), upd_ne _ _ (by omega)]
  | k + 1, hbi, hinj, hF, hB, hBo, hz2, hF', hB' =>
    obtain ⟨b1, b2, b3, b4⟩ := hbi k (by omega)
    refine (prop_sc hF' (hB' k (by omega)) (upd_same _ _ _) b3 (by omega) (by omega) (by omega) (Nat.lt_succ_of_lt b2) (by omega) hs (hBo k (by omega)) (by have := hz2 k (by omega); omega)).mono ?_
    intro r s1 h
    -- what an outcome that changes no block leaves
    have same : ∀ (e : Int) (va : List UInt8), e ≠ 0 → e = (propE ⟨ls, k + 1, B, t⟩ w says).1 → n + 1 ≤ s1.nxt → (∀ y, y < n + 1 → s1.H y = upd H n (rowX (.s text) (.s ed) (atV (k + 1) ix) (.s w) (.s va)) y) → RP F L n base H ix (lsC ix ls) text ed ⟨ls, k + 1, B, t⟩ w says e va s1 := by
      intro e va h0 h1 g1 g2
      refine ⟨h1, g1, ?_, ?_, ?_, fun h => absurd h h0, fun y hy => ?_⟩
      · rw [g2 _ (by omega), upd_ne _ _ (by omega)]; exact hF
      · rw [g2 _ (by omega), upd_ne _ _ (by omega)]; exact hL
      · rw [g2 _ (by omega), upd_same]
      · rw [g2 _ (by omega), upd_ne _ _ (by omega)]
    have diff : ∀ (v : List UInt8) (b' : OB), vOf says = some v → propE ⟨ls, k + 1, B, t⟩ w says = (0, ⟨ls, k + 1, setB B k b', t⟩) → n + 1 ≤ s1.nxt → (∀ y, y < n + 1 → s1.H y = upd (upd H n (rowX (.s text) (.s ed) (atV (k + 1) ix) (.s w) (.s v))) (ix k) (some (.row 105 5 (blkC ix k b'))) y) → RP F L n base H ix (lsC ix ls) text ed ⟨ls, k + 1, B, t⟩ w says 0 v s1 := by
      intro v b' hv h1 g1 g2
      refine ⟨by rw [h1], g1, ?_, ?_, ?_, fun h => ⟨by rw [vD, hv]; rfl, by rw [h1], by rw [h1], fun i hi => ?_⟩, fun y hy => ?_⟩
      · rw [g2 _ (by omega), upd_ne _ _ (fun e => b3 e.symm), upd_ne _ _ (by omega)]; exact hF
      · rw [g2 _ (by omega), upd_ne _ _ (fun e => b4 e.symm), upd_ne _ _ (by omega)]; exact hL
      · rw [g2 _ (by omega), upd_ne _ _ (by omega), upd_same]
      · rw [h1]
        dsimp only at hi ⊢
        have q2 := (hbi i hi).2.1
        rcases Nat.lt_succ_iff_lt_or_eq.1 hi with hi' | rfl
        · have := hinj i k hi' (by omega)
          rw [g2 _ (by omega), upd_ne _ _ this, upd_ne _ _ (by omega), setB_ne _ _ (by omega : i ≠ k)]
          exact hB i hi
        · rw [g2 _ (by omega), upd_same, setB_same]
      · rw [g2 _ (by omega), upd_ne _ _ (by omega), upd_ne _ _ (by omega)]
    have ups : ∀ va, upd (upd H n (rowX (.s text) (.s ed) (atV (k + 1) ix) (.s w) (.s []))) n (rowX (.s text) (.s ed) (atV (k + 1) ix) (.s w) (.s va)) = upd H n (rowX (.s text) (.s ed) (atV (k + 1) ix) (.s w) (.s va)) := fun va => by
      funext y
      by_cases hy : y = n
      · subst hy; rw [upd_same, upd_same]
      · rw [upd_ne _ _ hy, upd_ne _ _ hy, upd_ne _ _ hy]
    cases hv : vOf says with
    | none =>
      rw [hv] at h
      obtain ⟨rfl, g1, g2⟩ := h
      exact ⟨6, [], rfl, same 6 [] (by decide) (by rw [propE, hv]) g1 g2⟩
    | some v =>
      rw [hv] at h
      dsimp only at h
      by_cases hI : w = bID
      · rw [if_pos hI] at h
        by_cases hp : plainL v = false
        · rw [if_pos hp] at h
          obtain ⟨rfl, g1, g2⟩ := h
          exact ⟨6, [], rfl, same 6 [] (by decide) (by simp [propE, hv, propM, hI, hp]) g1 g2⟩
        · rw [if_neg hp] at h
          have hp : plainL v = true := by revert hp; cases plainL v <;> simp
          by_cases hn : (B k).nm = true
          · rw [if_pos hn] at h
            obtain ⟨rfl, g1, g2⟩ := h
            rw [ups] at g2
            exact ⟨7, v, rfl, same 7 v (by decide) (by simp [propE, hv, propM, hI, hp, hn]) g1 g2⟩
          · rw [if_neg hn] at h
            obtain ⟨rfl, g1, g2⟩ := h
            rw [ups] at g2
            exact ⟨0, v, rfl, diff v { B k with d := v, nm := true } hv (by simp [propE, hv, propM, hI, hp, hn]) g1 g2⟩
      · rw [if_neg hI] at h
        cases hg : (B k).c.getp (pth [nProps, w, v]) with
        | some x =>
          rw [hg] at h
          obtain ⟨rfl, g1, g2⟩ := h
          rw [ups] at g2
          exact ⟨7, v, rfl, same 7 v (by decide) (by simp [propE, hv, propM, hI, hg]) g1 g2⟩
        | none =>
          rw [hg] at h
          obtain ⟨rfl, g1, g2⟩ := h
          rw [ups] at g2
          exact ⟨0, v, rfl, diff v { B k with c := (B k).c.putp (pth [nProps, w, v]) .nil } hv (by simp [propE, hv, propM, hI, hg]) g1 g2⟩
theorem take_sc3 {s : St} (hI : Inv F base H0 m ix L s) (hl : m.ls.length ≤ 100000) (ht : text.length ≤ 1000000) (hm : Mok m) (hb : trimR (text.dropWhile blk) ≠ []) {i : Nat} (hi : ixB 58 text = some i) (hw : wordL (text.take i) = true) (hw1 : text.take i ≠ bBEGIN) (hw2 : text.take i ≠ bEND) :
    SCallR Tryd.prog 29 [.p F 0, .agg [.s text, .s ed, .nilp, .s [], .s []]] s (fun r s' => r = .i .i64 (propE m (text.take i) (text.drop (i + 1))).1 ∧ ((propE m (text.take i) (text.drop (i + 1))).1 = 0 → ∃ ix' L', Inv F base H0 { (propE m (text.take i) (text.drop (i + 1))).2 with ls := m.ls ++ [(⟨text, ed, topR m.k, text.take i, vD (text.drop (i + 1))⟩ : Ln)] } ix' L' s')) := by
  obtain ⟨H, n⟩ := s
  have hT := take_prop (ed := ed) (m := m.ls.length) (R := fun e va s1 => RP F L n base H ix (lsC ix m.ls) text ed m (text.take i) (text.drop (i + 1)) e va s1) hI.hF hI.hL (lsC_len _ _) (lsC_one _ _) (at_or _ _) hI.bL.2.2 hI.bF.2 hI.bL.2.1 (by omega) ht hb hi hw hw1 hw2 (property_sc hI hl hm (by rw [List.length_drop]; omega))
    (fun e va s1 r => ⟨r.fn, ⟨_, _, r.fF⟩, r.fL, r.fX⟩)
  refine hT.mono ?_
  rintro r s' ⟨e, va, s1, rfl, hr, L', g1, g2, g3, g4, g5, g6⟩
  refine ⟨by rw [hr.fe], fun h0 => ?_⟩
  have he := hr.fe
  rw [h0] at he
  dsimp only at g1 g3 g6
  obtain ⟨rfl, k1, k2, k3⟩ := hr.fB he
  have g4 := g4 _ _ hr.fF
  have hbi := hI.bi
  have hinj := hI.inj
  have hbF : base ≤ F ∧ F < n := hI.bF
  have hbL : base ≤ L ∧ L < n ∧ F ≠ L := hI.bL
  refine ⟨ix, L', ⟨?_, ?_, fun j hj => ?_, ⟨hbF.1, Nat.lt_of_lt_of_le hbF.2 g3⟩, ⟨by omega, g2, by omega⟩, fun j hj => ?_, fun i j hij hj => ?_, fun y hy => ?_⟩⟩
  · rw [g4]
    simp only [List.length_append, List.length_cons, List.length_nil, Nat.zero_add, k1, k2]
  · rw [g5, lsC_snoc, lnC, rfV_top]
  · dsimp only at hj ⊢
    rw [k1] at hj
    obtain ⟨p1, p2, p3, p4⟩ := hbi j (by omega)
    dsimp only at p2
    rw [g6 _ (by omega) p3 p4]
    exact k3 j hj
  · dsimp only at hj ⊢
    rw [k1] at hj
    obtain ⟨p1, p2, p3, p4⟩ := hbi j (by omega)
    dsimp only at p2
    exact ⟨p1, by omega, p3, by omega⟩
  · dsimp only at hj
    rw [k1] at hj
    exact hinj i j hij (by omega)
  · rw [g6 _ (by omega) (by omega) (by omega), hr.fo y hy]
    exact hI.old y hy
end
end Go.Proofs.YtpacfelhjjmmkaaDoor
end
section
namespace Go.Proofs.YtpacfelhjjmmkaaDoor
open Go Go.Sy Go.Tr Go.Kb Go.RowKit Go.Cd
set_option linter.unusedVariables false
set_option linter.unusedSimpArgs false
theorem bNE : bBEGIN ≠ bEND := by decide
theorem takeM0 {m : M} {text ed a b : List UInt8} (h : readL text = (0, a, b)) : takeM m text ed = (0, { m with ls := m.ls ++ [⟨text, ed, topR m.k, [], []⟩] }) := by unfold takeM; rw [h]; rfl
theorem takeM1 {m : M} {text ed a says : List UInt8} (h : readL text = (1, a, says)) : takeM m text ed = if 3 < m.k + 1 then (11, m) else (0, { m with k := m.k + 1, B := setB m.B m.k ⟨says, [], false, emptyT⟩, ls := m.ls ++ [⟨text, ed, .op m.k, bBEGIN, []⟩] }) := by unfold takeM; rw [h]; rfl
theorem takeM2 {m : M} {text ed a says : List UInt8} (h : readL text = (2, a, says)) : takeM m text ed = ((closeM m says).1, { (closeM m says).2 with ls := (m.ls ++ [(⟨text, ed, topR m.k, bEND, []⟩ : Ln)]).map (substL (m.k - 1) (blkR (m.k - 1) (m.B (m.k - 1)))) }) := by unfold takeM; rw [h]; rfl
theorem takeM3 {m : M} {text ed w v : List UInt8} (h : readL text = (3, w, v)) : takeM m text ed = ((propM m (decide (w = bID)) true w v).1, { (propM m (decide (w = bID)) true w v).2 with ls := m.ls ++ [⟨text, ed, topR m.k, w, v⟩] }) := by unfold takeM; rw [h]; rfl
theorem takeM4 {m : M} {text ed a b : List UInt8} (h : readL text = (4, a, b)) : takeM m text ed = (6, m) := by unfold takeM; rw [h]; rfl
section
variable {F base : Nat} {H0 : Nat → Option Blk} {m : M} {ix : Nat → Nat} {L : Nat} {text ed w says : List UInt8}
theorem take_sc {s : St} (hI : Inv F base H0 m ix L s) (hl : m.ls.length ≤ 100000) (ht : text.length ≤ 1000000) (hm : Mok m) (hcr : text.any (fun b => b == 13) = false) :
    SCallR Tryd.prog 29 [.p F 0, .agg [.s text, .s ed, .nilp, .s [], .s []]] s (fun r s' => r = .i .i64 (takeM m text ed).1 ∧ ((takeM m text ed).1 = 0 → ∃ ix' L', Inv F base H0 (takeM m text ed).2 ix' L' s')) := by
  by_cases hb : trimR (text.dropWhile blk) = []
  · have hr : readL text = (0, [], []) := by simp [readL, hcr, hb]
    refine (take_sc0 (ed := ed) hI hl ht hm hb).mono ?_
    rintro r s' ⟨rfl, h⟩
    rw [takeM0 hr]
    exact ⟨rfl, fun _ => h⟩
  have bad : readL text = (4, (readL text).2.1, (readL text).2.2) → (∀ i, ixB 58 text = some i → wordL (text.take i) = true → (text.take i = bBEGIN ∨ text.take i = bEND) ∧ wordL (text.drop (i + 1)) = false) → SCallR Tryd.prog 29 [.p F 0, .agg [.s text, .s ed, .nilp, .s [], .s []]] s (fun r s' => r = .i .i64 (takeM m text ed).1 ∧ ((takeM m text ed).1 = 0 → ∃ ix' L', Inv F base H0 (takeM m text ed).2 ix' L' s')) := fun hr hbad => by
    obtain ⟨H, n⟩ := s
    refine (take_bad hI.hF hI.bF.2 ht hb hbad).mono ?_
    rintro r s' rfl
    rw [takeM4 hr]
    exact ⟨rfl, fun h => absurd h (show (6 : Int) ≠ 0 by decide)⟩
  cases hi : ixB 58 text with
  | none => exact bad (by simp [readL, hcr, hb, hi]) (fun i e => by rw [hi] at e; cases e)
  | some i =>
    cases hw : wordL (text.take i) with
    | false => exact bad (by simp [readL, hcr, hb, hi, hw]) (fun j e h => by
        rw [hi] at e; injection e with e; subst e; rw [hw] at h; cases h)
    | true =>
      by_cases hBE : text.take i = bBEGIN ∨ text.take i = bEND
      · cases hv : wordL (text.drop (i + 1)) with
        | false => exact bad (by simp [readL, hcr, hb, hi, hw, hBE, hv]) (fun j e h => by
            rw [hi] at e; injection e with e; subst e; exact ⟨hBE, hv⟩)
        | true =>
          rcases hBE with hB | hE
          · have hr : readL text = (1, bBEGIN, text.drop (i + 1)) := by
              have hw' : wordL bBEGIN = true := by rw [← hB]; exact hw
              simp only [readL, hcr, hb, hi, hw', hv, hB, bNE, if_true, if_false, true_or, Bool.false_eq_true, reduceCtorEq]
            refine (take_sc1 (ed := ed) hI hl ht hm hb hi hB hv).mono ?_
            intro r s' h
            rw [takeM1 hr]
            split
            · rename_i h3
              rw [if_pos h3] at h
              exact ⟨h, fun e => absurd e (show (11 : Int) ≠ 0 by decide)⟩
            · rename_i h3
              rw [if_neg h3] at h
              exact ⟨h.1, fun _ => h.2⟩
          · have hr : readL text = (2, bEND, text.drop (i + 1)) := by
              have hw' : wordL bEND = true := by rw [← hE]; exact hw
              simp only [readL, hcr, hb, hi, hw', hv, hE, bNE.symm, if_true, if_false, or_true, Bool.false_eq_true, reduceCtorEq]
            refine (take_sc2 (ed := ed) hI hl ht hm hb hi hE hv).mono ?_
            intro r s' h
            rw [takeM2 hr]
            exact h
      · have hB : text.take i ≠ bBEGIN := fun e => hBE (.inl e)
        have hE : text.take i ≠ bEND := fun e => hBE (.inr e)
        refine (take_sc3 (ed := ed) hI hl ht hm hb hi hw hB hE).mono ?_
        intro r s' h
        unfold propE vD vOf at h
        cases hu : unesc (text.drop (i + 1)) with
        | none =>
          have hr : readL text = (4, [], []) := by simp [readL, hcr, hb, hi, hw, hBE, hu]
          rw [takeM4 hr]
          rw [hu] at h
          exact ⟨h.1, fun e => absurd e (show (6 : Int) ≠ 0 by decide)⟩
        | some o =>
          rw [hu] at h
          dsimp only at h
          by_cases h80 : o.length ≤ 80
          · rw [if_pos h80] at h
            dsimp only at h
            by_cases hI' : text.take i = bID ∧ plainL o = false
            · have hr : readL text = (4, [], []) := by
                simp only [readL, hcr, hb, hi, hw, hBE, hu, if_false, Bool.false_eq_true, reduceCtorEq]
                rw [if_neg (by omega), if_pos hI']
              rw [takeM4 hr]
              have e6 : ∀ m, (propM m (decide (text.take i = bID)) (plainL o) (text.take i) o).1 = 6 := fun m => by
                unfold propM
                rw [hI'.2, decide_eq_true hI'.1]
                cases m.k <;> simp
              rw [e6] at h
              exact ⟨h.1, fun e => absurd e (show (6 : Int) ≠ 0 by decide)⟩
            · have hr : readL text = (3, text.take i, o) := by
                simp only [readL, hcr, hb, hi, hw, hBE, hu, if_false, Bool.false_eq_true, reduceCtorEq]
                rw [if_neg (by omega), if_neg hI']
              rw [takeM3 hr]
              have e : propM m (decide (text.take i = bID)) (plainL o) (text.take i) o = propM m (decide (text.take i = bID)) true (text.take i) o := by
                by_cases hp : plainL o = true
                · rw [hp]
                · have hn : text.take i ≠ bID := fun e => hI' ⟨e, by revert hp; cases plainL o <;> simp⟩
                  unfold propM
                  rw [decide_eq_false hn]
                  cases m.k <;> simp
              rw [e] at h
              exact h
          · rw [if_neg h80] at h
            have hr : readL text = (4, [], []) := by
              simp only [readL, hcr, hb, hi, hw, hBE, hu, if_false, Bool.false_eq_true, reduceCtorEq]
              rw [if_pos (by omega)]
            rw [takeM4 hr]
            exact ⟨h.1, fun e => absurd e (show (6 : Int) ≠ 0 by decide)⟩
end
end Go.Proofs.YtpacfelhjjmmkaaDoor
end
section
namespace Go.Proofs.YtpacfelhjjmmkaaDoor
open Go Go.Sy Go.Tr Go.Kb Go.RowKit Go.Cd
set_option linter.unusedVariables false
set_option linter.unusedSimpArgs false
theorem emptyT_size : emptyT.size = 2 := rfl
section
variable {m : M} {text ed w v : List UInt8}
theorem close_Mok (hm : Mok m) (h0 : (closeM m w).1 = 0) : (closeM m w).2.t.ok ∧ (closeM m w).2.k + 1 = m.k ∧ (∀ i, i < (closeM m w).2.k → ((closeM m w).2.B i).c.ok) ∧ (closeM m w).2.t.size + sumB (closeM m w).2.B (closeM m w).2.k ≤ m.t.size + sumB m.B m.k + 3 := by
  obtain ⟨h1, h2, _, _, _⟩ := hm
  obtain ⟨ls, k, B, t⟩ := m
  dsimp only at h1 h2 ⊢
  match k, h2, h0 with
  | 0, h2, h0 => exact absurd h0 (show (6 : Int) ≠ 0 by decide)
  | 1, h2, h0 =>
    by_cases c1 : (B 0).w ≠ w ∨ (B 0).nm = false
    · have e : closeM ⟨ls, 1, B, t⟩ w = (6, ⟨ls, 1, B, t⟩) := by simp only [closeM]; rw [if_pos c1]
      rw [e] at h0; exact absurd h0 (show (6 : Int) ≠ 0 by decide)
    · cases hg : t.getp (pth [(B 0).w, (B 0).d]) with
      | some x =>
        have e : closeM ⟨ls, 1, B, t⟩ w = (7, ⟨ls, 1, B, t⟩) := by simp only [closeM]; rw [if_neg c1, hg]
        rw [e] at h0; exact absurd h0 (show (7 : Int) ≠ 0 by decide)
      | none =>
        have e : closeM ⟨ls, 1, B, t⟩ w = (0, ⟨ls, 0, B, t.putp (pth [(B 0).w, (B 0).d]) (B 0).c⟩) := by simp only [closeM]; rw [if_neg c1, hg]
        rw [e]
        refine ⟨Tr.putp_ok (h2 0 (by omega)) h1, rfl, fun i hi => absurd hi (Nat.not_lt_zero _), ?_⟩
        have := Tr.putp_size2 (x := (B 0).c) (pth [(B 0).w, (B 0).d]) t
        simp only [sumB, pth, List.map_cons, List.map_nil, List.length_cons, List.length_nil] at this ⊢
        omega
  | k + 2, h2, h0 =>
    by_cases c1 : (B (k + 1)).w ≠ w ∨ (B (k + 1)).nm = false
    · have e : closeM ⟨ls, k + 2, B, t⟩ w = (6, ⟨ls, k + 2, B, t⟩) := by simp only [closeM]; rw [if_pos c1]
      rw [e] at h0; exact absurd h0 (show (6 : Int) ≠ 0 by decide)
    · cases hg : (B k).c.getp (pth [nBlocks, (B (k + 1)).w, (B (k + 1)).d]) with
      | some x =>
        have e : closeM ⟨ls, k + 2, B, t⟩ w = (7, ⟨ls, k + 2, B, t⟩) := by simp only [closeM]; rw [if_neg c1, hg]
        rw [e] at h0; exact absurd h0 (show (7 : Int) ≠ 0 by decide)
      | none =>
        have e : closeM ⟨ls, k + 2, B, t⟩ w = (0, ⟨ls, k + 1, setB B k { B k with c := (B k).c.putp (pth [nBlocks, (B (k + 1)).w, (B (k + 1)).d]) (B (k + 1)).c }, t⟩) := by simp only [closeM]; rw [if_neg c1, hg]
        rw [e]
        refine ⟨h1, rfl, fun i hi => ?_, ?_⟩
        · dsimp only at hi ⊢
          unfold setB
          split
          · exact Tr.putp_ok (h2 (k + 1) (by omega)) (h2 k (by omega))
          · exact h2 i (by omega)
        · have h3 := Tr.putp_size2 (x := (B (k + 1)).c) (pth [nBlocks, (B (k + 1)).w, (B (k + 1)).d]) (B k).c
          have h4 := sumB_set B { B k with c := (B k).c.putp (pth [nBlocks, (B (k + 1)).w, (B (k + 1)).d]) (B (k + 1)).c } (Nat.lt_add_one k)
          simp only [sumB, pth, List.map_cons, List.map_nil, List.length_cons, List.length_nil] at h3 h4 ⊢
          omega
theorem prop_Mok (hm : Mok m) {isId : Bool} (h0 : (propM m isId true w v).1 = 0) : (propM m isId true w v).2.t = m.t ∧ (propM m isId true w v).2.k = m.k ∧ (∀ i, i < m.k → ((propM m isId true w v).2.B i).c.ok) ∧ sumB (propM m isId true w v).2.B m.k ≤ sumB m.B m.k + 3 := by
  obtain ⟨h1, h2, _, _, _⟩ := hm
  obtain ⟨ls, k, B, t⟩ := m
  dsimp only at h1 h2 ⊢
  match k, h2, h0 with
  | 0, h2, h0 => exact absurd h0 (show (6 : Int) ≠ 0 by decide)
  | k + 1, h2, h0 =>
    have key : ∀ b', propM ⟨ls, k + 1, B, t⟩ isId true w v = (0, ⟨ls, k + 1, setB B k b', t⟩) → b'.c.ok → b'.c.size ≤ (B k).c.size + 3 → (propM ⟨ls, k + 1, B, t⟩ isId true w v).2.t = t ∧ (propM ⟨ls, k + 1, B, t⟩ isId true w v).2.k = k + 1 ∧ (∀ i, i < k + 1 → ((propM ⟨ls, k + 1, B, t⟩ isId true w v).2.B i).c.ok) ∧ sumB (propM ⟨ls, k + 1, B, t⟩ isId true w v).2.B (k + 1) ≤ sumB B (k + 1) + 3 := by
      intro b' e k1 k2
      rw [e]
      refine ⟨rfl, rfl, fun i hi => ?_, ?_⟩
      · dsimp only at hi ⊢
        unfold setB
        split
        · exact k1
        · exact h2 i hi
      · have h4 := sumB_set B b' (Nat.lt_add_one k)
        dsimp only at h4 ⊢
        omega
    by_cases hI : isId = true
    · subst hI
      by_cases hn : (B k).nm = true
      · have e : propM ⟨ls, k + 1, B, t⟩ true true w v = (7, ⟨ls, k + 1, B, t⟩) := by simp [propM, hn]
        rw [e] at h0; exact absurd h0 (show (7 : Int) ≠ 0 by decide)
      · exact key { B k with d := v, nm := true } (by simp [propM, hn]) (h2 k (by omega)) (Nat.le_add_right _ _)
    · cases hg : (B k).c.getp (pth [nProps, w, v]) with
      | some x =>
        have e : propM ⟨ls, k + 1, B, t⟩ isId true w v = (7, ⟨ls, k + 1, B, t⟩) := by simp [propM, hI, hg]
        rw [e] at h0; exact absurd h0 (show (7 : Int) ≠ 0 by decide)
      | none =>
        refine key { B k with c := (B k).c.putp (pth [nProps, w, v]) .nil } (by simp [propM, hI, hg]) (Tr.putp_ok (show Tr.nil.ok from trivial) (h2 k (by omega))) ?_
        have h3 := Tr.putp_size2 (x := .nil) (pth [nProps, w, v]) (B k).c
        simp only [pth, List.map_cons, List.map_nil, List.length_cons, List.length_nil, Tr.size] at h3 ⊢
        omega
theorem readL_kinds (l : List UInt8) : ∃ a b, readL l = (0, a, b) ∨ readL l = (1, a, b) ∨ readL l = (2, a, b) ∨ readL l = (3, a, b) ∨ readL l = (4, a, b) := by
  have key : (readL l).1 = 0 ∨ (readL l).1 = 1 ∨ (readL l).1 = 2 ∨ (readL l).1 = 3 ∨ (readL l).1 = 4 := by
    unfold readL
    repeat' split
    all_goals simp
  have hb : ∀ k, (readL l).1 = k → readL l = (k, (readL l).2.1, (readL l).2.2) := fun k h => by rw [← h]
  refine ⟨(readL l).2.1, (readL l).2.2, ?_⟩
  rcases key with h | h | h | h | h
  · exact .inl (hb _ h)
  · exact .inr (.inl (hb _ h))
  · exact .inr (.inr (.inl (hb _ h)))
  · exact .inr (.inr (.inr (.inl (hb _ h))))
  · exact .inr (.inr (.inr (.inr (hb _ h))))
theorem snoc_lt {ls : List Ln} {l : Ln} {k : Nat} (h : ∀ x ∈ ls, x.of.lt k) (hl : l.of.lt k) : ∀ x ∈ ls ++ [l], x.of.lt k := fun x hx => by
  rcases List.mem_append.1 hx with hx | hx
  · exact h x hx
  · rw [List.mem_singleton.1 hx]; exact hl
theorem take_Mok (hm : Mok m) (h0 : (takeM m text ed).1 = 0) : Mok (takeM m text ed).2 ∧ (takeM m text ed).2.ls.length = m.ls.length + 1 := by
  obtain ⟨a, b, h | h | h | h | h⟩ := readL_kinds text
  · rw [takeM0 h]
    refine ⟨⟨hm.t, hm.B, ?_, hm.k, snoc_lt hm.ls (topR_lt _)⟩, by simp⟩
    have := hm.sz
    simp only [List.length_append, List.length_cons, List.length_nil]
    omega
  · rw [takeM1 h] at h0 ⊢
    by_cases h3 : 3 < m.k + 1
    · rw [if_pos h3] at h0; exact absurd h0 (show (11 : Int) ≠ 0 by decide)
    · rw [if_neg h3]
      refine ⟨⟨hm.t, fun i hi => ?_, ?_, by dsimp only; omega, snoc_lt (fun x hx => Rf.lt_mono (Nat.le_succ _) (hm.ls x hx)) (Nat.lt_succ_self m.k)⟩, by simp⟩
      · dsimp only at hi ⊢
        unfold setB
        split
        · exact emptyT_ok
        · exact hm.B i (by omega)
      · have := hm.sz
        have e := sumB_agree (B := m.B) (B' := setB m.B m.k ⟨b, [], false, emptyT⟩) (k := m.k) (fun j hj => setB_ne _ _ (by omega : j ≠ m.k))
        simp only [List.length_append, List.length_cons, List.length_nil, sumB, setB_same, emptyT_size, e]
        omega
  · rw [takeM2 h] at h0 ⊢
    dsimp only at h0
    obtain ⟨c1, c2, c3, c4⟩ := close_Mok hm h0
    refine ⟨⟨c1, c3, ?_, ?_, ?_⟩, by simp⟩
    · have := hm.sz
      simp only [List.length_map, List.length_append, List.length_cons, List.length_nil]
      omega
    · have := hm.k
      dsimp only
      omega
    · intro x hx
      dsimp only at hx ⊢
      obtain ⟨y, hy, rfl⟩ := List.mem_map.1 hx
      have hk : m.k - 1 + 1 = m.k := by omega
      have hy' : y.of.lt (m.k - 1 + 1) := by rw [hk]; exact snoc_lt hm.ls (topR_lt _) y hy
      rw [show (closeM m b).2.k = m.k - 1 by omega]
      exact substR_lt (x := blkR (m.k - 1) (m.B (m.k - 1))) (topR_lt (m.k - 1)) hy'
  · rw [takeM3 h] at h0 ⊢
    dsimp only at h0
    obtain ⟨c1, c2, c3, c4⟩ := prop_Mok hm h0
    refine ⟨⟨by dsimp only; rw [c1]; exact hm.t, fun i hi => ?_, ?_, by dsimp only; rw [c2]; exact hm.k, ?_⟩, by simp⟩
    · dsimp only at hi ⊢
      rw [c2] at hi
      exact c3 i hi
    · have := hm.sz
      simp only [List.length_append, List.length_cons, List.length_nil, c1, c2]
      omega
    · dsimp only
      rw [c2]
      exact snoc_lt hm.ls (topR_lt _)
  · rw [takeM4 h] at h0
    exact absurd h0 (show (6 : Int) ≠ 0 by decide)
end
end Go.Proofs.YtpacfelhjjmmkaaDoor
end
section
namespace Go.Sy
open Go
set_option linter.unusedVariables false
set_option linter.unusedSimpArgs false
inductive BRe (σ : Env) : Blk → Blk → Prop
  | same (k : Blk) : BRe σ k k
  | row {e z : Nat} {c c' : List SV} (h : ∀ xs, VRs σ c xs → VRs σ c' xs) (h1 : c.all SV.one = true → c'.all SV.one = true) (h0 : c = [] → c' = []) : BRe σ (.row e z c) (.row e z c')
theorem HR.re {σ : Env} {s s2 : St} {w : World} (h : HR σ s w) (hn : s.nxt ≤ s2.nxt) (hH : ∀ b k', s2.H b = some k' → ∃ k, s.H b = some k ∧ BRe σ k k') : Good σ s w σ s2 w := by
  refine ⟨.refl _, ⟨fun b k' e => ?_, h.virt, fun b b' k k' r κ κ' e e' => ?_, fun b k r κ e => ?_, h.frz, fun b hb => h.fresh b (Nat.le_trans hn hb), h.lt, h.m⟩, ⟨rfl, rfl, rfl, Nat.le_refl _, fun _ _ _ => rfl⟩, fun b x r κ e a => ?_, hn, fun _ _ => ⟨rfl, rfl⟩, zn_same⟩
  · obtain ⟨k, h1, h2⟩ := hH b k' e
    cases h2 with
    | same => exact h.blk b _ h1
    | @row e z c c' hw hw1 hw0 =>
      rcases h.blk b _ h1 with ⟨h3, e', z', h4⟩ | ⟨r, κ, o, h3, h4, cc, xs, lo, hi, rfl, h5, h6, h7, h8, h9⟩
      · injection h4 with _ _ h4
        rw [hw0 h4]
        exact .inl ⟨h3, _, _, rfl⟩
      · exact .inr ⟨r, κ, _, h3, h4, cc, xs, lo, hi, rfl, hw _ h5, h6, h7, hw1 h8, h9⟩
  · obtain ⟨_, h1, _⟩ := hH b k e
    obtain ⟨_, h2, _⟩ := hH b' k' e'
    exact h.inj b b' _ _ r κ κ' h1 h2
  · obtain ⟨_, h1, _⟩ := hH b k e
    exact h.apart b _ r κ h1
  · obtain ⟨k, h1, _⟩ := hH b x e
    exact .inr ⟨b, k, κ, h1, a⟩
section
variable {P : Program} {nt : Nat} {T : Tm} {s : St} {Q : Exit → Tm → St → Prop}
theorem SC.ownRow {c : AC} {H : Nat → Option Blk} {n b e z : Nat} {l1 l2 : List SV} (e1 esz : Nat) (hb : H b = some (.row e z (l1 ++ .nils :: l2))) (hbn : b ≠ n) (h : SC P nt c T ⟨upd (upd H n (some (.row e1 esz []))) b (some (.row e z (l1 ++ .sl n 0 0 :: l2))), n + 1⟩ Q) : SC P nt c T ⟨H, n⟩ Q := ⟨h.1, fun code hc σ a w ht hh hnt => by
  have hg := hh.virtual e1 esz
  have hg2 := hg.hr.re (s2 := ⟨upd (upd H n (some (.row e1 esz []))) b (some (.row e z (l1 ++ .sl n 0 0 :: l2))), n + 1⟩) (Nat.le_refl _) (fun y k' e' => by
    dsimp only at e'
    by_cases hy : y = b
    · subst hy
      rw [upd_same] at e'
      injection e' with e'
      subst e'
      refine ⟨_, (upd_ne _ _ hbn).trans hb, .row (fun xs hx => VRs.mid (fun x hv => ?_) hx) ?_ ?_⟩
      · cases hv
        exact .sl0 (if_pos rfl)
      · simp [SV.one]
      · simp
    · rw [upd_ne _ _ hy] at e'
      exact ⟨_, e', .same _⟩)
  refine wp_mono (h.2 code hc _ a w (ht.ext hg.ext) hg2.hr hnt) ?_
  rintro e a' w' ⟨σ2, T', s', q1, q2, q3, q4, q5⟩
  exact ⟨σ2, T', s', q1, q2, q3, (hg.trans hg2).trans q4, q5⟩⟩
end
section
variable {q : Nat} {cs : List SV}
mutual
theorem VR.fz0 {σ : Env} (ha : σ.a q = none) : ∀ {a b : SV} {v : Value}, Fz q [] a b → VR σ a v → VR σ b v
  | _, _, _, .refl a, h => h
  | _, _, _, .p o, h => by
    cases h with
    | p e => rw [ha] at e; cases e
  | _, _, _, .sl n, h => by
    cases h with
    | sl e hn hc h0 => rw [ha] at e; cases e
    | sl0 e => exact .lst0 (fun _ => rfl) (Nat.zero_le _) (fun ad e => by cases e)
  | _, _, _, .lst k, .lst h hx' hp hn hc => .lst h (VRs.fz0 ha k hx') hp hn hc
  | _, _, _, .lst k, .lst0 h0 hc hm => by cases k; exact .lst0 h0 hc hm
  | _, _, _, .agg k, .agg h => .agg (VRs.fz0 ha k h)
  | _, _, _, .tup k, .tup h => .tup (VRs.fz0 ha k h)
  | _, _, _, .pl k, .pl h hx' hp => .pl h (VRs.fz0 ha k hx') hp
theorem VRs.fz0 {σ : Env} (ha : σ.a q = none) : ∀ {a b : List SV} {v : List Value}, Fzs q [] a b → VRs σ a v → VRs σ b v
  | _, _, _, .nil, h => h
  | _, _, _, .cons k t, .cons h r => .cons (VR.fz0 ha k h) (VRs.fz0 ha t r)
end
theorem HR.fz2 {σ : Env} {s s2 : St} {w : World} (h : HR σ s w) {e z : Nat} (hq : s.H q = some (.row e z cs)) (hH : FzH q cs s s2) :
    ∃ σ', Good σ s w σ' s2 w ∧ (∀ a b v, Fz q cs a b → VR σ a v → VR σ' b v) := by
  by_cases hne : cs = []
  · subst hne
    cases ha : σ.a q with
    | none =>
      refine ⟨σ, h.re hH.1 (fun b k' e => ?_), fun a b v hf hv => VR.fz0 ha hf hv⟩
      obtain ⟨hb, k, h1, h2⟩ := hH.2 b k' e
      refine ⟨k, h1, ?_⟩
      cases h2 with
      | row hw => exact .row (fun xs hx => VRs.fz0 ha hw hx) hw.one (fun e0 => by subst e0; cases hw; rfl)
    | some rk =>
      obtain ⟨r, κ⟩ := rk
      have hv : σ.v q = false := by
        cases hv : σ.v q with
        | false => rfl
        | true => rw [h.virt q hv] at ha; cases ha
      obtain ⟨xs, hx, hg⟩ := h.freeze hq ha
      have ha' : (σ.frz r xs).a q = some (r, κ) := ha
      have hv' : (σ.frz r xs).v q = false := hv
      have hz' : (σ.frz r xs).z r = some xs := if_pos rfl
      have hx' := hx.ext hg.ext
      have h' := hg.hr
      have h2 : Good (σ.frz r xs) { s with H := upd s.H q none } w (σ.frz r xs) s2 w := by
        refine h'.re hH.1 (fun b k' e => ?_)
        obtain ⟨hb, k, h1, h2⟩ := hH.2 b k' e
        refine ⟨k, (upd_ne _ _ hb).trans h1, ?_⟩
        cases h2 with
        | row hw => exact .row (fun xs hx => VRs.fz ha' hv' hz' hx' hw hx) hw.one (fun e0 => by subst e0; cases hw; rfl)
      exact ⟨_, hg.trans h2, fun a b v hf hva => VR.fz ha' hv' hz' hx' hf (hva.ext hg.ext)⟩
  · exact h.fz hq hne hH
theorem SCallR.fz2 {P : Program} {f : Nat} {az : List SV} {s : St} {Q : SV → St → Prop} (h : SCallR P f az s fun r s' => ∃ q cs e z r' s2, s'.H q = some (.row e z cs) ∧ Fz q cs r r' ∧ FzH q cs s' s2 ∧ Q r' s2) : SCallR P f az s Q := fun σ w vs hh hv =>
  (h σ w vs hh hv).mono fun x w' ⟨r, s1, σ', h1, h2, q, cs, e, z, r', s2, g1, g3, g4, g5⟩ => by
    obtain ⟨σ2, k1, k2⟩ := h2.hr.fz2 g1 g4
    exact ⟨r', s2, σ2, k2 _ _ _ g3 h1, h2.trans k1, g5⟩
theorem SC.fz2 {P : Program} {nt : Nat} {c : AC} {T T2 : Tm} {s s2 : St} {Q : Exit → Tm → St → Prop} {e z : Nat} (hq : s.H q = some (.row e z cs)) (hH : FzH q cs s s2) (hT : ∀ t v', T2.get t = some v' → ∃ v, T.get t = some v ∧ Fz q cs v v') (h : SC P nt c T2 s2 Q) : SC P nt c T s Q := ⟨h.1, fun code hc σ a w ht hh hnt => by
  obtain ⟨σ', hg, hf⟩ := hh.fz2 hq hH
  refine wp_mono (h.2 code hc σ' a w (fun t v' e' => ?_) hg.hr hnt) ?_
  · obtain ⟨v, h1, h2⟩ := hT t v' e'
    exact ⟨(ht t v h1).1, hf _ _ _ h2 (ht t v h1).2⟩
  · rintro e a' w' ⟨σ2, T', s', q1, q2, q3, q4, q5⟩
    exact ⟨σ2, T', s', q1, q2, q3, hg.trans q4, q5⟩⟩
theorem SCallR.fewer {P : Program} {f : Nat} {az : List SV} {s : St} {Q : SV → St → Prop} (h : SCallR P f az s fun r s' => ∃ s2, (∀ b k, s2.H b = some k → s'.H b = some k) ∧ s'.nxt ≤ s2.nxt ∧ Q r s2) : SCallR P f az s Q := fun σ w vs hh hv =>
  (h σ w vs hh hv).mono fun x w' ⟨r, s1, σ', h1, h2, s2, g1, g2, g3⟩ => ⟨r, s2, σ', h1, h2.fewer g1 g2, g3⟩
end
end Go.Sy
end
section
set_option maxHeartbeats 20000000
namespace Go.Proofs.YtpacfelhjjmmkaaDoor
open Go Go.Sy Go.Tr Go.Kb Go.RowKit Go.Cd
set_option linter.unusedVariables false
set_option linter.unusedSimpArgs false
def B0 : OB := ⟨[], [], false, .nil⟩
def M0 : M := ⟨[], 0, fun _ => B0, .nil⟩
def runM : M → Nat → List (List UInt8 × List UInt8) → Int × Nat × M
  | m, i, [] => (0, i, m)
  | m, i, x :: r => if x.1.any (fun b => b == 13) = true then (6, i + 1, m) else
    if (takeM m x.1 x.2).1 = 0 then runM (takeM m x.1 x.2).2 (i + 1) r else ((takeM m x.1 x.2).1, i + 1, m)
def loadM (l : List UInt8) : Int × Nat × M :=
  if 4000 < l.length then (5, 0, M0) else
  if (runM M0 0 (splitL l)).1 ≠ 0 then runM M0 0 (splitL l) else
  if (runM M0 0 (splitL l)).2.2.k ≠ 0 then (6, (splitL l).length, (runM M0 0 (splitL l)).2.2) else
  if (chk (runM M0 0 (splitL l)).2.2.t 1 0 none).1 ≠ 0 then ((chk (runM M0 0 (splitL l)).2.2.t 1 0 none).1, 0, (runM M0 0 (splitL l)).2.2) else (0, 0, (runM M0 0 (splitL l)).2.2)
def ix0 : Nat → Nat := fun _ => 0
def fileV (m : M) : SV := .pl [.lst m.ls.length (lsC ix0 m.ls), .nilp, tv m.t]
def loadV (r : Int × Nat × M) : SV := .tup [if r.1 = 0 then fileV r.2.2 else .nilp, .i .i64 r.2.1, .i .i64 r.1]
theorem Mok0 : Mok M0 := ⟨trivial, fun i hi => absurd hi (Nat.not_lt_zero _), Nat.le_refl _, Nat.zero_le _, fun l hl => by cases hl⟩
theorem splitL_text (l : List UInt8) : ∀ x ∈ splitL l, x.1.length ≤ l.length := by
  suffices key : ∀ (n : Nat) (l : List UInt8), l.length ≤ n → ∀ x ∈ splitL l, x.1.length ≤ l.length from key _ l (Nat.le_refl _)
  intro n
  induction n with
  | zero =>
    intro l hl x hx
    have : l = [] := List.length_eq_zero_iff.1 (by omega)
    subst this
    simp [splitL, splitN, ixB] at hx
  | succ n ih =>
    intro l hl x hx
    cases hi : ixB 10 l with
    | none =>
      rw [splitL_none hi] at hx
      split at hx
      · cases hx
      · rw [List.mem_singleton.1 hx]; exact Nat.le_refl _
    | some i =>
      obtain ⟨h1, _⟩ := ixB_lt hi
      rw [splitL_some hi] at hx
      rcases List.mem_cons.1 hx with rfl | hx
      · have : (l.take i).length ≤ l.length := by rw [List.length_take]; omega
        unfold endL
        split
        · rw [List.length_dropLast]; omega
        · exact this
      · have := ih (l.drop (i + 1)) (by rw [List.length_drop]; omega) x hx
        rw [List.length_drop] at this
        omega
theorem lineC_at : ∀ (x : List (List UInt8 × List UInt8)) (i : Nat) (p : List UInt8 × List UInt8), x[i]? = some p → ((lineC x).drop (i * 2)).take 2 = [.s p.1, .s p.2]
  | y :: x, 0, p, h => by
    simp at h
    subst h
    rfl
  | y :: x, i + 1, p, h => by
    have := lineC_at x i p (by simpa using h)
    rw [show (i + 1) * 2 = i * 2 + 1 + 1 by omega]
    exact this
theorem ixI_any (c : UInt8) (l : List UInt8) : decide (0 ≤ ixI c l) = l.any (fun b => b == c) := by
  unfold ixI
  induction l with
  | nil => rfl
  | cons a l ih =>
    rw [List.any_cons, ← ih]
    by_cases h : a = c
    · subst h
      simp [ixB]
    · have h1 : (a == c) = false := by simpa using h
      rw [h1, Bool.false_or]
      simp only [ixB, if_neg h]
      cases hx : ixB c l with
      | none => simp [hx]
      | some i =>
        simp only [hx, Option.map_some]
        rw [decide_eq_true (Int.natCast_nonneg _), decide_eq_true (Int.natCast_nonneg _)]
section
variable {F base : Nat} {H0 : Nat → Option Blk} {m : M} {ix : Nat → Nat} {L : Nat}
theorem Inv.more {H : Nat → Option Blk} {n : Nat} {X : Option Blk} (h : Inv F base H0 m ix L ⟨H, n⟩) (hn : base ≤ n) : Inv F base H0 m ix L ⟨upd H n X, n + 1⟩ := by
  have bF : base ≤ F ∧ F < n := h.bF
  have bL : base ≤ L ∧ L < n ∧ F ≠ L := h.bL
  refine ⟨?_, ?_, fun i hi => ?_, ⟨bF.1, by dsimp only; omega⟩, ⟨bL.1, by dsimp only; omega, bL.2.2⟩, fun i hi => ?_, h.inj, fun y hy => ?_⟩
  · dsimp only; rw [upd_ne _ _ (by omega)]; exact h.hF
  · dsimp only; rw [upd_ne _ _ (by omega)]; exact h.hL
  · have := (h.bi i hi).2.1
    dsimp only at this ⊢
    rw [upd_ne _ _ (by omega)]; exact h.hB i hi
  · obtain ⟨a, b, c, d⟩ := h.bi i hi
    dsimp only at b ⊢
    exact ⟨a, by omega, c, d⟩
  · dsimp only
    rw [upd_ne _ _ (by omega)]; exact h.old y hy
theorem runM_len : ∀ (x : List (List UInt8 × List UInt8)) (m : M) (i : Nat), (runM m i x).2.1 ≤ i + x.length
  | [], m, i => Nat.le_refl _
  | p :: x, m, i => by
    rw [runM]
    split
    · simp only [List.length_cons]; omega
    · split
      · have := runM_len x (takeM m p.1 p.2).2 (i + 1)
        simp only [List.length_cons]; omega
      · simp only [List.length_cons]; omega
theorem load_raw (l : List UInt8) (H : Nat → Option Blk) (n : Nat) (hl : l.length ≤ 1000000) :
    SCallR Tryd.prog 18 [.s l] ⟨H, n⟩ (fun r s' => if (loadM l).1 = 0 then ∃ F L, r = .tup [.p F 0, .i .i64 0, .i .i64 0] ∧ Inv F n H (loadM l).2.2 ix0 L s' ∧ (loadM l).2.2.k = 0 ∧ Mok (loadM l).2.2 else r = .tup [.nilp, .i .i64 (loadM l).2.1, .i .i64 (loadM l).1]) := by
  refine SCallR.enter cc_card_load ?_
  dsimp only [c_card_load, argT]
  by_cases h4 : 4000 < l.length
  · refine SC.seq ?_ nofun; refine SC.regK ?_; refine k_mv ?_; refine k_mv ?_; refine k_mv ?_; refine k_nil ?_; refine okS ?_ rfl; refine SC.seq ?_ nofun; refine SC.seq ?_ nofun; refine SC.regK ?_; refine k_mv ?_; refine k_bls ?_; refine k_it ?_; refine k_nil ?_; refine okS ?_ rfl; refine SC.cond_t rfl ?_; refine SC.seq ?_ nofun; refine SC.regK ?_; refine k_mv ?_; refine k_mv ?_; refine k_mv ?_; refine k_nil ?_; refine okS ?_ rfl; refine SC.ret ?_
    refine ⟨_, rfl, ?_⟩
    dsimp only
    have e : loadM l = (5, 0, M0) := if_pos h4
    rw [e, if_neg (show (5 : Int) ≠ 0 by decide)]
    rfl
  · have hs := fun s => splitC_sc l s hl
    have hN := splitL_len l.length l (Nat.le_refl _)
    have htx := splitL_text l
    have hcl := lineC_len (splitL l)
    have hat := lineC_at (splitL l)
    have e0 : loadM l = if (runM M0 0 (splitL l)).1 ≠ 0 then runM M0 0 (splitL l) else
        if (runM M0 0 (splitL l)).2.2.k ≠ 0 then (6, (splitL l).length, (runM M0 0 (splitL l)).2.2) else
        if (chk (runM M0 0 (splitL l)).2.2.t 1 0 none).1 ≠ 0 then ((chk (runM M0 0 (splitL l)).2.2.t 1 0 none).1, 0, (runM M0 0 (splitL l)).2.2) else (0, 0, (runM M0 0 (splitL l)).2.2) := if_neg h4
    generalize hLs : splitL l = Ls at *
    refine SC.seq ?_ nofun; refine SC.regK ?_; refine k_mv ?_; refine k_mv ?_; refine k_mv ?_; refine k_nil ?_; refine okS ?_ rfl; refine SC.seq ?_ nofun; refine SC.seq ?_ nofun; refine SC.regK ?_; refine k_mv ?_; refine k_bls ?_; refine k_if ?_; refine k_nil ?_; refine okS ?_ rfl; refine SC.cond_f rfl ?_; refine SC.skip ?_; refine SC.seq ?_ nofun; refine SC.regK ?_; refine k_bld ?_; refine k_box ?_ (c := [SV.nils, SV.nilp, SV.nils]); refine k_mv ?_; refine k_nil ?_; refine okS ?_ rfl; refine SC.seq ?_ nofun; refine SC.regK ?_; refine k_mv ?_; refine k_call (hs _) ?_; refine k_mv ?_; refine k_nil ?_; refine okS ?_ rfl; refine SC.seq ?_ nofun; refine SC.seq ?_ nofun; refine SC.regK ?_; refine k_mv ?_; refine k_bll ?_; refine k_mv ?_; refine k_nil ?_; refine okS ?_ rfl; refine SC.blk ?_
    refine SC.ownRow 71 5 (b := n) (l1 := []) (by ((try dsimp only) <;> (repeat first | assumption | with_reducible rfl | exact h_same rfl | refine h_ne (by first | assumption | omega) ?_))) (by omega) ?_
    refine SC.weakRow (b := n) (cs := [.sl (n + 1) 0 0, .nilp, .nils]) (m := 3) (cs' := [.sl (n + 1) 0 0, .nilp, tv .nil]) (by ((try dsimp only) <;> (repeat first | assumption | with_reducible rfl | exact h_same rfl | refine h_ne (by first | assumption | omega) ?_))) (.cons (.refl _) (.cons (.refl _) (.cons .nil .nil))) ?_
    refine SC.loop [2, 5, 17, 18, 19] (fun vs s' => ∃ (i : Nat) (m : M) (ix : Nat → Nat) (L : Nat), i ≤ Ls.length ∧ vs = [.p n 0, .lst Ls.length (lineC Ls), .lst Ls.length (lineC Ls), .i .i64 Ls.length, .i .i64 i] ∧ Inv n n H m ix L s' ∧ Mok m ∧ m.ls.length = i ∧ runM M0 0 Ls = runM m i (Ls.drop i)) (fun vs _ => match vs with
      | [_, _, _, _, .i _ i] => Ls.length - i.toNat
      | _ => 0) rfl ⟨0, M0, ix0, n + 1, Nat.zero_le _, rfl, ⟨by dsimp only; ((try dsimp only) <;> (repeat first | assumption | with_reducible rfl | exact h_same rfl | refine h_ne (by first | assumption | omega) ?_)), by dsimp only; ((try dsimp only) <;> (repeat first | assumption | with_reducible rfl | exact h_same rfl | refine h_ne (by first | assumption | omega) ?_)), fun i hi => absurd hi (Nat.not_lt_zero _), ⟨Nat.le_refl _, by dsimp only; omega⟩, ⟨by omega, by dsimp only; omega, by omega⟩, fun i hi => absurd hi (Nat.not_lt_zero _), fun i j hij hj => absurd hj (Nat.not_lt_zero _), fun y hy => by dsimp only; ((try dsimp only) <;> (repeat first | assumption | with_reducible rfl | exact h_same rfl | refine h_ne (by first | assumption | omega) ?_))⟩, Mok0, rfl, rfl⟩ nofun ?_
    rintro _ ⟨H', n'⟩ ⟨i, m, ix, L, hi, rfl, hI, hm, hml, hr⟩
    have hF := hI.hF
    have hbF : n ≤ n ∧ n < n' := hI.bF
    have hold := hI.old
    dsimp only at hF hold
    by_cases h : i < Ls.length
    · have hx : Ls[i]? = some Ls[i] := List.getElem?_eq_getElem h
      rw [List.drop_eq_getElem_cons h, runM] at hr
      have ha := hat _ _ hx
      have htxi := htx _ (List.getElem_mem h)
      generalize Ls[i] = p at hx hr ha htxi
      obtain ⟨tx, ed⟩ := p
      dsimp only at hr ha htxi
      have hc := fun s => contains1_sc tx 13 s
      rw [ixI_any] at hc
      cases h13 : tx.any (fun b => b == 13) with
      | true =>
        rw [h13] at hc
        rw [if_pos h13] at hr
        refine SC.seq ?_ nofun; refine SC.regK ?_; refine k_it ?_; refine k_nil ?_; refine okS ?_ rfl; refine SC.seq ?_ nofun; refine SC.cond_t rfl ?_; refine SC.skip ?_; refine SC.seq ?_ nofun; refine SC.blk ?_; refine SC.seq ?_ nofun; refine SC.regK ?_; refine k_mv ?_; refine k_ial ?_; refine k_lnl ?_; refine k_alc ?_; refine k_mv ?_; refine k_sts ?_ (c' := [SV.s tx, SV.s ed]); refine k_nil ?_; refine okS ?_ rfl; refine SC.seq ?_ nofun; refine SC.seq ?_ nofun; refine SC.regK ?_; refine k_fa ?_; refine k_ldp ?_; refine k_call (hc _) ?_; refine k_nil ?_; refine okS ?_ rfl; refine SC.cond_t rfl ?_; refine SC.seq ?_ nofun; refine SC.regK ?_; refine k_mv ?_; refine k_add ?_; refine k_mv ?_; refine k_mv ?_; refine k_mv ?_; refine k_nil ?_; refine okS ?_ rfl; refine SC.ret ?_
        refine ⟨_, rfl, ?_⟩
        dsimp only
        have e : loadM l = (6, i + 1, m) := by rw [e0, hr, if_pos (show (6 : Int) ≠ 0 by decide)]
        rw [e, if_neg (show (6 : Int) ≠ 0 by decide)]
        congr 1
      | false =>
        rw [h13] at hc
        rw [if_neg (by rw [h13]; decide)] at hr
        have hI2 := hI.more (X := some (.row 67 2 [.s tx, .s ed])) (Nat.le_of_lt hbF.2)
        have hT := take_sc (ed := ed) hI2 (by omega) (by omega) hm h13
        refine SC.seq ?_ nofun; refine SC.regK ?_; refine k_it ?_; refine k_nil ?_; refine okS ?_ rfl; refine SC.seq ?_ nofun; refine SC.cond_t rfl ?_; refine SC.skip ?_; refine SC.seq ?_ nofun; refine SC.blk ?_; refine SC.seq ?_ nofun; refine SC.regK ?_; refine k_mv ?_; refine k_ial ?_; refine k_lnl ?_; refine k_alc ?_; refine k_mv ?_; refine k_sts ?_ (c' := [SV.s tx, SV.s ed]); refine k_nil ?_; refine okS ?_ rfl; refine SC.seq ?_ nofun; refine SC.seq ?_ nofun; refine SC.regK ?_; refine k_fa ?_; refine k_ldp ?_; refine k_call (hc _) ?_; refine k_nil ?_; refine okS ?_ rfl; refine SC.cond_f rfl ?_; refine SC.skip ?_; refine SC.seq ?_ nofun; refine SC.regK ?_; refine k_mv ?_; refine k_lnp ?_ (c' := [SV.s tx, SV.s ed]); refine k_bld ?_; refine k_callR (hT) ?_ (hok := okCS rfl)
        rintro _ ⟨H2, n2⟩ ⟨rfl, hT2⟩
        by_cases he : (takeM m tx ed).1 = 0
        · have hd : decide ((takeM m tx ed).1 = 0) = true := decide_eq_true he
          rw [if_pos he] at hr
          obtain ⟨ix', L', hI3⟩ := hT2 he
          obtain ⟨hm3, hl3⟩ := take_Mok hm he
          refine k_mv ?_; refine k_nil ?_; refine okS ?_ rfl; refine SC.seq ?_ nofun; refine SC.regK ?_; refine k_mv ?_; refine k_if ?_; refine k_nil ?_; refine okS ?_ rfl; refine SC.cond_f rfl ?_; refine SC.skip ?_; refine SC.regK ?_; refine k_add ?_; refine k_mv ?_; refine k_nil ?_; refine okS ?_ rfl
          refine ⟨_, rfl, ⟨i + 1, _, ix', L', h, rfl, hI3, hm3, by omega, hr⟩, ?_⟩
          simp; omega
        · have hd : decide ((takeM m tx ed).1 = 0) = false := decide_eq_false he
          rw [if_neg he] at hr
          have hI3 := hT2
          refine k_mv ?_; refine k_nil ?_; refine okS ?_ rfl; refine SC.seq ?_ nofun; refine SC.regK ?_; refine k_mv ?_; refine k_it ?_; refine k_nil ?_; refine okS ?_ rfl; refine SC.cond_t rfl ?_; refine SC.seq ?_ nofun; refine SC.regK ?_; refine k_mv ?_; refine k_add ?_; refine k_mv ?_; refine k_mv ?_; refine k_mv ?_; refine k_mv ?_; refine k_nil ?_; refine okS ?_ rfl; refine SC.ret ?_
          refine ⟨_, rfl, ?_⟩
          have e : loadM l = ((takeM m tx ed).1, i + 1, m) := by rw [e0, hr, if_pos he]
          dsimp only
          rw [e, if_neg he]
          congr 1
    · obtain rfl : i = Ls.length := by omega
      rw [List.drop_length, runM] at hr
      rw [hr, if_neg (by simp)] at e0
      dsimp only at e0
      have hz := (hm.size (by omega)).1
      have hck := fun s => check_sc (s := s) (v := tv m.t) (t := m.t) rfl (by omega)
      cases hk : m.k with
      | succ k =>
        rw [hk] at hF
        dsimp only [atV] at hF
        rw [if_pos (by omega)] at e0
        refine SC.seq ?_ nofun; refine SC.regK ?_; refine k_if ?_; refine k_nil ?_; refine okS ?_ rfl; refine SC.seq ?_ nofun; refine SC.cond_f rfl ?_; refine SC.exit ?_; refine SC.seq ?_ nofun; refine SC.seq ?_ nofun; refine SC.regK ?_; refine k_mv ?_; refine k_nilc ?_; refine k_fa ?_; refine k_ldp ?_; refine k_pn ?_; refine k_nil ?_; refine okS ?_ rfl; refine SC.cond_t rfl ?_; refine SC.seq ?_ nofun; refine SC.regK ?_; refine k_mv ?_; refine k_bll ?_; refine k_mv ?_; refine k_mv ?_; refine k_mv ?_; refine k_nil ?_; refine okS ?_ rfl; refine SC.ret ?_
        refine ⟨_, rfl, ?_⟩
        dsimp only
        rw [e0, if_neg (show (6 : Int) ≠ 0 by decide)]
      | zero =>
        rw [hk] at hF
        dsimp only [atV] at hF
        rw [if_neg (by omega)] at e0
        by_cases hc0 : (chk m.t 1 0 none).1 = 0
        · have hd : decide ((chk m.t 1 0 none).1 = 0) = true := decide_eq_true hc0
          rw [if_neg (by simp [hc0])] at e0
          refine SC.seq ?_ nofun; refine SC.regK ?_; refine k_if ?_; refine k_nil ?_; refine okS ?_ rfl; refine SC.seq ?_ nofun; refine SC.cond_f rfl ?_; refine SC.exit ?_; refine SC.seq ?_ nofun; refine SC.seq ?_ nofun; refine SC.regK ?_; refine k_mv ?_; refine k_nilc ?_; refine k_fa ?_; refine k_ldp ?_; refine k_nn ?_; refine k_nil ?_; refine okS ?_ rfl; refine SC.cond_f rfl ?_; refine SC.skip ?_; refine SC.seq ?_ nofun; refine SC.seq ?_ nofun; refine SC.regK ?_; refine k_mv ?_; refine k_nilc ?_; refine k_fa ?_; refine k_ldp ?_; refine k_call (hck _) ?_; refine k_mv ?_; refine k_nil ?_; refine okS ?_ rfl; refine SC.seq ?_ nofun; refine SC.regK ?_; refine k_mv ?_; refine k_if ?_; refine k_nil ?_; refine okS ?_ rfl; refine SC.cond_f rfl ?_; refine SC.skip ?_; refine SC.seq ?_ nofun; refine SC.regK ?_; refine k_mv ?_; refine k_mv ?_; refine k_mv ?_; refine k_mv ?_; refine k_nil ?_; refine okS ?_ rfl; refine SC.ret ?_
          refine ⟨_, rfl, ?_⟩
          dsimp only
          rw [e0, if_pos rfl]
          refine ⟨n, L, rfl, ⟨?_, ?_, fun i hi => absurd hi (by dsimp only; omega), hI.bF, hI.bL, fun i hi => absurd hi (by dsimp only; omega), fun i j hij hj => absurd hj (by dsimp only; omega), hI.old⟩, hk, hm⟩
          · dsimp only
            rw [hF, hk]
            rfl
          · have hlt := hm.ls
            rw [hk] at hlt
            dsimp only
            rw [lsC_agree (ix := ix) (k := 0) (fun i hi => absurd hi (Nat.not_lt_zero _)) hlt]
            exact hI.hL
        · have hd : decide ((chk m.t 1 0 none).1 = 0) = false := decide_eq_false hc0
          rw [if_pos hc0] at e0
          refine SC.seq ?_ nofun; refine SC.regK ?_; refine k_if ?_; refine k_nil ?_; refine okS ?_ rfl; refine SC.seq ?_ nofun; refine SC.cond_f rfl ?_; refine SC.exit ?_; refine SC.seq ?_ nofun; refine SC.seq ?_ nofun; refine SC.regK ?_; refine k_mv ?_; refine k_nilc ?_; refine k_fa ?_; refine k_ldp ?_; refine k_nn ?_; refine k_nil ?_; refine okS ?_ rfl; refine SC.cond_f rfl ?_; refine SC.skip ?_; refine SC.seq ?_ nofun; refine SC.seq ?_ nofun; refine SC.regK ?_; refine k_mv ?_; refine k_nilc ?_; refine k_fa ?_; refine k_ldp ?_; refine k_call (hck _) ?_; refine k_mv ?_; refine k_nil ?_; refine okS ?_ rfl; refine SC.seq ?_ nofun; refine SC.regK ?_; refine k_mv ?_; refine k_it ?_; refine k_nil ?_; refine okS ?_ rfl; refine SC.cond_t rfl ?_; refine SC.seq ?_ nofun; refine SC.regK ?_; refine k_mv ?_; refine k_mv ?_; refine k_mv ?_; refine k_mv ?_; refine k_nil ?_; refine okS ?_ rfl; refine SC.ret ?_
          refine ⟨_, rfl, ?_⟩
          dsimp only
          rw [e0, if_neg hc0]
          rfl
theorem lo_tv (n : Nat) (t : Tr) : Lo n (tv t) := .lst (los_tvc n t)
mutual
theorem lo_rf {n k : Nat} {ix : Nat → Nat} (hx : ∀ i, i < k → ix i < n) : ∀ {r : Rf}, r.lt k → Lo n (rfV ix r)
  | .no, _ => .nilp
  | .op i, h => .p (hx i h)
  | .cl inn w d nm c, h => .pl (.cons (lo_rf hx (r := inn) h) (.cons .s (.cons .s (.cons .b (.cons (lo_tv n c) .nil)))))
end
theorem los_app {n : Nat} : ∀ {a b : List SV}, Los n a → Los n b → Los n (a ++ b)
  | _, _, .nil, h => h
  | _, _, .cons k t, h => .cons k (los_app t h)
theorem los_ls {n k : Nat} {ix : Nat → Nat} (hx : ∀ i, i < k → ix i < n) : ∀ {ls : List Ln}, (∀ l ∈ ls, l.of.lt k) → Los n (lsC ix ls)
  | [], _ => .nil
  | l :: ls, h => by
    have := los_ls hx (ls := ls) (fun x hx => h x (by simp [hx]))
    simp only [lsC, List.flatMap_cons] at this ⊢
    exact los_app (.cons .s (.cons .s (.cons (lo_rf hx (h l (by simp))) (.cons .s (.cons .s .nil))))) this
theorem run_Mok : ∀ (x : List (List UInt8 × List UInt8)) (m : M) (i : Nat), Mok m → Mok (runM m i x).2.2
  | [], m, i, h => h
  | p :: x, m, i, h => by
    rw [runM]
    split
    · exact h
    · split
      · rename_i h0
        exact run_Mok x _ _ (take_Mok h h0).1
      · exact h
theorem load_Mok (l : List UInt8) : Mok (loadM l).2.2 := by
  have := run_Mok (splitL l) M0 0 Mok0
  unfold loadM
  repeat' split
  all_goals first | exact this | exact Mok0
theorem load_k {l : List UInt8} (h : (loadM l).1 = 0) : (loadM l).2.2.k = 0 := by
  revert h
  unfold loadM
  repeat' split
  · exact fun h => absurd h (show (5 : Int) ≠ 0 by decide)
  · rename_i h1; exact fun h => absurd h h1
  · exact fun h => absurd h (show (6 : Int) ≠ 0 by decide)
  · rename_i h1; exact fun h => absurd h h1
  · rename_i h1 h2
    intro _
    exact Decidable.not_not.1 h1
theorem load_n {l : List UInt8} (h : (loadM l).1 = 0) : (loadM l).2.1 = 0 := by
  revert h
  unfold loadM
  repeat' split
  · exact fun h => absurd h (show (5 : Int) ≠ 0 by decide)
  · rename_i h1; exact fun h => absurd h h1
  · exact fun h => absurd h (show (6 : Int) ≠ 0 by decide)
  · intro _; rfl
  · intro _; rfl
theorem lo_loadV {l : List UInt8} (n : Nat) : Lo n (loadV (loadM l)) := by
  unfold loadV
  refine .tup (.cons ?_ (.cons .i (.cons .i .nil)))
  split
  · rename_i h
    have hm := (load_Mok l).ls
    rw [load_k h] at hm
    exact .pl (.cons (.lst (los_ls (fun i hi => absurd hi (Nat.not_lt_zero _)) hm)) (.cons .nilp (.cons (lo_tv _ _) .nil)))
  · exact .nilp
theorem load_sc (l : List UInt8) (n : Nat) (hl : l.length ≤ 1000000) : SCall Tryd.prog 18 [.s l] ⟨A0, n⟩ (loadV (loadM l)) ⟨A0, n⟩ := by
  refine SCallR.pure ?_ (lo_loadV n)
  by_cases h0 : (loadM l).1 = 0
  · refine SCallR.fz2 (SCallR.fz2 ((load_raw l A0 n hl).mono ?_))
    intro r s' h
    rw [if_pos h0] at h
    obtain ⟨F, L, rfl, hI, hk, hm⟩ := h
    have hF := hI.hF
    have hFL := hI.bL.2.2
    rw [hk] at hF
    dsimp only [atV] at hF
    refine ⟨L, _, _, _, .tup [.p F 0, .i .i64 0, .i .i64 0], ⟨upd A0 F (rowF (.lst (loadM l).2.2.ls.length (lsC ix0 (loadM l).2.2.ls)) .nilp (tv (loadM l).2.2.t)), s'.nxt⟩, hI.hL, .refl _, ⟨Nat.le_refl _, fun b k' e => ?_⟩, F, [.lst (loadM l).2.2.ls.length (lsC ix0 (loadM l).2.2.ls), .nilp, tv (loadM l).2.2.t], _, _, .tup [fileV (loadM l).2.2, .i .i64 0, .i .i64 0], ⟨A0, s'.nxt⟩, upd_same _ _ _, ?_, ⟨Nat.le_refl _, fun b k' e => by cases e⟩, ?_, fun b hb => rfl⟩
    · dsimp only at e
      by_cases hb : b = F
      · subst hb
        rw [upd_same] at e
        injection e with e
        subst e
        exact ⟨hFL, _, hF, .row (.cons (.sl _) (Fzs.refl _))⟩
      · rw [upd_ne _ _ hb] at e; cases e
    · exact .tup (.cons (.p 0) (Fzs.refl _))
    · unfold loadV
      rw [if_pos h0, h0]
      have := load_n h0
      rw [this]
      rfl
  · refine SCallR.fewer ((load_raw l A0 n hl).mono ?_)
    intro r s' h
    rw [if_neg h0] at h
    subst h
    refine ⟨⟨A0, s'.nxt⟩, (fun b k e => by cases e), Nat.le_refl _, ?_, fun b hb => rfl⟩
    unfold loadV
    rw [if_neg h0]
theorem Mok_run_len : ∀ (x : List (List UInt8 × List UInt8)) (m : M) (i : Nat), (runM m i x).2.2.ls.length ≤ m.ls.length + x.length
  | [], m, i => Nat.le_refl _
  | p :: x, m, i => by
    rw [runM]
    split
    · simp only [List.length_cons]; omega
    · split
      · have h := Mok_run_len x (takeM m p.1 p.2).2 (i + 1)
        have : (takeM m p.1 p.2).2.ls.length ≤ m.ls.length + 1 := by
          obtain ⟨a, b, h | h | h | h | h⟩ := readL_kinds p.1
          · rw [takeM0 h]; simp
          · rw [takeM1 h]; split <;> simp
          · rw [takeM2 h]; simp
          · rw [takeM3 h]; simp
          · rw [takeM4 h]; simp
        simp only [List.length_cons]; omega
      · simp only [List.length_cons]; omega
theorem load_size (l : List UInt8) : (loadM l).2.2.t.size ≤ 20000 := by
  have hm := (load_Mok l).sz
  have h2 : (loadM l).2.2.ls.length ≤ 4000 := by
    by_cases h4 : 4000 < l.length
    · have e : loadM l = (5, 0, M0) := if_pos h4
      rw [e]
      exact Nat.zero_le _
    · have h3 := Mok_run_len (splitL l) M0 0
      have h5 := splitL_len l.length l (Nat.le_refl _)
      have h6 : M0.ls.length = 0 := rfl
      unfold loadM
      rw [if_neg h4]
      repeat' split
      all_goals ((try dsimp only); omega)
  omega
def cLoadV (r : Int × Nat × M) : SV := .tup [if r.1 = 0 then tv r.2.2.t else .nils, .i .i64 r.2.1, .i .i64 r.1]
theorem lo_cLoadV (n : Nat) (r : Int × Nat × M) : Lo n (cLoadV r) := by
  unfold cLoadV
  refine .tup (.cons ?_ (.cons .i (.cons .i .nil)))
  split
  · exact lo_tv _ _
  · exact .nils
theorem cLoad_sc (l : List UInt8) (s : St) (hl : l.length ≤ 1000000) : SCall Tryd.prog 10 [.s l] s (cLoadV (loadM l)) s := by
  obtain ⟨H, n⟩ := s
  refine SCallR.pure (SCallR.enter cc_card_Load ?_) (lo_cLoadV n _)
  dsimp only [c_card_Load, argT]
  have hs := load_sc l n hl
  have hk := fun h => load_k (l := l) h
  have hn := fun h => load_n (l := l) h
  have hm := (load_Mok l)
  have hz := load_size l
  generalize loadM l = r at *
  obtain ⟨e, i, m⟩ := r
  dsimp only at hk hm hz hn
  unfold loadV at hs
  dsimp only at hs
  have hg := fun s => get_sc (s := s) (v := tv m.t) (pv := .nils) (p := []) rfl rfl hm.t (by omega) (by simp)
  simp only [List.map_nil, Tr.getp, getV] at hg
  by_cases h0 : e = 0
  · subst h0
    rw [if_pos rfl] at hs
    unfold fileV at hs
    refine SC.seq ?_ nofun; refine SC.regK ?_; refine k_mv ?_; refine k_mv ?_; refine k_mv ?_; refine k_nil ?_; refine okS ?_ rfl; refine SC.seq ?_ nofun; refine SC.regK ?_; refine k_mv ?_; refine k_call (hs) ?_; refine k_mv ?_; refine k_ext ?_; refine k_ext ?_; refine k_ext ?_; refine k_mv ?_; refine k_mv ?_; refine k_mv ?_; refine k_nil ?_; refine okS ?_ rfl; refine SC.seq ?_ nofun; refine SC.seq ?_ nofun; refine SC.regK ?_; refine k_mv ?_; refine k_if ?_; refine k_nil ?_; refine okS ?_ rfl; refine SC.cond_f rfl ?_; refine SC.skip ?_; refine SC.seq ?_ nofun; refine SC.regK ?_; refine k_mv ?_; refine k_nilcl ?_; refine k_fal ?_; refine k_ldl ?_; refine k_call (hg _) ?_; refine k_mv ?_; refine k_ext ?_; refine k_ext ?_; refine k_mv ?_; refine k_nil ?_; refine okS ?_ rfl; refine SC.seq ?_ nofun; refine SC.regK ?_; refine k_mv ?_; refine k_mv ?_; refine k_mv ?_; refine k_mv ?_; refine k_nil ?_; refine okS ?_ rfl; refine SC.ret ?_
    refine ⟨_, rfl, ?_, fun y hy => rfl⟩
    unfold cLoadV
    dsimp only
    rw [if_pos rfl, hn rfl]
    rfl
  · have hd : decide (e = 0) = false := decide_eq_false h0
    rw [if_neg h0] at hs
    refine SC.seq ?_ nofun; refine SC.regK ?_; refine k_mv ?_; refine k_mv ?_; refine k_mv ?_; refine k_nil ?_; refine okS ?_ rfl; refine SC.seq ?_ nofun; refine SC.regK ?_; refine k_mv ?_; refine k_call (hs) ?_; refine k_mv ?_; refine k_ext ?_; refine k_ext ?_; refine k_ext ?_; refine k_mv ?_; refine k_mv ?_; refine k_mv ?_; refine k_nil ?_; refine okS ?_ rfl; refine SC.seq ?_ nofun; refine SC.seq ?_ nofun; refine SC.regK ?_; refine k_mv ?_; refine k_it ?_; refine k_nil ?_; refine okS ?_ rfl; refine SC.cond_t rfl ?_; refine SC.seq ?_ nofun; refine SC.regK ?_; refine k_mv ?_; refine k_mv ?_; refine k_mv ?_; refine k_mv ?_; refine k_mv ?_; refine k_nil ?_; refine okS ?_ rfl; refine SC.ret ?_
    refine ⟨_, rfl, ?_, fun y hy => rfl⟩
    unfold cLoadV
    rw [if_neg h0]
end
end Go.Proofs.YtpacfelhjjmmkaaDoor
end
section
set_option maxHeartbeats 20000000
namespace Go.Cd
open Go Go.Sy Go.Tr
inductive RL where
  | nil
  | cons (w d : List UInt8) (fr tl at_ : Nat) (ps : List (List UInt8 × List UInt8)) (ls : List Nat) (kids rest : RL)
def psC (ps : List (List UInt8 × List UInt8)) : List SV := ps.flatMap fun p => [.i .i64 3, .s p.1, .s p.2]
def lnsC (ls : List Nat) : List SV := ls.map fun (n : Nat) => .i .i64 (n : Int)
def RL.len : RL → Nat
  | .nil => 0
  | .cons _ _ _ _ _ _ _ _ r => r.len + 1
def rlC : RL → List SV
  | .nil => []
  | .cons w d fr tl at_ ps ls kids rest => .pl [.s w, .s d, .i .i64 fr, .i .i64 tl, .i .i64 at_, .lst ps.length (psC ps), .lst ls.length (lnsC ls), .lst kids.len (rlC kids)] :: rlC rest
theorem rlC_len : ∀ r : RL, (rlC r).length = r.len
  | .nil => rfl
  | .cons _ _ _ _ _ _ _ _ r => by simp only [rlC, List.length_cons, RL.len, rlC_len r]
theorem rlC_one : ∀ r : RL, (rlC r).all SV.one = true
  | .nil => rfl
  | .cons _ _ _ _ _ _ _ _ r => by simp only [rlC, List.all_cons, rlC_one r, SV.one, Bool.true_and]
theorem psC_len : ∀ ps, (psC ps).length = ps.length * 3
  | [] => rfl
  | p :: ps => by
    have := psC_len ps
    simp only [psC, List.flatMap_cons, List.length_append, List.length_cons, List.length_nil] at this ⊢
    omega
theorem psC_one : ∀ ps, (psC ps).all SV.one = true
  | [] => rfl
  | p :: ps => by
    have := psC_one ps
    simp only [psC, List.flatMap_cons, List.all_append, Bool.and_eq_true] at this ⊢
    exact ⟨rfl, this⟩
theorem lnsC_len (ls : List Nat) : (lnsC ls).length = ls.length := by simp [lnsC]
theorem lnsC_one : ∀ ls, (lnsC ls).all SV.one = true
  | [] => rfl
  | p :: ps => by
    have := lnsC_one ps
    simp only [lnsC, List.map_cons, List.all_cons, Bool.and_eq_true] at this ⊢
    exact ⟨rfl, this⟩
def twinL : RL → List UInt8 → List UInt8 → Bool
  | .nil, _, _ => false
  | .cons w' d' _ _ _ _ _ _ r, w, d => (decide (w' = w) && decide (d' = d)) || twinL r w d
end Go.Cd
namespace Go.Proofs.YtpacfelhjjmmkaaDoor
open Go Go.Sy Go.Tr Go.Kb Go.RowKit Go.Cd
set_option linter.unusedVariables false
set_option linter.unusedSimpArgs false
abbrev rowR (c : List SV) : Option Blk := some (.row 78 8 c)
section
variable {K q n : Nat} {w d : List UInt8} {c2 : List SV}
theorem twin_sc (e : Nat) (kids : RL) (hKq : K ≠ q) (hkl : kids.len ≤ 1000000) : SCall Tryd.prog 33 [.sl K 0 (kids.len + 1), .p q 0] ⟨A2 K (.row e 1 (rlC kids ++ [.p q 0])) q (.row 78 8 (.s w :: .s d :: c2)), n⟩ (.b (twinL kids w d)) ⟨A2 K (.row e 1 (rlC kids ++ [.p q 0])) q (.row 78 8 (.s w :: .s d :: c2)), n⟩ := by
  refine SCallR.pure (SCallR.enter cc_cadenceref8_twin ?_) .b
  dsimp only [c_cadenceref8_twin, argT]
  have hlen := rlC_len kids
  refine SC.seq ?_ nofun; refine SC.regK ?_; refine k_mv ?_; refine k_nil ?_; refine okS ?_ rfl; refine SC.seq ?_ nofun; refine SC.seq ?_ nofun; refine SC.regK ?_; refine k_mv ?_; refine k_nil ?_; refine okS ?_ rfl; refine SC.blk ?_
  refine SC.loop [0, 1, 5] (fun vs s' => ∃ i : Nat, vs = [.sl K 0 (kids.len + 1), .p q 0, .i .i64 i] ∧ ((∃ (done : List SV) (r : RL), done.length = i ∧ rlC kids = done ++ rlC r ∧ twinL kids w d = twinL r w d) ∨ (i = kids.len + 1 ∧ twinL kids w d = false)) ∧ s' = ⟨A2 K (.row e 1 (rlC kids ++ [.p q 0])) q (.row 78 8 (.s w :: .s d :: c2)), n⟩) (fun vs _ => match vs with
    | [_, _, .i _ i] => kids.len + 1 - i.toNat
    | _ => 0) rfl ⟨0, rfl, .inl ⟨[], kids, rfl, rfl, rfl⟩, rfl⟩ nofun ?_
  rintro _ _ ⟨i, rfl, hor, rfl⟩
  have hK := A2_at K (.row e 1 (rlC kids ++ [.p q 0])) q (.row 78 8 (.s w :: .s d :: c2))
  have hQ : A2 K (.row e 1 (rlC kids ++ [.p q 0])) q (.row 78 8 (.s w :: .s d :: c2)) q = some (.row 78 8 (.s w :: .s d :: c2)) := (upd_ne _ _ (fun e => hKq e.symm)).trans (upd_same _ _ _)
  generalize A2 K (.row e 1 (rlC kids ++ [.p q 0])) q (.row 78 8 (.s w :: .s d :: c2)) = H at *
  rcases hor with ⟨done, r, rfl, hr, ht⟩ | ⟨rfl, ht⟩
  · have hl2 := congrArg List.length hr
    rw [List.length_append, rlC_len, rlC_len] at hl2
    cases r with
    | nil =>
      simp only [RL.len] at hl2
      have hat : (rlC kids ++ [SV.p q 0])[done.length]? = some (.p q 0) := by rw [hr]; simp [rlC]
      refine SC.seq ?_ nofun; refine SC.seq ?_ nofun; refine SC.regK ?_; refine k_mv ?_; refine k_mv ?_; refine k_bll ?_; refine k_it ?_; refine k_nil ?_; refine okS ?_ rfl; refine SC.cond_t rfl ?_; refine SC.skip ?_; refine SC.seq ?_ nofun; refine SC.blk ?_; refine SC.seq ?_ nofun; refine SC.dregK ?_; refine k_mv ?_; refine k_mv ?_; refine k_ia ?_; refine k_ldp ?_; refine k_mv ?_; refine k_pp ?_; refine k_mv ?_; refine k_no ?_; refine k_no ?_; refine k_no ?_; refine k_no ?_; refine k_no ?_; refine k_no ?_; refine k_no ?_; refine k_no ?_; refine k_no ?_; refine k_no ?_; refine k_no ?_; refine k_no ?_; refine k_pf ?_; refine k_mv ?_; refine k_no ?_; refine k_no ?_; refine k_no ?_; refine k_no ?_; refine k_no ?_; refine k_no ?_; refine k_no ?_; refine k_no ?_; refine k_no ?_; refine k_no ?_; refine k_no ?_; refine k_no ?_; refine k_pf ?_; refine k_nil ?_; refine okD (ne := []) ?_ (by kernel_rfl) trivial
      refine SC.cond_f rfl ?_; refine SC.skip ?_; refine SC.regK ?_; refine k_mv ?_; refine k_add ?_; refine k_mv ?_; refine k_nil ?_; refine okS ?_ rfl
      refine ⟨_, rfl, ⟨done.length + 1, rfl, .inr ⟨by omega, ht⟩, rfl⟩, ?_⟩
      dsimp only; omega
    | cons w' d' fr tl at_ ps ls kk r =>
      simp only [RL.len] at hl2
      have hat : (rlC kids ++ [SV.p q 0])[done.length]? = some (.pl [.s w', .s d', .i .i64 fr, .i .i64 tl, .i .i64 at_, .lst ps.length (psC ps), .lst ls.length (lnsC ls), .lst kk.len (rlC kk)]) := by rw [hr]; simp [rlC]
      have hr2 : rlC kids = (done ++ [.pl [.s w', .s d', .i .i64 fr, .i .i64 tl, .i .i64 at_, .lst ps.length (psC ps), .lst ls.length (lnsC ls), .lst kk.len (rlC kk)]]) ++ rlC r := by rw [hr]; simp [rlC]
      rw [twinL] at ht
      by_cases h1 : w' = w
      · have d1 : decide (w' = w) = true := decide_eq_true h1
        by_cases h2 : d' = d
        · have d2 : decide (d' = d) = true := decide_eq_true h2
          rw [d1, d2] at ht
          refine SC.seq ?_ nofun; refine SC.seq ?_ nofun; refine SC.regK ?_; refine k_mv ?_; refine k_mv ?_; refine k_bll ?_; refine k_it ?_; refine k_nil ?_; refine okS ?_ rfl; refine SC.cond_t rfl ?_; refine SC.skip ?_; refine SC.seq ?_ nofun; refine SC.blk ?_; refine SC.seq ?_ nofun; refine SC.dregK ?_; refine k_mv ?_; refine k_mv ?_; refine k_ia ?_; refine k_ldp ?_; refine k_mv ?_; refine k_lp ?_; refine k_mv ?_; refine k_mv ?_; refine k_mv ?_; refine k_ia ?_; refine k_ldp ?_; refine k_nilcl ?_; refine k_fal ?_; refine k_ldl ?_; refine k_mv ?_; refine k_nilc ?_; refine k_fa ?_; refine k_ldp ?_; refine k_st ?_; refine k_pt ?_; refine k_mv ?_; refine k_mv ?_; refine k_mv ?_; refine k_ia ?_; refine k_ldp ?_; refine k_nilcl ?_; refine k_fal ?_; refine k_ldl ?_; refine k_mv ?_; refine k_nilc ?_; refine k_fa ?_; refine k_ldp ?_; refine k_st ?_; refine k_pt ?_; refine k_nil ?_; refine okD (ne := []) ?_ (by kernel_rfl) trivial
          refine SC.cond_t rfl ?_; refine SC.seq ?_ nofun; refine SC.regK ?_; refine k_mv ?_; refine k_nil ?_; refine okS ?_ rfl; refine SC.ret ?_
          exact ⟨_, rfl, by rw [ht]; rfl, fun y hy => rfl⟩
        · have d2 : decide (d' = d) = false := decide_eq_false h2
          rw [d1, d2] at ht
          refine SC.seq ?_ nofun; refine SC.seq ?_ nofun; refine SC.regK ?_; refine k_mv ?_; refine k_mv ?_; refine k_bll ?_; refine k_it ?_; refine k_nil ?_; refine okS ?_ rfl; refine SC.cond_t rfl ?_; refine SC.skip ?_; refine SC.seq ?_ nofun; refine SC.blk ?_; refine SC.seq ?_ nofun; refine SC.dregK ?_; refine k_mv ?_; refine k_mv ?_; refine k_ia ?_; refine k_ldp ?_; refine k_mv ?_; refine k_lp ?_; refine k_mv ?_; refine k_mv ?_; refine k_mv ?_; refine k_ia ?_; refine k_ldp ?_; refine k_nilcl ?_; refine k_fal ?_; refine k_ldl ?_; refine k_mv ?_; refine k_nilc ?_; refine k_fa ?_; refine k_ldp ?_; refine k_st ?_; refine k_pt ?_; refine k_mv ?_; refine k_mv ?_; refine k_mv ?_; refine k_ia ?_; refine k_ldp ?_; refine k_nilcl ?_; refine k_fal ?_; refine k_ldl ?_; refine k_mv ?_; refine k_nilc ?_; refine k_fa ?_; refine k_ldp ?_; refine k_sf ?_; refine k_pt ?_; refine k_nil ?_; refine okD (ne := []) ?_ (by kernel_rfl) trivial
          refine SC.cond_f rfl ?_; refine SC.skip ?_; refine SC.regK ?_; refine k_mv ?_; refine k_add ?_; refine k_mv ?_; refine k_nil ?_; refine okS ?_ rfl
          refine ⟨_, rfl, ⟨done.length + 1, rfl, .inl ⟨_, r, by simp, hr2, ht⟩, rfl⟩, ?_⟩
          dsimp only; omega
      · have d1 : decide (w' = w) = false := decide_eq_false h1
        rw [d1] at ht
        refine SC.seq ?_ nofun; refine SC.seq ?_ nofun; refine SC.regK ?_; refine k_mv ?_; refine k_mv ?_; refine k_bll ?_; refine k_it ?_; refine k_nil ?_; refine okS ?_ rfl; refine SC.cond_t rfl ?_; refine SC.skip ?_; refine SC.seq ?_ nofun; refine SC.blk ?_; refine SC.seq ?_ nofun; refine SC.dregK ?_; refine k_mv ?_; refine k_mv ?_; refine k_ia ?_; refine k_ldp ?_; refine k_mv ?_; refine k_lp ?_; refine k_mv ?_; refine k_mv ?_; refine k_mv ?_; refine k_ia ?_; refine k_ldp ?_; refine k_nilcl ?_; refine k_fal ?_; refine k_ldl ?_; refine k_mv ?_; refine k_nilc ?_; refine k_fa ?_; refine k_ldp ?_; refine k_sf ?_; refine k_pt ?_; refine k_mv ?_; refine k_no ?_; refine k_no ?_; refine k_no ?_; refine k_no ?_; refine k_no ?_; refine k_no ?_; refine k_no ?_; refine k_no ?_; refine k_no ?_; refine k_no ?_; refine k_no ?_; refine k_no ?_; refine k_pf ?_; refine k_nil ?_; refine okD (ne := []) ?_ (by kernel_rfl) trivial
        refine SC.cond_f rfl ?_; refine SC.skip ?_; refine SC.regK ?_; refine k_mv ?_; refine k_add ?_; refine k_mv ?_; refine k_nil ?_; refine okS ?_ rfl
        refine ⟨_, rfl, ⟨done.length + 1, rfl, .inl ⟨_, r, by simp, hr2, ht⟩, rfl⟩, ?_⟩
        dsimp only; omega
  · refine SC.seq ?_ nofun; refine SC.seq ?_ nofun; refine SC.regK ?_; refine k_mv ?_; refine k_mv ?_; refine k_bll ?_; refine k_if ?_; refine k_nil ?_; refine okS ?_ rfl; refine SC.cond_f rfl ?_; refine SC.exit ?_; refine SC.seq ?_ nofun; refine SC.regK ?_; refine k_mv ?_; refine k_nil ?_; refine okS ?_ rfl; refine SC.ret ?_
    exact ⟨_, rfl, by rw [ht], fun y hy => rfl⟩
end
end Go.Proofs.YtpacfelhjjmmkaaDoor
end
section
set_option maxHeartbeats 20000000
namespace Go.Proofs.YtpacfelhjjmmkaaDoor
open Go Go.Sy Go.Tr Go.Kb Go.RowKit Go.Cd
set_option linter.unusedVariables false
set_option linter.unusedSimpArgs false
theorem psC_app (a b : List (List UInt8 × List UInt8)) : psC (a ++ b) = psC a ++ psC b := by simp [psC]
theorem psC_at : ∀ (ps : List (List UInt8 × List UInt8)) (i : Nat) (p : List UInt8 × List UInt8), ps[i]? = some p → (psC ps)[i * 3 + 1]? = some (.s p.1) ∧ (psC ps)[i * 3 + 2]? = some (.s p.2)
  | y :: x, 0, p, h => by
    simp at h
    subst h
    exact ⟨rfl, rfl⟩
  | y :: x, i + 1, p, h => by
    have := psC_at x i p (by simpa using h)
    rw [show (i + 1) * 3 + 1 = i * 3 + 1 + 1 + 1 + 1 by omega, show (i + 1) * 3 + 2 = i * 3 + 2 + 1 + 1 + 1 by omega]
    exact this
def hasP (w v : List UInt8) (ps : List (List UInt8 × List UInt8)) : Bool := ps.any fun p => decide (p.1 = w) && decide (p.2 = v)
abbrev rowP (c : List SV) : Option Blk := some (.row 80 3 c)
abbrev rowI (c : List SV) : Option Blk := some (.row 3 1 c)
section
variable {q P L n : Nat} {H : Nat → Option Blk} {bw bd w v : List UInt8} {fr tl at_ at1 : Nat} {ps : List (List UInt8 × List UInt8)} {ls : List Nat} {kv : SV}
theorem rprop_sc (hQ : H q = rowR [.s bw, .s bd, .i .i64 fr, .i .i64 tl, .i .i64 at_, .sl P 0 ps.length, .sl L 0 ls.length, kv]) (hP : H P = rowP (psC ps)) (hL : H L = rowI (lnsC ls)) (hqP : q ≠ P) (hqL : q ≠ L) (hPL : P ≠ L) (hqn : q < n) (hPn : P < n) (hLn : L < n) (hps : ps.length ≤ 100000) (hls : ls.length ≤ 100000) (ha : at1 ≤ 100000) :
    SCallR Tryd.prog 34 [.p q 0, .agg [.i .i64 3, .s w, .s v], .i .i64 at1] ⟨H, n⟩ (fun r s' => if w = bID then (if 0 < at_ then r = .i .i64 7 else r = .i .i64 0 ∧ OnOld n s' (upd H q (rowR [.s bw, .s v, .i .i64 fr, .i .i64 tl, .i .i64 (at1 + 1 : Nat), .sl P 0 ps.length, .sl L 0 ls.length, kv])))
      else if hasP w v ps = true then r = .i .i64 7 else r = .i .i64 0 ∧ ∃ P' L', n ≤ P' ∧ n ≤ L' ∧ P' ≠ L' ∧ P' < s'.nxt ∧ L' < s'.nxt ∧ n ≤ s'.nxt ∧ s'.H q = rowR [.s bw, .s bd, .i .i64 fr, .i .i64 tl, .i .i64 at_, .sl P' 0 (ps.length + 1), .sl L' 0 (ls.length + 1), kv] ∧ s'.H P' = rowP (psC (ps ++ [(w, v)])) ∧ s'.H L' = rowI (lnsC (ls ++ [at1])) ∧ ∀ y, y < n → y ≠ q → y ≠ P → y ≠ L → s'.H y = H y) := by
  refine SCallR.enter cc_cadenceref8_Block_prop ?_
  dsimp only [c_cadenceref8_Block_prop, argT]
  by_cases hI : w = bID
  · have dI : decide (w = [73, 68]) = true := decide_eq_true hI
    by_cases h0 : 0 < at_
    · refine SC.seq ?_ nofun; refine SC.regK ?_; refine k_box ?_ (c := [SV.i IntKind.i64 3, SV.s w, SV.s v]); refine k_mv ?_; refine k_nil ?_; refine okS ?_ rfl; refine SC.seq ?_ nofun; refine SC.seq ?_ nofun; refine SC.regK ?_; refine k_fa ?_; refine k_ldp ?_; refine k_st ?_; refine k_nil ?_; refine okS ?_ rfl; refine SC.cond_t rfl ?_; refine SC.seq ?_ nofun; refine SC.seq ?_ nofun; refine SC.regK ?_; refine k_mv ?_; refine k_nilc ?_; refine k_fa ?_; refine k_ldp ?_; refine k_it ?_; refine k_nil ?_; refine okS ?_ rfl; refine SC.cond_t rfl ?_; refine SC.seq ?_ nofun; refine SC.regK ?_; refine k_mv ?_; refine k_nil ?_; refine okS ?_ rfl; refine SC.ret ?_
      refine ⟨_, rfl, ?_⟩
      dsimp only
      rw [if_pos hI, if_pos h0]
    · obtain rfl : at_ = 0 := by omega
      refine SC.seq ?_ nofun; refine SC.regK ?_; refine k_box ?_ (c := [SV.i IntKind.i64 3, SV.s w, SV.s v]); refine k_mv ?_; refine k_nil ?_; refine okS ?_ rfl; refine SC.seq ?_ nofun; refine SC.seq ?_ nofun; refine SC.regK ?_; refine k_fa ?_; refine k_ldp ?_; refine k_st ?_; refine k_nil ?_; refine okS ?_ rfl; refine SC.cond_t rfl ?_; refine SC.seq ?_ nofun; refine SC.seq ?_ nofun; refine SC.regK ?_; refine k_mv ?_; refine k_nilc ?_; refine k_fa ?_; refine k_ldp ?_; refine k_if ?_; refine k_nil ?_; refine okS ?_ rfl; refine SC.cond_f rfl ?_; refine SC.skip ?_; refine SC.seq ?_ nofun; refine SC.regK ?_; refine k_mv ?_; refine k_mv ?_; refine k_fa ?_; refine k_ldp ?_; refine k_mv ?_; refine k_add ?_; refine k_nilc ?_; refine k_fa ?_; refine k_sto ?_ (c' := [SV.s bw, SV.s v, SV.i IntKind.i64 (↑fr : Int), SV.i IntKind.i64 (↑tl : Int), SV.i IntKind.i64 (↑0 : Int), SV.sl P 0 (List.length ps), SV.sl L 0 (List.length ls), kv]); refine k_nilc ?_; refine k_fa ?_; refine k_sts ?_ (c' := [SV.s bw, SV.s v, SV.i IntKind.i64 (↑fr : Int), SV.i IntKind.i64 (↑tl : Int), SV.i IntKind.i64 ((↑at1 : Int) + 1), SV.sl P 0 (List.length ps), SV.sl L 0 (List.length ls), kv]); refine k_nil ?_; refine okS ?_ rfl; refine SC.seq ?_ nofun; refine SC.regK ?_; refine k_mv ?_; refine k_nil ?_; refine okS ?_ rfl; refine SC.ret ?_
      refine ⟨_, rfl, ?_⟩
      dsimp only
      rw [if_pos hI, if_neg (by omega)]
      refine ⟨rfl, by dsimp only; omega, fun y hy => ?_⟩
      by_cases hyq : y = q
      · subst hyq; rw [upd_same]; ((try dsimp only) <;> (repeat first | assumption | with_reducible rfl | exact h_same rfl | refine h_ne (by first | assumption | omega) ?_))
      · rw [upd_ne _ _ hyq]; ((try dsimp only) <;> (repeat first | assumption | with_reducible rfl | exact h_same rfl | refine h_ne (by first | assumption | omega) ?_))
  · have dI : decide (w = [73, 68]) = false := decide_eq_false hI
    have hpl := psC_len ps
    have hpo := psC_one ps
    have hll := lnsC_len ls
    have hlo := lnsC_one ls
    have hpa := psC_at ps
    refine SC.seq ?_ nofun; refine SC.regK ?_; refine k_box ?_ (c := [SV.i IntKind.i64 3, SV.s w, SV.s v]); refine k_mv ?_; refine k_nil ?_; refine okS ?_ rfl; refine SC.seq ?_ nofun; refine SC.seq ?_ nofun; refine SC.regK ?_; refine k_fa ?_; refine k_ldp ?_; refine k_sf ?_; refine k_nil ?_; refine okS ?_ rfl; refine SC.cond_f rfl ?_; refine SC.skip ?_; refine SC.seq ?_ nofun; refine SC.seq ?_ nofun; refine SC.regK ?_; refine k_mv ?_; refine k_nil ?_; refine okS ?_ rfl; refine SC.blk ?_
    refine SC.loop [0, 2, 4, 7] (fun vs s' => ∃ i : Nat, i ≤ ps.length ∧ vs = [.p q 0, .i .i64 at1, .p n 0, .i .i64 i] ∧ (∀ j p, j < i → ps[j]? = some p → (decide (p.1 = w) && decide (p.2 = v)) = false) ∧ s' = ⟨upd H n (rowP [.i .i64 3, .s w, .s v]), n + 1⟩) (fun vs _ => match vs with
      | [_, _, _, .i _ i] => ps.length - i.toNat
      | _ => 0) rfl ⟨0, Nat.zero_le _, rfl, fun j p hj => absurd hj (Nat.not_lt_zero _), rfl⟩ nofun ?_
    rintro _ _ ⟨i, hi, rfl, hno, rfl⟩
    by_cases h : i < ps.length
    · have hx : ps[i]? = some ps[i] := List.getElem?_eq_getElem h
      obtain ⟨p1, p2⟩ := hpa _ _ hx
      have hmem := List.getElem_mem h
      generalize ps[i] = p at hx p1 p2 hmem
      obtain ⟨pw, pv⟩ := p
      dsimp only at p1 p2
      by_cases h1 : pw = w
      · have d1 : decide (pw = w) = true := decide_eq_true h1
        by_cases h2 : pv = v
        · have d2 : decide (pv = v) = true := decide_eq_true h2
          refine SC.seq ?_ nofun; refine SC.seq ?_ nofun; refine SC.regK ?_; refine k_mv ?_; refine k_mv ?_; refine k_nilc ?_; refine k_fa ?_; refine k_ldp ?_; refine k_bll ?_; refine k_it ?_; refine k_nil ?_; refine okS ?_ rfl; refine SC.cond_t rfl ?_; refine SC.skip ?_; refine SC.seq ?_ nofun; refine SC.blk ?_; refine SC.seq ?_ nofun; refine SC.dregK ?_; refine k_mv ?_; refine k_nilc ?_; refine k_fa ?_; refine k_ldp ?_; refine k_mv ?_; refine k_ia ?_; refine k_fa ?_; refine k_ldp ?_; refine k_fa ?_; refine k_ldp ?_; refine k_st ?_; refine k_mv ?_; refine k_mv ?_; refine k_nilc ?_; refine k_fa ?_; refine k_ldp ?_; refine k_mv ?_; refine k_ia ?_; refine k_fa ?_; refine k_ldp ?_; refine k_fa ?_; refine k_ldp ?_; refine k_st ?_; refine k_pt ?_; refine k_nil ?_; refine okD (ne := []) ?_ (by kernel_rfl) trivial; refine SC.cond_t rfl ?_; refine SC.seq ?_ nofun; refine SC.regK ?_; refine k_mv ?_; refine k_nil ?_; refine okS ?_ rfl; refine SC.ret ?_
          refine ⟨_, rfl, ?_⟩
          dsimp only
          rw [if_neg hI, if_pos (by rw [hasP, List.any_eq_true]; exact ⟨_, hmem, by simp [h1, h2]⟩)]
        · have d2 : decide (pv = v) = false := decide_eq_false h2
          refine SC.seq ?_ nofun; refine SC.seq ?_ nofun; refine SC.regK ?_; refine k_mv ?_; refine k_mv ?_; refine k_nilc ?_; refine k_fa ?_; refine k_ldp ?_; refine k_bll ?_; refine k_it ?_; refine k_nil ?_; refine okS ?_ rfl; refine SC.cond_t rfl ?_; refine SC.skip ?_; refine SC.seq ?_ nofun; refine SC.blk ?_; refine SC.seq ?_ nofun; refine SC.dregK ?_; refine k_mv ?_; refine k_nilc ?_; refine k_fa ?_; refine k_ldp ?_; refine k_mv ?_; refine k_ia ?_; refine k_fa ?_; refine k_ldp ?_; refine k_fa ?_; refine k_ldp ?_; refine k_st ?_; refine k_mv ?_; refine k_mv ?_; refine k_nilc ?_; refine k_fa ?_; refine k_ldp ?_; refine k_mv ?_; refine k_ia ?_; refine k_fa ?_; refine k_ldp ?_; refine k_fa ?_; refine k_ldp ?_; refine k_sf ?_; refine k_pt ?_; refine k_nil ?_; refine okD (ne := []) ?_ (by kernel_rfl) trivial; refine SC.cond_f rfl ?_; refine SC.skip ?_; refine SC.regK ?_; refine k_mv ?_; refine k_add ?_; refine k_mv ?_; refine k_nil ?_; refine okS ?_ rfl
          refine ⟨_, rfl, ⟨i + 1, h, rfl, fun j p hj hjp => ?_, rfl⟩, ?_⟩
          · rcases Nat.lt_succ_iff_lt_or_eq.1 hj with hj | rfl
            · exact hno j p hj hjp
            · rw [hx] at hjp; injection hjp with hjp; subst hjp; simp [h2]
          · dsimp only; omega
      · have d1 : decide (pw = w) = false := decide_eq_false h1
        refine SC.seq ?_ nofun; refine SC.seq ?_ nofun; refine SC.regK ?_; refine k_mv ?_; refine k_mv ?_; refine k_nilc ?_; refine k_fa ?_; refine k_ldp ?_; refine k_bll ?_; refine k_it ?_; refine k_nil ?_; refine okS ?_ rfl; refine SC.cond_t rfl ?_; refine SC.skip ?_; refine SC.seq ?_ nofun; refine SC.blk ?_; refine SC.seq ?_ nofun; refine SC.dregK ?_; refine k_mv ?_; refine k_nilc ?_; refine k_fa ?_; refine k_ldp ?_; refine k_mv ?_; refine k_ia ?_; refine k_fa ?_; refine k_ldp ?_; refine k_fa ?_; refine k_ldp ?_; refine k_sf ?_; refine k_mv ?_; refine k_no ?_; refine k_no ?_; refine k_no ?_; refine k_no ?_; refine k_no ?_; refine k_no ?_; refine k_no ?_; refine k_no ?_; refine k_no ?_; refine k_no ?_; refine k_no ?_; refine k_pf ?_; refine k_nil ?_; refine okD (ne := []) ?_ (by kernel_rfl) trivial; refine SC.cond_f rfl ?_; refine SC.skip ?_; refine SC.regK ?_; refine k_mv ?_; refine k_add ?_; refine k_mv ?_; refine k_nil ?_; refine okS ?_ rfl
        refine ⟨_, rfl, ⟨i + 1, h, rfl, fun j p hj hjp => ?_, rfl⟩, ?_⟩
        · rcases Nat.lt_succ_iff_lt_or_eq.1 hj with hj | rfl
          · exact hno j p hj hjp
          · rw [hx] at hjp; injection hjp with hjp; subst hjp; simp [h1]
        · dsimp only; omega
    · obtain rfl : i = ps.length := by omega
      have hh : ¬ hasP w v ps = true := by
        rw [hasP, List.any_eq_true]
        rintro ⟨p, hp, he⟩
        obtain ⟨j, hj, rfl⟩ := List.getElem_of_mem hp
        rw [hno j _ hj (List.getElem?_eq_getElem hj)] at he
        cases he
      refine SC.seq ?_ nofun; refine SC.seq ?_ nofun; refine SC.regK ?_; refine k_mv ?_; refine k_mv ?_; refine k_nilc ?_; refine k_fa ?_; refine k_ldp ?_; refine k_bll ?_; refine k_if ?_; refine k_nil ?_; refine okS ?_ rfl; refine SC.cond_f rfl ?_; refine SC.exit ?_; refine SC.seq ?_ nofun; refine SC.dregK ?_; refine k_mv ?_; refine k_mv ?_; refine k_mv ?_; refine k_nilc ?_; refine k_fa ?_; refine k_ldp ?_; refine k_lnp ?_ (c' := [SV.i IntKind.i64 3, SV.s w, SV.s v]); refine k_bsl ?_ (c' := [SV.i IntKind.i64 3, SV.s w, SV.s v]); refine k_appo ?_ (c' := psC ps ++ [SV.i IntKind.i64 3, SV.s w, SV.s v]) (new := [SV.i IntKind.i64 3, SV.s w, SV.s v]); refine k_mv ?_; refine k_nilc ?_; refine k_fa ?_; refine k_ldp ?_; refine k_mv ?_; refine k_bsl ?_ (c' := [SV.i IntKind.i64 (↑at1 : Int)]); refine k_appo ?_ (c' := lnsC ls ++ [SV.i IntKind.i64 (↑at1 : Int)]) (new := [SV.i IntKind.i64 (↑at1 : Int)]); refine k_nilc ?_; refine k_fa ?_; refine k_sto ?_ (c' := [SV.s bw, SV.s bd, SV.i IntKind.i64 (↑fr : Int), SV.i IntKind.i64 (↑tl : Int), SV.i IntKind.i64 (↑at_ : Int), SV.sl (n + 1 + 1) 0 (List.length ps + 1), SV.sl L 0 (List.length ls), kv]); refine k_nilc ?_; refine k_fa ?_; refine k_sts ?_ (c' := [SV.s bw, SV.s bd, SV.i IntKind.i64 (↑fr : Int), SV.i IntKind.i64 (↑tl : Int), SV.i IntKind.i64 (↑at_ : Int), SV.sl (n + 1 + 1) 0 (List.length ps + 1), SV.sl (n + 1 + 1 + 1 + 1) 0 (List.length ls + 1), kv]); refine k_nil ?_; refine okD (ne := [(n + 1, q), (n + 3, q), (n + 3, n), (n + 1, q), (n + 1, n + 3), (P, q), (n + 2, q), (P, n + 3), (n + 2, n + 3), (n + 3, P), (n + 3, n + 1), (n + 3, q)]) ?_ (by kernel_rfl) (by first | (simp only [AllNe]; omega) | (simp only [AllNe]; and_intros <;> first | omega | trivial)); refine SC.seq ?_ nofun; refine SC.regK ?_; refine k_mv ?_; refine k_nil ?_; refine okS ?_ rfl; refine SC.ret ?_
      refine ⟨_, rfl, ?_⟩
      dsimp only
      rw [if_neg hI, if_neg hh, psC_app, show lnsC (ls ++ [at1]) = lnsC ls ++ [.i .i64 (at1 : Int)] by simp [lnsC]]
      refine ⟨rfl, _, _, ?_, ?_, ?_, ?_, ?_, ?_, by ((try dsimp only) <;> (repeat first | assumption | with_reducible rfl | exact h_same rfl | refine h_ne (by first | assumption | omega) ?_)), by ((try dsimp only) <;> (repeat first | assumption | with_reducible rfl | exact h_same rfl | refine h_ne (by first | assumption | omega) ?_)), by ((try dsimp only) <;> (repeat first | assumption | with_reducible rfl | exact h_same rfl | refine h_ne (by first | assumption | omega) ?_)), fun y h1 h2 h3 h4 => by ((try dsimp only) <;> (repeat first | assumption | with_reducible rfl | exact h_same rfl | refine h_ne (by first | assumption | omega) ?_))⟩ <;> ((try dsimp only); omega)
end
end Go.Proofs.YtpacfelhjjmmkaaDoor
end
section
namespace Go.Sy
open Go
set_option linter.unusedVariables false
set_option linter.unusedSimpArgs false
def Mv (s s2 : St) : Prop := ∀ σ w, HR σ s w → ∃ σ', Good σ s w σ' s2 w
theorem Mv.refl (s : St) : Mv s s := fun σ w h => ⟨σ, .refl h⟩
theorem Mv.trans {a b c : St} (h : Mv a b) (k : Mv b c) : Mv a c := fun σ w hh => by
  obtain ⟨σ1, g1⟩ := h σ w hh
  obtain ⟨σ2, g2⟩ := k σ1 w g1.hr
  exact ⟨σ2, g1.trans g2⟩
theorem Mv.fz {q e z : Nat} {cs : List SV} {s s2 : St} (hq : s.H q = some (.row e z cs)) (hH : FzH q cs s s2) : Mv s s2 := fun σ w hh => by
  obtain ⟨σ', hg, _⟩ := hh.fz2 hq hH
  exact ⟨σ', hg⟩
theorem Mv.fz1 {q b e z e1 z1 n : Nat} {cs c c' : List SV} {H : Nat → Option Blk} (hq : H q = some (.row e z cs)) (hb : H b = some (.row e1 z1 c)) (hbq : b ≠ q) (hc : Fzs q cs c c') : Mv ⟨H, n⟩ ⟨upd (upd H q none) b (some (.row e1 z1 c')), n⟩ :=
  .fz hq ⟨Nat.le_refl _, fun y k' ey => by
    dsimp only at ey
    by_cases hy : y = b
    · subst hy
      rw [upd_same] at ey
      injection ey with ey
      subst ey
      exact ⟨hbq, _, hb, .row hc⟩
    · rw [upd_ne _ _ hy] at ey
      by_cases hyq : y = q
      · subst hyq; rw [upd_same] at ey; cases ey
      · rw [upd_ne _ _ hyq] at ey
        exact ⟨hyq, _, ey, .refl _⟩⟩
theorem Mv.weakRow {H : Nat → Option Blk} {n b e z m : Nat} {cs cs' : List SV} (hb : H b = some (.row e z cs)) (hw : Wks (cs.take m) cs') : Mv ⟨H, n⟩ ⟨upd H b (some (.row e z cs')), n⟩ := fun σ w hh =>
  ⟨σ, hh.weak (Nat.le_refl _) (fun y k' ey => by
    dsimp only at ey
    by_cases hy : y = b
    · subst hy
      rw [upd_same] at ey
      injection ey with ey
      subst ey
      exact ⟨_, hb, .row hw⟩
    · rw [upd_ne _ _ hy] at ey
      exact ⟨_, ey, .refl _⟩)⟩
theorem Mv.ownRow {H : Nat → Option Blk} {n b e z : Nat} {l1 l2 : List SV} (e1 esz : Nat) (hb : H b = some (.row e z (l1 ++ .nils :: l2))) (hbn : b ≠ n) : Mv ⟨H, n⟩ ⟨upd (upd H n (some (.row e1 esz []))) b (some (.row e z (l1 ++ .sl n 0 0 :: l2))), n + 1⟩ := fun σ w hh => by
  have hg := hh.virtual e1 esz
  have hg2 := hg.hr.re (s2 := ⟨upd (upd H n (some (.row e1 esz []))) b (some (.row e z (l1 ++ .sl n 0 0 :: l2))), n + 1⟩) (Nat.le_refl _) (fun y k' e' => by
    dsimp only at e'
    by_cases hy : y = b
    · subst hy
      rw [upd_same] at e'
      injection e' with e'
      subst e'
      refine ⟨_, (upd_ne _ _ hbn).trans hb, .row (fun xs hx => VRs.mid (fun x hv => ?_) hx) ?_ ?_⟩
      · cases hv
        exact .sl0 (if_pos rfl)
      · simp [SV.one]
      · simp
    · rw [upd_ne _ _ hy] at e'
      exact ⟨_, e', .same _⟩)
  exact ⟨_, hg.trans hg2⟩
theorem Mv.fewer {s s2 : St} (hH : ∀ b k, s2.H b = some k → s.H b = some k) (hn : s.nxt ≤ s2.nxt) : Mv s s2 := fun σ w hh => ⟨σ, (Good.refl hh).fewer hH hn⟩
theorem SC.mvPost {P : Program} {nt : Nat} {c : AC} {T : Tm} {s : St} {Q : Exit → Tm → St → Prop} (h : SC P nt c T s (fun e T' s' => ∃ s2, Mv s' s2 ∧ Q e T' s2)) : SC P nt c T s Q := ⟨h.1, fun code hc σ a w ht hh hnt => by
  refine wp_mono (h.2 code hc σ a w ht hh hnt) ?_
  rintro e a' w' ⟨σ2, T', s', q1, q2, q3, q4, s2, q5, q6⟩
  obtain ⟨σ3, hg⟩ := q5 σ2 w' q4.hr
  exact ⟨σ3, T', s2, q1.ext hg.ext, q2, q3, q4.trans hg, q6⟩⟩
theorem SC.mv {P : Program} {nt : Nat} {c : AC} {T : Tm} {s s2 : St} {Q : Exit → Tm → St → Prop} (hm : Mv s s2) (h : SC P nt c T s2 Q) : SC P nt c T s Q := ⟨h.1, fun code hc σ a w ht hh hnt => by
  obtain ⟨σ', hg⟩ := hm σ w hh
  refine wp_mono (h.2 code hc σ' a w (ht.ext hg.ext) hg.hr hnt) ?_
  rintro e a' w' ⟨σ2, T', s', q1, q2, q3, q4, q5⟩
  exact ⟨σ2, T', s', q1, q2, q3, hg.trans q4, q5⟩⟩
theorem SCallR.mv {P : Program} {f : Nat} {az : List SV} {s : St} {Q : SV → St → Prop} (h : SCallR P f az s fun r s' => ∃ s2, Mv s' s2 ∧ Q r s2) : SCallR P f az s Q := fun σ w vs hh hv =>
  (h σ w vs hh hv).mono fun x w' ⟨r, s1, σ', h1, h2, s2, g1, g2⟩ => by
    obtain ⟨σ2, k1⟩ := g1 σ' w' h2.hr
    exact ⟨r, s2, σ2, h1.ext k1.ext, h2.trans k1, g2⟩
def NeH (a b : Nat) : Prop := a ≠ b
theorem NeH.of {a b : Nat} (h : a ≠ b) : NeH a b := h
theorem NeH.sy {a b : Nat} (h : a ≠ b) : NeH b a := fun e => h e.symm
end Go.Sy
end
section
namespace Go.Proofs.YtpacfelhjjmmkaaDoor
open Go Go.Sy Go.Tr Go.Kb Go.RowKit Go.Cd
set_option linter.unusedVariables false
set_option linter.unusedSimpArgs false
structure OR where
  w : List UInt8
  d : List UInt8
  fr : Nat
  at_ : Nat
  ps : List (List UInt8 × List UInt8)
  ls : List Nat
  kids : RL
def _root_.Go.Cd.RL.snoc : RL → List UInt8 → List UInt8 → Nat → Nat → Nat → List (List UInt8 × List UInt8) → List Nat → RL → RL
  | .nil, w, d, fr, tl, at_, ps, ls, k => .cons w d fr tl at_ ps ls k .nil
  | .cons w' d' fr' tl' at' ps' ls' k' r, w, d, fr, tl, at_, ps, ls, k => .cons w' d' fr' tl' at' ps' ls' k' (r.snoc w d fr tl at_ ps ls k)
theorem snoc_len : ∀ (r : RL) (w d : List UInt8) (fr tl at_ : Nat) (ps : List (List UInt8 × List UInt8)) (ls : List Nat) (k : RL), (r.snoc w d fr tl at_ ps ls k).len = r.len + 1
  | .nil, _, _, _, _, _, _, _, _ => rfl
  | .cons _ _ _ _ _ _ _ _ r, w, d, fr, tl, at_, ps, ls, k => by simp only [RL.snoc, RL.len, snoc_len r]
theorem snoc_C : ∀ (r : RL) (w d : List UInt8) (fr tl at_ : Nat) (ps : List (List UInt8 × List UInt8)) (ls : List Nat) (k : RL), rlC (r.snoc w d fr tl at_ ps ls k) = rlC r ++ [.pl [.s w, .s d, .i .i64 fr, .i .i64 tl, .i .i64 at_, .lst ps.length (psC ps), .lst ls.length (lnsC ls), .lst k.len (rlC k)]]
  | .nil, _, _, _, _, _, _, _, _ => rfl
  | .cons _ _ _ _ _ _ _ _ r, w, d, fr, tl, at_, ps, ls, k => by simp only [RL.snoc, rlC, snoc_C r, List.cons_append]
def takeR (os : List OR) (i : Nat) (text : List UInt8) : Int × List OR := match readL text with
  | (0, _, _) => (0, os)
  | (1, _, says) => if 3 < os.length then (11, os) else (0, ⟨says, [], i, 0, [], [], .nil⟩ :: os)
  | (2, _, says) => match os with
    | b :: g :: r => if b.w ≠ says ∨ b.at_ = 0 then (6, os) else if twinL g.kids b.w b.d = true then (7, os) else (0, { g with kids := g.kids.snoc b.w b.d b.fr i b.at_ b.ps b.ls b.kids } :: r)
    | _ => (6, os)
  | (3, w, v) => match os with
    | b :: g :: r => if w = bID then (if 0 < b.at_ then (7, os) else (0, { b with d := v, at_ := i + 1 } :: g :: r)) else if hasP w v b.ps = true then (7, os) else (0, { b with ps := b.ps ++ [(w, v)], ls := b.ls ++ [i] } :: g :: r)
    | _ => (6, os)
  | _ => (6, os)
def runR : List OR → Nat → List (List UInt8 × List UInt8) → Int × Nat × List OR
  | os, i, [] => (0, i, os)
  | os, i, x :: r => if (takeR os i x.1).1 = 0 then runR (takeR os i x.1).2 (i + 1) r else ((takeR os i x.1).1, i + 1, os)
theorem takeR0 {os : List OR} {i : Nat} {text a b : List UInt8} (h : readL text = (0, a, b)) : takeR os i text = (0, os) := by unfold takeR; rw [h]; rfl
theorem takeR1 {os : List OR} {i : Nat} {text a says : List UInt8} (h : readL text = (1, a, says)) : takeR os i text = if 3 < os.length then (11, os) else (0, ⟨says, [], i, 0, [], [], .nil⟩ :: os) := by unfold takeR; rw [h]; rfl
theorem takeR2 {b g : OR} {r : List OR} {i : Nat} {text a says : List UInt8} (h : readL text = (2, a, says)) : takeR (b :: g :: r) i text = if b.w ≠ says ∨ b.at_ = 0 then (6, b :: g :: r) else if twinL g.kids b.w b.d = true then (7, b :: g :: r) else (0, { g with kids := g.kids.snoc b.w b.d b.fr i b.at_ b.ps b.ls b.kids } :: r) := by unfold takeR; rw [h]; rfl
theorem takeR2a {b : OR} {i : Nat} {text a says : List UInt8} (h : readL text = (2, a, says)) : takeR [b] i text = (6, [b]) := by unfold takeR; rw [h]; rfl
theorem takeR3 {b g : OR} {r : List OR} {i : Nat} {text w v : List UInt8} (h : readL text = (3, w, v)) : takeR (b :: g :: r) i text = if w = bID then (if 0 < b.at_ then (7, b :: g :: r) else (0, { b with d := v, at_ := i + 1 } :: g :: r)) else if hasP w v b.ps = true then (7, b :: g :: r) else (0, { b with ps := b.ps ++ [(w, v)], ls := b.ls ++ [i] } :: g :: r) := by unfold takeR; rw [h]; rfl
theorem takeR3a {b : OR} {i : Nat} {text w v : List UInt8} (h : readL text = (3, w, v)) : takeR [b] i text = (6, [b]) := by unfold takeR; rw [h]; rfl
theorem takeR4 {os : List OR} {i : Nat} {text a b : List UInt8} (h : readL text = (4, a, b)) : takeR os i text = (6, os) := by unfold takeR; rw [h]; rfl
structure Fr where
  id : Nat
  P : Nat
  L : Nat
  K : Nat
  o : OR
abbrev rowK (c : List SV) : Option Blk := some (.row 57 1 c)
def frC (f : Fr) (m : Nat) : List SV := [.s f.o.w, .s f.o.d, .i .i64 f.o.fr, .i .i64 (0 : Nat), .i .i64 f.o.at_, .sl f.P 0 f.o.ps.length, .sl f.L 0 f.o.ls.length, .sl f.K 0 m]
def stOk (H : Nat → Option Blk) : List SV → List Fr → Prop
  | _, [] => True
  | x, f :: fs => H f.id = rowR (frC f (f.o.kids.len + x.length)) ∧ H f.P = rowP (psC f.o.ps) ∧ H f.L = rowI (lnsC f.o.ls) ∧ H f.K = rowK (rlC f.o.kids ++ x) ∧ stOk H [.p f.id 0] fs
def ids (fs : List Fr) : List Nat := fs.flatMap fun f => [f.id, f.P, f.L, f.K]
theorem stOk_of {H H' : Nat → Option Blk} : ∀ {fs : List Fr} {x : List SV}, (∀ y ∈ ids fs, H' y = H y) → stOk H x fs → stOk H' x fs
  | [], _, _, _ => trivial
  | f :: fs, x, h, ⟨h1, h2, h3, h4, h5⟩ => by
    have hm : ∀ y ∈ ids fs, H' y = H y := fun y hy => h y (by simp only [ids, List.flatMap_cons, List.mem_append] at hy ⊢; exact .inr hy)
    have h' : ∀ y ∈ [f.id, f.P, f.L, f.K], H' y = H y := fun y hy => h y (by simp only [ids, List.flatMap_cons, List.mem_append]; exact .inl hy)
    refine ⟨by rw [h' _ (by simp)]; exact h1, by rw [h' _ (by simp)]; exact h2, by rw [h' _ (by simp)]; exact h3, by rw [h' _ (by simp)]; exact h4, stOk_of hm h5⟩
structure RI (R O : Nat) (fs : List Fr) (s : St) : Prop where
  hR : (fs.map Fr.id).getLast? = some R
  hO : s.H O = rowK ((fs.map fun f => SV.p f.id 0).reverse)
  st : stOk s.H [] fs
  nd : (O :: ids fs).Nodup
  lt : ∀ y ∈ O :: ids fs, y < s.nxt
theorem RI.more {R O : Nat} {fs : List Fr} {H : Nat → Option Blk} {n : Nat} (h : RI R O fs ⟨H, n⟩) {H' : Nat → Option Blk} {n' : Nat} (hn : n ≤ n') (hH : ∀ y, y < n → H' y = H y) : RI R O fs ⟨H', n'⟩ :=
  ⟨h.hR, by dsimp only; rw [hH _ (h.lt _ (by simp))]; exact h.hO, stOk_of (fun y hy => hH y (h.lt y (by simp [hy]))) h.st, h.nd, fun y hy => Nat.lt_of_lt_of_le (h.lt y hy) hn⟩
end Go.Proofs.YtpacfelhjjmmkaaDoor
end
