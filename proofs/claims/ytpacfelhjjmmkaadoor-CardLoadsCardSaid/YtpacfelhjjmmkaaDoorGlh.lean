/- Proved: whatever a file is made of, card.Load and the document's Load answer alike; no condition. -/
import Derived.Test.YtpacfelhjjmmkaaDoorGlg
import Derived.Deep.Slices
import Derived.Deep.Fields
import Derived.ChangeSame
import Derived.ProofKit
import Derived.Test.YtpacfelhjjmmkaaDoorRows
import Derived.Test.YtpacfelhjjmmkaaDoorCards
import Derived.Test.YtpacfelhjjmmkaaDoorTie
import Derived.WalkKit
import Derived.OpenShut
import Derived.ShutString
import Derived.ChangeOld
import Derived.Below
import Derived.SizedLaws
import Derived.Shelf.Lay
import Derived.Lay
import Derived.LaidOnce
import Derived.SevenTiedAt
section
set_option maxHeartbeats 20000000
namespace Go.Proofs.YtpacfelhjjmmkaaDoor
open Go Go.Sy Go.Tr Go.Kb Go.RowKit Go.Cd
set_option linter.unusedVariables false
set_option linter.unusedSimpArgs false
def exL : List UInt8 := [66, 69, 71, 73, 78, 58, 67, 65, 82, 68, 10, 73, 68, 58, 120, 10, 69, 78, 68, 58, 67, 65, 82, 68, 10]
def exT : Tr := .cons (bA [67, 65, 82, 68]) (.cons (bA [120]) (.cons (bA [98, 108, 111, 99, 107, 115]) .nil (.cons (bA [112, 114, 111, 112, 115]) .nil .nil)) .nil) .nil
theorem exM : cLoadV (loadM exL) = .tup [tv exT, .i .i64 0, .i .i64 0] := by kernel_rfl
theorem exOk : okT exT := by
  simp [exT, okT, okN]
theorem known_sc (s : St) : SCall Tryd.prog 6 [] s (.b true) s := by
  obtain ⟨H, n⟩ := s
  refine SCallR.pure (SCallR.enter cc_cadencelaw8_known ?_) .b
  dsimp only [c_cadencelaw8_known, argT]
  have h1 := fun s => cLoad_sc exL s (by decide)
  have h2 := fun s => text_sc 100 exT (by decide) (by decide) exOk s
  rw [exM] at h1
  unfold exL at h1
  rw [show textT exT = [123, 34, 67, 65, 82, 68, 34, 58, 32, 123, 34, 120, 34, 58, 32, 123, 34, 98, 108, 111, 99, 107, 115, 34, 58, 32, 123, 125, 44, 32, 34, 112, 114, 111, 112, 115, 34, 58, 32, 123, 125, 125, 125, 125] from by kernel_rfl] at h2
  refine SC.seq ?_ nofun; refine SC.regK ?_; refine k_mv ?_; refine k_nil ?_; refine okS ?_ rfl; refine SC.seq ?_ nofun; refine SC.regK ?_; refine k_call (h1 _) ?_; refine k_mv ?_; refine k_ext ?_; refine k_ext ?_; refine k_ext ?_; refine k_mv ?_; refine k_mv ?_; refine k_mv ?_; refine k_nil ?_; refine okS ?_ rfl; refine SC.seq ?_ nofun; refine SC.regK ?_; refine k_mv ?_; refine k_it ?_; refine k_mv ?_; refine k_mv ?_; refine k_call (h2 _) ?_; refine k_st ?_; refine k_pt ?_; refine k_mv ?_; refine k_nil ?_; refine okS ?_ rfl; refine SC.ret ?_
  exact ⟨_, rfl, rfl, fun _ _ => rfl⟩
theorem same0_sc (s : St) : SCall Tryd.prog 12 [.nils, .nils] s (.b true) s := by
  obtain ⟨H, n⟩ := s
  refine SCallR.pure (SCallR.enter cc_cadenceref2_Same ?_) .b
  dsimp only [c_cadenceref2_Same, argT]
  refine SC.seq ?_ nofun; refine SC.regK ?_; refine k_mv ?_; refine k_nil ?_; refine okS ?_ rfl; refine SC.seq ?_ nofun; refine SC.seq ?_ nofun; refine SC.regK ?_; refine k_mv ?_; refine k_bll ?_; refine k_mv ?_; refine k_bll ?_; refine k_if ?_; refine k_nil ?_; refine okS ?_ rfl; refine SC.cond_f rfl ?_; refine SC.skip ?_; refine SC.seq ?_ nofun; refine SC.seq ?_ nofun; refine SC.regK ?_; refine k_mv ?_; refine k_nil ?_; refine okS ?_ rfl; refine SC.blk ?_
  refine SC.loop [0, 1, 5] (fun vs s' => vs = [.nils, .nils, .i .i64 0] ∧ s' = ⟨H, n⟩) (fun vs _ => 0) rfl ⟨rfl, rfl⟩ nofun ?_
  rintro _ _ ⟨rfl, rfl⟩
  refine SC.seq ?_ nofun; refine SC.seq ?_ nofun; refine SC.regK ?_; refine k_mv ?_; refine k_mv ?_; refine k_bll ?_; refine k_if ?_; refine k_nil ?_; refine okS ?_ rfl; refine SC.cond_f rfl ?_; refine SC.exit ?_; refine SC.seq ?_ nofun; refine SC.regK ?_; refine k_mv ?_; refine k_nil ?_; refine okS ?_ rfl; refine SC.ret ?_
  exact ⟨_, rfl, rfl, fun _ _ => rfl⟩
theorem sameT_self (t : Tr) : sameT t t = true := sameT_eq.2 rfl
def sixB (cells : List SV) : Prop := cells.length = 6 ∧ ∀ c ∈ cells, ∃ x : List UInt8, c = .s x ∧ x.length ≤ 100000
theorem six_at {cells : List SV} (h : sixB cells) {i : Nat} (hi : i < 6) : ∃ x : List UInt8, cells[i]? = some (.s x) ∧ x.length ≤ 100000 := by
  obtain ⟨h1, h2⟩ := h
  have : i < cells.length := by omega
  obtain ⟨x, hx, hl⟩ := h2 cells[i] (List.getElem_mem this)
  exact ⟨x, by rw [List.getElem?_eq_getElem this, hx], hl⟩
theorem lay1 (l : List UInt8) (o : Nat) (c : UInt8) (v : Int) (hv : v = (c.toNat : Int)) : lay (l.map bSV) o (cellsOf (.i .u8 v)) = (l.set o c).map bSV := by
  subst hv
  show (l.map bSV).set o (bSV c) = _
  rw [List.map_set]
theorem loads_sc (ns : List Int) (at_ by_ word : Int) (raw : List UInt8) (hb : True) : SCallR Tryd.prog 3 [intsV ns, .i .i64 at_, .i .u8 by_, .i .i64 word, .s raw] ⟨A0, 0⟩ (fun r _ => r = .b true) := by
  refine SCallR.enter cc_cadencelaw8_CardLoads ?_
  dsimp only [c_cadencelaw8_CardLoads, argT, intsV]
  have hF := fun n => file_sc ns n
  unfold intsV at hF
  by_cases hr : raw.length ≤ 300
  · refine SC.seq ?_ nofun; refine SC.regK ?_; refine k_mv ?_; refine k_nil ?_; refine okS ?_ rfl; refine SC.seq ?_ nofun; refine SC.seq ?_ nofun; refine SC.regK ?_; refine k_call (known_sc _) ?_; refine k_not ?_; refine k_nil ?_; refine okS ?_ rfl; refine SC.cond_f rfl ?_; refine SC.skip ?_; refine SC.seq ?_ nofun; refine SC.seq ?_ nofun; refine SC.regK ?_; refine k_mv ?_; refine k_bls ?_; refine k_if ?_; refine k_nil ?_; refine okS ?_ rfl; refine SC.cond_f rfl ?_; refine SC.skip ?_; refine SC.seq ?_ nofun; refine SC.regK ?_; refine k_mv ?_; refine k_callR (hF _) ?_ (hok := okCS rfl)
    rintro _ _ ⟨x, n', hx, rfl, hn, rfl⟩
    obtain ⟨k, hk, hkb⟩ := emod_nat at_ (x.length + 1) (by omega)
    have hw := fun s => within_sc at_ (((x.length + 1 : Nat) : Int)) s (by omega) (by omega)
    rw [hk] at hw
    obtain ⟨w1, hw1, ho1⟩ := odd_sc word
    obtain ⟨w2, hw2, ho2⟩ := odd_sc at_
    by_cases h0 : 0 < x.length
    · obtain ⟨j, hj, hjb⟩ := emod_nat at_ x.length h0
      have hv := fun s => within_sc at_ ((x.length : Nat) : Int) s (by omega) (by omega)
      rw [hj] at hv
      obtain ⟨c, hc⟩ : ∃ c, x[j]? = some c := ⟨x[j], List.getElem?_eq_getElem hjb⟩
      have hcm : (x.map bSV)[j]? = some (.i .u8 (c.toNat : Int)) := by rw [List.getElem?_map, hc]; rfl
      obtain ⟨c2, hc2⟩ := u8_of ((c.toNat : Int) + by_)
      refine k_mv ?_; refine k_nil ?_; refine okS ?_ rfl; refine SC.seq ?_ nofun; refine SC.regK ?_; refine k_mv ?_; refine k_mv ?_; refine k_bls ?_; refine k_add ?_; refine k_call (hw _) ?_; refine k_mv ?_; refine k_nil ?_; refine okS ?_ rfl; refine SC.seq ?_ nofun; refine SC.regK ?_; refine k_mv ?_; refine k_cbs ?_; refine k_mv ?_; refine k_nil ?_; refine okS ?_ rfl; refine SC.seq ?_ nofun; refine SC.seq ?_ nofun; refine SC.regK ?_; refine k_mv ?_; refine k_bll ?_; refine k_it ?_; refine k_nil ?_; refine okS ?_ rfl; refine SC.cond_t rfl ?_; refine SC.regK ?_; refine k_mv ?_; refine k_mv ?_; refine k_mv ?_; refine k_bll ?_
      refine k_call (hv _) ?_
      refine k_ia (j := j) ?_
      refine k_ldp (v := .i .u8 (c.toNat : Int)) ?_
      refine k_mv ?_
      refine k_i ?_
      refine k_ia (j := j) ?_
      refine k_sts (c' := (x.set (0 + j * 1) c2).map bSV) ?_ (hc := lay1 x _ c2 _ hc2)
      have hcs : (((x.set (0 + j * 1) c2).map bSV).drop 0).take x.length = (x.set (0 + j * 1) c2).map bSV := by
        rw [List.drop_zero, List.take_of_length_le (by simp)]
      refine k_nil ?_; refine okS ?_ rfl; refine SC.seq ?_ nofun; refine SC.dregK ?_; refine k_mv ?_; refine k_mv ?_; refine k_mv ?_; refine k_sl ?_; refine k_mv ?_; refine k_mv ?_; refine k_sl ?_; refine k_mv ?_; refine k_call (ho1 _) ?_; refine k_cat ?_; refine k_mv ?_; refine k_mv ?_; refine k_sh ?_; refine k_cat ?_; refine k_mv ?_; refine k_csb ?_ (X := List.set x (0 + j * 1) c2); refine k_mv ?_; refine k_mv ?_; refine k_mv ?_; refine k_call (ho2 _) ?_; refine k_cat ?_; refine k_bsl ?_ (c' := [SV.s x, SV.s (List.take k x), SV.s (List.take k x ++ w1 ++ List.drop k x), SV.s (List.set x (0 + j * 1) c2), SV.s raw, SV.s (x ++ w2)]); refine k_mv ?_; refine k_nil ?_; refine okD (ne := []) ?_ (by kernel_rfl) trivial; refine SC.seq ?_ nofun; refine SC.seq ?_ nofun; refine SC.regK ?_; refine k_mv ?_; refine k_nil ?_; refine okS ?_ rfl; refine SC.blk ?_
      refine SC.loop [14, 15] (fun vs s' => ∃ (i r : Nat) (cells : List SV), i ≤ 6 ∧ vs = [.sl r 0 6, .i .i64 i] ∧ sixB cells ∧ s'.H r = some (.row 9 1 cells) ∧ r < s'.nxt) (fun vs _ => match vs with
        | [_, .i _ i] => 6 - i.toNat
        | _ => 0) rfl ⟨0, _, _, by omega, rfl, ?_, (by dsimp only; ((try dsimp only) <;> (repeat first | assumption | with_reducible rfl | exact h_same rfl | refine h_ne (by first | assumption | omega) ?_))), by dsimp only; omega⟩ nofun ?_
      · refine ⟨rfl, ?_⟩
        intro c hc
        simp only [List.mem_cons, List.not_mem_nil, or_false] at hc
        rcases hc with rfl | rfl | rfl | rfl | rfl | rfl
        all_goals exact ⟨_, rfl, by first | omega | (simp only [List.length_append, List.length_take, List.length_drop, List.length_set]; omega)⟩
      rintro _ ⟨H', n2⟩ ⟨i, r, cells, hi, rfl, h6, hH, hrn⟩
      dsimp only at hH hrn
      by_cases h : i < 6
      · obtain ⟨y, hy, hyl⟩ := six_at h6 h
        have c1 := fun s => cLoad_sc y s (by omega)
        have c2 := fun s => rLoad_sc y s (by omega)
        have hz := load_size y
        rw [← load_rel] at c2
        generalize loadM y = q at *
        obtain ⟨e, l, m⟩ := q
        dsimp only at hz
        unfold cLoadV at c1 c2
        dsimp only at c1 c2
        by_cases he : e = 0
        · subst he
          have c3 := fun s => same_sc 20001 m.t m.t (by omega) (by omega) (by omega) s
          rw [sameT_self] at c3
          rw [if_pos rfl] at c1 c2
          refine SC.seq ?_ nofun; refine SC.seq ?_ nofun; refine SC.regK ?_; refine k_mv ?_; refine k_mv ?_; refine k_bll ?_; refine k_it ?_; refine k_nil ?_; refine okS ?_ rfl; refine SC.cond_t rfl ?_; refine SC.skip ?_; refine SC.seq ?_ nofun; refine SC.blk ?_; refine SC.seq ?_ nofun; refine SC.regK ?_; refine k_mv ?_; refine k_mv ?_; refine k_ia ?_; refine k_ldp ?_; refine k_call (c1 _) ?_; refine k_mv ?_; refine k_ext ?_; refine k_ext ?_; refine k_ext ?_; refine k_mv ?_; refine k_mv ?_; refine k_mv ?_; refine k_nil ?_; refine okS ?_ rfl; refine SC.seq ?_ nofun; refine SC.regK ?_; refine k_mv ?_; refine k_mv ?_; refine k_ia ?_; refine k_ldp ?_; refine k_call (c2 _) ?_; refine k_mv ?_; refine k_ext ?_; refine k_ext ?_; refine k_ext ?_; refine k_mv ?_; refine k_mv ?_; refine k_mv ?_; refine k_nil ?_; refine okS ?_ rfl; refine SC.seq ?_ nofun; refine SC.regK ?_; refine k_mv ?_; refine k_mv ?_; refine k_call (c3 _) ?_; refine k_not ?_; refine k_mv ?_; refine k_mv ?_; refine k_mv ?_; refine k_if ?_; refine k_pf ?_; refine k_mv ?_; refine k_mv ?_; refine k_mv ?_; refine k_if ?_; refine k_pf ?_; refine k_nil ?_; refine okS ?_ rfl; refine SC.cond_f rfl ?_; refine SC.skip ?_; refine SC.regK ?_; refine k_mv ?_; refine k_add ?_; refine k_mv ?_; refine k_nil ?_; refine okS ?_ rfl
          refine ⟨_, rfl, ⟨i + 1, r, cells, h, rfl, h6, (by dsimp only; ((try dsimp only) <;> (repeat first | assumption | with_reducible rfl | exact h_same rfl | refine h_ne (by first | assumption | omega) ?_))), by dsimp only; omega⟩, by simp; omega⟩
        · rw [if_neg he] at c1 c2
          refine SC.seq ?_ nofun; refine SC.seq ?_ nofun; refine SC.regK ?_; refine k_mv ?_; refine k_mv ?_; refine k_bll ?_; refine k_it ?_; refine k_nil ?_; refine okS ?_ rfl; refine SC.cond_t rfl ?_; refine SC.skip ?_; refine SC.seq ?_ nofun; refine SC.blk ?_; refine SC.seq ?_ nofun; refine SC.regK ?_; refine k_mv ?_; refine k_mv ?_; refine k_ia ?_; refine k_ldp ?_; refine k_call (c1 _) ?_; refine k_mv ?_; refine k_ext ?_; refine k_ext ?_; refine k_ext ?_; refine k_mv ?_; refine k_mv ?_; refine k_mv ?_; refine k_nil ?_; refine okS ?_ rfl; refine SC.seq ?_ nofun; refine SC.regK ?_; refine k_mv ?_; refine k_mv ?_; refine k_ia ?_; refine k_ldp ?_; refine k_call (c2 _) ?_; refine k_mv ?_; refine k_ext ?_; refine k_ext ?_; refine k_ext ?_; refine k_mv ?_; refine k_mv ?_; refine k_mv ?_; refine k_nil ?_; refine okS ?_ rfl; refine SC.seq ?_ nofun; refine SC.regK ?_; refine k_mv ?_; refine k_mv ?_; refine k_call (same0_sc _) ?_; refine k_not ?_; refine k_mv ?_; refine k_mv ?_; refine k_mv ?_; refine k_if ?_; refine k_pf ?_; refine k_mv ?_; refine k_mv ?_; refine k_mv ?_; refine k_if ?_; refine k_pf ?_; refine k_nil ?_; refine okS ?_ rfl; refine SC.cond_f rfl ?_; refine SC.skip ?_; refine SC.regK ?_; refine k_mv ?_; refine k_add ?_; refine k_mv ?_; refine k_nil ?_; refine okS ?_ rfl
          refine ⟨_, rfl, ⟨i + 1, r, cells, h, rfl, h6, (by dsimp only; ((try dsimp only) <;> (repeat first | assumption | with_reducible rfl | exact h_same rfl | refine h_ne (by first | assumption | omega) ?_))), by dsimp only; omega⟩, by simp; omega⟩
      · refine SC.seq ?_ nofun; refine SC.seq ?_ nofun; refine SC.regK ?_; refine k_mv ?_; refine k_mv ?_; refine k_bll ?_; refine k_if ?_; refine k_nil ?_; refine okS ?_ rfl; refine SC.cond_f rfl ?_; refine SC.exit ?_; refine SC.seq ?_ nofun; refine SC.regK ?_; refine k_mv ?_; refine k_nil ?_; refine okS ?_ rfl; refine SC.ret ?_
        exact ⟨_, rfl, rfl⟩
    · obtain rfl : x = [] := List.length_eq_zero_iff.1 (by omega)
      have hcs : ((([] : List UInt8).map bSV).drop 0).take ([] : List UInt8).length = ([] : List UInt8).map bSV := rfl
      refine k_mv ?_; refine k_nil ?_; refine okS ?_ rfl; refine SC.seq ?_ nofun; refine SC.regK ?_; refine k_mv ?_; refine k_mv ?_; refine k_bls ?_; refine k_add ?_; refine k_call (hw _) ?_; refine k_mv ?_; refine k_nil ?_; refine okS ?_ rfl; refine SC.seq ?_ nofun; refine SC.regK ?_; refine k_mv ?_; refine k_cbs ?_; refine k_mv ?_; refine k_nil ?_; refine okS ?_ rfl; refine SC.seq ?_ nofun; refine SC.seq ?_ nofun; refine SC.regK ?_; refine k_mv ?_; refine k_bll ?_; refine k_if ?_; refine k_nil ?_; refine okS ?_ rfl; refine SC.cond_f rfl ?_; refine SC.skip ?_; refine SC.seq ?_ nofun; refine SC.dregK ?_; refine k_mv ?_; refine k_mv ?_; refine k_mv ?_; refine k_sl ?_; refine k_mv ?_; refine k_mv ?_; refine k_sl ?_; refine k_mv ?_; refine k_call (ho1 _) ?_; refine k_cat ?_; refine k_mv ?_; refine k_mv ?_; refine k_sh ?_; refine k_cat ?_; refine k_mv ?_; refine k_csb ?_ (X := []); refine k_mv ?_; refine k_mv ?_; refine k_mv ?_; refine k_call (ho2 _) ?_; refine k_cat ?_; refine k_bsl ?_ (c' := [SV.s [], SV.s (List.take k []), SV.s (List.take k [] ++ w1 ++ List.drop k []), SV.s [], SV.s raw, SV.s ([] ++ w2)]); refine k_mv ?_; refine k_nil ?_; refine okD (ne := []) ?_ (by kernel_rfl) trivial; refine SC.seq ?_ nofun; refine SC.seq ?_ nofun; refine SC.regK ?_; refine k_mv ?_; refine k_nil ?_; refine okS ?_ rfl; refine SC.blk ?_
      skip
      refine SC.loop [14, 15] (fun vs s' => ∃ (i r : Nat) (cells : List SV), i ≤ 6 ∧ vs = [.sl r 0 6, .i .i64 i] ∧ sixB cells ∧ s'.H r = some (.row 9 1 cells) ∧ r < s'.nxt) (fun vs _ => match vs with
        | [_, .i _ i] => 6 - i.toNat
        | _ => 0) rfl ⟨0, _, _, by omega, rfl, ?_, (by dsimp only; ((try dsimp only) <;> (repeat first | assumption | with_reducible rfl | exact h_same rfl | refine h_ne (by first | assumption | omega) ?_))), by dsimp only; omega⟩ nofun ?_
      · refine ⟨rfl, ?_⟩
        intro c hc
        simp only [List.mem_cons, List.not_mem_nil, or_false] at hc
        rcases hc with rfl | rfl | rfl | rfl | rfl | rfl
        all_goals exact ⟨_, rfl, by first | omega | (simp only [List.length_append, List.length_take, List.length_drop, List.length_set]; omega)⟩
      rintro _ ⟨H', n2⟩ ⟨i, r, cells, hi, rfl, h6, hH, hrn⟩
      dsimp only at hH hrn
      by_cases h : i < 6
      · obtain ⟨y, hy, hyl⟩ := six_at h6 h
        have c1 := fun s => cLoad_sc y s (by omega)
        have c2 := fun s => rLoad_sc y s (by omega)
        have hz := load_size y
        rw [← load_rel] at c2
        generalize loadM y = q at *
        obtain ⟨e, l, m⟩ := q
        dsimp only at hz
        unfold cLoadV at c1 c2
        dsimp only at c1 c2
        by_cases he : e = 0
        · subst he
          have c3 := fun s => same_sc 20001 m.t m.t (by omega) (by omega) (by omega) s
          rw [sameT_self] at c3
          rw [if_pos rfl] at c1 c2
          refine SC.seq ?_ nofun; refine SC.seq ?_ nofun; refine SC.regK ?_; refine k_mv ?_; refine k_mv ?_; refine k_bll ?_; refine k_it ?_; refine k_nil ?_; refine okS ?_ rfl; refine SC.cond_t rfl ?_; refine SC.skip ?_; refine SC.seq ?_ nofun; refine SC.blk ?_; refine SC.seq ?_ nofun; refine SC.regK ?_; refine k_mv ?_; refine k_mv ?_; refine k_ia ?_; refine k_ldp ?_; refine k_call (c1 _) ?_; refine k_mv ?_; refine k_ext ?_; refine k_ext ?_; refine k_ext ?_; refine k_mv ?_; refine k_mv ?_; refine k_mv ?_; refine k_nil ?_; refine okS ?_ rfl; refine SC.seq ?_ nofun; refine SC.regK ?_; refine k_mv ?_; refine k_mv ?_; refine k_ia ?_; refine k_ldp ?_; refine k_call (c2 _) ?_; refine k_mv ?_; refine k_ext ?_; refine k_ext ?_; refine k_ext ?_; refine k_mv ?_; refine k_mv ?_; refine k_mv ?_; refine k_nil ?_; refine okS ?_ rfl; refine SC.seq ?_ nofun; refine SC.regK ?_; refine k_mv ?_; refine k_mv ?_; refine k_call (c3 _) ?_; refine k_not ?_; refine k_mv ?_; refine k_mv ?_; refine k_mv ?_; refine k_if ?_; refine k_pf ?_; refine k_mv ?_; refine k_mv ?_; refine k_mv ?_; refine k_if ?_; refine k_pf ?_; refine k_nil ?_; refine okS ?_ rfl; refine SC.cond_f rfl ?_; refine SC.skip ?_; refine SC.regK ?_; refine k_mv ?_; refine k_add ?_; refine k_mv ?_; refine k_nil ?_; refine okS ?_ rfl
          refine ⟨_, rfl, ⟨i + 1, r, cells, h, rfl, h6, (by dsimp only; ((try dsimp only) <;> (repeat first | assumption | with_reducible rfl | exact h_same rfl | refine h_ne (by first | assumption | omega) ?_))), by dsimp only; omega⟩, by simp; omega⟩
        · rw [if_neg he] at c1 c2
          refine SC.seq ?_ nofun; refine SC.seq ?_ nofun; refine SC.regK ?_; refine k_mv ?_; refine k_mv ?_; refine k_bll ?_; refine k_it ?_; refine k_nil ?_; refine okS ?_ rfl; refine SC.cond_t rfl ?_; refine SC.skip ?_; refine SC.seq ?_ nofun; refine SC.blk ?_; refine SC.seq ?_ nofun; refine SC.regK ?_; refine k_mv ?_; refine k_mv ?_; refine k_ia ?_; refine k_ldp ?_; refine k_call (c1 _) ?_; refine k_mv ?_; refine k_ext ?_; refine k_ext ?_; refine k_ext ?_; refine k_mv ?_; refine k_mv ?_; refine k_mv ?_; refine k_nil ?_; refine okS ?_ rfl; refine SC.seq ?_ nofun; refine SC.regK ?_; refine k_mv ?_; refine k_mv ?_; refine k_ia ?_; refine k_ldp ?_; refine k_call (c2 _) ?_; refine k_mv ?_; refine k_ext ?_; refine k_ext ?_; refine k_ext ?_; refine k_mv ?_; refine k_mv ?_; refine k_mv ?_; refine k_nil ?_; refine okS ?_ rfl; refine SC.seq ?_ nofun; refine SC.regK ?_; refine k_mv ?_; refine k_mv ?_; refine k_call (same0_sc _) ?_; refine k_not ?_; refine k_mv ?_; refine k_mv ?_; refine k_mv ?_; refine k_if ?_; refine k_pf ?_; refine k_mv ?_; refine k_mv ?_; refine k_mv ?_; refine k_if ?_; refine k_pf ?_; refine k_nil ?_; refine okS ?_ rfl; refine SC.cond_f rfl ?_; refine SC.skip ?_; refine SC.regK ?_; refine k_mv ?_; refine k_add ?_; refine k_mv ?_; refine k_nil ?_; refine okS ?_ rfl
          refine ⟨_, rfl, ⟨i + 1, r, cells, h, rfl, h6, (by dsimp only; ((try dsimp only) <;> (repeat first | assumption | with_reducible rfl | exact h_same rfl | refine h_ne (by first | assumption | omega) ?_))), by dsimp only; omega⟩, by simp; omega⟩
      · refine SC.seq ?_ nofun; refine SC.seq ?_ nofun; refine SC.regK ?_; refine k_mv ?_; refine k_mv ?_; refine k_bll ?_; refine k_if ?_; refine k_nil ?_; refine okS ?_ rfl; refine SC.cond_f rfl ?_; refine SC.exit ?_; refine SC.seq ?_ nofun; refine SC.regK ?_; refine k_mv ?_; refine k_nil ?_; refine okS ?_ rfl; refine SC.ret ?_
        exact ⟨_, rfl, rfl⟩
  · refine SC.seq ?_ nofun; refine SC.regK ?_; refine k_mv ?_; refine k_nil ?_; refine okS ?_ rfl; refine SC.seq ?_ nofun; refine SC.seq ?_ nofun; refine SC.regK ?_; refine k_call (known_sc _) ?_; refine k_not ?_; refine k_nil ?_; refine okS ?_ rfl; refine SC.cond_f rfl ?_; refine SC.skip ?_; refine SC.seq ?_ nofun; refine SC.seq ?_ nofun; refine SC.regK ?_; refine k_mv ?_; refine k_bls ?_; refine k_it ?_; refine k_nil ?_; refine okS ?_ rfl; refine SC.cond_t rfl ?_; refine SC.seq ?_ nofun; refine SC.regK ?_; refine k_mv ?_; refine k_nil ?_; refine okS ?_ rfl; refine SC.ret ?_
    exact ⟨_, rfl, rfl⟩
end Go.Proofs.YtpacfelhjjmmkaaDoor
end
section
open Go Go.ChangeShapes Go.WideShapes Go.RowKit
namespace Go.Kb
theorem flat_get {α : Type} (rows : List (List α)) (k : Nat) (hk : ∀ r ∈ rows, r.length = k) : ∀ (i : Nat) (r : List α), rows[i]? = some r → ∀ j, j < k → rows.flatten[i * k + j]? = r[j]? := by
  induction rows with
  | nil => intro i r h; simp at h
  | cons r0 rows ih =>
    intro i r h j hj
    have h0 := hk r0 (by simp)
    cases i with
    | zero =>
      simp at h
      subst h
      rw [List.flatten_cons, List.getElem?_append_left (by omega)]
      simp
    | succ i =>
      simp only [List.getElem?_cons_succ] at h
      rw [List.flatten_cons, List.getElem?_append_right (by rw [h0, Nat.succ_mul]; omega), h0, show (i + 1) * k + j - k = i * k + j by rw [Nat.succ_mul]; omega]
      exact ih (fun r hr => hk r (by simp [hr])) i r h j hj
theorem flat_len {α : Type} (rows : List (List α)) (k : Nat) (hk : ∀ r ∈ rows, r.length = k) : rows.flatten.length = rows.length * k := by
  induction rows with
  | nil => simp
  | cons r0 rows ih =>
    rw [List.flatten_cons, List.length_append, hk r0 (by simp), ih (fun r hr => hk r (by simp [hr])), List.length_cons, Nat.succ_mul]
    omega
theorem add_add' (ad : Addr) (i j : Nat) : (ad.add i).add j = ad.add (i + j) := by
  unfold Addr.add
  by_cases hi : i = 0
  · subst hi; simp
  · by_cases hj : j = 0
    · subst hj; simp
    · rw [if_neg hi, if_neg hj, if_neg (by omega)]; simp [Nat.add_assoc]
theorem open_rows {H : Type} {enc : TypeId × Value → H} {P : Program} {w : World} {t e : TypeId} (ht : P.underlying t = some (.slice e)) (k : Nat) (hC : P.cellsOf e = k) (Q : List Value → Prop)
    (hQ : ∀ (n : Nat) (cs : List Value) (y : DataW H × List MemPlace), DataW.trod enc P w 0 (fun _ => true) true n e cs = some y → Q cs)
    {a : Option Addr} {len cap : Nat} {d : DataW H} {p : List MemPlace} (h : DataW.Trod enc P w 0 (fun _ => true) true t (.slice a len cap) d p) :
    ∃ rows : List (List Value), rows.length = len ∧ (∀ r ∈ rows, Q r ∧ r.length = k) ∧ len ≤ cap ∧ cap ≤ maxLen ∧ (a = none → len = 0 ∧ cap = 0) ∧
      ∀ ad, a = some ad → ∀ j u, rows.flatten[j]? = some u → w.cell? (ad.add j) = some u := by
  obtain ⟨fuel, hf⟩ := h
  rcases Go.Deep.open_slice ht hf with ⟨hcs, _⟩ | ⟨ad, len', cap', m, n, D, Pl, hcs, _, hl, hm, hmm, _, hall⟩
  · simp [Value.cells] at hcs
    obtain ⟨rfl, rfl, rfl⟩ := hcs
    exact ⟨[], rfl, (fun r hr => by cases hr), Nat.le_refl _, by simp [maxLen], (fun _ => ⟨rfl, rfl⟩), (fun _ e => by cases e)⟩
  · simp [Value.cells] at hcs
    obtain ⟨rfl, rfl, rfl⟩ := hcs
    have hmc : m = cap := by simpa using hmm
    rw [hC] at hall
    have hch : ∀ i : Nat, ∃ cs : List Value, i < len → (w.cells? 0 (ad.add (i * k)) k = some cs ∧ Q cs) := by
      intro i
      by_cases hi : i < len
      · obtain ⟨cs', h1, h2⟩ := hall i (by omega)
        exact ⟨cs', fun _ => ⟨h1, hQ _ _ _ h2⟩⟩
      · exact ⟨[], fun h => absurd h hi⟩
    obtain ⟨f, hfs⟩ := Classical.axiomOfChoice hch
    have hlen : ∀ r ∈ (List.range len).map f, r.length = k := by
      intro r hr
      obtain ⟨i, hi, rfl⟩ := List.mem_map.1 hr
      exact (World.cells?_some (hfs i (List.mem_range.1 hi)).1).2.1
    refine ⟨(List.range len).map f, by simp, ?_, hl, hm, (fun e => by cases e), ?_⟩
    · intro r hr
      refine ⟨?_, hlen r hr⟩
      obtain ⟨i, hi, rfl⟩ := List.mem_map.1 hr
      exact (hfs i (List.mem_range.1 hi)).2
    · intro ad' e j u hu
      injection e with e
      subst e
      have hj : j < len * k := by
        have := (List.getElem?_eq_some_iff.1 hu).1
        rw [flat_len _ k hlen] at this
        simpa using this
      have hk0 : 0 < k := by
        rcases Nat.eq_zero_or_pos k with h0 | h0
        · subst h0; omega
        · exact h0
      have hdm := Nat.div_add_mod j k
      have hq : j / k < len := Nat.div_lt_of_lt_mul (by rw [Nat.mul_comm]; exact hj)
      have hr : j % k < k := Nat.mod_lt _ hk0
      have e1 : j = j / k * k + j % k := by rw [Nat.mul_comm]; exact hdm.symm
      rw [e1, flat_get _ k hlen (j / k) (f (j / k)) (by rw [List.getElem?_map, List.getElem?_range hq]; rfl) _ hr] at hu
      have := (World.cells?_some (hfs (j / k) hq).1).2.2 (j % k) hr
      rw [add_add', ← e1] at this
      rw [this]
      exact hu
theorem field_cell {H : Type} {enc : TypeId × Value → H} {P : Program} {w : World} {e : TypeId} {fs : Array Field} (he : P.underlying e = some (.struct fs)) {n : Nat} {cs : List Value} {y : DataW H × List MemPlace}
    (h : DataW.trod enc P w 0 (fun _ => true) true n e cs = some y) (j : Nat) (f : Field) (hj : fs[j]? = some f) : ∃ m z, DataW.trod enc P w 0 (fun _ => true) true m f.type ((cs.drop f.offset).take (P.cellsOf f.type)) = some z := by
  obtain ⟨xs, m, _, _, _, hl, hg⟩ := DataW.trod_struct he h
  have := hg j f hj
  have hlt : j < xs.length := by rw [hl]; exact (Array.getElem?_eq_some_iff.1 hj).1
  rw [List.getElem?_eq_getElem hlt] at this
  exact ⟨m, _, this⟩
end Go.Kb
end
section
namespace Go.Sy
open Go Go.Tr Go.Kb Go.RowKit Go.ChangeShapes Go.WideShapes
set_option linter.unusedVariables false
def envE : Env := ⟨fun _ => none, fun _ => none, fun _ => false, 0⟩
def bare (w : World) : World := { w with heap := #[] }
def env0 (w : World) : Env := envE.frzNew (bare w) w
def st0 : St := ⟨fun _ => none, 0⟩
theorem below_bare (w : World) : RowKit.Below (bare w).heap.size (bare w) w := ⟨rfl, rfl, rfl, Nat.zero_le _, fun k hk => absurd hk (Nat.not_lt_zero _)⟩
theorem hrE (w : World) : HR envE st0 (bare w) :=
  ⟨(fun b k e => nomatch e), fun b h => rfl, (fun b b' k k' r κ κ' e => nomatch e), (fun b k r κ e => nomatch e), (fun r zs e => nomatch e), (fun b _ => ⟨rfl, rfl⟩), (fun b r κ e => nomatch e), Nat.le_refl _⟩
theorem hr0 (w : World) : HR (env0 w) st0 w := (Good.frzNew (hrE w) (below_bare w)).hr
theorem calls_top {P : Program} {f : Nat} {az : List SV} {w : World} {vs : List Value} (hE : entersB P f = true) (h : SCallR P f az st0 (fun r _ => r = .b true)) (hv : VRs (env0 w) az vs) :
    Calls P f vs.toArray w fun e w' => e = .returned (.bool true) ∧ RowKit.Below w.heap.size w w' := by
  rcases h (env0 w) w vs (hr0 w) hv with ⟨x, w', h1, _⟩ | ⟨h1, h2⟩
  · rw [enters hE] at h1; cases h1
  · refine h2.mono ?_
    rintro e w' ⟨x, rfl, r, s1, σ', q1, q2, rfl⟩
    cases q1
    exact ⟨rfl, q2.keep.os, q2.keep.tape, q2.keep.output, q2.keep.size, fun k hk => q2.keep.same k hk (fun b x κ e => by cases e)⟩
theorem lst_top {w : World} {A : Option Addr} {n c : Nat} {xs : List Value} {cells : List SV} {z : Nat} (hz : 0 < z) (hx : VRs (env0 w) cells xs) (hR : Go.Kb.RV w z A n c xs) (hS : ∀ ad, A = some ad → ad.block < w.heap.size) (hc : c ≤ maxLen) (hl : cells.length = n * z) : VR (env0 w) (.lst n cells) (.slice A n c) :=
  lst_out (σ := envE) (w := bare w) hz hx hR (fun ad e => ⟨Nat.zero_le _, hS ad e⟩) hc hl
theorem strs_top (σ : Env) : ∀ l : List (List UInt8), VRs σ (l.map SV.s) (l.map fun x => Value.string ⟨x.toArray⟩)
  | [] => .nil
  | _ :: l => .cons .s (strs_top σ l)
theorem slice_lt {P : Program} {W : World} {base : Nat} {t e : TypeId} (ht : P.underlying t = some (.slice e)) {a : Option Addr} {len cap : Nat} (h : Value.okWide P W .any base t (.slice a len cap)) : ∀ ad, a = some ad → ad.block < W.heap.size := by
  rintro ad rfl
  unfold Value.okWide at h
  rw [ht] at h
  simp only [Cell.okWide, ht, Cell.ok] at h
  obtain ⟨_, _, _, _, row, cells, hs, _⟩ := h
  unfold World.shape? at hs
  rcases Nat.lt_or_ge ad.block W.heap.size with h' | h'
  · exact h'
  · rw [Array.getElem?_eq_none h'] at hs; simp at hs
theorem flat1 {α : Type} (f : α → Value) : ∀ l : List α, (l.map fun x => [f x]).flatten = l.map f
  | [] => rfl
  | x :: l => by
    have := flat1 f l
    simp only [List.map_cons, List.flatten_cons, this]
    rfl
theorem open_ones {α : Type} (f : α → Value) (hf : ∀ x, (f x).oneCell' = true) {H : Type} {enc : TypeId × Value → H} {P : Program} {w : World} {t e : TypeId} (ht : P.underlying t = some (.slice e)) (hC : P.cellsOf e = 1)
    (hQ : ∀ (n : Nat) (cs : List Value) (y : DataW H × List MemPlace), DataW.trod enc P w 0 (fun _ => true) true n e cs = some y → ∃ x : α, cs = [f x])
    {a : Option Addr} {len cap : Nat} {d : DataW H} {p : List MemPlace} (h : DataW.Trod enc P w 0 (fun _ => true) true t (.slice a len cap) d p) :
    ∃ l : List α, l.length = len ∧ Go.Kb.RV w 1 a len cap (l.map f) ∧ cap ≤ maxLen := by
  obtain ⟨rows, hlen, hrows, hlc, hcm, hnil, hcell⟩ := open_rows ht 1 hC (fun cs => ∃ x : α, cs = [f x]) hQ h
  have hl : ∃ l : List α, rows = l.map fun x => [f x] := by
    clear hlen hcell
    induction rows with
    | nil => exact ⟨[], rfl⟩
    | cons r rows ih =>
      obtain ⟨l, hl⟩ := ih (fun r hr => hrows r (by simp [hr]))
      obtain ⟨⟨x, hx⟩, _⟩ := hrows r (by simp)
      exact ⟨x :: l, by rw [hx, hl]; rfl⟩
  obtain ⟨l, rfl⟩ := hl
  rw [flat1] at hcell
  refine ⟨l, by simpa using hlen, ⟨by simpa using hlen, hlc, hnil, hcell, fun u hu => ?_⟩, hcm⟩
  simp only [List.mem_map] at hu
  obtain ⟨x, _, rfl⟩ := hu
  exact hf x
theorem open_strs {H : Type} {enc : TypeId × Value → H} {P : Program} {w : World} {t e : TypeId} (ht : P.underlying t = some (.slice e)) (he : P.underlying e = some .string) (hC : P.cellsOf e = 1) {a : Option Addr} {len cap : Nat} {d : DataW H} {p : List MemPlace} (h : DataW.Trod enc P w 0 (fun _ => true) true t (.slice a len cap) d p) :
    ∃ l : List (List UInt8), l.length = len ∧ Go.Kb.RV w 1 a len cap (l.map fun x => Value.string ⟨x.toArray⟩) ∧ cap ≤ maxLen :=
  open_ones _ (fun _ => rfl) ht hC (fun n cs y hy => by
    obtain ⟨s, h2, _⟩ := DataW.trod_string he hy
    exact ⟨s.data.toList, by rw [h2]⟩) h
theorem open_ints {H : Type} {enc : TypeId × Value → H} {P : Program} {w : World} {t e : TypeId} (ht : P.underlying t = some (.slice e)) (he : P.underlying e = some (.int .i64)) (hC : P.cellsOf e = 1) {a : Option Addr} {len cap : Nat} {d : DataW H} {p : List MemPlace} (h : DataW.Trod enc P w 0 (fun _ => true) true t (.slice a len cap) d p) :
    ∃ l : List Int, l.length = len ∧ Go.Kb.RV w 1 a len cap (l.map fun x => Value.int .i64 x) ∧ cap ≤ maxLen :=
  open_ones _ (fun _ => rfl) ht hC (fun n cs y hy => by
    obtain ⟨s, h2, _⟩ := DataW.trod_int he hy
    exact ⟨s, h2⟩) h
theorem ints_top (σ : Env) : ∀ l : List Int, VRs σ (l.map (SV.i .i64)) (l.map fun x => Value.int .i64 x)
  | [] => .nil
  | _ :: l => .cons .i (ints_top σ l)
end Go.Sy
end
section
namespace Go.Proofs.YtpacfelhjjmmkaaDoor
open Go Go.Sy Go.RowKit
set_option linter.unusedVariables false
theorem open_ns {H : Type} {enc : TypeId × Value → H} {w : World} {a : Option Addr} {len cap : Nat} {d : DataW H} {p : List MemPlace} (h : DataW.Trod enc Tryd.prog w 0 (fun _ => true) true 22 (.slice a len cap) d p) :
    ∃ l : List Int, (l.length = len ∧ Go.Kb.RV w 1 a len cap (l.map fun x => Value.int .i64 x)) ∧ cap ≤ maxLen := by
  obtain ⟨l, h1, h2, h3⟩ := Go.Sy.open_ints Tryd.underlying22 Tryd.underlying3 (by kernel_rfl) h
  exact ⟨l, ⟨h1, h2⟩, h3⟩
theorem ns_top (w : World) {a : Option Addr} {len cap : Nat} {l : List Int} (h : l.length = len ∧ Go.Kb.RV w 1 a len cap (l.map fun x => Value.int .i64 x)) (hc : cap ≤ maxLen) (hS : ∀ ad, a = some ad → ad.block < w.heap.size) : VR (env0 w) (intsV l) (.slice a len cap) := by
  obtain ⟨rfl, hR⟩ := h
  exact lst_top (z := 1) (by decide) (ints_top _ l) hR hS hc (by simp)
theorem str_top (σ : Env) (a : ByteArray) : VR σ (.s a.data.toList) (.string a) := by
  have := VR.s (σ := σ) (l := a.data.toList)
  rwa [show (⟨a.data.toList.toArray⟩ : ByteArray) = a by cases a; rfl] at this
theorem cardLoads_walk (a0 : Option Addr) (len0 cap0 : Nat) (l0 : List Int) (a1 a2 a3 : Int) (a4 : ByteArray) (W : World) (hg : Tryd.prog.globals.size ≤ W.heap.size)
    (f0 : l0.length = len0 ∧ Go.Kb.RV W 1 a0 len0 cap0 (l0.map fun x => Value.int .i64 x)) (c0 : cap0 ≤ maxLen) (s0 : ∀ ad, a0 = some ad → ad.block < W.heap.size) (w1 : (Lit.int .i64 a1).wf = true) (w2 : (Lit.int .u8 a2).wf = true) (w3 : (Lit.int .i64 a3).wf = true) (w4 : a4.size ≤ 140737488351232) :
    Calls Tryd.prog 3 #[.slice a0 len0 cap0, .int .i64 a1, .int .u8 a2, .int .i64 a3, .string a4] W fun e w' => e = .returned (.bool true) ∧ RowKit.Below W.heap.size W w' :=
  calls_top (by kernel_rfl) (loads_sc l0 a1 a2 a3 a4.data.toList trivial) (.cons (ns_top W f0 c0 s0) (.cons .i (.cons .i (.cons .i (.cons (str_top _ a4) .nil)))))
end Go.Proofs.YtpacfelhjjmmkaaDoor
end
section
namespace Go.Proofs.YtpacfelhjjmmkaaDoor.cardLoads
open Go.ChangeShapes Go.WideShapes Go.ChangeAt Go.RowKit
open Go.ChangeMaps (open_string shut_string)
set_option linter.unusedVariables false
theorem own : ownKnob Tryd.prog.godebug = none := by kernel_rfl
theorem laidOut : laidOutB Tryd.prog = true := by kernel_rfl
theorem blocks : Nat.blt Tryd.prog.globals.size (begin Tryd.prog (fun _ _ => 0) default).world.heap.size = true := by kernel_rfl
noncomputable def laid : List (String × DataW Unit) := Rows.cardLoadsRow.laid
set_option maxRecDepth 100000 in
theorem lifted (os : Os) (started : os.Started) (H : Type) (enc : TypeId × Value → H) :
    ReturnsInHanded {} Tryd.checked os 3 .any (fun w args => (Rows.cardLoadsSpec.pre enc Tryd.prog Tryd.f3 [] false w args ∧ laidMetH Tryd.prog laid w) ∧ sizedMet enc Tryd.prog Tryd.f3 (OpenSpec.ofChange Rows.cardLoadsSpec) false w args) (Rows.cardLoadsSpec.post enc Tryd.prog Tryd.f3 false true false false) := by
  refine returnsInHanded_of_change_sh (C := Tryd.checked) (X := fun w _ => laidMetH Tryd.prog laid w) (fun _ _ _ hh h => h.of_heap hh) own started (by kernel_rfl) Tryd.func3
    (ChangeSpec.witness_shaped (enc := enc) (C := Tryd.checked) (os := os) (X := fun w _ => laidMetH Tryd.prog laid w) false (World.laidAll Tryd.prog os laid) #[.slice none 0 0, .int .i64 0, .int .u8 0, .int .i64 0, .string ByteArray.empty] 8 (World.laidAll_os _ _ _)
      (World.shaped_of_ZipB (by kernel_rfl) (by kernel_rfl)) (by kernel_rfl) (by kernel_rfl) (by kernel_rfl)
      (by rw [MakeChecks.laidMetH_plain _ _ _ (by kernel_rfl)]; exact laidMet_laidAll _ (by kernel_rfl) (by kernel_rfl))) ?_
  intro W base args ds gs before hshape hval0 hW hcnd hsz0 hL _
  have hglob := globals_of_shaped hshape blocks
  have hsz : (DataW.weightsEach Tryd.prog (Tryd.f3.params.toList ++ Rows.cardLoadsSpec.plain.varTypes Tryd.prog) (ds ++ gs)).all (· ≤ reachBytes) = true := hsz0
  have hval : ∀ (j : Nat) t v, Tryd.f3.params[j]? = some t → args[j]? = some v → Value.okWide Tryd.prog W .any base t v := hval0
  have hW' := hW
  obtain ⟨p, q, hA0, hV, rfl, hfz, hnd⟩ := hW
  have hA : DataW.TrodAll enc Tryd.prog W 0 (fun _ => true) true Tryd.f3.params.toList args.toList ds p := hA0
  rw [Tryd.params3] at hA hval hsz
  obtain ⟨v0, vs0, d0, ds0, p0, q0, hargs, rfl, rfl, h0, r0⟩ := trodAll_cons hA
  obtain ⟨v1, vs1, d1, ds1, p1, q1, rfl, rfl, rfl, h1, r1⟩ := trodAll_cons r0
  obtain ⟨v2, vs2, d2, ds2, p2, q2, rfl, rfl, rfl, h2, r2⟩ := trodAll_cons r1
  obtain ⟨v3, vs3, d3, ds3, p3, q3, rfl, rfl, rfl, h3, r3⟩ := trodAll_cons r2
  obtain ⟨v4, vs4, d4, ds4, p4, q4, rfl, rfl, rfl, h4, r4⟩ := trodAll_cons r3
  obtain ⟨rfl, rfl, rfl⟩ := trodAll_nil r4
  obtain rfl : args = #[v0, v1, v2, v3, v4] := by cases args; simp_all
  obtain ⟨rfl, rfl⟩ := trodVars_none hV
  obtain ⟨a0, len0, cap0, rfl⟩ := okWide_slice Tryd.underlying22 (hval 0 22 v0 rfl rfl)
  have k0 := h0
  have lt0 : ∀ x ∈ p0, x.block < W.heap.size := by obtain ⟨m, hm⟩ := k0; exact DataW.trod_lt m _ _ _ hm
  have sl0 := Go.Sy.slice_lt Tryd.underlying22 (hval 0 22 _ rfl rfl)
  obtain ⟨l00, f0, c0⟩ := open_ns h0
  obtain ⟨a1, rfl, rfl, rfl, w1⟩ := open_int Tryd.underlying3 (hval 1 3 v1 rfl rfl) h1
  obtain ⟨a2, rfl, rfl, rfl, w2⟩ := open_int Tryd.underlying5 (hval 2 5 v2 rfl rfl) h2
  obtain ⟨a3, rfl, rfl, rfl, w3⟩ := open_int Tryd.underlying3 (hval 3 3 v3 rfl rfl) h3
  obtain ⟨a4, rfl, rfl, rfl, y4⟩ := open_string Tryd.underlying9 (hval 4 9 v4 rfl rfl) h4
  have w4 : a4.size ≤ 140737488351232 := by
    have z := sized_string hsz (j := 4) (t := 9) rfl rfl
    rw [Array.length_toList] at z
    exact z
  clear hA0 hval0 hsz0 hsz
  refine (cardLoads_walk a0 len0 cap0 l00 a1 a2 a3 a4 W hglob f0 c0 sl0 w1 w2 w3 w4).mono fun e W' ⟨he, bel⟩ => ?_
  subst he
  exact ⟨_, rfl, _, _, _, [], _, [], hW', trodAll_mk1 (shut_bool Tryd.underlying4 _), (trodAll_cons_mk (Below.trod laidOut (by kernel_rfl) (of_decide_eq_true (by kernel_rfl)) k0 bel lt0) (trodAll_cons_mk (shut_int Tryd.underlying3 w1) (trodAll_cons_mk (shut_int Tryd.underlying5 w2) (trodAll_cons_mk (shut_int Tryd.underlying3 w3) (trodAll_cons_mk (shut_string Tryd.underlying9 y4) trodAll_mk0))))), rfl, bel.frame _, fun h => by cases h⟩
theorem over : Rows.CardLoadsSaid :=
  OpenClaim.holds_of_wide 3 Tryd.f3 rfl rfl rfl rfl rfl rfl rfl ⟨rfl, rfl, rfl, rfl, rfl⟩ rfl rfl rfl rfl rfl (by kernel_rfl) Tryd.func3 (by kernel_rfl)
    (of_decide_eq_true (by kernel_rfl)) (by unfold Func.isWrapper; first | (rw [if_pos (by decide +kernel)]; kernel_rfl) | (rw [if_neg (by decide +kernel)]; exact ⟨rfl, rfl⟩))
    (fun os started H enc _ => lifted os started H enc)
theorem proved : Rows.CardLoadsCardSaid :=
  Claim7.holds_tied_plain_at .later [] Rows.cardLoadsCard.laidKinds true Rows.cardLoadsCard.stood.harness Rows.cardLoadsCard.stood.looks over (fun _ h => by cases h) (by kernel_rfl) (fun _ h => by cases h) cardLoads_row_tie rfl ⟨rfl, rfl⟩ (by kernel_rfl) rfl
    (fun f fn hf hfn => by
      obtain rfl : f = 3 := Option.some.inj ((show Tryd.prog.funcNamed "cadence/cadencelaw8.CardLoads" = some 3 by kernel_rfl).symm.trans hf) |>.symm
      obtain rfl : fn = Tryd.f3 := (Option.some.inj (Tryd.func3.symm.trans hfn)).symm
      exact ⟨by kernel_rfl, fun j t ht => by
        rw [Tryd.params3] at ht
        have hm : t ∈ [22, 3, 5, 3, 9] := by simpa using Array.mem_of_getElem? ht
        have hall : ([22, 3, 5, 3, 9].all fun u => !Tryd.prog.wantsStandIn u) = true := by kernel_rfl
        exact (show Tryd.prog.wantsStandIn t = false by simpa using List.all_eq_true.1 hall t hm)⟩)
    (by kernel_rfl)
end Go.Proofs.YtpacfelhjjmmkaaDoor.cardLoads
namespace Go.Proofs.YtpacfelhjjmmkaaDoor
theorem cardLoads_holds : Rows.CardLoadsCardSaid := cardLoads.proved
end Go.Proofs.YtpacfelhjjmmkaaDoor
end
