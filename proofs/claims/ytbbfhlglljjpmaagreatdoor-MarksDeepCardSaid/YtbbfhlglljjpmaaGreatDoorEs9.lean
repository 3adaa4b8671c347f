import Derived.Test.YtbbfhlglljjpmaaGreatDoorEvOnce
import Derived.Test.YtbbfhlglljjpmaaGreatDoorEvIdx
import Derived.Test.YtbbfhlglljjpmaaGreatDoorEvZ
import Derived.Test.YtbbfhlglljjpmaaGreatDoorEvZD
import Derived.Test.YtbbfhlglljjpmaaGreatDoorEvFH
import Derived.Test.YtbbfhlglljjpmaaGreatDoorProg
import Derived.WalkKit
import Derived.KernelRfl
open Go Go.Ev
namespace Go.Proofs.YtbbfhlglljjpmaaGreatDoor
set_option maxRecDepth 1000000
theorem ev_mix : Tryz.prog.follows .mixedOrders = true := by kernel_rfl
theorem ev_ng : Tryz.prog.globals.size = 3 := by kernel_rfl
theorem ev_i : ExtOK Tryz.prog 145 Extern.BytealgIndexByte.indexByte := extOK_of Tryz.func145 (by kernel_rfl) (by kernel_rfl) (by kernel_rfl) (by kernel_rfl)
theorem ev_c : ExtOK Tryz.prog 165 Extern.BytealgCompare.compare := extOK_of Tryz.func165 (by kernel_rfl) (by kernel_rfl) (by kernel_rfl) (by kernel_rfl)
theorem ev_id : ∀ f ∈ [150], ExtOK Tryz.prog f Extern.AbiNoEscape.same := by
  intro f hf
  simp only [List.mem_cons, List.not_mem_nil, or_false] at hf
  subst hf
  exact extOK_of Tryz.func150 (by kernel_rfl) (by kernel_rfl) (by kernel_rfl) (by kernel_rfl)
theorem ev_eo : EntOK Tryz.prog 148 := entOK_of Tryz.func148 (by kernel_rfl) (by kernel_rfl)
theorem ev_eb : EntOK Tryz.prog 149 := entOK_of Tryz.func149 (by kernel_rfl) (by kernel_rfl)
theorem ev_mk : MkOK Tryz.prog 151 5 := mkOK_of Tryz.func151 (by kernel_rfl) (by kernel_rfl) (by kernel_rfl) (ps := #[3]) (t := 26) (by kernel_rfl) Tryz.underlying26
theorem ev_gl : 0 < Tryz.prog.globals.size := of_decide_eq_true (by kernel_rfl)
theorem ev_y [Theta] : YOK Tryz.prog (orY (onceY 148 149) (orY (mkY 151 5) (idxY 130 0 3))) := orY_ok (onceY_ok once_ok ev_eo ev_eb) (orY_ok (mkY_ok ev_mk) (idxY_ok ev_ix ev_exi ev_gl))
theorem ev_ek : EntOK Tryz.prog 11 := entOK_of Tryz.func11 (by kernel_rfl) (by kernel_rfl)
theorem ev_ew : EntOK Tryz.prog 13 := entOK_of Tryz.func13 (by kernel_rfl) (by kernel_rfl)
theorem ev_known0 : saysB true (evCallF (orY (onceY 148 149) (orY (mkY 151 5) (idxY 130 0 3))) (idX [150] (extX 145 165)) (kF' Tryz.prog) 3 10000 11 .nil ⟨(Tr.set Tr.leaf 0 (some (maxBlk 3 9))), 3, 0⟩) = true := by decide +kernel
theorem ev_known : KnM Tryz.prog 11 0 3 := fun w hsz hM => by
  obtain ⟨m, hM⟩ := hM
  letI : Theta := ⟨fun _ => m⟩
  exact ev_topY ev_mix (compF_ok _) (idX_ok ev_id (extX_ok ev_i ev_c)) ev_y (l := .nil) (H0 := (Tr.set Tr.leaf 0 (some (maxBlk 3 9)))) (vs := []) (by rfl) (by rw [ev_ng, ← evFast]; exact ev_known0) hsz (max_start ev_gl hM rfl) (by simp only [VRs])
theorem ev_y2 [Theta] : YOK Tryz.prog (orY (knY 11 0 3) (orY (onceY 148 149) (orY (mkY 151 5) (idxY 130 0 3)))) := orY_ok (knY_ok ev_known ev_ek ev_gl) ev_y

set_option maxHeartbeats 400000 in
theorem ev_within : WiOK Tryz.prog 13 := by
  intro a n w h0 h1
  have hr := Go.Ev.wit_range a n (by omega)
  unfold Go.Ev.wit at hr ⊢
  have ha : -n ≤ a.tmod n ∧ a.tmod n < n := by split at hr <;> omega
  clear hr
  obtain ⟨q, hq⟩ : ∃ q, q = a.tmod n := ⟨_, rfl⟩
  rw [← hq] at ha ⊢
  obtain ⟨ha1, ha2⟩ := ha
  go_enter Tryz.func13, Tryz.ntmps13
  go_wp2_with fail
  all_goals go_ret; exact ⟨rfl, rfl⟩
end Go.Proofs.YtbbfhlglljjpmaaGreatDoor
