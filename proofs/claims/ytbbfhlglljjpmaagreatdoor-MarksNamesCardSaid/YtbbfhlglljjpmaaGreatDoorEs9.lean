import Derived.Test.YtbbfhlglljjpmaaGreatDoorEvOnce
import Derived.Test.YtbbfhlglljjpmaaGreatDoorEvZ
import Derived.Test.YtbbfhlglljjpmaaGreatDoorProg
import Derived.WalkKit
import Derived.KernelRfl
open Go Go.Ev
namespace Go.Proofs.YtbbfhlglljjpmaaGreatDoor
set_option maxRecDepth 1000000
theorem ev_mix : Tryz.prog.follows .mixedOrders = true := by kernel_rfl
theorem ev_ng : Tryz.prog.globals.size = 3 := by kernel_rfl
theorem ev_i : ExtOK Tryz.prog 145 Extern.BytealgIndexByte.indexByte := extOK_of Tryz.func145 (by kernel_rfl) (by kernel_rfl) (by kernel_rfl) (by kernel_rfl)
theorem ev_c : ExtOK Tryz.prog 165 Extern.BytealgCompare.compare := extOK_of Tryz.func165 (by kernel_rfl) (by kernel_rfl) (by kernel_rfl) (by kernel_rfl)
theorem ev_id : ∀ f ∈ [150], ExtOK Tryz.prog f Extern.AbiNoEscape.same := by
  intro f hf
  simp only [List.mem_cons, List.not_mem_nil, or_false] at hf
  subst hf
  exact extOK_of Tryz.func150 (by kernel_rfl) (by kernel_rfl) (by kernel_rfl) (by kernel_rfl)
theorem ev_eo : EntOK Tryz.prog 148 := entOK_of Tryz.func148 (by kernel_rfl) (by kernel_rfl)
theorem ev_eb : EntOK Tryz.prog 149 := entOK_of Tryz.func149 (by kernel_rfl) (by kernel_rfl)
theorem ev_y [Theta] : YOK Tryz.prog (onceY 148 149) := onceY_ok once_ok ev_eo ev_eb
theorem ev_ek : EntOK Tryz.prog 11 := entOK_of Tryz.func11 (by kernel_rfl) (by kernel_rfl)
theorem ev_ew : EntOK Tryz.prog 13 := entOK_of Tryz.func13 (by kernel_rfl) (by kernel_rfl)
theorem ev_known0 : saysB true (evCallY (onceY 148 149) (idX [150] (extX 145 165)) (compF Tryz.prog) 3 10000 11 .nil ⟨.leaf, 3, 0⟩) = true := by decide +kernel
theorem ev_known : KnOK Tryz.prog 11 := fun w hsz => by
  letI : Theta := ⟨fun _ => 0⟩
  exact ev_topY ev_mix (compF_ok _) (idX_ok ev_id (extX_ok ev_i ev_c)) ev_y (l := .nil) (H0 := .leaf) (vs := []) (by rfl) (by rw [ev_ng]; exact ev_known0) hsz (fun b k h => by rw [Tr.get_leaf] at h; cases h) (by simp only [VRs])
set_option maxHeartbeats 400000 in
theorem ev_within : WiOK Tryz.prog 13 := by
  intro a n w h0 h1
  have hr := Go.Ev.wit_range a n (by omega)
  unfold Go.Ev.wit at hr ⊢
  have ha : -n ≤ a.tmod n ∧ a.tmod n < n := by split at hr <;> omega
  clear hr
  obtain ⟨q, hq⟩ : ∃ q, q = a.tmod n := ⟨_, rfl⟩
  rw [← hq] at ha ⊢
  obtain ⟨ha1, ha2⟩ := ha
  go_enter Tryz.func13, Tryz.ntmps13
  go_wp2_with fail
  all_goals go_ret; exact ⟨rfl, rfl⟩
end Go.Proofs.YtbbfhlglljjpmaaGreatDoor
