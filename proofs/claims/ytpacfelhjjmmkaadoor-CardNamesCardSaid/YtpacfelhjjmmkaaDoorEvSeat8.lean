import Derived.Test.YtpacfelhjjmmkaaDoorEvZ
import Derived.Test.YtpacfelhjjmmkaaDoorProg
import Derived.WalkKit
import Derived.KernelRfl
open Go Go.Ev
namespace Go.Proofs.YtpacfelhjjmmkaaDoor
set_option maxRecDepth 1000000
theorem ev_mix : Tryd.prog.follows .mixedOrders = true := by kernel_rfl
theorem ev_ng : Tryd.prog.globals.size = 3 := by kernel_rfl
theorem ev_i : ExtOK Tryd.prog 92 Extern.BytealgIndexByte.indexByte := extOK_of Tryd.func92 (by kernel_rfl) (by kernel_rfl) (by kernel_rfl) (by kernel_rfl)
theorem ev_c : ExtOK Tryd.prog 98 Extern.BytealgCompare.compare := extOK_of Tryd.func98 (by kernel_rfl) (by kernel_rfl) (by kernel_rfl) (by kernel_rfl)
theorem ev_ek : EntOK Tryd.prog 6 := entOK_of Tryd.func6 (by kernel_rfl) (by kernel_rfl)
theorem ev_ew : EntOK Tryd.prog 8 := entOK_of Tryd.func8 (by kernel_rfl) (by kernel_rfl)
theorem ev_known0 : saysB true (evCall (extX 92 98) (compF Tryd.prog) 3 10000 6 .nil ⟨.leaf, 3, 0⟩) = true := by decide +kernel
theorem ev_known : KnOK Tryd.prog 6 := fun w hsz => by
  letI : Theta := ⟨fun _ => 0⟩
  exact ev_top ev_mix (compF_ok _) (extX_ok ev_i ev_c) (l := .nil) (H0 := .leaf) (vs := []) (by rfl) (by rw [ev_ng]; exact ev_known0) hsz (fun b k h => by rw [Tr.get_leaf] at h; cases h) (by simp only [VRs])
set_option maxHeartbeats 400000 in
theorem ev_within : WiOK Tryd.prog 8 := by
  intro a n w h0 h1
  have hr := Go.Ev.wit_range a n (by omega)
  unfold Go.Ev.wit at hr ⊢
  have ha : -n ≤ a.tmod n ∧ a.tmod n < n := by split at hr <;> omega
  clear hr
  obtain ⟨q, hq⟩ : ∃ q, q = a.tmod n := ⟨_, rfl⟩
  rw [← hq] at ha ⊢
  obtain ⟨ha1, ha2⟩ := ha
  go_enter Tryd.func8, Tryd.ntmps8
  go_wp2_with fail
  all_goals go_ret; exact ⟨rfl, rfl⟩
end Go.Proofs.YtpacfelhjjmmkaaDoor
