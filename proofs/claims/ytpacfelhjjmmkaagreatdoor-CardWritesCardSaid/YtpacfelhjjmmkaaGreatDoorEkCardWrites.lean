import Derived.Test.YtpacfelhjjmmkaaGreatDoorEs8
import Derived.Test.YtpacfelhjjmmkaaGreatDoorEkCardWrites0
import Derived.Test.YtpacfelhjjmmkaaGreatDoorEkCardWrites1
import Derived.Test.YtpacfelhjjmmkaaGreatDoorEkCardWrites2
import Derived.Test.YtpacfelhjjmmkaaGreatDoorEkCardWrites3
open Go Go.Ev
namespace Go.Proofs.YtpacfelhjjmmkaaGreatDoor
set_option maxRecDepth 1000000
theorem cardWrites_cases (k0_7 : Nat) (h0_7 : k0_7 < 7) : saysB true (evCallY (onceY 142 143) (idX [124] (plugX 119 144 8 12 [(0, 7, k0_7)])) (compF Tryz.prog) 3 10000 4 (.cons (.opq 0) .nil) ⟨.leaf, 3, 0⟩) = true := by
  rcases (by omega : k0_7 = 0 ∨ k0_7 = 1 ∨ k0_7 = 2 ∨ k0_7 = 3 ∨ k0_7 = 4 ∨ k0_7 = 5 ∨ k0_7 = 6) with rfl | rfl | rfl | rfl | rfl | rfl | rfl
  · exact CardWrites_0
  · exact CardWrites_1
  · exact CardWrites_2
  · exact CardWrites_3
  · exact CardWrites_4
  · exact CardWrites_5
  · exact CardWrites_6
theorem cardWrites_walk (a0 : Int) (W : World) (hsz : Tryz.prog.globals.size ≤ W.heap.size) :
    Calls Tryz.prog 4 #[.int .i64 a0] W fun e W' => e = .returned (.bool true) ∧ RowKit.Below W.heap.size W W' := by
  letI : Theta := ⟨fun i => a0⟩
  have hr0_7 := Go.Ev.wit_range a0 7 (by omega)
  obtain ⟨k0_7, hk0_7, hl0_7⟩ : ∃ k : Nat, Go.Ev.wit a0 7 = k ∧ k < 7 := ⟨(Go.Ev.wit a0 7).toNat, by omega, by omega⟩
  clear hr0_7
  have htab : TabOK [(0, 7, k0_7)] := by
    intro q hq
    simp only [List.mem_cons, List.not_mem_nil, or_false] at hq
    subst hq
    · exact ⟨by dsimp only; omega, by dsimp only; omega, hk0_7⟩
  have hX := idX_ok ev_id (plugX_ok ev_i ev_c ev_known ev_ek ev_within ev_ew htab)
  clear htab
  have hev := cardWrites_cases k0_7 hl0_7
  exact ev_topY ev_mix (compF_ok _) hX ev_y (l := (.cons (.opq 0) .nil)) (H0 := .leaf) (vs := [.int .i64 a0]) (by rfl) (by rw [ev_ng]; exact hev) hsz (fun b k h => by rw [Tr.get_leaf] at h; cases h) (by simp only [VRs, VR]; exact ⟨_, _, rfl, rfl, rfl⟩)
end Go.Proofs.YtpacfelhjjmmkaaGreatDoor
