import Derived.Test.YtpacfelhjjmmkaaGreatDoorEs8
import Derived.Test.YtpacfelhjjmmkaaGreatDoorEkCardDeep0
import Derived.Test.YtpacfelhjjmmkaaGreatDoorEkCardDeep1
import Derived.Test.YtpacfelhjjmmkaaGreatDoorEkCardDeep2
open Go Go.Ev
namespace Go.Proofs.YtpacfelhjjmmkaaGreatDoor
set_option maxRecDepth 1000000
theorem cardDeep_cases (k0_5 : Nat) (h0_5 : k0_5 < 5) : saysB true (evCallY (onceY 142 143) (idX [124] (plugX 119 144 8 12 [(0, 5, k0_5)])) (compF Tryz.prog) 3 10000 7 (.cons (.opq 0) .nil) ⟨.leaf, 3, 0⟩) = true := by
  rcases (by omega : k0_5 = 0 ∨ k0_5 = 1 ∨ k0_5 = 2 ∨ k0_5 = 3 ∨ k0_5 = 4) with rfl | rfl | rfl | rfl | rfl
  · exact CardDeep_0
  · exact CardDeep_1
  · exact CardDeep_2
  · exact CardDeep_3
  · exact CardDeep_4
theorem cardDeep_walk (a0 : Int) (W : World) (hsz : Tryz.prog.globals.size ≤ W.heap.size) :
    Calls Tryz.prog 7 #[.int .i64 a0] W fun e W' => e = .returned (.bool true) ∧ RowKit.Below W.heap.size W W' := by
  letI : Theta := ⟨fun i => a0⟩
  have hr0_5 := Go.Ev.wit_range a0 5 (by omega)
  obtain ⟨k0_5, hk0_5, hl0_5⟩ : ∃ k : Nat, Go.Ev.wit a0 5 = k ∧ k < 5 := ⟨(Go.Ev.wit a0 5).toNat, by omega, by omega⟩
  clear hr0_5
  have htab : TabOK [(0, 5, k0_5)] := by
    intro q hq
    simp only [List.mem_cons, List.not_mem_nil, or_false] at hq
    subst hq
    · exact ⟨by dsimp only; omega, by dsimp only; omega, hk0_5⟩
  have hX := idX_ok ev_id (plugX_ok ev_i ev_c ev_known ev_ek ev_within ev_ew htab)
  clear htab
  have hev := cardDeep_cases k0_5 hl0_5
  exact ev_topY ev_mix (compF_ok _) hX ev_y (l := (.cons (.opq 0) .nil)) (H0 := .leaf) (vs := [.int .i64 a0]) (by rfl) (by rw [ev_ng]; exact hev) hsz (fun b k h => by rw [Tr.get_leaf] at h; cases h) (by simp only [VRs, VR]; exact ⟨_, _, rfl, rfl, rfl⟩)
end Go.Proofs.YtpacfelhjjmmkaaGreatDoor
