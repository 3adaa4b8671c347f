import Derived.Test.YtpacfelhjjmmkaaDoorEvSeat8
import Derived.Test.YtpacfelhjjmmkaaDoorEkCardKnown0
import Derived.Test.YtpacfelhjjmmkaaDoorEkCardKnown1
import Derived.Test.YtpacfelhjjmmkaaDoorEkCardKnown2
open Go Go.Ev
namespace Go.Proofs.YtpacfelhjjmmkaaDoor
set_option maxRecDepth 1000000
theorem cardKnown_walk (a : Int) (W : World) (hsz : Tryd.prog.globals.size ≤ W.heap.size) :
    Calls Tryd.prog 4 #[.int .i64 a] W fun e W' => e = .returned (.bool true) ∧ RowKit.Below W.heap.size W W' := by
  letI : Theta := ⟨fun _ => a⟩
  have hr := Go.Ev.wit_range a 19 (by omega)
  obtain ⟨k, hk, hlt⟩ : ∃ k : Nat, Go.Ev.wit a 19 = k ∧ k < 19 := ⟨(Go.Ev.wit a 19).toNat, by omega, by omega⟩
  clear hr
  have htab : TabOK [(0, 19, k)] := by
    intro q hq
    simp only [List.mem_cons, List.not_mem_nil, or_false] at hq
    subst hq
    exact ⟨by dsimp only; omega, by dsimp only; omega, hk⟩
  have hX := plugX_ok ev_i ev_c ev_known ev_ek ev_within ev_ew htab
  clear htab
  have hev : saysB true (evCall (plugX 92 98 6 8 [(0, 19, k)]) (compF Tryd.prog) 3 10000 4 (.cons (.opq 0) .nil) ⟨.leaf, 3, 0⟩) = true := by
    clear hX hk
    rcases (by omega : k = 0 ∨ k = 1 ∨ k = 2 ∨ k = 3 ∨ k = 4 ∨ k = 5 ∨ k = 6 ∨ k = 7 ∨ k = 8 ∨ k = 9 ∨ k = 10 ∨ k = 11 ∨ k = 12 ∨ k = 13 ∨ k = 14 ∨ k = 15 ∨ k = 16 ∨ k = 17 ∨ k = 18) with rfl | rfl | rfl | rfl | rfl | rfl | rfl | rfl | rfl | rfl | rfl | rfl | rfl | rfl | rfl | rfl | rfl | rfl | rfl
    · exact CardKnown_0
    · exact CardKnown_1
    · exact CardKnown_2
    · exact CardKnown_3
    · exact CardKnown_4
    · exact CardKnown_5
    · exact CardKnown_6
    · exact CardKnown_7
    · exact CardKnown_8
    · exact CardKnown_9
    · exact CardKnown_10
    · exact CardKnown_11
    · exact CardKnown_12
    · exact CardKnown_13
    · exact CardKnown_14
    · exact CardKnown_15
    · exact CardKnown_16
    · exact CardKnown_17
    · exact CardKnown_18
  exact ev_top ev_mix (compF_ok _) hX (l := .cons (.opq 0) .nil) (H0 := .leaf) (vs := [.int .i64 a]) (by rfl) (by rw [ev_ng]; exact hev) hsz (fun b k h => by rw [Tr.get_leaf] at h; cases h) (by simp only [VRs, VR]; exact ⟨_, _, rfl, rfl, rfl⟩)
end Go.Proofs.YtpacfelhjjmmkaaDoor
