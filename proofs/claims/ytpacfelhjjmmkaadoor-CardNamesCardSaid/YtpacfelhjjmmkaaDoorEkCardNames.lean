import Derived.Test.YtpacfelhjjmmkaaDoorEvSeat8
import Derived.Test.YtpacfelhjjmmkaaDoorEkCardNames0
import Derived.Test.YtpacfelhjjmmkaaDoorEkCardNames1
import Derived.Test.YtpacfelhjjmmkaaDoorEkCardNames2
import Derived.Test.YtpacfelhjjmmkaaDoorEkCardNames3
import Derived.Test.YtpacfelhjjmmkaaDoorEkCardNames4
import Derived.Test.YtpacfelhjjmmkaaDoorEkCardNames5
import Derived.Test.YtpacfelhjjmmkaaDoorEkCardNames6
import Derived.Test.YtpacfelhjjmmkaaDoorEkCardNames7
import Derived.Test.YtpacfelhjjmmkaaDoorEkCardNames8
import Derived.Test.YtpacfelhjjmmkaaDoorEkCardNames9
import Derived.Test.YtpacfelhjjmmkaaDoorEkCardNames10
import Derived.Test.YtpacfelhjjmmkaaDoorEkCardNames11
import Derived.Test.YtpacfelhjjmmkaaDoorEkCardNames12
import Derived.Test.YtpacfelhjjmmkaaDoorEkCardNames13
import Derived.Test.YtpacfelhjjmmkaaDoorEkCardNames14
open Go Go.Ev
namespace Go.Proofs.YtpacfelhjjmmkaaDoor
set_option maxRecDepth 1000000
theorem cardNames_cases (a b k : Nat) (ha : a < 5) (hb : b < 3) (hk : k < 9) : saysB true (evCall (plugX 92 98 6 8 [(1, 5, a), (1, 3, b), (0, 9, k)]) (compF Tryd.prog) 3 10000 5 (.cons (.opq 0) (.cons (.opq 1) .nil)) ⟨.leaf, 3, 0⟩) = true := by
  rcases (by omega : a = 0 ∨ a = 1 ∨ a = 2 ∨ a = 3 ∨ a = 4) with rfl | rfl | rfl | rfl | rfl
  · rcases (by omega : b = 0 ∨ b = 1 ∨ b = 2) with rfl | rfl | rfl
    · rcases (by omega : k = 0 ∨ k = 1 ∨ k = 2 ∨ k = 3 ∨ k = 4 ∨ k = 5 ∨ k = 6 ∨ k = 7 ∨ k = 8) with rfl | rfl | rfl | rfl | rfl | rfl | rfl | rfl | rfl
      · exact CardNames_0_0_0
      · exact CardNames_0_0_1
      · exact CardNames_0_0_2
      · exact CardNames_0_0_3
      · exact CardNames_0_0_4
      · exact CardNames_0_0_5
      · exact CardNames_0_0_6
      · exact CardNames_0_0_7
      · exact CardNames_0_0_8
    · rcases (by omega : k = 0 ∨ k = 1 ∨ k = 2 ∨ k = 3 ∨ k = 4 ∨ k = 5 ∨ k = 6 ∨ k = 7 ∨ k = 8) with rfl | rfl | rfl | rfl | rfl | rfl | rfl | rfl | rfl
      · exact CardNames_0_1_0
      · exact CardNames_0_1_1
      · exact CardNames_0_1_2
      · exact CardNames_0_1_3
      · exact CardNames_0_1_4
      · exact CardNames_0_1_5
      · exact CardNames_0_1_6
      · exact CardNames_0_1_7
      · exact CardNames_0_1_8
    · rcases (by omega : k = 0 ∨ k = 1 ∨ k = 2 ∨ k = 3 ∨ k = 4 ∨ k = 5 ∨ k = 6 ∨ k = 7 ∨ k = 8) with rfl | rfl | rfl | rfl | rfl | rfl | rfl | rfl | rfl
      · exact CardNames_0_2_0
      · exact CardNames_0_2_1
      · exact CardNames_0_2_2
      · exact CardNames_0_2_3
      · exact CardNames_0_2_4
      · exact CardNames_0_2_5
      · exact CardNames_0_2_6
      · exact CardNames_0_2_7
      · exact CardNames_0_2_8
  · rcases (by omega : b = 0 ∨ b = 1 ∨ b = 2) with rfl | rfl | rfl
    · rcases (by omega : k = 0 ∨ k = 1 ∨ k = 2 ∨ k = 3 ∨ k = 4 ∨ k = 5 ∨ k = 6 ∨ k = 7 ∨ k = 8) with rfl | rfl | rfl | rfl | rfl | rfl | rfl | rfl | rfl
      · exact CardNames_1_0_0
      · exact CardNames_1_0_1
      · exact CardNames_1_0_2
      · exact CardNames_1_0_3
      · exact CardNames_1_0_4
      · exact CardNames_1_0_5
      · exact CardNames_1_0_6
      · exact CardNames_1_0_7
      · exact CardNames_1_0_8
    · rcases (by omega : k = 0 ∨ k = 1 ∨ k = 2 ∨ k = 3 ∨ k = 4 ∨ k = 5 ∨ k = 6 ∨ k = 7 ∨ k = 8) with rfl | rfl | rfl | rfl | rfl | rfl | rfl | rfl | rfl
      · exact CardNames_1_1_0
      · exact CardNames_1_1_1
      · exact CardNames_1_1_2
      · exact CardNames_1_1_3
      · exact CardNames_1_1_4
      · exact CardNames_1_1_5
      · exact CardNames_1_1_6
      · exact CardNames_1_1_7
      · exact CardNames_1_1_8
    · rcases (by omega : k = 0 ∨ k = 1 ∨ k = 2 ∨ k = 3 ∨ k = 4 ∨ k = 5 ∨ k = 6 ∨ k = 7 ∨ k = 8) with rfl | rfl | rfl | rfl | rfl | rfl | rfl | rfl | rfl
      · exact CardNames_1_2_0
      · exact CardNames_1_2_1
      · exact CardNames_1_2_2
      · exact CardNames_1_2_3
      · exact CardNames_1_2_4
      · exact CardNames_1_2_5
      · exact CardNames_1_2_6
      · exact CardNames_1_2_7
      · exact CardNames_1_2_8
  · rcases (by omega : b = 0 ∨ b = 1 ∨ b = 2) with rfl | rfl | rfl
    · rcases (by omega : k = 0 ∨ k = 1 ∨ k = 2 ∨ k = 3 ∨ k = 4 ∨ k = 5 ∨ k = 6 ∨ k = 7 ∨ k = 8) with rfl | rfl | rfl | rfl | rfl | rfl | rfl | rfl | rfl
      · exact CardNames_2_0_0
      · exact CardNames_2_0_1
      · exact CardNames_2_0_2
      · exact CardNames_2_0_3
      · exact CardNames_2_0_4
      · exact CardNames_2_0_5
      · exact CardNames_2_0_6
      · exact CardNames_2_0_7
      · exact CardNames_2_0_8
    · rcases (by omega : k = 0 ∨ k = 1 ∨ k = 2 ∨ k = 3 ∨ k = 4 ∨ k = 5 ∨ k = 6 ∨ k = 7 ∨ k = 8) with rfl | rfl | rfl | rfl | rfl | rfl | rfl | rfl | rfl
      · exact CardNames_2_1_0
      · exact CardNames_2_1_1
      · exact CardNames_2_1_2
      · exact CardNames_2_1_3
      · exact CardNames_2_1_4
      · exact CardNames_2_1_5
      · exact CardNames_2_1_6
      · exact CardNames_2_1_7
      · exact CardNames_2_1_8
    · rcases (by omega : k = 0 ∨ k = 1 ∨ k = 2 ∨ k = 3 ∨ k = 4 ∨ k = 5 ∨ k = 6 ∨ k = 7 ∨ k = 8) with rfl | rfl | rfl | rfl | rfl | rfl | rfl | rfl | rfl
      · exact CardNames_2_2_0
      · exact CardNames_2_2_1
      · exact CardNames_2_2_2
      · exact CardNames_2_2_3
      · exact CardNames_2_2_4
      · exact CardNames_2_2_5
      · exact CardNames_2_2_6
      · exact CardNames_2_2_7
      · exact CardNames_2_2_8
  · rcases (by omega : b = 0 ∨ b = 1 ∨ b = 2) with rfl | rfl | rfl
    · rcases (by omega : k = 0 ∨ k = 1 ∨ k = 2 ∨ k = 3 ∨ k = 4 ∨ k = 5 ∨ k = 6 ∨ k = 7 ∨ k = 8) with rfl | rfl | rfl | rfl | rfl | rfl | rfl | rfl | rfl
      · exact CardNames_3_0_0
      · exact CardNames_3_0_1
      · exact CardNames_3_0_2
      · exact CardNames_3_0_3
      · exact CardNames_3_0_4
      · exact CardNames_3_0_5
      · exact CardNames_3_0_6
      · exact CardNames_3_0_7
      · exact CardNames_3_0_8
    · rcases (by omega : k = 0 ∨ k = 1 ∨ k = 2 ∨ k = 3 ∨ k = 4 ∨ k = 5 ∨ k = 6 ∨ k = 7 ∨ k = 8) with rfl | rfl | rfl | rfl | rfl | rfl | rfl | rfl | rfl
      · exact CardNames_3_1_0
      · exact CardNames_3_1_1
      · exact CardNames_3_1_2
      · exact CardNames_3_1_3
      · exact CardNames_3_1_4
      · exact CardNames_3_1_5
      · exact CardNames_3_1_6
      · exact CardNames_3_1_7
      · exact CardNames_3_1_8
    · rcases (by omega : k = 0 ∨ k = 1 ∨ k = 2 ∨ k = 3 ∨ k = 4 ∨ k = 5 ∨ k = 6 ∨ k = 7 ∨ k = 8) with rfl | rfl | rfl | rfl | rfl | rfl | rfl | rfl | rfl
      · exact CardNames_3_2_0
      · exact CardNames_3_2_1
      · exact CardNames_3_2_2
      · exact CardNames_3_2_3
      · exact CardNames_3_2_4
      · exact CardNames_3_2_5
      · exact CardNames_3_2_6
      · exact CardNames_3_2_7
      · exact CardNames_3_2_8
  · rcases (by omega : b = 0 ∨ b = 1 ∨ b = 2) with rfl | rfl | rfl
    · rcases (by omega : k = 0 ∨ k = 1 ∨ k = 2 ∨ k = 3 ∨ k = 4 ∨ k = 5 ∨ k = 6 ∨ k = 7 ∨ k = 8) with rfl | rfl | rfl | rfl | rfl | rfl | rfl | rfl | rfl
      · exact CardNames_4_0_0
      · exact CardNames_4_0_1
      · exact CardNames_4_0_2
      · exact CardNames_4_0_3
      · exact CardNames_4_0_4
      · exact CardNames_4_0_5
      · exact CardNames_4_0_6
      · exact CardNames_4_0_7
      · exact CardNames_4_0_8
    · rcases (by omega : k = 0 ∨ k = 1 ∨ k = 2 ∨ k = 3 ∨ k = 4 ∨ k = 5 ∨ k = 6 ∨ k = 7 ∨ k = 8) with rfl | rfl | rfl | rfl | rfl | rfl | rfl | rfl | rfl
      · exact CardNames_4_1_0
      · exact CardNames_4_1_1
      · exact CardNames_4_1_2
      · exact CardNames_4_1_3
      · exact CardNames_4_1_4
      · exact CardNames_4_1_5
      · exact CardNames_4_1_6
      · exact CardNames_4_1_7
      · exact CardNames_4_1_8
    · rcases (by omega : k = 0 ∨ k = 1 ∨ k = 2 ∨ k = 3 ∨ k = 4 ∨ k = 5 ∨ k = 6 ∨ k = 7 ∨ k = 8) with rfl | rfl | rfl | rfl | rfl | rfl | rfl | rfl | rfl
      · exact CardNames_4_2_0
      · exact CardNames_4_2_1
      · exact CardNames_4_2_2
      · exact CardNames_4_2_3
      · exact CardNames_4_2_4
      · exact CardNames_4_2_5
      · exact CardNames_4_2_6
      · exact CardNames_4_2_7
      · exact CardNames_4_2_8
theorem cardNames_walk (which n : Int) (W : World) (hsz : Tryd.prog.globals.size ≤ W.heap.size) :
    Calls Tryd.prog 5 #[.int .i64 which, .int .i64 n] W fun e W' => e = .returned (.bool true) ∧ RowKit.Below W.heap.size W W' := by
  letI : Theta := ⟨fun i => match i with | 0 => which | _ => n⟩
  have h5 := Go.Ev.wit_range n 5 (by omega)
  have h3 := Go.Ev.wit_range n 3 (by omega)
  have h9 := Go.Ev.wit_range which 9 (by omega)
  obtain ⟨a, ea, ha⟩ : ∃ k : Nat, Go.Ev.wit n 5 = k ∧ k < 5 := ⟨(Go.Ev.wit n 5).toNat, by omega, by omega⟩
  obtain ⟨b, eb, hb⟩ : ∃ k : Nat, Go.Ev.wit n 3 = k ∧ k < 3 := ⟨(Go.Ev.wit n 3).toNat, by omega, by omega⟩
  obtain ⟨k, ek, hk⟩ : ∃ k : Nat, Go.Ev.wit which 9 = k ∧ k < 9 := ⟨(Go.Ev.wit which 9).toNat, by omega, by omega⟩
  clear h5 h3 h9
  have htab : TabOK [(1, 5, a), (1, 3, b), (0, 9, k)] := by
    intro q hq
    simp only [List.mem_cons, List.not_mem_nil, or_false] at hq
    rcases hq with rfl | rfl | rfl
    · exact ⟨by dsimp only; omega, by dsimp only; omega, ea⟩
    · exact ⟨by dsimp only; omega, by dsimp only; omega, eb⟩
    · exact ⟨by dsimp only; omega, by dsimp only; omega, ek⟩
  have hX := plugX_ok ev_i ev_c ev_known ev_ek ev_within ev_ew htab
  exact ev_top ev_mix (compF_ok _) hX (l := .cons (.opq 0) (.cons (.opq 1) .nil)) (H0 := .leaf) (vs := [.int .i64 which, .int .i64 n]) (by rfl) (by rw [ev_ng]; exact cardNames_cases a b k ha hb hk) hsz (fun b k h => by rw [Tr.get_leaf] at h; cases h)
    (by simp only [VRs, VR]; exact ⟨_, _, rfl, rfl, _, _, rfl, rfl, rfl⟩)
end Go.Proofs.YtpacfelhjjmmkaaDoor
