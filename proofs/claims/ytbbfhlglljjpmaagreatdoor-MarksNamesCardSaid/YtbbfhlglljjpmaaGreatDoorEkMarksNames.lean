import Derived.Test.YtbbfhlglljjpmaaGreatDoorEs9
import Derived.Test.YtbbfhlglljjpmaaGreatDoorEkMarksNames0
import Derived.Test.YtbbfhlglljjpmaaGreatDoorEkMarksNames1
import Derived.Test.YtbbfhlglljjpmaaGreatDoorEkMarksNames2
import Derived.Test.YtbbfhlglljjpmaaGreatDoorEkMarksNames3
open Go Go.Ev
namespace Go.Proofs.YtbbfhlglljjpmaaGreatDoor
set_option maxRecDepth 1000000
theorem marksNames_cases (k0_9 k1_3 : Nat) (h0_9 : k0_9 < 9) (h1_3 : k1_3 < 3) : saysB true (evCallY (onceY 148 149) (idX [150] (plugX 145 165 11 13 [(0, 9, k0_9), (1, 3, k1_3)])) (compF Tryz.prog) 3 10000 5 (.cons (.opq 0) (.cons (.opq 1) .nil)) ⟨.leaf, 3, 0⟩) = true := by
  rcases (by omega : k0_9 = 0 ∨ k0_9 = 1 ∨ k0_9 = 2 ∨ k0_9 = 3 ∨ k0_9 = 4 ∨ k0_9 = 5 ∨ k0_9 = 6 ∨ k0_9 = 7 ∨ k0_9 = 8) with rfl | rfl | rfl | rfl | rfl | rfl | rfl | rfl | rfl
  · rcases (by omega : k1_3 = 0 ∨ k1_3 = 1 ∨ k1_3 = 2) with rfl | rfl | rfl
    · exact MarksNames_0_0
    · exact MarksNames_0_1
    · exact MarksNames_0_2
  · rcases (by omega : k1_3 = 0 ∨ k1_3 = 1 ∨ k1_3 = 2) with rfl | rfl | rfl
    · exact MarksNames_1_0
    · exact MarksNames_1_1
    · exact MarksNames_1_2
  · rcases (by omega : k1_3 = 0 ∨ k1_3 = 1 ∨ k1_3 = 2) with rfl | rfl | rfl
    · exact MarksNames_2_0
    · exact MarksNames_2_1
    · exact MarksNames_2_2
  · rcases (by omega : k1_3 = 0 ∨ k1_3 = 1 ∨ k1_3 = 2) with rfl | rfl | rfl
    · exact MarksNames_3_0
    · exact MarksNames_3_1
    · exact MarksNames_3_2
  · rcases (by omega : k1_3 = 0 ∨ k1_3 = 1 ∨ k1_3 = 2) with rfl | rfl | rfl
    · exact MarksNames_4_0
    · exact MarksNames_4_1
    · exact MarksNames_4_2
  · rcases (by omega : k1_3 = 0 ∨ k1_3 = 1 ∨ k1_3 = 2) with rfl | rfl | rfl
    · exact MarksNames_5_0
    · exact MarksNames_5_1
    · exact MarksNames_5_2
  · rcases (by omega : k1_3 = 0 ∨ k1_3 = 1 ∨ k1_3 = 2) with rfl | rfl | rfl
    · exact MarksNames_6_0
    · exact MarksNames_6_1
    · exact MarksNames_6_2
  · rcases (by omega : k1_3 = 0 ∨ k1_3 = 1 ∨ k1_3 = 2) with rfl | rfl | rfl
    · exact MarksNames_7_0
    · exact MarksNames_7_1
    · exact MarksNames_7_2
  · rcases (by omega : k1_3 = 0 ∨ k1_3 = 1 ∨ k1_3 = 2) with rfl | rfl | rfl
    · exact MarksNames_8_0
    · exact MarksNames_8_1
    · exact MarksNames_8_2
theorem marksNames_walk (a0 a1 : Int) (W : World) (hsz : Tryz.prog.globals.size ≤ W.heap.size) :
    Calls Tryz.prog 5 #[.int .i64 a0, .int .i64 a1] W fun e W' => e = .returned (.bool true) ∧ RowKit.Below W.heap.size W W' := by
  letI : Theta := ⟨fun i => if i = 0 then a0 else a1⟩
  have hr0_9 := Go.Ev.wit_range a0 9 (by omega)
  obtain ⟨k0_9, hk0_9, hl0_9⟩ : ∃ k : Nat, Go.Ev.wit a0 9 = k ∧ k < 9 := ⟨(Go.Ev.wit a0 9).toNat, by omega, by omega⟩
  clear hr0_9
  have hr1_3 := Go.Ev.wit_range a1 3 (by omega)
  obtain ⟨k1_3, hk1_3, hl1_3⟩ : ∃ k : Nat, Go.Ev.wit a1 3 = k ∧ k < 3 := ⟨(Go.Ev.wit a1 3).toNat, by omega, by omega⟩
  clear hr1_3
  have htab : TabOK [(0, 9, k0_9), (1, 3, k1_3)] := by
    intro q hq
    simp only [List.mem_cons, List.not_mem_nil, or_false] at hq
    rcases hq with rfl | rfl
    · exact ⟨by dsimp only; omega, by dsimp only; omega, hk0_9⟩
    · exact ⟨by dsimp only; omega, by dsimp only; omega, hk1_3⟩
  have hX := idX_ok ev_id (plugX_ok ev_i ev_c ev_known ev_ek ev_within ev_ew htab)
  clear htab
  have hev := marksNames_cases k0_9 k1_3 hl0_9 hl1_3
  exact ev_topY ev_mix (compF_ok _) hX ev_y (l := (.cons (.opq 0) (.cons (.opq 1) .nil))) (H0 := .leaf) (vs := [.int .i64 a0, .int .i64 a1]) (by rfl) (by rw [ev_ng]; exact hev) hsz (fun b k h => by rw [Tr.get_leaf] at h; cases h) (by simp only [VRs, VR]; exact ⟨_, _, rfl, rfl, ⟨_, _, rfl, rfl, rfl⟩⟩)
end Go.Proofs.YtbbfhlglljjpmaaGreatDoor
