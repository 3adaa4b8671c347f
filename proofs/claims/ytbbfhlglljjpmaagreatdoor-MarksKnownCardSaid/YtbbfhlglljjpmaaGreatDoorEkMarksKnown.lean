import Derived.Test.YtbbfhlglljjpmaaGreatDoorEs9
import Derived.Test.YtbbfhlglljjpmaaGreatDoorEkMarksKnown0
import Derived.Test.YtbbfhlglljjpmaaGreatDoorEkMarksKnown1
import Derived.Test.YtbbfhlglljjpmaaGreatDoorEkMarksKnown2
import Derived.Test.YtbbfhlglljjpmaaGreatDoorEkMarksKnown3
open Go Go.Ev
namespace Go.Proofs.YtbbfhlglljjpmaaGreatDoor
set_option maxRecDepth 1000000
theorem marksKnown_cases (k0_20 : Nat) (h0_20 : k0_20 < 20) : saysB true (evCallF (orY (knY 11 0 3) (orY (onceY 148 149) (orY (mkY 151 5) (idxY 130 0 3)))) (idX [150] (wiX 145 165 13 [(0, 20, k0_20)])) (kF' Tryz.prog) 3 10000 4 (.cons (.opq 0) .nil) ⟨(Tr.set Tr.leaf 0 (some (maxBlk 3 9))), 3, 0⟩) = true := by
  rcases (by omega : k0_20 = 0 ∨ k0_20 = 1 ∨ k0_20 = 2 ∨ k0_20 = 3 ∨ k0_20 = 4 ∨ k0_20 = 5 ∨ k0_20 = 6 ∨ k0_20 = 7 ∨ k0_20 = 8 ∨ k0_20 = 9 ∨ k0_20 = 10 ∨ k0_20 = 11 ∨ k0_20 = 12 ∨ k0_20 = 13 ∨ k0_20 = 14 ∨ k0_20 = 15 ∨ k0_20 = 16 ∨ k0_20 = 17 ∨ k0_20 = 18 ∨ k0_20 = 19) with rfl | rfl | rfl | rfl | rfl | rfl | rfl | rfl | rfl | rfl | rfl | rfl | rfl | rfl | rfl | rfl | rfl | rfl | rfl | rfl
  · exact MarksKnown_0
  · exact MarksKnown_1
  · exact MarksKnown_2
  · exact MarksKnown_3
  · exact MarksKnown_4
  · exact MarksKnown_5
  · exact MarksKnown_6
  · exact MarksKnown_7
  · exact MarksKnown_8
  · exact MarksKnown_9
  · exact MarksKnown_10
  · exact MarksKnown_11
  · exact MarksKnown_12
  · exact MarksKnown_13
  · exact MarksKnown_14
  · exact MarksKnown_15
  · exact MarksKnown_16
  · exact MarksKnown_17
  · exact MarksKnown_18
  · exact MarksKnown_19
theorem marksKnown_walk (a0 : Int) (W : World) (hsz : Tryz.prog.globals.size ≤ W.heap.size) (hM : ∃ m, MaxAt 0 3 m W) :
    Calls Tryz.prog 4 #[.int .i64 a0] W fun e W' => e = .returned (.bool true) ∧ RowKit.Below W.heap.size W W' := by
  obtain ⟨m, hM⟩ := hM
  letI : Theta := ⟨fun i => if i = 9 then m else a0⟩
  have hr0_20 := Go.Ev.wit_range a0 20 (by omega)
  obtain ⟨k0_20, hk0_20, hl0_20⟩ : ∃ k : Nat, Go.Ev.wit a0 20 = k ∧ k < 20 := ⟨(Go.Ev.wit a0 20).toNat, by omega, by omega⟩
  clear hr0_20
  have htab : TabOK [(0, 20, k0_20)] := by
    intro q hq
    simp only [List.mem_cons, List.not_mem_nil, or_false] at hq
    subst hq
    · exact ⟨by dsimp only; omega, by dsimp only; omega, hk0_20⟩
  have hX := idX_ok ev_id (wiX_ok ev_i ev_c ev_within ev_ew htab)
  clear htab
  have hev := marksKnown_cases k0_20 hl0_20
  exact ev_topY ev_mix (compF_ok _) hX ev_y2 (l := (.cons (.opq 0) .nil)) (H0 := (Tr.set Tr.leaf 0 (some (maxBlk 3 9)))) (vs := [.int .i64 a0]) (by rfl) (by rw [ev_ng, ← evFast]; exact hev) hsz (max_start ev_gl hM rfl) (by simp only [VRs, VR]; exact ⟨_, _, rfl, rfl, rfl⟩)
end Go.Proofs.YtbbfhlglljjpmaaGreatDoor
