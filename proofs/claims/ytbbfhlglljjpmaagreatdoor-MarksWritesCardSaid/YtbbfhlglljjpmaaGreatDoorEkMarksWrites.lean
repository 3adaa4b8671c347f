import Derived.Test.YtbbfhlglljjpmaaGreatDoorEs9
import Derived.Test.YtbbfhlglljjpmaaGreatDoorEkMarksWrites0
import Derived.Test.YtbbfhlglljjpmaaGreatDoorEkMarksWrites1
import Derived.Test.YtbbfhlglljjpmaaGreatDoorEkMarksWrites2
open Go Go.Ev
namespace Go.Proofs.YtbbfhlglljjpmaaGreatDoor
set_option maxRecDepth 1000000
theorem marksWrites_cases (k0_6 : Nat) (h0_6 : k0_6 < 6) : saysB true (evCallF (orY (knY 11 0 3) (orY (onceY 148 149) (orY (mkY 151 5) (idxY 130 0 3)))) (idX [150] (wiX 145 165 13 [(0, 6, k0_6)])) (kF' Tryz.prog) 3 10000 7 (.cons (.opq 0) .nil) ⟨(Tr.set Tr.leaf 0 (some (maxBlk 3 9))), 3, 0⟩) = true := by
  rcases (by omega : k0_6 = 0 ∨ k0_6 = 1 ∨ k0_6 = 2 ∨ k0_6 = 3 ∨ k0_6 = 4 ∨ k0_6 = 5) with rfl | rfl | rfl | rfl | rfl | rfl
  · exact MarksWrites_0
  · exact MarksWrites_1
  · exact MarksWrites_2
  · exact MarksWrites_3
  · exact MarksWrites_4
  · exact MarksWrites_5
theorem marksWrites_walk (a0 : Int) (W : World) (hsz : Tryz.prog.globals.size ≤ W.heap.size) (hM : ∃ m, MaxAt 0 3 m W) :
    Calls Tryz.prog 7 #[.int .i64 a0] W fun e W' => e = .returned (.bool true) ∧ RowKit.Below W.heap.size W W' := by
  obtain ⟨m, hM⟩ := hM
  letI : Theta := ⟨fun i => if i = 9 then m else a0⟩
  have hr0_6 := Go.Ev.wit_range a0 6 (by omega)
  obtain ⟨k0_6, hk0_6, hl0_6⟩ : ∃ k : Nat, Go.Ev.wit a0 6 = k ∧ k < 6 := ⟨(Go.Ev.wit a0 6).toNat, by omega, by omega⟩
  clear hr0_6
  have htab : TabOK [(0, 6, k0_6)] := by
    intro q hq
    simp only [List.mem_cons, List.not_mem_nil, or_false] at hq
    subst hq
    · exact ⟨by dsimp only; omega, by dsimp only; omega, hk0_6⟩
  have hX := idX_ok ev_id (wiX_ok ev_i ev_c ev_within ev_ew htab)
  clear htab
  have hev := marksWrites_cases k0_6 hl0_6
  exact ev_topY ev_mix (compF_ok _) hX ev_y2 (l := (.cons (.opq 0) .nil)) (H0 := (Tr.set Tr.leaf 0 (some (maxBlk 3 9)))) (vs := [.int .i64 a0]) (by rfl) (by rw [ev_ng, ← evFast]; exact hev) hsz (max_start ev_gl hM rfl) (by simp only [VRs, VR]; exact ⟨_, _, rfl, rfl, rfl⟩)
end Go.Proofs.YtbbfhlglljjpmaaGreatDoor
