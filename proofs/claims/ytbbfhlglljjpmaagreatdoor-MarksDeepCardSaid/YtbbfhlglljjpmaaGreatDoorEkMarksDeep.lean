import Derived.Test.YtbbfhlglljjpmaaGreatDoorEs9
import Derived.Test.YtbbfhlglljjpmaaGreatDoorEkMarksDeep0
import Derived.Test.YtbbfhlglljjpmaaGreatDoorEkMarksDeep1
import Derived.Test.YtbbfhlglljjpmaaGreatDoorEkMarksDeep2
import Derived.Test.YtbbfhlglljjpmaaGreatDoorEkMarksDeep3
open Go Go.Ev
namespace Go.Proofs.YtbbfhlglljjpmaaGreatDoor
set_option maxRecDepth 1000000
theorem marksDeep_cases (k0_7 : Nat) (h0_7 : k0_7 < 7) : saysB true (evCallF (orY (knY 11 0 3) (orY (onceY 148 149) (orY (mkY 151 5) (idxY 130 0 3)))) (idX [150] (wiX 145 165 13 [(0, 7, k0_7)])) (kF' Tryz.prog) 3 10000 10 (.cons (.opq 0) .nil) ⟨(Tr.set Tr.leaf 0 (some (maxBlk 3 9))), 3, 0⟩) = true := by
  rcases (by omega : k0_7 = 0 ∨ k0_7 = 1 ∨ k0_7 = 2 ∨ k0_7 = 3 ∨ k0_7 = 4 ∨ k0_7 = 5 ∨ k0_7 = 6) with rfl | rfl | rfl | rfl | rfl | rfl | rfl
  · exact MarksDeep_0
  · exact MarksDeep_1
  · exact MarksDeep_2
  · exact MarksDeep_3
  · exact MarksDeep_4
  · exact MarksDeep_5
  · exact MarksDeep_6
theorem marksDeep_walk (a0 : Int) (W : World) (hsz : Tryz.prog.globals.size ≤ W.heap.size) (hM : ∃ m, MaxAt 0 3 m W) :
    Calls Tryz.prog 10 #[.int .i64 a0] W fun e W' => e = .returned (.bool true) ∧ RowKit.Below W.heap.size W W' := by
  obtain ⟨m, hM⟩ := hM
  letI : Theta := ⟨fun i => if i = 9 then m else a0⟩
  have hr0_7 := Go.Ev.wit_range a0 7 (by omega)
  obtain ⟨k0_7, hk0_7, hl0_7⟩ : ∃ k : Nat, Go.Ev.wit a0 7 = k ∧ k < 7 := ⟨(Go.Ev.wit a0 7).toNat, by omega, by omega⟩
  clear hr0_7
  have htab : TabOK [(0, 7, k0_7)] := by
    intro q hq
    simp only [List.mem_cons, List.not_mem_nil, or_false] at hq
    subst hq
    · exact ⟨by dsimp only; omega, by dsimp only; omega, hk0_7⟩
  have hX := idX_ok ev_id (wiX_ok ev_i ev_c ev_within ev_ew htab)
  clear htab
  have hev := marksDeep_cases k0_7 hl0_7
  exact ev_topY ev_mix (compF_ok _) hX ev_y2 (l := (.cons (.opq 0) .nil)) (H0 := (Tr.set Tr.leaf 0 (some (maxBlk 3 9)))) (vs := [.int .i64 a0]) (by rfl) (by rw [ev_ng, ← evFast]; exact hev) hsz (max_start ev_gl hM rfl) (by simp only [VRs, VR]; exact ⟨_, _, rfl, rfl, rfl⟩)
end Go.Proofs.YtbbfhlglljjpmaaGreatDoor
