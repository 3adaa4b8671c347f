import Derived.Test.YtbbfhlglljjpmaaGreatDoorEvZE
import Derived.Test.YtbbfhlglljjpmaaGreatDoorEvZ
import Derived.Test.YtbbfhlglljjpmaaGreatDoorEvFH
import Derived.Test.YtbbfhlglljjpmaaGreatDoorProg
open Go Go.Ev
namespace Go.Proofs.YtbbfhlglljjpmaaGreatDoor
set_option maxRecDepth 1000000
theorem MarksKnown_2 : saysB true (evCallF (orY (knY 11 0 3) (orY (onceY 148 149) (orY (mkY 151 5) (idxY 130 0 3)))) (idX [150] (wiX 145 165 13 [(0, 20, 2)])) (kF' Tryz.prog) 3 10000 4 (.cons (.opq 0) .nil) ⟨(Tr.set Tr.leaf 0 (some (maxBlk 3 9))), 3, 0⟩) = true := by decide +kernel
theorem MarksKnown_6 : saysB true (evCallF (orY (knY 11 0 3) (orY (onceY 148 149) (orY (mkY 151 5) (idxY 130 0 3)))) (idX [150] (wiX 145 165 13 [(0, 20, 6)])) (kF' Tryz.prog) 3 10000 4 (.cons (.opq 0) .nil) ⟨(Tr.set Tr.leaf 0 (some (maxBlk 3 9))), 3, 0⟩) = true := by decide +kernel
theorem MarksKnown_10 : saysB true (evCallF (orY (knY 11 0 3) (orY (onceY 148 149) (orY (mkY 151 5) (idxY 130 0 3)))) (idX [150] (wiX 145 165 13 [(0, 20, 10)])) (kF' Tryz.prog) 3 10000 4 (.cons (.opq 0) .nil) ⟨(Tr.set Tr.leaf 0 (some (maxBlk 3 9))), 3, 0⟩) = true := by decide +kernel
theorem MarksKnown_14 : saysB true (evCallF (orY (knY 11 0 3) (orY (onceY 148 149) (orY (mkY 151 5) (idxY 130 0 3)))) (idX [150] (wiX 145 165 13 [(0, 20, 14)])) (kF' Tryz.prog) 3 10000 4 (.cons (.opq 0) .nil) ⟨(Tr.set Tr.leaf 0 (some (maxBlk 3 9))), 3, 0⟩) = true := by decide +kernel
theorem MarksKnown_18 : saysB true (evCallF (orY (knY 11 0 3) (orY (onceY 148 149) (orY (mkY 151 5) (idxY 130 0 3)))) (idX [150] (wiX 145 165 13 [(0, 20, 18)])) (kF' Tryz.prog) 3 10000 4 (.cons (.opq 0) .nil) ⟨(Tr.set Tr.leaf 0 (some (maxBlk 3 9))), 3, 0⟩) = true := by decide +kernel
end Go.Proofs.YtbbfhlglljjpmaaGreatDoor
