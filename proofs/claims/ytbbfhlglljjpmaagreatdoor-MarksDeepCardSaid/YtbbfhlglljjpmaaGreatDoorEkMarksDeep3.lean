import Derived.Test.YtbbfhlglljjpmaaGreatDoorEvZE
import Derived.Test.YtbbfhlglljjpmaaGreatDoorEvZ
import Derived.Test.YtbbfhlglljjpmaaGreatDoorEvFH
import Derived.Test.YtbbfhlglljjpmaaGreatDoorProg
open Go Go.Ev
namespace Go.Proofs.YtbbfhlglljjpmaaGreatDoor
set_option maxRecDepth 1000000
theorem MarksDeep_3 : saysB true (evCallF (orY (knY 11 0 3) (orY (onceY 148 149) (orY (mkY 151 5) (idxY 130 0 3)))) (idX [150] (wiX 145 165 13 [(0, 7, 3)])) (kF' Tryz.prog) 3 10000 10 (.cons (.opq 0) .nil) ⟨(Tr.set Tr.leaf 0 (some (maxBlk 3 9))), 3, 0⟩) = true := by decide +kernel
end Go.Proofs.YtbbfhlglljjpmaaGreatDoor
