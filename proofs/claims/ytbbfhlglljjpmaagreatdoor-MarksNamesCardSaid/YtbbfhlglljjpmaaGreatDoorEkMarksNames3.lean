import Derived.Test.YtbbfhlglljjpmaaGreatDoorEvZC
import Derived.Test.YtbbfhlglljjpmaaGreatDoorEvZ
import Derived.Test.YtbbfhlglljjpmaaGreatDoorProg
open Go Go.Ev
namespace Go.Proofs.YtbbfhlglljjpmaaGreatDoor
set_option maxRecDepth 1000000
theorem MarksNames_1_0 : saysB true (evCallY (onceY 148 149) (idX [150] (plugX 145 165 11 13 [(0, 9, 1), (1, 3, 0)])) (compF Tryz.prog) 3 10000 5 (.cons (.opq 0) (.cons (.opq 1) .nil)) ⟨.leaf, 3, 0⟩) = true := by decide +kernel
theorem MarksNames_2_1 : saysB true (evCallY (onceY 148 149) (idX [150] (plugX 145 165 11 13 [(0, 9, 2), (1, 3, 1)])) (compF Tryz.prog) 3 10000 5 (.cons (.opq 0) (.cons (.opq 1) .nil)) ⟨.leaf, 3, 0⟩) = true := by decide +kernel
theorem MarksNames_3_2 : saysB true (evCallY (onceY 148 149) (idX [150] (plugX 145 165 11 13 [(0, 9, 3), (1, 3, 2)])) (compF Tryz.prog) 3 10000 5 (.cons (.opq 0) (.cons (.opq 1) .nil)) ⟨.leaf, 3, 0⟩) = true := by decide +kernel
theorem MarksNames_5_0 : saysB true (evCallY (onceY 148 149) (idX [150] (plugX 145 165 11 13 [(0, 9, 5), (1, 3, 0)])) (compF Tryz.prog) 3 10000 5 (.cons (.opq 0) (.cons (.opq 1) .nil)) ⟨.leaf, 3, 0⟩) = true := by decide +kernel
theorem MarksNames_6_1 : saysB true (evCallY (onceY 148 149) (idX [150] (plugX 145 165 11 13 [(0, 9, 6), (1, 3, 1)])) (compF Tryz.prog) 3 10000 5 (.cons (.opq 0) (.cons (.opq 1) .nil)) ⟨.leaf, 3, 0⟩) = true := by decide +kernel
theorem MarksNames_7_2 : saysB true (evCallY (onceY 148 149) (idX [150] (plugX 145 165 11 13 [(0, 9, 7), (1, 3, 2)])) (compF Tryz.prog) 3 10000 5 (.cons (.opq 0) (.cons (.opq 1) .nil)) ⟨.leaf, 3, 0⟩) = true := by decide +kernel
end Go.Proofs.YtbbfhlglljjpmaaGreatDoor
