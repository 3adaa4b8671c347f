import Derived.Test.YtbbfhlglljjpmaaGreatDoorEvZC
import Derived.Test.YtbbfhlglljjpmaaGreatDoorEvZ
import Derived.Test.YtbbfhlglljjpmaaGreatDoorProg
open Go Go.Ev
namespace Go.Proofs.YtbbfhlglljjpmaaGreatDoor
set_option maxRecDepth 1000000
theorem MarksNames_0_1 : saysB true (evCallY (onceY 148 149) (idX [150] (plugX 145 165 11 13 [(0, 9, 0), (1, 3, 1)])) (compF Tryz.prog) 3 10000 5 (.cons (.opq 0) (.cons (.opq 1) .nil)) ⟨.leaf, 3, 0⟩) = true := by decide +kernel
theorem MarksNames_1_2 : saysB true (evCallY (onceY 148 149) (idX [150] (plugX 145 165 11 13 [(0, 9, 1), (1, 3, 2)])) (compF Tryz.prog) 3 10000 5 (.cons (.opq 0) (.cons (.opq 1) .nil)) ⟨.leaf, 3, 0⟩) = true := by decide +kernel
theorem MarksNames_3_0 : saysB true (evCallY (onceY 148 149) (idX [150] (plugX 145 165 11 13 [(0, 9, 3), (1, 3, 0)])) (compF Tryz.prog) 3 10000 5 (.cons (.opq 0) (.cons (.opq 1) .nil)) ⟨.leaf, 3, 0⟩) = true := by decide +kernel
theorem MarksNames_4_1 : saysB true (evCallY (onceY 148 149) (idX [150] (plugX 145 165 11 13 [(0, 9, 4), (1, 3, 1)])) (compF Tryz.prog) 3 10000 5 (.cons (.opq 0) (.cons (.opq 1) .nil)) ⟨.leaf, 3, 0⟩) = true := by decide +kernel
theorem MarksNames_5_2 : saysB true (evCallY (onceY 148 149) (idX [150] (plugX 145 165 11 13 [(0, 9, 5), (1, 3, 2)])) (compF Tryz.prog) 3 10000 5 (.cons (.opq 0) (.cons (.opq 1) .nil)) ⟨.leaf, 3, 0⟩) = true := by decide +kernel
theorem MarksNames_7_0 : saysB true (evCallY (onceY 148 149) (idX [150] (plugX 145 165 11 13 [(0, 9, 7), (1, 3, 0)])) (compF Tryz.prog) 3 10000 5 (.cons (.opq 0) (.cons (.opq 1) .nil)) ⟨.leaf, 3, 0⟩) = true := by decide +kernel
theorem MarksNames_8_1 : saysB true (evCallY (onceY 148 149) (idX [150] (plugX 145 165 11 13 [(0, 9, 8), (1, 3, 1)])) (compF Tryz.prog) 3 10000 5 (.cons (.opq 0) (.cons (.opq 1) .nil)) ⟨.leaf, 3, 0⟩) = true := by decide +kernel
end Go.Proofs.YtbbfhlglljjpmaaGreatDoor
