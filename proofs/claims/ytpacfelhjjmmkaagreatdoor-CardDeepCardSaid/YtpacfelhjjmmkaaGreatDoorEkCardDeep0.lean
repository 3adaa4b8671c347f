import Derived.Test.YtpacfelhjjmmkaaGreatDoorEvZC
import Derived.Test.YtpacfelhjjmmkaaGreatDoorEvZ
import Derived.Test.YtpacfelhjjmmkaaGreatDoorProg
open Go Go.Ev
namespace Go.Proofs.YtpacfelhjjmmkaaGreatDoor
set_option maxRecDepth 1000000
theorem CardDeep_0 : saysB true (evCallY (onceY 142 143) (idX [124] (plugX 119 144 8 12 [(0, 5, 0)])) (compF Tryz.prog) 3 10000 7 (.cons (.opq 0) .nil) ⟨.leaf, 3, 0⟩) = true := by decide +kernel
theorem CardDeep_3 : saysB true (evCallY (onceY 142 143) (idX [124] (plugX 119 144 8 12 [(0, 5, 3)])) (compF Tryz.prog) 3 10000 7 (.cons (.opq 0) .nil) ⟨.leaf, 3, 0⟩) = true := by decide +kernel
end Go.Proofs.YtpacfelhjjmmkaaGreatDoor
