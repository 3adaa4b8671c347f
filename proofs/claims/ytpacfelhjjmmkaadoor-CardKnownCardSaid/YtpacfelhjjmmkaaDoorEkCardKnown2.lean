import Derived.Test.YtpacfelhjjmmkaaDoorEvZ
import Derived.Test.YtpacfelhjjmmkaaDoorProg
open Go Go.Ev
namespace Go.Proofs.YtpacfelhjjmmkaaDoor
set_option maxRecDepth 1000000
theorem CardKnown_2 : saysB true (evCall (plugX 92 98 6 8 [(0, 19, 2)]) (compF Tryd.prog) 3 10000 4 (.cons (.opq 0) .nil) ⟨.leaf, 3, 0⟩) = true := by decide +kernel
theorem CardKnown_5 : saysB true (evCall (plugX 92 98 6 8 [(0, 19, 5)]) (compF Tryd.prog) 3 10000 4 (.cons (.opq 0) .nil) ⟨.leaf, 3, 0⟩) = true := by decide +kernel
theorem CardKnown_8 : saysB true (evCall (plugX 92 98 6 8 [(0, 19, 8)]) (compF Tryd.prog) 3 10000 4 (.cons (.opq 0) .nil) ⟨.leaf, 3, 0⟩) = true := by decide +kernel
theorem CardKnown_11 : saysB true (evCall (plugX 92 98 6 8 [(0, 19, 11)]) (compF Tryd.prog) 3 10000 4 (.cons (.opq 0) .nil) ⟨.leaf, 3, 0⟩) = true := by decide +kernel
theorem CardKnown_14 : saysB true (evCall (plugX 92 98 6 8 [(0, 19, 14)]) (compF Tryd.prog) 3 10000 4 (.cons (.opq 0) .nil) ⟨.leaf, 3, 0⟩) = true := by decide +kernel
theorem CardKnown_17 : saysB true (evCall (plugX 92 98 6 8 [(0, 19, 17)]) (compF Tryd.prog) 3 10000 4 (.cons (.opq 0) .nil) ⟨.leaf, 3, 0⟩) = true := by decide +kernel
end Go.Proofs.YtpacfelhjjmmkaaDoor
