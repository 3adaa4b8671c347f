import Derived.Test.YtpacfelhjjmmkaaDoorEvZ
import Derived.Test.YtpacfelhjjmmkaaDoorProg
open Go Go.Ev
namespace Go.Proofs.YtpacfelhjjmmkaaDoor
set_option maxRecDepth 1000000
theorem CardKnown_0 : saysB true (evCall (plugX 92 98 6 8 [(0, 19, 0)]) (compF Tryd.prog) 3 10000 4 (.cons (.opq 0) .nil) ⟨.leaf, 3, 0⟩) = true := by decide +kernel
theorem CardKnown_3 : saysB true (evCall (plugX 92 98 6 8 [(0, 19, 3)]) (compF Tryd.prog) 3 10000 4 (.cons (.opq 0) .nil) ⟨.leaf, 3, 0⟩) = true := by decide +kernel
theorem CardKnown_6 : saysB true (evCall (plugX 92 98 6 8 [(0, 19, 6)]) (compF Tryd.prog) 3 10000 4 (.cons (.opq 0) .nil) ⟨.leaf, 3, 0⟩) = true := by decide +kernel
theorem CardKnown_9 : saysB true (evCall (plugX 92 98 6 8 [(0, 19, 9)]) (compF Tryd.prog) 3 10000 4 (.cons (.opq 0) .nil) ⟨.leaf, 3, 0⟩) = true := by decide +kernel
theorem CardKnown_12 : saysB true (evCall (plugX 92 98 6 8 [(0, 19, 12)]) (compF Tryd.prog) 3 10000 4 (.cons (.opq 0) .nil) ⟨.leaf, 3, 0⟩) = true := by decide +kernel
theorem CardKnown_15 : saysB true (evCall (plugX 92 98 6 8 [(0, 19, 15)]) (compF Tryd.prog) 3 10000 4 (.cons (.opq 0) .nil) ⟨.leaf, 3, 0⟩) = true := by decide +kernel
theorem CardKnown_18 : saysB true (evCall (plugX 92 98 6 8 [(0, 19, 18)]) (compF Tryd.prog) 3 10000 4 (.cons (.opq 0) .nil) ⟨.leaf, 3, 0⟩) = true := by decide +kernel
end Go.Proofs.YtpacfelhjjmmkaaDoor
