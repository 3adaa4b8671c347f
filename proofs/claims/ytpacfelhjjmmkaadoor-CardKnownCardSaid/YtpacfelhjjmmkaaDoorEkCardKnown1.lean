import Derived.Test.YtpacfelhjjmmkaaDoorEvZ
import Derived.Test.YtpacfelhjjmmkaaDoorProg
open Go Go.Ev
namespace Go.Proofs.YtpacfelhjjmmkaaDoor
set_option maxRecDepth 1000000
theorem CardKnown_1 : saysB true (evCall (plugX 92 98 6 8 [(0, 19, 1)]) (compF Tryd.prog) 3 10000 4 (.cons (.opq 0) .nil) ⟨.leaf, 3, 0⟩) = true := by decide +kernel
theorem CardKnown_4 : saysB true (evCall (plugX 92 98 6 8 [(0, 19, 4)]) (compF Tryd.prog) 3 10000 4 (.cons (.opq 0) .nil) ⟨.leaf, 3, 0⟩) = true := by decide +kernel
theorem CardKnown_7 : saysB true (evCall (plugX 92 98 6 8 [(0, 19, 7)]) (compF Tryd.prog) 3 10000 4 (.cons (.opq 0) .nil) ⟨.leaf, 3, 0⟩) = true := by decide +kernel
theorem CardKnown_10 : saysB true (evCall (plugX 92 98 6 8 [(0, 19, 10)]) (compF Tryd.prog) 3 10000 4 (.cons (.opq 0) .nil) ⟨.leaf, 3, 0⟩) = true := by decide +kernel
theorem CardKnown_13 : saysB true (evCall (plugX 92 98 6 8 [(0, 19, 13)]) (compF Tryd.prog) 3 10000 4 (.cons (.opq 0) .nil) ⟨.leaf, 3, 0⟩) = true := by decide +kernel
theorem CardKnown_16 : saysB true (evCall (plugX 92 98 6 8 [(0, 19, 16)]) (compF Tryd.prog) 3 10000 4 (.cons (.opq 0) .nil) ⟨.leaf, 3, 0⟩) = true := by decide +kernel
end Go.Proofs.YtpacfelhjjmmkaaDoor
