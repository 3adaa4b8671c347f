import Derived.Test.YtpacfelhjjmmkaaDoorEvZ
import Derived.Test.YtpacfelhjjmmkaaDoorProg
open Go Go.Ev
namespace Go.Proofs.YtpacfelhjjmmkaaDoor
set_option maxRecDepth 1000000
theorem CardNames_1_0_0 : saysB true (evCall (plugX 92 98 6 8 [(1, 5, 1), (1, 3, 0), (0, 9, 0)]) (compF Tryd.prog) 3 10000 5 (.cons (.opq 0) (.cons (.opq 1) .nil)) ⟨.leaf, 3, 0⟩) = true := by decide +kernel
theorem CardNames_1_0_1 : saysB true (evCall (plugX 92 98 6 8 [(1, 5, 1), (1, 3, 0), (0, 9, 1)]) (compF Tryd.prog) 3 10000 5 (.cons (.opq 0) (.cons (.opq 1) .nil)) ⟨.leaf, 3, 0⟩) = true := by decide +kernel
theorem CardNames_1_0_2 : saysB true (evCall (plugX 92 98 6 8 [(1, 5, 1), (1, 3, 0), (0, 9, 2)]) (compF Tryd.prog) 3 10000 5 (.cons (.opq 0) (.cons (.opq 1) .nil)) ⟨.leaf, 3, 0⟩) = true := by decide +kernel
theorem CardNames_1_0_3 : saysB true (evCall (plugX 92 98 6 8 [(1, 5, 1), (1, 3, 0), (0, 9, 3)]) (compF Tryd.prog) 3 10000 5 (.cons (.opq 0) (.cons (.opq 1) .nil)) ⟨.leaf, 3, 0⟩) = true := by decide +kernel
theorem CardNames_1_0_4 : saysB true (evCall (plugX 92 98 6 8 [(1, 5, 1), (1, 3, 0), (0, 9, 4)]) (compF Tryd.prog) 3 10000 5 (.cons (.opq 0) (.cons (.opq 1) .nil)) ⟨.leaf, 3, 0⟩) = true := by decide +kernel
theorem CardNames_1_0_5 : saysB true (evCall (plugX 92 98 6 8 [(1, 5, 1), (1, 3, 0), (0, 9, 5)]) (compF Tryd.prog) 3 10000 5 (.cons (.opq 0) (.cons (.opq 1) .nil)) ⟨.leaf, 3, 0⟩) = true := by decide +kernel
theorem CardNames_1_0_6 : saysB true (evCall (plugX 92 98 6 8 [(1, 5, 1), (1, 3, 0), (0, 9, 6)]) (compF Tryd.prog) 3 10000 5 (.cons (.opq 0) (.cons (.opq 1) .nil)) ⟨.leaf, 3, 0⟩) = true := by decide +kernel
theorem CardNames_1_0_7 : saysB true (evCall (plugX 92 98 6 8 [(1, 5, 1), (1, 3, 0), (0, 9, 7)]) (compF Tryd.prog) 3 10000 5 (.cons (.opq 0) (.cons (.opq 1) .nil)) ⟨.leaf, 3, 0⟩) = true := by decide +kernel
theorem CardNames_1_0_8 : saysB true (evCall (plugX 92 98 6 8 [(1, 5, 1), (1, 3, 0), (0, 9, 8)]) (compF Tryd.prog) 3 10000 5 (.cons (.opq 0) (.cons (.opq 1) .nil)) ⟨.leaf, 3, 0⟩) = true := by decide +kernel
end Go.Proofs.YtpacfelhjjmmkaaDoor
