/- The cube laws' own example, run: true. -/
import Derived.Test.YtnfboopfpkaeaaaDoorProg
import Derived.KernelRfl
import Derived.Test.YtnfboopfpkaeaaaDoorEngR
namespace Go.Proofs.YtnfboopfpkaeaaaDoor
open Go Go.Eng
set_option maxRecDepth 100000
theorem awake_run : runInv Tryd.prog noOrc 100000 [] 1000 (.fn 12 []) ⟨.nil, Tryd.prog.globals.size⟩ trueV = Ans.yes := by kernel_rfl
end Go.Proofs.YtnfboopfpkaeaaaDoor
