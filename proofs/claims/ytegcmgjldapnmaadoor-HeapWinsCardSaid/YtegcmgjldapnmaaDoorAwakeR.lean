/- The heap laws' own example, run: true. -/
import Derived.Test.YtegcmgjldapnmaaDoorProg
import Derived.KernelRfl
import Derived.Test.YtegcmgjldapnmaaDoorEngR
namespace Go.Proofs.YtegcmgjldapnmaaDoor
open Go Go.Eng
set_option maxRecDepth 100000
theorem awake_run : runInv Tryd.prog noOrc 100000 [] 1000 (.fn 14 []) ⟨.nil, Tryd.prog.globals.size⟩ trueV = Ans.yes := by kernel_rfl
end Go.Proofs.YtegcmgjldapnmaaDoor
