/- The cube laws' own example, run: true. -/
import Derived.Test.YtnfboopfpkaeaaaGreatDoorProg
import Derived.KernelRfl
import Derived.Test.YtnfboopfpkaeaaaGreatDoorEngR
namespace Go.Proofs.YtnfboopfpkaeaaaGreatDoor
open Go Go.Eng
set_option maxRecDepth 100000
theorem awake_run : runInv Tryz.prog noOrc 100000 [] 1000 (.fn 26 []) ⟨.nil, Tryz.prog.globals.size⟩ trueV = Ans.yes := by kernel_rfl
end Go.Proofs.YtnfboopfpkaeaaaGreatDoor
