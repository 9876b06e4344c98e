/- The heap laws' own example, run: true. -/
import Derived.Test.YtegcmgjldapnmaaGreatDoorProg
import Derived.KernelRfl
import Derived.Test.YtegcmgjldapnmaaGreatDoorEngR
namespace Go.Proofs.YtegcmgjldapnmaaGreatDoor
open Go Go.Eng
set_option maxRecDepth 100000
theorem awake_run : runInv Tryz.prog noOrc 100000 [] 1000 (.fn 9 []) ⟨.nil, Tryz.prog.globals.size⟩ trueV = Ans.yes := by kernel_rfl
end Go.Proofs.YtegcmgjldapnmaaGreatDoor
