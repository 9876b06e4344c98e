/- The cube laws' own example, run: true. -/
import Derived.Test.YtnfboopfpkaeaaaProg
import Derived.KernelRfl
import Derived.Test.YtnfboopfpkaeaaaEngR
namespace Go.Proofs.Ytnfboopfpkaeaaa
open Go Go.Eng
set_option maxRecDepth 100000
theorem awake_run : runInv Try.prog noOrc 100000 [] 1000 (.fn 21 []) ⟨.nil, Try.prog.globals.size⟩ trueV = Ans.yes := by kernel_rfl
end Go.Proofs.Ytnfboopfpkaeaaa
