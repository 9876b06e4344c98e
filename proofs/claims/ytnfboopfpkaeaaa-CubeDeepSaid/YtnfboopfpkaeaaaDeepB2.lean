/- CubeDeep's run at the residues 1 and 0. -/
import Derived.Test.YtnfboopfpkaeaaaDeepA
namespace Go.Proofs.Ytnfboopfpkaeaaa.cubeDeep
open Go Go.Eng
set_option maxRecDepth 100000
theorem f10 (n u v q : Int) : A5 n u 1 v q 0 = .yes := by kernel_rfl
end Go.Proofs.Ytnfboopfpkaeaaa.cubeDeep
