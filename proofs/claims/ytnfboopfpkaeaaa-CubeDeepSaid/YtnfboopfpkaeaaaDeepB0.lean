/- CubeDeep's run at the residues 0 and 0. -/
import Derived.Test.YtnfboopfpkaeaaaDeepA
namespace Go.Proofs.Ytnfboopfpkaeaaa.cubeDeep
open Go Go.Eng
set_option maxRecDepth 100000
theorem f00 (n u v q : Int) : A5 n u 0 v q 0 = .yes := by kernel_rfl
end Go.Proofs.Ytnfboopfpkaeaaa.cubeDeep
