/- CubeDeep's run at the residues 1 and 1. -/
import Derived.Test.YtnfboopfpkaeaaaDeepA
namespace Go.Proofs.Ytnfboopfpkaeaaa.cubeDeep
open Go Go.Eng
set_option maxRecDepth 100000
theorem f11 (n u v q : Int) : A5 n u 1 v q 1 = .yes := by kernel_rfl
end Go.Proofs.Ytnfboopfpkaeaaa.cubeDeep
