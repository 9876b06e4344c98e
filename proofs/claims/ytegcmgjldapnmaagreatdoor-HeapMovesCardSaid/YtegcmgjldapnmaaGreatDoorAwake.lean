/- What the heap laws' own example comes to: true, whatever the world. -/
import Derived.Test.YtegcmgjldapnmaaGreatDoorAwakeR
namespace Go.Proofs.YtegcmgjldapnmaaGreatDoor
open Go Go.Eng Go.RowKit
set_option maxRecDepth 100000
theorem awake_calls (w : World) : Calls Tryz.prog 9 #[] w fun e w' => e = .returned (.bool true) ∧ Below w.heap.size w w' :=
  calls_yes (noOrc_ok _) (lf := 100000) (n := 1000) (sy := []) rfl (yes_of awake_run) rfl w
noncomputable def orc : Orc := trueOrc 9
theorem orc_ok : OrcOK Tryz.prog orc := trueOrc_ok (by kernel_rfl) awake_calls
end Go.Proofs.YtegcmgjldapnmaaGreatDoor
