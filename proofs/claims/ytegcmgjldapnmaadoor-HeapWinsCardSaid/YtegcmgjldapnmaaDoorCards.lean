/-
  DERIVED. GIVEN WITH THE SEED: THE CARDS: each row of YtegcmgjldapnmaaDoorRows.lean that lists a variable, with what it lists TIED to the program's text (the seventh form; the later family's looks); each row that meets fmt, with fmt's text TOLD by the authors' own Lean function (tested against real Go, not proved from fmt's source: count such statements apart). THE CARD IS WHAT COUNTS. Prove the row's statement (the work); the ties are given (YtegcmgjldapnmaaDoorTie.lean); close each card by the builder's one call (the guide's Derived/Test/ToyasCard.lean, 'card_holds'). Laid BY PROGRAM, IN A SANDBOX (cutbox-door.mjs). By AI agents, Wed Nov 11 2026. No macro, syntax, notation, axiom, sorry.
-/
import Derived.Test.YtegcmgjldapnmaaDoorRows
import GoSem.ClaimSeven
namespace Go.Proofs.YtegcmgjldapnmaaDoor
namespace Rows

/-- THE TIED CARD OF 'staddalaw06.HeapLeast'. -/
def heapLeastCard : Claim7 := { stood := { row := heapLeastRow, standIns := [], harness := (true, "995203972bb0ab44ffc750601f34385a0366791de30a651566a691a903aca3d4"), looks := false }, kinds := [], alts := [], laidByText := true, laidKinds := [.data, .pinned], laidTests := true, laidLooks := .later }
def HeapLeastCardSaid : Prop := Claim7.holds Tryd.pinned (.plain (OpenSpec.ofChange heapLeastSpec)) heapLeastCard

/-- THE TIED CARD OF 'staddalaw06.HeapProducts'. -/
def heapProductsCard : Claim7 := { stood := { row := heapProductsRow, standIns := [], harness := (true, "995203972bb0ab44ffc750601f34385a0366791de30a651566a691a903aca3d4"), looks := false }, kinds := [], alts := [], laidByText := true, laidKinds := [.data, .pinned], laidTests := true, laidLooks := .later }
def HeapProductsCardSaid : Prop := Claim7.holds Tryd.pinned (.plain (OpenSpec.ofChange heapProductsSpec)) heapProductsCard

/-- THE TIED CARD OF 'staddalaw06.HeapField'. -/
def heapFieldCard : Claim7 := { stood := { row := heapFieldRow, standIns := [], harness := (true, "995203972bb0ab44ffc750601f34385a0366791de30a651566a691a903aca3d4"), looks := false }, kinds := [], alts := [], laidByText := true, laidKinds := [.data, .pinned], laidTests := true, laidLooks := .later }
def HeapFieldCardSaid : Prop := Claim7.holds Tryd.pinned (.plain (OpenSpec.ofChange heapFieldSpec)) heapFieldCard

/-- THE TIED CARD OF 'staddalaw06.HeapGraphs'. -/
def heapGraphsCard : Claim7 := { stood := { row := heapGraphsRow, standIns := [], harness := (true, "995203972bb0ab44ffc750601f34385a0366791de30a651566a691a903aca3d4"), looks := false }, kinds := [], alts := [], laidByText := true, laidKinds := [.data, .pinned], laidTests := true, laidLooks := .later }
def HeapGraphsCardSaid : Prop := Claim7.holds Tryd.pinned (.plain (OpenSpec.ofChange heapGraphsSpec)) heapGraphsCard

/-- THE TIED CARD OF 'staddalaw06.HeapPlays'. -/
def heapPlaysCard : Claim7 := { stood := { row := heapPlaysRow, standIns := [], harness := (true, "995203972bb0ab44ffc750601f34385a0366791de30a651566a691a903aca3d4"), looks := false }, kinds := [], alts := [], laidByText := true, laidKinds := [.data, .pinned], laidTests := true, laidLooks := .later }
def HeapPlaysCardSaid : Prop := Claim7.holds Tryd.pinned (.plain (OpenSpec.ofChange heapPlaysSpec)) heapPlaysCard

/-- THE TIED CARD OF 'staddalaw06.HeapPeriods'. -/
def heapPeriodsCard : Claim7 := { stood := { row := heapPeriodsRow, standIns := [], harness := (true, "995203972bb0ab44ffc750601f34385a0366791de30a651566a691a903aca3d4"), looks := false }, kinds := [], alts := [], laidByText := true, laidKinds := [.data, .pinned], laidTests := true, laidLooks := .later }
def HeapPeriodsCardSaid : Prop := Claim7.holds Tryd.pinned (.plain (OpenSpec.ofChange heapPeriodsSpec)) heapPeriodsCard

/-- THE TIED CARD OF 'staddalaw06.HeapGoesOn'. -/
def heapGoesOnCard : Claim7 := { stood := { row := heapGoesOnRow, standIns := [], harness := (true, "995203972bb0ab44ffc750601f34385a0366791de30a651566a691a903aca3d4"), looks := false }, kinds := [], alts := [], laidByText := true, laidKinds := [.data, .pinned], laidTests := true, laidLooks := .later }
def HeapGoesOnCardSaid : Prop := Claim7.holds Tryd.pinned (.plain (OpenSpec.ofChange heapGoesOnSpec)) heapGoesOnCard

/-- THE TIED CARD OF 'staddalaw06.HeapWins'. -/
def heapWinsCard : Claim7 := { stood := { row := heapWinsRow, standIns := [], harness := (true, "995203972bb0ab44ffc750601f34385a0366791de30a651566a691a903aca3d4"), looks := false }, kinds := [], alts := [], laidByText := true, laidKinds := [.data, .pinned], laidTests := true, laidLooks := .later }
def HeapWinsCardSaid : Prop := Claim7.holds Tryd.pinned (.plain (OpenSpec.ofChange heapWinsSpec)) heapWinsCard

/-- THE SECOND FORM's CARD OF 'staddalaw06.HeapLeast'. -/
def heapLeastUptoCard : Claim7 := { stood := { row := heapLeastUptoRow, standIns := [], harness := (true, "995203972bb0ab44ffc750601f34385a0366791de30a651566a691a903aca3d4"), looks := false }, kinds := [], alts := [], laidByText := true, laidKinds := [.data, .pinned], laidTests := true, laidLooks := .later }
def HeapLeastUptoCardSaid : Prop := Claim7.holds Tryd.pinned (.plain (OpenSpec.upto heapLeastSpec)) heapLeastUptoCard

/-- THE SECOND FORM's CARD OF 'staddalaw06.HeapProducts'. -/
def heapProductsUptoCard : Claim7 := { stood := { row := heapProductsUptoRow, standIns := [], harness := (true, "995203972bb0ab44ffc750601f34385a0366791de30a651566a691a903aca3d4"), looks := false }, kinds := [], alts := [], laidByText := true, laidKinds := [.data, .pinned], laidTests := true, laidLooks := .later }
def HeapProductsUptoCardSaid : Prop := Claim7.holds Tryd.pinned (.plain (OpenSpec.upto heapProductsSpec)) heapProductsUptoCard

/-- THE SECOND FORM's CARD OF 'staddalaw06.HeapField'. -/
def heapFieldUptoCard : Claim7 := { stood := { row := heapFieldUptoRow, standIns := [], harness := (true, "995203972bb0ab44ffc750601f34385a0366791de30a651566a691a903aca3d4"), looks := false }, kinds := [], alts := [], laidByText := true, laidKinds := [.data, .pinned], laidTests := true, laidLooks := .later }
def HeapFieldUptoCardSaid : Prop := Claim7.holds Tryd.pinned (.plain (OpenSpec.upto heapFieldSpec)) heapFieldUptoCard

/-- THE SECOND FORM's CARD OF 'staddalaw06.HeapGraphs'. -/
def heapGraphsUptoCard : Claim7 := { stood := { row := heapGraphsUptoRow, standIns := [], harness := (true, "995203972bb0ab44ffc750601f34385a0366791de30a651566a691a903aca3d4"), looks := false }, kinds := [], alts := [], laidByText := true, laidKinds := [.data, .pinned], laidTests := true, laidLooks := .later }
def HeapGraphsUptoCardSaid : Prop := Claim7.holds Tryd.pinned (.plain (OpenSpec.upto heapGraphsSpec)) heapGraphsUptoCard

/-- THE SECOND FORM's CARD OF 'staddalaw06.HeapPlays'. -/
def heapPlaysUptoCard : Claim7 := { stood := { row := heapPlaysUptoRow, standIns := [], harness := (true, "995203972bb0ab44ffc750601f34385a0366791de30a651566a691a903aca3d4"), looks := false }, kinds := [], alts := [], laidByText := true, laidKinds := [.data, .pinned], laidTests := true, laidLooks := .later }
def HeapPlaysUptoCardSaid : Prop := Claim7.holds Tryd.pinned (.plain (OpenSpec.upto heapPlaysSpec)) heapPlaysUptoCard

/-- THE SECOND FORM's CARD OF 'staddalaw06.HeapPeriods'. -/
def heapPeriodsUptoCard : Claim7 := { stood := { row := heapPeriodsUptoRow, standIns := [], harness := (true, "995203972bb0ab44ffc750601f34385a0366791de30a651566a691a903aca3d4"), looks := false }, kinds := [], alts := [], laidByText := true, laidKinds := [.data, .pinned], laidTests := true, laidLooks := .later }
def HeapPeriodsUptoCardSaid : Prop := Claim7.holds Tryd.pinned (.plain (OpenSpec.upto heapPeriodsSpec)) heapPeriodsUptoCard

/-- THE SECOND FORM's CARD OF 'staddalaw06.HeapGoesOn'. -/
def heapGoesOnUptoCard : Claim7 := { stood := { row := heapGoesOnUptoRow, standIns := [], harness := (true, "995203972bb0ab44ffc750601f34385a0366791de30a651566a691a903aca3d4"), looks := false }, kinds := [], alts := [], laidByText := true, laidKinds := [.data, .pinned], laidTests := true, laidLooks := .later }
def HeapGoesOnUptoCardSaid : Prop := Claim7.holds Tryd.pinned (.plain (OpenSpec.upto heapGoesOnSpec)) heapGoesOnUptoCard

/-- THE SECOND FORM's CARD OF 'staddalaw06.HeapWins'. -/
def heapWinsUptoCard : Claim7 := { stood := { row := heapWinsUptoRow, standIns := [], harness := (true, "995203972bb0ab44ffc750601f34385a0366791de30a651566a691a903aca3d4"), looks := false }, kinds := [], alts := [], laidByText := true, laidKinds := [.data, .pinned], laidTests := true, laidLooks := .later }
def HeapWinsUptoCardSaid : Prop := Claim7.holds Tryd.pinned (.plain (OpenSpec.upto heapWinsSpec)) heapWinsUptoCard
end Rows
end Go.Proofs.YtegcmgjldapnmaaDoor
