/-
  DERIVED. GIVEN WITH THE SEED: THE CARDS: each row of YtegcmgjldapnmaaGreatDoorRows.lean that lists a variable, with what it lists TIED to the program's text (the seventh form; the later family's looks); each row that meets fmt, with fmt's text TOLD by the authors' own Lean function (tested against real Go, not proved from fmt's source: count such statements apart). THE CARD IS WHAT COUNTS. Prove the row's statement (the work); the ties are given (YtegcmgjldapnmaaGreatDoorTie.lean); close each card by the builder's one call (the guide's Derived/Test/ToyasCard.lean, 'card_holds'). Laid BY PROGRAM, IN A SANDBOX (cutbox-door.mjs). By AI agents, Wed Nov 11 2026. No macro, syntax, notation, axiom, sorry.
-/
import Derived.Test.YtegcmgjldapnmaaGreatDoorRows
import GoSem.ClaimSeven
namespace Go.Proofs.YtegcmgjldapnmaaGreatDoor
namespace Rows

/-- THE TIED CARD OF 'staddalaw06.HeapMoves'. -/
def heapMovesCard : Claim7 := { stood := { row := heapMovesRow, standIns := [], harness := (true, "48bd360ebf7591ab6e58e5b3985a95c5f114a8d627fef2e0899d864b1e3bbe9d"), looks := false }, kinds := [], alts := [], laidByText := true, laidKinds := [.data, .pinned], laidTests := true, laidLooks := .later }
def HeapMovesCardSaid : Prop := Claim7.holds Tryz.pinned (.plain (OpenSpec.ofChange heapMovesSpec)) heapMovesCard

/-- THE TIED CARD OF 'staddalaw06.HeapValues'. -/
def heapValuesCard : Claim7 := { stood := { row := heapValuesRow, standIns := [], harness := (true, "48bd360ebf7591ab6e58e5b3985a95c5f114a8d627fef2e0899d864b1e3bbe9d"), looks := false }, kinds := [], alts := [], laidByText := true, laidKinds := [.data, .pinned], laidTests := true, laidLooks := .later }
def HeapValuesCardSaid : Prop := Claim7.holds Tryz.pinned (.plain (OpenSpec.ofChange heapValuesSpec)) heapValuesCard

/-- THE SECOND FORM's CARD OF 'staddalaw06.HeapMoves'. -/
def heapMovesUptoCard : Claim7 := { stood := { row := heapMovesUptoRow, standIns := [], harness := (true, "48bd360ebf7591ab6e58e5b3985a95c5f114a8d627fef2e0899d864b1e3bbe9d"), looks := false }, kinds := [], alts := [], laidByText := true, laidKinds := [.data, .pinned], laidTests := true, laidLooks := .later }
def HeapMovesUptoCardSaid : Prop := Claim7.holds Tryz.pinned (.plain (OpenSpec.upto heapMovesSpec)) heapMovesUptoCard

/-- THE SECOND FORM's CARD OF 'staddalaw06.HeapValues'. -/
def heapValuesUptoCard : Claim7 := { stood := { row := heapValuesUptoRow, standIns := [], harness := (true, "48bd360ebf7591ab6e58e5b3985a95c5f114a8d627fef2e0899d864b1e3bbe9d"), looks := false }, kinds := [], alts := [], laidByText := true, laidKinds := [.data, .pinned], laidTests := true, laidLooks := .later }
def HeapValuesUptoCardSaid : Prop := Claim7.holds Tryz.pinned (.plain (OpenSpec.upto heapValuesSpec)) heapValuesUptoCard
end Rows
end Go.Proofs.YtegcmgjldapnmaaGreatDoor
