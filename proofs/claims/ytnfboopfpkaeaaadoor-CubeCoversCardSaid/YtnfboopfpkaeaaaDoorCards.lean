/-
  DERIVED. GIVEN WITH THE SEED: THE CARDS: each row of YtnfboopfpkaeaaaDoorRows.lean that lists a variable, with what it lists TIED to the program's text (the seventh form; the later family's looks); each row that meets fmt, with fmt's text TOLD by the authors' own Lean function (tested against real Go, not proved from fmt's source: count such statements apart). THE CARD IS WHAT COUNTS. Prove the row's statement (the work); the ties are given (YtnfboopfpkaeaaaDoorTie.lean); close each card by the builder's one call (the guide's Derived/Test/ToyasCard.lean, 'card_holds'). Laid BY PROGRAM, IN A SANDBOX (cutbox-door.mjs). By AI agents, Wed Nov 11 2026. No macro, syntax, notation, axiom, sorry.
-/
import Derived.Test.YtnfboopfpkaeaaaDoorRows
import GoSem.ClaimSeven
namespace Go.Proofs.YtnfboopfpkaeaaaDoor
namespace Rows

/-- THE TIED CARD OF 'staddalaw07.CubePrimes'. -/
def cubePrimesCard : Claim7 := { stood := { row := cubePrimesRow, standIns := [], harness := (true, "b42953e08632e99bab6dd79976ed08b154328ace0c8acb352b03a8ec673afe08"), looks := false }, kinds := [], alts := [], laidByText := true, laidKinds := [.data, .data], laidTests := true, laidLooks := .later }
def CubePrimesCardSaid : Prop := Claim7.holds Tryd.pinned (.plain (OpenSpec.ofChange cubePrimesSpec)) cubePrimesCard

/-- THE TIED CARD OF 'staddalaw07.CubeCovers'. -/
def cubeCoversCard : Claim7 := { stood := { row := cubeCoversRow, standIns := [], harness := (true, "b42953e08632e99bab6dd79976ed08b154328ace0c8acb352b03a8ec673afe08"), looks := false }, kinds := [], alts := [], laidByText := true, laidKinds := [.data, .data], laidTests := true, laidLooks := .later }
def CubeCoversCardSaid : Prop := Claim7.holds Tryd.pinned (.plain (OpenSpec.ofChange cubeCoversSpec)) cubeCoversCard

/-- THE SECOND FORM's CARD OF 'staddalaw07.CubePrimes'. -/
def cubePrimesUptoCard : Claim7 := { stood := { row := cubePrimesUptoRow, standIns := [], harness := (true, "b42953e08632e99bab6dd79976ed08b154328ace0c8acb352b03a8ec673afe08"), looks := false }, kinds := [], alts := [], laidByText := true, laidKinds := [.data, .data], laidTests := true, laidLooks := .later }
def CubePrimesUptoCardSaid : Prop := Claim7.holds Tryd.pinned (.plain (OpenSpec.upto cubePrimesSpec)) cubePrimesUptoCard

/-- THE SECOND FORM's CARD OF 'staddalaw07.CubeCovers'. -/
def cubeCoversUptoCard : Claim7 := { stood := { row := cubeCoversUptoRow, standIns := [], harness := (true, "b42953e08632e99bab6dd79976ed08b154328ace0c8acb352b03a8ec673afe08"), looks := false }, kinds := [], alts := [], laidByText := true, laidKinds := [.data, .data], laidTests := true, laidLooks := .later }
def CubeCoversUptoCardSaid : Prop := Claim7.holds Tryd.pinned (.plain (OpenSpec.upto cubeCoversSpec)) cubeCoversUptoCard
end Rows
end Go.Proofs.YtnfboopfpkaeaaaDoor
