/-
  DERIVED. GIVEN WITH THE SEED: THE CARDS: each row of YtnfboopfpkaeaaaGreatDoorRows.lean that lists a variable, with what it lists TIED to the program's text (the seventh form; the later family's looks); each row that meets fmt, with fmt's text TOLD by the authors' own Lean function (tested against real Go, not proved from fmt's source: count such statements apart). THE CARD IS WHAT COUNTS. Prove the row's statement (the work); the ties are given (YtnfboopfpkaeaaaGreatDoorTie.lean); close each card by the builder's one call (the guide's Derived/Test/ToyasCard.lean, 'card_holds'). Laid BY PROGRAM, IN A SANDBOX (cutbox-door.mjs). By AI agents, Wed Nov 11 2026. No macro, syntax, notation, axiom, sorry.
-/
import Derived.Test.YtnfboopfpkaeaaaGreatDoorRows
import GoSem.ClaimSeven
namespace Go.Proofs.YtnfboopfpkaeaaaGreatDoor
namespace Rows

/-- THE TIED CARD OF 'staddalaw07.CubeChecks'. -/
def cubeChecksCard : Claim7 := { stood := { row := cubeChecksRow, standIns := [], harness := (true, "e88ae0033558732f953c078b880e002003ce92f995a5681f79385378abbfacac"), looks := false }, kinds := [], alts := [], laidByText := true, laidKinds := [.data, .data], laidTests := true, laidLooks := .later }
def CubeChecksCardSaid : Prop := Claim7.holds Tryz.pinned (.plain (OpenSpec.ofChange cubeChecksSpec)) cubeChecksCard

/-- THE SECOND FORM's CARD OF 'staddalaw07.CubeChecks'. -/
def cubeChecksUptoCard : Claim7 := { stood := { row := cubeChecksUptoRow, standIns := [], harness := (true, "e88ae0033558732f953c078b880e002003ce92f995a5681f79385378abbfacac"), looks := false }, kinds := [], alts := [], laidByText := true, laidKinds := [.data, .data], laidTests := true, laidLooks := .later }
def CubeChecksUptoCardSaid : Prop := Claim7.holds Tryz.pinned (.plain (OpenSpec.upto cubeChecksSpec)) cubeChecksUptoCard
end Rows
end Go.Proofs.YtnfboopfpkaeaaaGreatDoor
