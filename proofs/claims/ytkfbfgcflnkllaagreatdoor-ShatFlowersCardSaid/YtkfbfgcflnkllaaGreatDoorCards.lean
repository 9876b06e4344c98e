/-
  DERIVED. GIVEN WITH THE SEED: THE CARDS: each row of YtkfbfgcflnkllaaGreatDoorRows.lean that lists a variable, with what it lists TIED to the program's text (the seventh form; the later family's looks); each row that meets fmt, with fmt's text TOLD by the authors' own Lean function (tested against real Go, not proved from fmt's source: count such statements apart). THE CARD IS WHAT COUNTS. Prove the row's statement (the work); the ties are given (YtkfbfgcflnkllaaGreatDoorTie.lean); close each card by the builder's one call (the guide's Derived/Test/ToyasCard.lean, 'card_holds'). Laid BY PROGRAM, IN A SANDBOX (cutbox-door.mjs). By AI agents, Wed Nov 11 2026. No macro, syntax, notation, axiom, sorry.
-/
import Derived.Test.YtkfbfgcflnkllaaGreatDoorRows
import GoSem.ClaimSeven
namespace Go.Proofs.YtkfbfgcflnkllaaGreatDoor
namespace Rows

/-- THE TIED CARD OF 'staddalaw08.ShatChains'. -/
def shatChainsCard : Claim7 := { stood := { row := shatChainsRow, standIns := [], harness := (true, "d328a2fa4f5dff29183116967c1406a68579ab20b23df562ec5de04eee5f71e4"), looks := true }, kinds := [], alts := [], laidByText := true, laidKinds := [.data, .data, .data], laidTests := true, laidLooks := .later }
def ShatChainsCardSaid : Prop := Claim7.holds Tryz.pinned (.plain (OpenSpec.ofChange shatChainsSpec)) shatChainsCard

/-- THE TIED CARD OF 'staddalaw08.ShatKleitman'. -/
def shatKleitmanCard : Claim7 := { stood := { row := shatKleitmanRow, standIns := [], harness := (true, "d328a2fa4f5dff29183116967c1406a68579ab20b23df562ec5de04eee5f71e4"), looks := true }, kinds := [], alts := [], laidByText := true, laidKinds := [.data, .data, .data], laidTests := true, laidLooks := .later }
def ShatKleitmanCardSaid : Prop := Claim7.holds Tryz.pinned (.plain (OpenSpec.ofChange shatKleitmanSpec)) shatKleitmanCard

/-- THE TIED CARD OF 'staddalaw08.ShatPairs'. -/
def shatPairsCard : Claim7 := { stood := { row := shatPairsRow, standIns := [], harness := (true, "d328a2fa4f5dff29183116967c1406a68579ab20b23df562ec5de04eee5f71e4"), looks := true }, kinds := [], alts := [], laidByText := true, laidKinds := [.data, .data, .data], laidTests := true, laidLooks := .later }
def ShatPairsCardSaid : Prop := Claim7.holds Tryz.pinned (.plain (OpenSpec.ofChange shatPairsSpec)) shatPairsCard

/-- THE TIED CARD OF 'staddalaw08.ShatTraces'. -/
def shatTracesCard : Claim7 := { stood := { row := shatTracesRow, standIns := [], harness := (true, "d328a2fa4f5dff29183116967c1406a68579ab20b23df562ec5de04eee5f71e4"), looks := true }, kinds := [], alts := [], laidByText := true, laidKinds := [.data, .data, .data], laidTests := true, laidLooks := .later }
def ShatTracesCardSaid : Prop := Claim7.holds Tryz.pinned (.plain (OpenSpec.ofChange shatTracesSpec)) shatTracesCard

/-- THE TIED CARD OF 'staddalaw08.ShatPresses'. -/
def shatPressesCard : Claim7 := { stood := { row := shatPressesRow, standIns := [], harness := (true, "d328a2fa4f5dff29183116967c1406a68579ab20b23df562ec5de04eee5f71e4"), looks := true }, kinds := [], alts := [], laidByText := true, laidKinds := [.data, .data, .data], laidTests := true, laidLooks := .later }
def ShatPressesCardSaid : Prop := Claim7.holds Tryz.pinned (.plain (OpenSpec.ofChange shatPressesSpec)) shatPressesCard

/-- THE TIED CARD OF 'staddalaw08.ShatFlowers'. -/
def shatFlowersCard : Claim7 := { stood := { row := shatFlowersRow, standIns := [], harness := (true, "d328a2fa4f5dff29183116967c1406a68579ab20b23df562ec5de04eee5f71e4"), looks := true }, kinds := [], alts := [], laidByText := true, laidKinds := [.data, .data, .data], laidTests := true, laidLooks := .later }
def ShatFlowersCardSaid : Prop := Claim7.holds Tryz.pinned (.plain (OpenSpec.ofChange shatFlowersSpec)) shatFlowersCard

/-- THE TIED CARD OF 'staddalaw08.ShatSauer'. -/
def shatSauerCard : Claim7 := { stood := { row := shatSauerRow, standIns := [], harness := (true, "d328a2fa4f5dff29183116967c1406a68579ab20b23df562ec5de04eee5f71e4"), looks := true }, kinds := [], alts := [], laidByText := true, laidKinds := [.data, .data, .data], laidTests := true, laidLooks := .later }
def ShatSauerCardSaid : Prop := Claim7.holds Tryz.pinned (.plain (OpenSpec.ofChange shatSauerSpec)) shatSauerCard

/-- THE TIED CARD OF 'staddalaw08.ShatBollobas'. -/
def shatBollobasCard : Claim7 := { stood := { row := shatBollobasRow, standIns := [], harness := (true, "d328a2fa4f5dff29183116967c1406a68579ab20b23df562ec5de04eee5f71e4"), looks := true }, kinds := [], alts := [], laidByText := true, laidKinds := [.data, .data, .data], laidTests := true, laidLooks := .later }
def ShatBollobasCardSaid : Prop := Claim7.holds Tryz.pinned (.plain (OpenSpec.ofChange shatBollobasSpec)) shatBollobasCard

/-- THE TIED CARD OF 'staddalaw08.ShatErdos'. -/
def shatErdosCard : Claim7 := { stood := { row := shatErdosRow, standIns := [], harness := (true, "d328a2fa4f5dff29183116967c1406a68579ab20b23df562ec5de04eee5f71e4"), looks := true }, kinds := [], alts := [], laidByText := true, laidKinds := [.data, .data, .data], laidTests := true, laidLooks := .later }
def ShatErdosCardSaid : Prop := Claim7.holds Tryz.pinned (.plain (OpenSpec.ofChange shatErdosSpec)) shatErdosCard

/-- THE TIED CARD OF 'staddalaw08.ShatCrosses'. -/
def shatCrossesCard : Claim7 := { stood := { row := shatCrossesRow, standIns := [], harness := (true, "d328a2fa4f5dff29183116967c1406a68579ab20b23df562ec5de04eee5f71e4"), looks := true }, kinds := [], alts := [], laidByText := true, laidKinds := [.data, .data, .data], laidTests := true, laidLooks := .later }
def ShatCrossesCardSaid : Prop := Claim7.holds Tryz.pinned (.plain (OpenSpec.ofChange shatCrossesSpec)) shatCrossesCard

/-- THE TIED CARD OF 'staddalaw08.ShatChecks'. -/
def shatChecksCard : Claim7 := { stood := { row := shatChecksRow, standIns := [], harness := (true, "d328a2fa4f5dff29183116967c1406a68579ab20b23df562ec5de04eee5f71e4"), looks := true }, kinds := [], alts := [], laidByText := true, laidKinds := [.data, .data, .data], laidTests := true, laidLooks := .later }
def ShatChecksCardSaid : Prop := Claim7.holds Tryz.pinned (.plain (OpenSpec.ofChange shatChecksSpec)) shatChecksCard

/-- THE SECOND FORM's CARD OF 'staddalaw08.ShatChains'. -/
def shatChainsUptoCard : Claim7 := { stood := { row := shatChainsUptoRow, standIns := [], harness := (true, "d328a2fa4f5dff29183116967c1406a68579ab20b23df562ec5de04eee5f71e4"), looks := true }, kinds := [], alts := [], laidByText := true, laidKinds := [.data, .data, .data], laidTests := true, laidLooks := .later }
def ShatChainsUptoCardSaid : Prop := Claim7.holds Tryz.pinned (.plain (OpenSpec.upto shatChainsSpec)) shatChainsUptoCard

/-- THE SECOND FORM's CARD OF 'staddalaw08.ShatKleitman'. -/
def shatKleitmanUptoCard : Claim7 := { stood := { row := shatKleitmanUptoRow, standIns := [], harness := (true, "d328a2fa4f5dff29183116967c1406a68579ab20b23df562ec5de04eee5f71e4"), looks := true }, kinds := [], alts := [], laidByText := true, laidKinds := [.data, .data, .data], laidTests := true, laidLooks := .later }
def ShatKleitmanUptoCardSaid : Prop := Claim7.holds Tryz.pinned (.plain (OpenSpec.upto shatKleitmanSpec)) shatKleitmanUptoCard

/-- THE SECOND FORM's CARD OF 'staddalaw08.ShatPairs'. -/
def shatPairsUptoCard : Claim7 := { stood := { row := shatPairsUptoRow, standIns := [], harness := (true, "d328a2fa4f5dff29183116967c1406a68579ab20b23df562ec5de04eee5f71e4"), looks := true }, kinds := [], alts := [], laidByText := true, laidKinds := [.data, .data, .data], laidTests := true, laidLooks := .later }
def ShatPairsUptoCardSaid : Prop := Claim7.holds Tryz.pinned (.plain (OpenSpec.upto shatPairsSpec)) shatPairsUptoCard

/-- THE SECOND FORM's CARD OF 'staddalaw08.ShatTraces'. -/
def shatTracesUptoCard : Claim7 := { stood := { row := shatTracesUptoRow, standIns := [], harness := (true, "d328a2fa4f5dff29183116967c1406a68579ab20b23df562ec5de04eee5f71e4"), looks := true }, kinds := [], alts := [], laidByText := true, laidKinds := [.data, .data, .data], laidTests := true, laidLooks := .later }
def ShatTracesUptoCardSaid : Prop := Claim7.holds Tryz.pinned (.plain (OpenSpec.upto shatTracesSpec)) shatTracesUptoCard

/-- THE SECOND FORM's CARD OF 'staddalaw08.ShatPresses'. -/
def shatPressesUptoCard : Claim7 := { stood := { row := shatPressesUptoRow, standIns := [], harness := (true, "d328a2fa4f5dff29183116967c1406a68579ab20b23df562ec5de04eee5f71e4"), looks := true }, kinds := [], alts := [], laidByText := true, laidKinds := [.data, .data, .data], laidTests := true, laidLooks := .later }
def ShatPressesUptoCardSaid : Prop := Claim7.holds Tryz.pinned (.plain (OpenSpec.upto shatPressesSpec)) shatPressesUptoCard

/-- THE SECOND FORM's CARD OF 'staddalaw08.ShatFlowers'. -/
def shatFlowersUptoCard : Claim7 := { stood := { row := shatFlowersUptoRow, standIns := [], harness := (true, "d328a2fa4f5dff29183116967c1406a68579ab20b23df562ec5de04eee5f71e4"), looks := true }, kinds := [], alts := [], laidByText := true, laidKinds := [.data, .data, .data], laidTests := true, laidLooks := .later }
def ShatFlowersUptoCardSaid : Prop := Claim7.holds Tryz.pinned (.plain (OpenSpec.upto shatFlowersSpec)) shatFlowersUptoCard

/-- THE SECOND FORM's CARD OF 'staddalaw08.ShatSauer'. -/
def shatSauerUptoCard : Claim7 := { stood := { row := shatSauerUptoRow, standIns := [], harness := (true, "d328a2fa4f5dff29183116967c1406a68579ab20b23df562ec5de04eee5f71e4"), looks := true }, kinds := [], alts := [], laidByText := true, laidKinds := [.data, .data, .data], laidTests := true, laidLooks := .later }
def ShatSauerUptoCardSaid : Prop := Claim7.holds Tryz.pinned (.plain (OpenSpec.upto shatSauerSpec)) shatSauerUptoCard

/-- THE SECOND FORM's CARD OF 'staddalaw08.ShatBollobas'. -/
def shatBollobasUptoCard : Claim7 := { stood := { row := shatBollobasUptoRow, standIns := [], harness := (true, "d328a2fa4f5dff29183116967c1406a68579ab20b23df562ec5de04eee5f71e4"), looks := true }, kinds := [], alts := [], laidByText := true, laidKinds := [.data, .data, .data], laidTests := true, laidLooks := .later }
def ShatBollobasUptoCardSaid : Prop := Claim7.holds Tryz.pinned (.plain (OpenSpec.upto shatBollobasSpec)) shatBollobasUptoCard

/-- THE SECOND FORM's CARD OF 'staddalaw08.ShatErdos'. -/
def shatErdosUptoCard : Claim7 := { stood := { row := shatErdosUptoRow, standIns := [], harness := (true, "d328a2fa4f5dff29183116967c1406a68579ab20b23df562ec5de04eee5f71e4"), looks := true }, kinds := [], alts := [], laidByText := true, laidKinds := [.data, .data, .data], laidTests := true, laidLooks := .later }
def ShatErdosUptoCardSaid : Prop := Claim7.holds Tryz.pinned (.plain (OpenSpec.upto shatErdosSpec)) shatErdosUptoCard

/-- THE SECOND FORM's CARD OF 'staddalaw08.ShatCrosses'. -/
def shatCrossesUptoCard : Claim7 := { stood := { row := shatCrossesUptoRow, standIns := [], harness := (true, "d328a2fa4f5dff29183116967c1406a68579ab20b23df562ec5de04eee5f71e4"), looks := true }, kinds := [], alts := [], laidByText := true, laidKinds := [.data, .data, .data], laidTests := true, laidLooks := .later }
def ShatCrossesUptoCardSaid : Prop := Claim7.holds Tryz.pinned (.plain (OpenSpec.upto shatCrossesSpec)) shatCrossesUptoCard

/-- THE SECOND FORM's CARD OF 'staddalaw08.ShatChecks'. -/
def shatChecksUptoCard : Claim7 := { stood := { row := shatChecksUptoRow, standIns := [], harness := (true, "d328a2fa4f5dff29183116967c1406a68579ab20b23df562ec5de04eee5f71e4"), looks := true }, kinds := [], alts := [], laidByText := true, laidKinds := [.data, .data, .data], laidTests := true, laidLooks := .later }
def ShatChecksUptoCardSaid : Prop := Claim7.holds Tryz.pinned (.plain (OpenSpec.upto shatChecksSpec)) shatChecksUptoCard
end Rows
end Go.Proofs.YtkfbfgcflnkllaaGreatDoor
