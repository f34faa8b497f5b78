/-
  DERIVED. GIVEN WITH THE SEED: THE CARDS: each row of YtelnnehpbkainaaGreatDoorRows.lean that lists a variable, with what it lists TIED to the program's text (the seventh form; the later family's looks); each row that meets fmt, with fmt's text TOLD by the authors' own Lean function (tested against real Go, not proved from fmt's source: count such statements apart). THE CARD IS WHAT COUNTS. Prove the row's statement (the work); the ties are given (YtelnnehpbkainaaGreatDoorTie.lean); close each card by the builder's one call (the guide's Derived/Test/ToyasCard.lean, 'card_holds'). Laid BY PROGRAM, IN A SANDBOX (cutbox-door.mjs). By AI agents, Wed Nov 11 2026. No macro, syntax, notation, axiom, sorry.
-/
import Derived.Test.YtelnnehpbkainaaGreatDoorRows
import GoSem.ClaimSeven
namespace Go.Proofs.YtelnnehpbkainaaGreatDoor
namespace Rows

/-- THE TIED CARD OF 'repriselaw10.LinearClauses'. -/
def linearClausesCard : Claim7 := { stood := { row := linearClausesRow, standIns := [], harness := (true, "798fd9b8000fda1d5b00c7d7626b4820eb45570a61c66c9fe5fb42989f4f2cbb"), looks := true }, kinds := [], alts := [], laidByText := true, laidKinds := [.listed, .data, .data, .widerDeep], laidTests := true, laidLooks := .later }
def LinearClausesCardSaid : Prop := Claim7.holds Tryz.pinned (.plain (OpenSpec.ofChange linearClausesSpec)) linearClausesCard

/-- THE TIED CARD OF 'repriselaw10.LinearExprs'. -/
def linearExprsCard : Claim7 := { stood := { row := linearExprsRow, standIns := [], harness := (true, "798fd9b8000fda1d5b00c7d7626b4820eb45570a61c66c9fe5fb42989f4f2cbb"), looks := true }, kinds := [], alts := [], laidByText := true, laidKinds := [.listed, .data, .data, .widerDeep], laidTests := true, laidLooks := .later }
def LinearExprsCardSaid : Prop := Claim7.holds Tryz.pinned (.plain (OpenSpec.ofChange linearExprsSpec)) linearExprsCard

/-- THE TIED CARD OF 'repriselaw10.LinearChecks'. -/
def linearChecksCard : Claim7 := { stood := { row := linearChecksRow, standIns := [], harness := (true, "798fd9b8000fda1d5b00c7d7626b4820eb45570a61c66c9fe5fb42989f4f2cbb"), looks := true }, kinds := [], alts := [], laidByText := true, laidKinds := [.listed, .data, .data, .widerDeep], laidTests := true, laidLooks := .later }
def LinearChecksCardSaid : Prop := Claim7.holds Tryz.pinned (.plain (OpenSpec.ofChange linearChecksSpec)) linearChecksCard

/-- THE TIED CARD OF 'repriselaw10.LinearKnown'. -/
def linearKnownCard : Claim7 := { stood := { row := linearKnownRow, standIns := [], harness := (true, "798fd9b8000fda1d5b00c7d7626b4820eb45570a61c66c9fe5fb42989f4f2cbb"), looks := true }, kinds := [], alts := [], laidByText := true, laidKinds := [.listed, .data, .data, .widerDeep], laidTests := true, laidLooks := .later }
def LinearKnownCardSaid : Prop := Claim7.holds Tryz.pinned (.plain (OpenSpec.ofChange linearKnownSpec)) linearKnownCard

/-- THE TIED CARD OF 'repriselaw10.LinearSites'. -/
def linearSitesCard : Claim7 := { stood := { row := linearSitesRow, standIns := [], harness := (true, "798fd9b8000fda1d5b00c7d7626b4820eb45570a61c66c9fe5fb42989f4f2cbb"), looks := true }, kinds := [], alts := [], laidByText := true, laidKinds := [.listed, .data, .data, .widerDeep], laidTests := true, laidLooks := .later }
def LinearSitesCardSaid : Prop := Claim7.holds Tryz.pinned (.plain (OpenSpec.ofChange linearSitesSpec)) linearSitesCard

/-- THE TIED CARD OF 'repriselaw10.LinearParts'. -/
def linearPartsCard : Claim7 := { stood := { row := linearPartsRow, standIns := [], harness := (true, "798fd9b8000fda1d5b00c7d7626b4820eb45570a61c66c9fe5fb42989f4f2cbb"), looks := true }, kinds := [], alts := [], laidByText := true, laidKinds := [.listed, .data, .data, .widerDeep], laidTests := true, laidLooks := .later }
def LinearPartsCardSaid : Prop := Claim7.holds Tryz.pinned (.plain (OpenSpec.ofChange linearPartsSpec)) linearPartsCard

/-- THE TIED CARD OF 'repriselaw10.LinearTail'. -/
def linearTailCard : Claim7 := { stood := { row := linearTailRow, standIns := [], harness := (true, "798fd9b8000fda1d5b00c7d7626b4820eb45570a61c66c9fe5fb42989f4f2cbb"), looks := true }, kinds := [], alts := [], laidByText := true, laidKinds := [.listed, .data, .data, .widerDeep], laidTests := true, laidLooks := .later }
def LinearTailCardSaid : Prop := Claim7.holds Tryz.pinned (.plain (OpenSpec.ofChange linearTailSpec)) linearTailCard

/-- THE TIED CARD OF 'repriselaw10.LinearOnce'. -/
def linearOnceCard : Claim7 := { stood := { row := linearOnceRow, standIns := [], harness := (true, "798fd9b8000fda1d5b00c7d7626b4820eb45570a61c66c9fe5fb42989f4f2cbb"), looks := true }, kinds := [], alts := [], laidByText := true, laidKinds := [.listed, .data, .data, .widerDeep], laidTests := true, laidLooks := .later }
def LinearOnceCardSaid : Prop := Claim7.holds Tryz.pinned (.plain (OpenSpec.ofChange linearOnceSpec)) linearOnceCard

/-- THE TIED CARD OF 'repriselaw10.LinearWrapped'. -/
def linearWrappedCard : Claim7 := { stood := { row := linearWrappedRow, standIns := [], harness := (true, "798fd9b8000fda1d5b00c7d7626b4820eb45570a61c66c9fe5fb42989f4f2cbb"), looks := true }, kinds := [], alts := [], laidByText := true, laidKinds := [.data, .data, .data, .listed, .data, .data, .widerDeep], laidTests := true, laidLooks := .later }
def LinearWrappedCardSaid : Prop := Claim7.holds Tryz.pinned (.plain (OpenSpec.ofChange linearWrappedSpec)) linearWrappedCard

/-- THE TIED CARD OF 'repriselaw10.LinearFlaw'. -/
def linearFlawCard : Claim7 := { stood := { row := linearFlawRow, standIns := [], harness := (true, "798fd9b8000fda1d5b00c7d7626b4820eb45570a61c66c9fe5fb42989f4f2cbb"), looks := true }, kinds := [], alts := [], laidByText := true, laidKinds := [.data, .data, .data, .listed, .data, .data, .widerDeep], laidTests := true, laidLooks := .later }
def LinearFlawCardSaid : Prop := Claim7.holds Tryz.pinned (.plain (OpenSpec.ofChange linearFlawSpec)) linearFlawCard

/-- THE SECOND FORM's CARD OF 'repriselaw10.LinearClauses'. -/
def linearClausesUptoCard : Claim7 := { stood := { row := linearClausesUptoRow, standIns := [], harness := (true, "798fd9b8000fda1d5b00c7d7626b4820eb45570a61c66c9fe5fb42989f4f2cbb"), looks := true }, kinds := [], alts := [], laidByText := true, laidKinds := [.listed, .data, .data, .widerDeep], laidTests := true, laidLooks := .later }
def LinearClausesUptoCardSaid : Prop := Claim7.holds Tryz.pinned (.plain (OpenSpec.upto linearClausesSpec)) linearClausesUptoCard

/-- THE SECOND FORM's CARD OF 'repriselaw10.LinearExprs'. -/
def linearExprsUptoCard : Claim7 := { stood := { row := linearExprsUptoRow, standIns := [], harness := (true, "798fd9b8000fda1d5b00c7d7626b4820eb45570a61c66c9fe5fb42989f4f2cbb"), looks := true }, kinds := [], alts := [], laidByText := true, laidKinds := [.listed, .data, .data, .widerDeep], laidTests := true, laidLooks := .later }
def LinearExprsUptoCardSaid : Prop := Claim7.holds Tryz.pinned (.plain (OpenSpec.upto linearExprsSpec)) linearExprsUptoCard

/-- THE SECOND FORM's CARD OF 'repriselaw10.LinearChecks'. -/
def linearChecksUptoCard : Claim7 := { stood := { row := linearChecksUptoRow, standIns := [], harness := (true, "798fd9b8000fda1d5b00c7d7626b4820eb45570a61c66c9fe5fb42989f4f2cbb"), looks := true }, kinds := [], alts := [], laidByText := true, laidKinds := [.listed, .data, .data, .widerDeep], laidTests := true, laidLooks := .later }
def LinearChecksUptoCardSaid : Prop := Claim7.holds Tryz.pinned (.plain (OpenSpec.upto linearChecksSpec)) linearChecksUptoCard

/-- THE SECOND FORM's CARD OF 'repriselaw10.LinearKnown'. -/
def linearKnownUptoCard : Claim7 := { stood := { row := linearKnownUptoRow, standIns := [], harness := (true, "798fd9b8000fda1d5b00c7d7626b4820eb45570a61c66c9fe5fb42989f4f2cbb"), looks := true }, kinds := [], alts := [], laidByText := true, laidKinds := [.listed, .data, .data, .widerDeep], laidTests := true, laidLooks := .later }
def LinearKnownUptoCardSaid : Prop := Claim7.holds Tryz.pinned (.plain (OpenSpec.upto linearKnownSpec)) linearKnownUptoCard

/-- THE SECOND FORM's CARD OF 'repriselaw10.LinearSites'. -/
def linearSitesUptoCard : Claim7 := { stood := { row := linearSitesUptoRow, standIns := [], harness := (true, "798fd9b8000fda1d5b00c7d7626b4820eb45570a61c66c9fe5fb42989f4f2cbb"), looks := true }, kinds := [], alts := [], laidByText := true, laidKinds := [.listed, .data, .data, .widerDeep], laidTests := true, laidLooks := .later }
def LinearSitesUptoCardSaid : Prop := Claim7.holds Tryz.pinned (.plain (OpenSpec.upto linearSitesSpec)) linearSitesUptoCard

/-- THE SECOND FORM's CARD OF 'repriselaw10.LinearParts'. -/
def linearPartsUptoCard : Claim7 := { stood := { row := linearPartsUptoRow, standIns := [], harness := (true, "798fd9b8000fda1d5b00c7d7626b4820eb45570a61c66c9fe5fb42989f4f2cbb"), looks := true }, kinds := [], alts := [], laidByText := true, laidKinds := [.listed, .data, .data, .widerDeep], laidTests := true, laidLooks := .later }
def LinearPartsUptoCardSaid : Prop := Claim7.holds Tryz.pinned (.plain (OpenSpec.upto linearPartsSpec)) linearPartsUptoCard

/-- THE SECOND FORM's CARD OF 'repriselaw10.LinearTail'. -/
def linearTailUptoCard : Claim7 := { stood := { row := linearTailUptoRow, standIns := [], harness := (true, "798fd9b8000fda1d5b00c7d7626b4820eb45570a61c66c9fe5fb42989f4f2cbb"), looks := true }, kinds := [], alts := [], laidByText := true, laidKinds := [.listed, .data, .data, .widerDeep], laidTests := true, laidLooks := .later }
def LinearTailUptoCardSaid : Prop := Claim7.holds Tryz.pinned (.plain (OpenSpec.upto linearTailSpec)) linearTailUptoCard

/-- THE SECOND FORM's CARD OF 'repriselaw10.LinearOnce'. -/
def linearOnceUptoCard : Claim7 := { stood := { row := linearOnceUptoRow, standIns := [], harness := (true, "798fd9b8000fda1d5b00c7d7626b4820eb45570a61c66c9fe5fb42989f4f2cbb"), looks := true }, kinds := [], alts := [], laidByText := true, laidKinds := [.listed, .data, .data, .widerDeep], laidTests := true, laidLooks := .later }
def LinearOnceUptoCardSaid : Prop := Claim7.holds Tryz.pinned (.plain (OpenSpec.upto linearOnceSpec)) linearOnceUptoCard

/-- THE SECOND FORM's CARD OF 'repriselaw10.LinearWrapped'. -/
def linearWrappedUptoCard : Claim7 := { stood := { row := linearWrappedUptoRow, standIns := [], harness := (true, "798fd9b8000fda1d5b00c7d7626b4820eb45570a61c66c9fe5fb42989f4f2cbb"), looks := true }, kinds := [], alts := [], laidByText := true, laidKinds := [.data, .data, .data, .listed, .data, .data, .widerDeep], laidTests := true, laidLooks := .later }
def LinearWrappedUptoCardSaid : Prop := Claim7.holds Tryz.pinned (.plain (OpenSpec.upto linearWrappedSpec)) linearWrappedUptoCard

/-- THE SECOND FORM's CARD OF 'repriselaw10.LinearFlaw'. -/
def linearFlawUptoCard : Claim7 := { stood := { row := linearFlawUptoRow, standIns := [], harness := (true, "798fd9b8000fda1d5b00c7d7626b4820eb45570a61c66c9fe5fb42989f4f2cbb"), looks := true }, kinds := [], alts := [], laidByText := true, laidKinds := [.data, .data, .data, .listed, .data, .data, .widerDeep], laidTests := true, laidLooks := .later }
def LinearFlawUptoCardSaid : Prop := Claim7.holds Tryz.pinned (.plain (OpenSpec.upto linearFlawSpec)) linearFlawUptoCard
end Rows
end Go.Proofs.YtelnnehpbkainaaGreatDoor
