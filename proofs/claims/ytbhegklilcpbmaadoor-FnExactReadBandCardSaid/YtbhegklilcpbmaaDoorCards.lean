/-
  DERIVED. GIVEN WITH THE SEED: THE CARDS: each row of YtbhegklilcpbmaaDoorRows.lean that lists a variable, with what it lists TIED to the program's text (the seventh form; the later family's looks); each row that meets fmt, with fmt's text TOLD by the authors' own Lean function (tested against real Go, not proved from fmt's source: count such statements apart). THE CARD IS WHAT COUNTS. Prove the row's statement (the work); the ties are given (YtbhegklilcpbmaaDoorTie.lean); close each card by the builder's one call (the guide's Derived/Test/ToyasCard.lean, 'card_holds'). Laid BY PROGRAM, IN A SANDBOX (cutbox-door.mjs). By AI agents, Wed Nov 11 2026. No macro, syntax, notation, axiom, sorry.
-/
import Derived.Test.YtbhegklilcpbmaaDoorRows
import GoSem.ClaimSeven
namespace Go.Proofs.YtbhegklilcpbmaaDoor
namespace Rows

/-- THE TIED CARD OF 'laws.FnExactSignalRatio'. -/
def fnExactSignalRatioCard : Claim7 := { stood := { row := fnExactSignalRatioRow, standIns := [], harness := (true, "8aac444cd05a2c432773bc0a95ea0f623a56c980735ff837d18cf96b3a9f07d8"), looks := true }, kinds := [], alts := [], laidByText := true, laidKinds := [.data, .data, .data], laidTests := true, laidLooks := .later }
def FnExactSignalRatioCardSaid : Prop := Claim7.holds Tryd.pinned (.plain (OpenSpec.ofChange fnExactSignalRatioSpec)) fnExactSignalRatioCard

/-- THE TIED CARD OF 'laws.FnExactWorstRatio'. -/
def fnExactWorstRatioCard : Claim7 := { stood := { row := fnExactWorstRatioRow, standIns := [], harness := (true, "8aac444cd05a2c432773bc0a95ea0f623a56c980735ff837d18cf96b3a9f07d8"), looks := true }, kinds := [], alts := [], laidByText := true, laidKinds := [.data, .data, .data], laidTests := true, laidLooks := .later }
def FnExactWorstRatioCardSaid : Prop := Claim7.holds Tryd.pinned (.plain (OpenSpec.ofChange fnExactWorstRatioSpec)) fnExactWorstRatioCard

/-- THE TIED CARD OF 'laws.FnExactDiscrimination'. -/
def fnExactDiscriminationCard : Claim7 := { stood := { row := fnExactDiscriminationRow, standIns := [], harness := (true, "8aac444cd05a2c432773bc0a95ea0f623a56c980735ff837d18cf96b3a9f07d8"), looks := true }, kinds := [], alts := [], laidByText := true, laidKinds := [.data, .data, .data], laidTests := true, laidLooks := .later }
def FnExactDiscriminationCardSaid : Prop := Claim7.holds Tryd.pinned (.plain (OpenSpec.ofChange fnExactDiscriminationSpec)) fnExactDiscriminationCard

/-- THE TIED CARD OF 'laws.FnExactDiscriminationTable'. -/
def fnExactDiscriminationTableCard : Claim7 := { stood := { row := fnExactDiscriminationTableRow, standIns := [], harness := (true, "8aac444cd05a2c432773bc0a95ea0f623a56c980735ff837d18cf96b3a9f07d8"), looks := true }, kinds := [], alts := [], laidByText := true, laidKinds := [.data, .data, .data], laidTests := true, laidLooks := .later }
def FnExactDiscriminationTableCardSaid : Prop := Claim7.holds Tryd.pinned (.plain (OpenSpec.ofChange fnExactDiscriminationTableSpec)) fnExactDiscriminationTableCard

/-- THE TIED CARD OF 'laws.FnExactBandText'. -/
def fnExactBandTextCard : Claim7 := { stood := { row := fnExactBandTextRow, standIns := [], harness := (true, "8aac444cd05a2c432773bc0a95ea0f623a56c980735ff837d18cf96b3a9f07d8"), looks := true }, kinds := [], alts := [], laidByText := true, laidKinds := [.data, .data, .data], laidTests := true, laidLooks := .later }
def FnExactBandTextCardSaid : Prop := Claim7.holds Tryd.pinned (.plain (OpenSpec.ofChange fnExactBandTextSpec)) fnExactBandTextCard

/-- THE TIED CARD OF 'laws.FnExactReadBand'. -/
def fnExactReadBandCard : Claim7 := { stood := { row := fnExactReadBandRow, standIns := [], harness := (true, "8aac444cd05a2c432773bc0a95ea0f623a56c980735ff837d18cf96b3a9f07d8"), looks := true }, kinds := [], alts := [], laidByText := true, laidKinds := [.data, .data, .data, .data, .sentinel, .sentinel, .pinned], laidTests := true, laidLooks := .later }
def FnExactReadBandCardSaid : Prop := Claim7.holds Tryd.pinned (.plain (OpenSpec.ofChange fnExactReadBandSpec)) fnExactReadBandCard

/-- THE SECOND FORM's CARD OF 'laws.FnExactSignalRatio'. -/
def fnExactSignalRatioUptoCard : Claim7 := { stood := { row := fnExactSignalRatioUptoRow, standIns := [], harness := (true, "8aac444cd05a2c432773bc0a95ea0f623a56c980735ff837d18cf96b3a9f07d8"), looks := true }, kinds := [], alts := [], laidByText := true, laidKinds := [.data, .data, .data], laidTests := true, laidLooks := .later }
def FnExactSignalRatioUptoCardSaid : Prop := Claim7.holds Tryd.pinned (.plain (OpenSpec.upto fnExactSignalRatioSpec)) fnExactSignalRatioUptoCard

/-- THE SECOND FORM's CARD OF 'laws.FnExactWorstRatio'. -/
def fnExactWorstRatioUptoCard : Claim7 := { stood := { row := fnExactWorstRatioUptoRow, standIns := [], harness := (true, "8aac444cd05a2c432773bc0a95ea0f623a56c980735ff837d18cf96b3a9f07d8"), looks := true }, kinds := [], alts := [], laidByText := true, laidKinds := [.data, .data, .data], laidTests := true, laidLooks := .later }
def FnExactWorstRatioUptoCardSaid : Prop := Claim7.holds Tryd.pinned (.plain (OpenSpec.upto fnExactWorstRatioSpec)) fnExactWorstRatioUptoCard

/-- THE SECOND FORM's CARD OF 'laws.FnExactDiscrimination'. -/
def fnExactDiscriminationUptoCard : Claim7 := { stood := { row := fnExactDiscriminationUptoRow, standIns := [], harness := (true, "8aac444cd05a2c432773bc0a95ea0f623a56c980735ff837d18cf96b3a9f07d8"), looks := true }, kinds := [], alts := [], laidByText := true, laidKinds := [.data, .data, .data], laidTests := true, laidLooks := .later }
def FnExactDiscriminationUptoCardSaid : Prop := Claim7.holds Tryd.pinned (.plain (OpenSpec.upto fnExactDiscriminationSpec)) fnExactDiscriminationUptoCard

/-- THE SECOND FORM's CARD OF 'laws.FnExactDiscriminationTable'. -/
def fnExactDiscriminationTableUptoCard : Claim7 := { stood := { row := fnExactDiscriminationTableUptoRow, standIns := [], harness := (true, "8aac444cd05a2c432773bc0a95ea0f623a56c980735ff837d18cf96b3a9f07d8"), looks := true }, kinds := [], alts := [], laidByText := true, laidKinds := [.data, .data, .data], laidTests := true, laidLooks := .later }
def FnExactDiscriminationTableUptoCardSaid : Prop := Claim7.holds Tryd.pinned (.plain (OpenSpec.upto fnExactDiscriminationTableSpec)) fnExactDiscriminationTableUptoCard

/-- THE SECOND FORM's CARD OF 'laws.FnExactBandText'. -/
def fnExactBandTextUptoCard : Claim7 := { stood := { row := fnExactBandTextUptoRow, standIns := [], harness := (true, "8aac444cd05a2c432773bc0a95ea0f623a56c980735ff837d18cf96b3a9f07d8"), looks := true }, kinds := [], alts := [], laidByText := true, laidKinds := [.data, .data, .data], laidTests := true, laidLooks := .later }
def FnExactBandTextUptoCardSaid : Prop := Claim7.holds Tryd.pinned (.plain (OpenSpec.upto fnExactBandTextSpec)) fnExactBandTextUptoCard

/-- THE SECOND FORM's CARD OF 'laws.FnExactReadBand'. -/
def fnExactReadBandUptoCard : Claim7 := { stood := { row := fnExactReadBandUptoRow, standIns := [], harness := (true, "8aac444cd05a2c432773bc0a95ea0f623a56c980735ff837d18cf96b3a9f07d8"), looks := true }, kinds := [], alts := [], laidByText := true, laidKinds := [.data, .data, .data, .data, .sentinel, .sentinel, .pinned], laidTests := true, laidLooks := .later }
def FnExactReadBandUptoCardSaid : Prop := Claim7.holds Tryd.pinned (.plain (OpenSpec.upto fnExactReadBandSpec)) fnExactReadBandUptoCard
end Rows
end Go.Proofs.YtbhegklilcpbmaaDoor
