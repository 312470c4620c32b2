/-
  DERIVED. GIVEN WITH THE SEED: THE CARDS: each row of YtgianbkngpfpnaaDoorRows.lean that lists a variable, with what it lists TIED to the program's text (the seventh form; the later family's looks); each row that meets fmt, with fmt's text TOLD by the authors' own Lean function (tested against real Go, not proved from fmt's source: count such statements apart). THE CARD IS WHAT COUNTS. Prove the row's statement (the work); the ties are given (YtgianbkngpfpnaaDoorTie.lean); close each card by the builder's one call (the guide's Derived/Test/ToyasCard.lean, 'card_holds'). Laid BY PROGRAM, IN A SANDBOX (cutbox-door.mjs). By AI agents, Wed Nov 11 2026. No macro, syntax, notation, axiom, sorry.
-/
import Derived.Test.YtgianbkngpfpnaaDoorRows
import GoSem.ClaimSeven
namespace Go.Proofs.YtgianbkngpfpnaaDoor
namespace Rows

/-- THE TIED CARD OF 'laws.FnExactOutageOf'. -/
def fnExactOutageOfCard : Claim7 := { stood := { row := fnExactOutageOfRow, standIns := [], harness := (true, "a7fc08157247e061ecd3b108a7c4f5dc847c4093195bc12eaf0254acfac9c476"), looks := false }, kinds := [], alts := [], laidByText := true, laidKinds := [.data, .data, .data], laidTests := true, laidLooks := .later }
def FnExactOutageOfCardSaid : Prop := Claim7.holds Tryd.pinned (.plain (OpenSpec.ofChange fnExactOutageOfSpec)) fnExactOutageOfCard

/-- THE TIED CARD OF 'laws.FnExactMarginFor'. -/
def fnExactMarginForCard : Claim7 := { stood := { row := fnExactMarginForRow, standIns := [], harness := (true, "a7fc08157247e061ecd3b108a7c4f5dc847c4093195bc12eaf0254acfac9c476"), looks := false }, kinds := [], alts := [], laidByText := true, laidKinds := [.data, .data, .data], laidTests := true, laidLooks := .later }
def FnExactMarginForCardSaid : Prop := Claim7.holds Tryd.pinned (.plain (OpenSpec.ofChange fnExactMarginForSpec)) fnExactMarginForCard

/-- THE TIED CARD OF 'laws.FnExactRainOutage'. -/
def fnExactRainOutageCard : Claim7 := { stood := { row := fnExactRainOutageRow, standIns := [], harness := (true, "a7fc08157247e061ecd3b108a7c4f5dc847c4093195bc12eaf0254acfac9c476"), looks := false }, kinds := [], alts := [], laidByText := true, laidKinds := [.data, .data, .data], laidTests := true, laidLooks := .later }
def FnExactRainOutageCardSaid : Prop := Claim7.holds Tryd.pinned (.plain (OpenSpec.ofChange fnExactRainOutageSpec)) fnExactRainOutageCard

/-- THE TIED CARD OF 'laws.FnExactHopOutage'. -/
def fnExactHopOutageCard : Claim7 := { stood := { row := fnExactHopOutageRow, standIns := [], harness := (true, "a7fc08157247e061ecd3b108a7c4f5dc847c4093195bc12eaf0254acfac9c476"), looks := false }, kinds := [], alts := [], laidByText := true, laidKinds := [.data, .data, .data], laidTests := true, laidLooks := .later }
def FnExactHopOutageCardSaid : Prop := Claim7.holds Tryd.pinned (.plain (OpenSpec.ofChange fnExactHopOutageSpec)) fnExactHopOutageCard

/-- THE SECOND FORM's CARD OF 'laws.FnExactOutageOf'. -/
def fnExactOutageOfUptoCard : Claim7 := { stood := { row := fnExactOutageOfUptoRow, standIns := [], harness := (true, "a7fc08157247e061ecd3b108a7c4f5dc847c4093195bc12eaf0254acfac9c476"), looks := false }, kinds := [], alts := [], laidByText := true, laidKinds := [.data, .data, .data], laidTests := true, laidLooks := .later }
def FnExactOutageOfUptoCardSaid : Prop := Claim7.holds Tryd.pinned (.plain (OpenSpec.upto fnExactOutageOfSpec)) fnExactOutageOfUptoCard

/-- THE SECOND FORM's CARD OF 'laws.FnExactMarginFor'. -/
def fnExactMarginForUptoCard : Claim7 := { stood := { row := fnExactMarginForUptoRow, standIns := [], harness := (true, "a7fc08157247e061ecd3b108a7c4f5dc847c4093195bc12eaf0254acfac9c476"), looks := false }, kinds := [], alts := [], laidByText := true, laidKinds := [.data, .data, .data], laidTests := true, laidLooks := .later }
def FnExactMarginForUptoCardSaid : Prop := Claim7.holds Tryd.pinned (.plain (OpenSpec.upto fnExactMarginForSpec)) fnExactMarginForUptoCard

/-- THE SECOND FORM's CARD OF 'laws.FnExactRainOutage'. -/
def fnExactRainOutageUptoCard : Claim7 := { stood := { row := fnExactRainOutageUptoRow, standIns := [], harness := (true, "a7fc08157247e061ecd3b108a7c4f5dc847c4093195bc12eaf0254acfac9c476"), looks := false }, kinds := [], alts := [], laidByText := true, laidKinds := [.data, .data, .data], laidTests := true, laidLooks := .later }
def FnExactRainOutageUptoCardSaid : Prop := Claim7.holds Tryd.pinned (.plain (OpenSpec.upto fnExactRainOutageSpec)) fnExactRainOutageUptoCard

/-- THE SECOND FORM's CARD OF 'laws.FnExactHopOutage'. -/
def fnExactHopOutageUptoCard : Claim7 := { stood := { row := fnExactHopOutageUptoRow, standIns := [], harness := (true, "a7fc08157247e061ecd3b108a7c4f5dc847c4093195bc12eaf0254acfac9c476"), looks := false }, kinds := [], alts := [], laidByText := true, laidKinds := [.data, .data, .data], laidTests := true, laidLooks := .later }
def FnExactHopOutageUptoCardSaid : Prop := Claim7.holds Tryd.pinned (.plain (OpenSpec.upto fnExactHopOutageSpec)) fnExactHopOutageUptoCard
end Rows
end Go.Proofs.YtgianbkngpfpnaaDoor
