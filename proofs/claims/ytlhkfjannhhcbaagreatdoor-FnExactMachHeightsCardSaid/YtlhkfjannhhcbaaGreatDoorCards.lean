/-
  DERIVED. GIVEN WITH THE SEED: THE CARDS: each row of YtlhkfjannhhcbaaGreatDoorRows.lean that lists a variable, with what it lists TIED to the program's text (the seventh form; the later family's looks); each row that meets fmt, with fmt's text TOLD by the authors' own Lean function (tested against real Go, not proved from fmt's source: count such statements apart). THE CARD IS WHAT COUNTS. Prove the row's statement (the work); the ties are given (YtlhkfjannhhcbaaGreatDoorTie.lean); close each card by the builder's one call (the guide's Derived/Test/ToyasCard.lean, 'card_holds'). Laid BY PROGRAM, IN A SANDBOX (cutbox-door.mjs). By AI agents, Wed Nov 11 2026. No macro, syntax, notation, axiom, sorry.
-/
import Derived.Test.YtlhkfjannhhcbaaGreatDoorRows
import GoSem.ClaimSeven
namespace Go.Proofs.YtlhkfjannhhcbaaGreatDoor
namespace Rows

/-- THE TIED CARD OF 'laws.FnExactMachHeights'. -/
def fnExactMachHeightsCard : Claim7 := { stood := { row := fnExactMachHeightsRow, standIns := [], harness := (true, "41ef78060376777662b043cc1119b991131b0ed7767fffd09c4ef04d88fbaa66"), looks := true }, kinds := [], alts := [], laidByText := true, laidKinds := [.widerDeep], laidTests := true, laidLooks := .later }
def FnExactMachHeightsCardSaid : Prop := Claim7.holds Tryz.pinned (.plain (OpenSpec.ofChange fnExactMachHeightsSpec)) fnExactMachHeightsCard

/-- THE TIED CARD OF 'laws.FnExactMachRun'. -/
def fnExactMachRunCard : Claim7 := { stood := { row := fnExactMachRunRow, standIns := [], harness := (true, "41ef78060376777662b043cc1119b991131b0ed7767fffd09c4ef04d88fbaa66"), looks := true }, kinds := [], alts := [], laidByText := true, laidKinds := [.widerDeep], laidTests := true, laidLooks := .later }
def FnExactMachRunCardSaid : Prop := Claim7.holds Tryz.pinned (.plain (OpenSpec.ofChange fnExactMachRunSpec)) fnExactMachRunCard

/-- THE TIED CARD OF 'laws.FnMachFuel'. -/
def fnMachFuelCard : Claim7 := { stood := { row := fnMachFuelRow, standIns := [], harness := (true, "41ef78060376777662b043cc1119b991131b0ed7767fffd09c4ef04d88fbaa66"), looks := true }, kinds := [], alts := [], laidByText := true, laidKinds := [.widerDeep], laidTests := true, laidLooks := .later }
def FnMachFuelCardSaid : Prop := Claim7.holds Tryz.pinned (.plain (OpenSpec.ofChange fnMachFuelSpec)) fnMachFuelCard

/-- THE SECOND FORM's CARD OF 'laws.FnExactMachHeights'. -/
def fnExactMachHeightsUptoCard : Claim7 := { stood := { row := fnExactMachHeightsUptoRow, standIns := [], harness := (true, "41ef78060376777662b043cc1119b991131b0ed7767fffd09c4ef04d88fbaa66"), looks := true }, kinds := [], alts := [], laidByText := true, laidKinds := [.widerDeep], laidTests := true, laidLooks := .later }
def FnExactMachHeightsUptoCardSaid : Prop := Claim7.holds Tryz.pinned (.plain (OpenSpec.upto fnExactMachHeightsSpec)) fnExactMachHeightsUptoCard

/-- THE SECOND FORM's CARD OF 'laws.FnExactMachRun'. -/
def fnExactMachRunUptoCard : Claim7 := { stood := { row := fnExactMachRunUptoRow, standIns := [], harness := (true, "41ef78060376777662b043cc1119b991131b0ed7767fffd09c4ef04d88fbaa66"), looks := true }, kinds := [], alts := [], laidByText := true, laidKinds := [.widerDeep], laidTests := true, laidLooks := .later }
def FnExactMachRunUptoCardSaid : Prop := Claim7.holds Tryz.pinned (.plain (OpenSpec.upto fnExactMachRunSpec)) fnExactMachRunUptoCard

/-- THE SECOND FORM's CARD OF 'laws.FnMachFuel'. -/
def fnMachFuelUptoCard : Claim7 := { stood := { row := fnMachFuelUptoRow, standIns := [], harness := (true, "41ef78060376777662b043cc1119b991131b0ed7767fffd09c4ef04d88fbaa66"), looks := true }, kinds := [], alts := [], laidByText := true, laidKinds := [.widerDeep], laidTests := true, laidLooks := .later }
def FnMachFuelUptoCardSaid : Prop := Claim7.holds Tryz.pinned (.plain (OpenSpec.upto fnMachFuelSpec)) fnMachFuelUptoCard
end Rows
end Go.Proofs.YtlhkfjannhhcbaaGreatDoor
