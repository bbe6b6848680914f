/-
  DERIVED. GIVEN WITH THE SEED: THE CARDS: each row of YtijefmjfdhfjmaaDoorRows.lean that lists a variable, with what it lists TIED to the program's text (the seventh form; the later family's looks); each row that meets fmt, with fmt's text TOLD by the authors' own Lean function (tested against real Go, not proved from fmt's source: count such statements apart). THE CARD IS WHAT COUNTS. Prove the row's statement (the work); the ties are given (YtijefmjfdhfjmaaDoorTie.lean); close each card by the builder's one call (the guide's Derived/Test/ToyasCard.lean, 'card_holds'). Laid BY PROGRAM, IN A SANDBOX (cutbox-door.mjs). By AI agents, Wed Nov 11 2026. No macro, syntax, notation, axiom, sorry.
-/
import Derived.Test.YtijefmjfdhfjmaaDoorRows
import GoSem.ClaimSeven
namespace Go.Proofs.YtijefmjfdhfjmaaDoor
namespace Rows

/-- THE TIED CARD OF 'laws.FnExactSureImage'. -/
def fnExactSureImageCard : Claim7 := { stood := { row := fnExactSureImageRow, standIns := [], harness := (true, "fbf63be81009f0a81a8a3a64b355b9d676f8389c8839c31c433ae7fbc9d94e54"), looks := true }, kinds := [], alts := [], laidByText := true, laidKinds := [.widerDeep], laidTests := true, laidLooks := .later }
def FnExactSureImageCardSaid : Prop := Claim7.holds Tryd.pinned (.plain (OpenSpec.ofChange fnExactSureImageSpec)) fnExactSureImageCard

/-- THE TIED CARD OF 'laws.FnExactSureStacks'. -/
def fnExactSureStacksCard : Claim7 := { stood := { row := fnExactSureStacksRow, standIns := [], harness := (true, "fbf63be81009f0a81a8a3a64b355b9d676f8389c8839c31c433ae7fbc9d94e54"), looks := true }, kinds := [], alts := [], laidByText := true, laidKinds := [.widerDeep], laidTests := true, laidLooks := .later }
def FnExactSureStacksCardSaid : Prop := Claim7.holds Tryd.pinned (.plain (OpenSpec.ofChange fnExactSureStacksSpec)) fnExactSureStacksCard

/-- THE SECOND FORM's CARD OF 'laws.FnExactSureImage'. -/
def fnExactSureImageUptoCard : Claim7 := { stood := { row := fnExactSureImageUptoRow, standIns := [], harness := (true, "fbf63be81009f0a81a8a3a64b355b9d676f8389c8839c31c433ae7fbc9d94e54"), looks := true }, kinds := [], alts := [], laidByText := true, laidKinds := [.widerDeep], laidTests := true, laidLooks := .later }
def FnExactSureImageUptoCardSaid : Prop := Claim7.holds Tryd.pinned (.plain (OpenSpec.upto fnExactSureImageSpec)) fnExactSureImageUptoCard

/-- THE SECOND FORM's CARD OF 'laws.FnExactSureStacks'. -/
def fnExactSureStacksUptoCard : Claim7 := { stood := { row := fnExactSureStacksUptoRow, standIns := [], harness := (true, "fbf63be81009f0a81a8a3a64b355b9d676f8389c8839c31c433ae7fbc9d94e54"), looks := true }, kinds := [], alts := [], laidByText := true, laidKinds := [.widerDeep], laidTests := true, laidLooks := .later }
def FnExactSureStacksUptoCardSaid : Prop := Claim7.holds Tryd.pinned (.plain (OpenSpec.upto fnExactSureStacksSpec)) fnExactSureStacksUptoCard
end Rows
end Go.Proofs.YtijefmjfdhfjmaaDoor
