/-
  DERIVED. GIVEN WITH THE SEED: THE CARDS: each row of YtghfifpicklonaaDoorRows.lean that lists a variable, with what it lists TIED to the program's text (the seventh form; the later family's looks); each row that meets fmt, with fmt's text TOLD by the authors' own Lean function (tested against real Go, not proved from fmt's source: count such statements apart). THE CARD IS WHAT COUNTS. Prove the row's statement (the work); the ties are given (YtghfifpicklonaaDoorTie.lean); close each card by the builder's one call (the guide's Derived/Test/ToyasCard.lean, 'card_holds'). Laid BY PROGRAM, IN A SANDBOX (cutbox-door.mjs). By AI agents, Wed Nov 11 2026. No macro, syntax, notation, axiom, sorry.
-/
import Derived.Test.YtghfifpicklonaaDoorRows
import GoSem.ClaimSeven
namespace Go.Proofs.YtghfifpicklonaaDoor
namespace Rows

/-- THE TIED CARD OF 'laws.FnExactCircuitOfSpace'. -/
def fnExactCircuitOfSpaceCard : Claim7 := { stood := { row := fnExactCircuitOfSpaceRow, standIns := [], harness := (true, "69545bd43c2dfaf59c750bff1796d93bfe377dc8cfb9343856637b01caad4df9"), looks := false }, kinds := [], alts := [], laidByText := true, laidKinds := [.data], laidTests := true, laidLooks := .later }
def FnExactCircuitOfSpaceCardSaid : Prop := Claim7.holds Tryd.pinned (.plain (OpenSpec.ofChange fnExactCircuitOfSpaceSpec)) fnExactCircuitOfSpaceCard

/-- THE TIED CARD OF 'laws.FnExactTransformSpace'. -/
def fnExactTransformSpaceCard : Claim7 := { stood := { row := fnExactTransformSpaceRow, standIns := [], harness := (true, "69545bd43c2dfaf59c750bff1796d93bfe377dc8cfb9343856637b01caad4df9"), looks := false }, kinds := [], alts := [], laidByText := true, laidKinds := [.data], laidTests := true, laidLooks := .later }
def FnExactTransformSpaceCardSaid : Prop := Claim7.holds Tryd.pinned (.plain (OpenSpec.ofChange fnExactTransformSpaceSpec)) fnExactTransformSpaceCard

/-- THE TIED CARD OF 'laws.FnExactCircuitOfGraph'. -/
def fnExactCircuitOfGraphCard : Claim7 := { stood := { row := fnExactCircuitOfGraphRow, standIns := [], harness := (true, "69545bd43c2dfaf59c750bff1796d93bfe377dc8cfb9343856637b01caad4df9"), looks := false }, kinds := [], alts := [], laidByText := true, laidKinds := [.data], laidTests := true, laidLooks := .later }
def FnExactCircuitOfGraphCardSaid : Prop := Claim7.holds Tryd.pinned (.plain (OpenSpec.ofChange fnExactCircuitOfGraphSpec)) fnExactCircuitOfGraphCard

/-- THE SECOND FORM's CARD OF 'laws.FnExactCircuitOfSpace'. -/
def fnExactCircuitOfSpaceUptoCard : Claim7 := { stood := { row := fnExactCircuitOfSpaceUptoRow, standIns := [], harness := (true, "69545bd43c2dfaf59c750bff1796d93bfe377dc8cfb9343856637b01caad4df9"), looks := false }, kinds := [], alts := [], laidByText := true, laidKinds := [.data], laidTests := true, laidLooks := .later }
def FnExactCircuitOfSpaceUptoCardSaid : Prop := Claim7.holds Tryd.pinned (.plain (OpenSpec.upto fnExactCircuitOfSpaceSpec)) fnExactCircuitOfSpaceUptoCard

/-- THE SECOND FORM's CARD OF 'laws.FnExactTransformSpace'. -/
def fnExactTransformSpaceUptoCard : Claim7 := { stood := { row := fnExactTransformSpaceUptoRow, standIns := [], harness := (true, "69545bd43c2dfaf59c750bff1796d93bfe377dc8cfb9343856637b01caad4df9"), looks := false }, kinds := [], alts := [], laidByText := true, laidKinds := [.data], laidTests := true, laidLooks := .later }
def FnExactTransformSpaceUptoCardSaid : Prop := Claim7.holds Tryd.pinned (.plain (OpenSpec.upto fnExactTransformSpaceSpec)) fnExactTransformSpaceUptoCard

/-- THE SECOND FORM's CARD OF 'laws.FnExactCircuitOfGraph'. -/
def fnExactCircuitOfGraphUptoCard : Claim7 := { stood := { row := fnExactCircuitOfGraphUptoRow, standIns := [], harness := (true, "69545bd43c2dfaf59c750bff1796d93bfe377dc8cfb9343856637b01caad4df9"), looks := false }, kinds := [], alts := [], laidByText := true, laidKinds := [.data], laidTests := true, laidLooks := .later }
def FnExactCircuitOfGraphUptoCardSaid : Prop := Claim7.holds Tryd.pinned (.plain (OpenSpec.upto fnExactCircuitOfGraphSpec)) fnExactCircuitOfGraphUptoCard
end Rows
end Go.Proofs.YtghfifpicklonaaDoor
