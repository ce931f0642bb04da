/-
  DERIVED. GIVEN WITH THE SEED: THE CARDS: each row of YtkamcgonacmieaaDoorRows.lean that lists a variable, with what it lists TIED to the program's text (the seventh form; the later family's looks); each row that meets fmt, with fmt's text TOLD by the authors' own Lean function (tested against real Go, not proved from fmt's source: count such statements apart). THE CARD IS WHAT COUNTS. Prove the row's statement (the work); the ties are given (YtkamcgonacmieaaDoorTie.lean); close each card by the builder's one call (the guide's Derived/Test/ToyasCard.lean, 'card_holds'). Laid BY PROGRAM, IN A SANDBOX (cutbox-door.mjs). By AI agents, Wed Nov 11 2026. No macro, syntax, notation, axiom, sorry.
-/
import Derived.Test.YtkamcgonacmieaaDoorRows
import GoSem.ClaimSeven
namespace Go.Proofs.YtkamcgonacmieaaDoor
namespace Rows

/-- THE TIED CARD OF 'laws.FnExactOptimizeCircuit'. -/
def fnExactOptimizeCircuitCard : Claim7 := { stood := { row := fnExactOptimizeCircuitRow, standIns := [], harness := (true, "69b9ac64ab10b01331ace09ff6ceb5f63162a836dba516c575b887039db8b8c1"), looks := false }, kinds := [], alts := [], laidByText := true, laidKinds := [.data], laidTests := true, laidLooks := .later }
def FnExactOptimizeCircuitCardSaid : Prop := Claim7.holds Tryd.pinned (.plain (OpenSpec.ofChange fnExactOptimizeCircuitSpec)) fnExactOptimizeCircuitCard

/-- THE TIED CARD OF 'laws.FnExactCircuitOfSpace'. -/
def fnExactCircuitOfSpaceCard : Claim7 := { stood := { row := fnExactCircuitOfSpaceRow, standIns := [], harness := (true, "69b9ac64ab10b01331ace09ff6ceb5f63162a836dba516c575b887039db8b8c1"), looks := false }, kinds := [], alts := [], laidByText := true, laidKinds := [.data], laidTests := true, laidLooks := .later }
def FnExactCircuitOfSpaceCardSaid : Prop := Claim7.holds Tryd.pinned (.plain (OpenSpec.ofChange fnExactCircuitOfSpaceSpec)) fnExactCircuitOfSpaceCard

/-- THE TIED CARD OF 'laws.FnExactTransformSpace'. -/
def fnExactTransformSpaceCard : Claim7 := { stood := { row := fnExactTransformSpaceRow, standIns := [], harness := (true, "69b9ac64ab10b01331ace09ff6ceb5f63162a836dba516c575b887039db8b8c1"), looks := false }, kinds := [], alts := [], laidByText := true, laidKinds := [.data], laidTests := true, laidLooks := .later }
def FnExactTransformSpaceCardSaid : Prop := Claim7.holds Tryd.pinned (.plain (OpenSpec.ofChange fnExactTransformSpaceSpec)) fnExactTransformSpaceCard

/-- THE TIED CARD OF 'laws.FnExactIsSession'. -/
def fnExactIsSessionCard : Claim7 := { stood := { row := fnExactIsSessionRow, standIns := [], harness := (true, "69b9ac64ab10b01331ace09ff6ceb5f63162a836dba516c575b887039db8b8c1"), looks := false }, kinds := [], alts := [], laidByText := true, laidKinds := [.data], laidTests := true, laidLooks := .later }
def FnExactIsSessionCardSaid : Prop := Claim7.holds Tryd.pinned (.plain (OpenSpec.ofChange fnExactIsSessionSpec)) fnExactIsSessionCard

/-- THE TIED CARD OF 'laws.FnExactHistoryOf'. -/
def fnExactHistoryOfCard : Claim7 := { stood := { row := fnExactHistoryOfRow, standIns := [], harness := (true, "69b9ac64ab10b01331ace09ff6ceb5f63162a836dba516c575b887039db8b8c1"), looks := false }, kinds := [], alts := [], laidByText := true, laidKinds := [.data], laidTests := true, laidLooks := .later }
def FnExactHistoryOfCardSaid : Prop := Claim7.holds Tryd.pinned (.plain (OpenSpec.ofChange fnExactHistoryOfSpec)) fnExactHistoryOfCard

/-- THE TIED CARD OF 'laws.FnExactCircuitOfGraph'. -/
def fnExactCircuitOfGraphCard : Claim7 := { stood := { row := fnExactCircuitOfGraphRow, standIns := [], harness := (true, "69b9ac64ab10b01331ace09ff6ceb5f63162a836dba516c575b887039db8b8c1"), looks := false }, kinds := [], alts := [], laidByText := true, laidKinds := [.data], laidTests := true, laidLooks := .later }
def FnExactCircuitOfGraphCardSaid : Prop := Claim7.holds Tryd.pinned (.plain (OpenSpec.ofChange fnExactCircuitOfGraphSpec)) fnExactCircuitOfGraphCard

/-- THE SECOND FORM's CARD OF 'laws.FnExactOptimizeCircuit'. -/
def fnExactOptimizeCircuitUptoCard : Claim7 := { stood := { row := fnExactOptimizeCircuitUptoRow, standIns := [], harness := (true, "69b9ac64ab10b01331ace09ff6ceb5f63162a836dba516c575b887039db8b8c1"), looks := false }, kinds := [], alts := [], laidByText := true, laidKinds := [.data], laidTests := true, laidLooks := .later }
def FnExactOptimizeCircuitUptoCardSaid : Prop := Claim7.holds Tryd.pinned (.plain (OpenSpec.upto fnExactOptimizeCircuitSpec)) fnExactOptimizeCircuitUptoCard

/-- THE SECOND FORM's CARD OF 'laws.FnExactCircuitOfSpace'. -/
def fnExactCircuitOfSpaceUptoCard : Claim7 := { stood := { row := fnExactCircuitOfSpaceUptoRow, standIns := [], harness := (true, "69b9ac64ab10b01331ace09ff6ceb5f63162a836dba516c575b887039db8b8c1"), looks := false }, kinds := [], alts := [], laidByText := true, laidKinds := [.data], laidTests := true, laidLooks := .later }
def FnExactCircuitOfSpaceUptoCardSaid : Prop := Claim7.holds Tryd.pinned (.plain (OpenSpec.upto fnExactCircuitOfSpaceSpec)) fnExactCircuitOfSpaceUptoCard

/-- THE SECOND FORM's CARD OF 'laws.FnExactTransformSpace'. -/
def fnExactTransformSpaceUptoCard : Claim7 := { stood := { row := fnExactTransformSpaceUptoRow, standIns := [], harness := (true, "69b9ac64ab10b01331ace09ff6ceb5f63162a836dba516c575b887039db8b8c1"), looks := false }, kinds := [], alts := [], laidByText := true, laidKinds := [.data], laidTests := true, laidLooks := .later }
def FnExactTransformSpaceUptoCardSaid : Prop := Claim7.holds Tryd.pinned (.plain (OpenSpec.upto fnExactTransformSpaceSpec)) fnExactTransformSpaceUptoCard

/-- THE SECOND FORM's CARD OF 'laws.FnExactIsSession'. -/
def fnExactIsSessionUptoCard : Claim7 := { stood := { row := fnExactIsSessionUptoRow, standIns := [], harness := (true, "69b9ac64ab10b01331ace09ff6ceb5f63162a836dba516c575b887039db8b8c1"), looks := false }, kinds := [], alts := [], laidByText := true, laidKinds := [.data], laidTests := true, laidLooks := .later }
def FnExactIsSessionUptoCardSaid : Prop := Claim7.holds Tryd.pinned (.plain (OpenSpec.upto fnExactIsSessionSpec)) fnExactIsSessionUptoCard

/-- THE SECOND FORM's CARD OF 'laws.FnExactHistoryOf'. -/
def fnExactHistoryOfUptoCard : Claim7 := { stood := { row := fnExactHistoryOfUptoRow, standIns := [], harness := (true, "69b9ac64ab10b01331ace09ff6ceb5f63162a836dba516c575b887039db8b8c1"), looks := false }, kinds := [], alts := [], laidByText := true, laidKinds := [.data], laidTests := true, laidLooks := .later }
def FnExactHistoryOfUptoCardSaid : Prop := Claim7.holds Tryd.pinned (.plain (OpenSpec.upto fnExactHistoryOfSpec)) fnExactHistoryOfUptoCard

/-- THE SECOND FORM's CARD OF 'laws.FnExactCircuitOfGraph'. -/
def fnExactCircuitOfGraphUptoCard : Claim7 := { stood := { row := fnExactCircuitOfGraphUptoRow, standIns := [], harness := (true, "69b9ac64ab10b01331ace09ff6ceb5f63162a836dba516c575b887039db8b8c1"), looks := false }, kinds := [], alts := [], laidByText := true, laidKinds := [.data], laidTests := true, laidLooks := .later }
def FnExactCircuitOfGraphUptoCardSaid : Prop := Claim7.holds Tryd.pinned (.plain (OpenSpec.upto fnExactCircuitOfGraphSpec)) fnExactCircuitOfGraphUptoCard
end Rows
end Go.Proofs.YtkamcgonacmieaaDoor
