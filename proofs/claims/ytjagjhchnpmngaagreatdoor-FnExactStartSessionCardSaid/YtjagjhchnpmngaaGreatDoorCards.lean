/-
  DERIVED. GIVEN WITH THE SEED: THE CARDS: each row of YtjagjhchnpmngaaGreatDoorRows.lean that lists a variable, with what it lists TIED to the program's text (the seventh form; the later family's looks); each row that meets fmt, with fmt's text TOLD by the authors' own Lean function (tested against real Go, not proved from fmt's source: count such statements apart). THE CARD IS WHAT COUNTS. Prove the row's statement (the work); the ties are given (YtjagjhchnpmngaaGreatDoorTie.lean); close each card by the builder's one call (the guide's Derived/Test/ToyasCard.lean, 'card_holds'). Laid BY PROGRAM, IN A SANDBOX (cutbox-door.mjs). By AI agents, Wed Nov 11 2026. No macro, syntax, notation, axiom, sorry.
-/
import Derived.Test.YtjagjhchnpmngaaGreatDoorRows
import GoSem.ClaimSeven
namespace Go.Proofs.YtjagjhchnpmngaaGreatDoor
namespace Rows

/-- THE TIED CARD OF 'laws.FnExactStartSession'. -/
def fnExactStartSessionCard : Claim7 := { stood := { row := fnExactStartSessionRow, standIns := [], harness := (true, "7685336f11734952284c5efcb3b4ff1e82b0ad08fa419c681350603ca6ca346c"), looks := false }, kinds := [], alts := [], laidByText := true, laidKinds := [.data], laidTests := true, laidLooks := .later }
def FnExactStartSessionCardSaid : Prop := Claim7.holds Tryz.pinned (.plain (OpenSpec.ofChange fnExactStartSessionSpec)) fnExactStartSessionCard

/-- THE SECOND FORM's CARD OF 'laws.FnExactStartSession'. -/
def fnExactStartSessionUptoCard : Claim7 := { stood := { row := fnExactStartSessionUptoRow, standIns := [], harness := (true, "7685336f11734952284c5efcb3b4ff1e82b0ad08fa419c681350603ca6ca346c"), looks := false }, kinds := [], alts := [], laidByText := true, laidKinds := [.data], laidTests := true, laidLooks := .later }
def FnExactStartSessionUptoCardSaid : Prop := Claim7.holds Tryz.pinned (.plain (OpenSpec.upto fnExactStartSessionSpec)) fnExactStartSessionUptoCard
end Rows
end Go.Proofs.YtjagjhchnpmngaaGreatDoor
