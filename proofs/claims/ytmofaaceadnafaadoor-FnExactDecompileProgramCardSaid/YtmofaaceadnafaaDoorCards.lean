/-
  DERIVED. GIVEN WITH THE SEED: THE CARDS: each row of YtmofaaceadnafaaDoorRows.lean that lists a variable, with what it lists TIED to the program's text (the seventh form; the later family's looks); each row that meets fmt, with fmt's text TOLD by the authors' own Lean function (tested against real Go, not proved from fmt's source: count such statements apart). THE CARD IS WHAT COUNTS. Prove the row's statement (the work); the ties are given (YtmofaaceadnafaaDoorTie.lean); close each card by the builder's one call (the guide's Derived/Test/ToyasCard.lean, 'card_holds'). Laid BY PROGRAM, IN A SANDBOX (cutbox-door.mjs). By AI agents, Wed Nov 11 2026. No macro, syntax, notation, axiom, sorry.
-/
import Derived.Test.YtmofaaceadnafaaDoorRows
import GoSem.ClaimSeven
namespace Go.Proofs.YtmofaaceadnafaaDoor
namespace Rows

/-- THE TIED CARD OF 'laws.FnExactSimplifyGates'. -/
def fnExactSimplifyGatesCard : Claim7 := { stood := { row := fnExactSimplifyGatesRow, standIns := [], harness := (true, "dd7f462a7f4e4b30765f256310772fe3240593636c2b9e225d0f2064bcd73c78"), looks := false }, kinds := [], alts := [], laidByText := true, laidKinds := [.data], laidTests := true, laidLooks := .later }
def FnExactSimplifyGatesCardSaid : Prop := Claim7.holds Tryd.pinned (.plain (OpenSpec.ofChange fnExactSimplifyGatesSpec)) fnExactSimplifyGatesCard

/-- THE TIED CARD OF 'laws.FnExactShareGates'. -/
def fnExactShareGatesCard : Claim7 := { stood := { row := fnExactShareGatesRow, standIns := [], harness := (true, "dd7f462a7f4e4b30765f256310772fe3240593636c2b9e225d0f2064bcd73c78"), looks := false }, kinds := [], alts := [], laidByText := true, laidKinds := [.data], laidTests := true, laidLooks := .later }
def FnExactShareGatesCardSaid : Prop := Claim7.holds Tryd.pinned (.plain (OpenSpec.ofChange fnExactShareGatesSpec)) fnExactShareGatesCard

/-- THE TIED CARD OF 'laws.FnExactOptimizeCircuit'. -/
def fnExactOptimizeCircuitCard : Claim7 := { stood := { row := fnExactOptimizeCircuitRow, standIns := [], harness := (true, "dd7f462a7f4e4b30765f256310772fe3240593636c2b9e225d0f2064bcd73c78"), looks := false }, kinds := [], alts := [], laidByText := true, laidKinds := [.data], laidTests := true, laidLooks := .later }
def FnExactOptimizeCircuitCardSaid : Prop := Claim7.holds Tryd.pinned (.plain (OpenSpec.ofChange fnExactOptimizeCircuitSpec)) fnExactOptimizeCircuitCard

/-- THE TIED CARD OF 'laws.FnExactDecompileProgram'. -/
def fnExactDecompileProgramCard : Claim7 := { stood := { row := fnExactDecompileProgramRow, standIns := [], harness := (true, "dd7f462a7f4e4b30765f256310772fe3240593636c2b9e225d0f2064bcd73c78"), looks := false }, kinds := [], alts := [], laidByText := true, laidKinds := [.data], laidTests := true, laidLooks := .later }
def FnExactDecompileProgramCardSaid : Prop := Claim7.holds Tryd.pinned (.plain (OpenSpec.ofChange fnExactDecompileProgramSpec)) fnExactDecompileProgramCard

/-- THE TIED CARD OF 'laws.FnExactCircuitOfSpace'. -/
def fnExactCircuitOfSpaceCard : Claim7 := { stood := { row := fnExactCircuitOfSpaceRow, standIns := [], harness := (true, "dd7f462a7f4e4b30765f256310772fe3240593636c2b9e225d0f2064bcd73c78"), looks := false }, kinds := [], alts := [], laidByText := true, laidKinds := [.data], laidTests := true, laidLooks := .later }
def FnExactCircuitOfSpaceCardSaid : Prop := Claim7.holds Tryd.pinned (.plain (OpenSpec.ofChange fnExactCircuitOfSpaceSpec)) fnExactCircuitOfSpaceCard

/-- THE SECOND FORM's CARD OF 'laws.FnExactSimplifyGates'. -/
def fnExactSimplifyGatesUptoCard : Claim7 := { stood := { row := fnExactSimplifyGatesUptoRow, standIns := [], harness := (true, "dd7f462a7f4e4b30765f256310772fe3240593636c2b9e225d0f2064bcd73c78"), looks := false }, kinds := [], alts := [], laidByText := true, laidKinds := [.data], laidTests := true, laidLooks := .later }
def FnExactSimplifyGatesUptoCardSaid : Prop := Claim7.holds Tryd.pinned (.plain (OpenSpec.upto fnExactSimplifyGatesSpec)) fnExactSimplifyGatesUptoCard

/-- THE SECOND FORM's CARD OF 'laws.FnExactShareGates'. -/
def fnExactShareGatesUptoCard : Claim7 := { stood := { row := fnExactShareGatesUptoRow, standIns := [], harness := (true, "dd7f462a7f4e4b30765f256310772fe3240593636c2b9e225d0f2064bcd73c78"), looks := false }, kinds := [], alts := [], laidByText := true, laidKinds := [.data], laidTests := true, laidLooks := .later }
def FnExactShareGatesUptoCardSaid : Prop := Claim7.holds Tryd.pinned (.plain (OpenSpec.upto fnExactShareGatesSpec)) fnExactShareGatesUptoCard

/-- THE SECOND FORM's CARD OF 'laws.FnExactOptimizeCircuit'. -/
def fnExactOptimizeCircuitUptoCard : Claim7 := { stood := { row := fnExactOptimizeCircuitUptoRow, standIns := [], harness := (true, "dd7f462a7f4e4b30765f256310772fe3240593636c2b9e225d0f2064bcd73c78"), looks := false }, kinds := [], alts := [], laidByText := true, laidKinds := [.data], laidTests := true, laidLooks := .later }
def FnExactOptimizeCircuitUptoCardSaid : Prop := Claim7.holds Tryd.pinned (.plain (OpenSpec.upto fnExactOptimizeCircuitSpec)) fnExactOptimizeCircuitUptoCard

/-- THE SECOND FORM's CARD OF 'laws.FnExactDecompileProgram'. -/
def fnExactDecompileProgramUptoCard : Claim7 := { stood := { row := fnExactDecompileProgramUptoRow, standIns := [], harness := (true, "dd7f462a7f4e4b30765f256310772fe3240593636c2b9e225d0f2064bcd73c78"), looks := false }, kinds := [], alts := [], laidByText := true, laidKinds := [.data], laidTests := true, laidLooks := .later }
def FnExactDecompileProgramUptoCardSaid : Prop := Claim7.holds Tryd.pinned (.plain (OpenSpec.upto fnExactDecompileProgramSpec)) fnExactDecompileProgramUptoCard

/-- THE SECOND FORM's CARD OF 'laws.FnExactCircuitOfSpace'. -/
def fnExactCircuitOfSpaceUptoCard : Claim7 := { stood := { row := fnExactCircuitOfSpaceUptoRow, standIns := [], harness := (true, "dd7f462a7f4e4b30765f256310772fe3240593636c2b9e225d0f2064bcd73c78"), looks := false }, kinds := [], alts := [], laidByText := true, laidKinds := [.data], laidTests := true, laidLooks := .later }
def FnExactCircuitOfSpaceUptoCardSaid : Prop := Claim7.holds Tryd.pinned (.plain (OpenSpec.upto fnExactCircuitOfSpaceSpec)) fnExactCircuitOfSpaceUptoCard
end Rows
end Go.Proofs.YtmofaaceadnafaaDoor
