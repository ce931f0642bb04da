/-
  DERIVED. GIVEN WITH THE SEED: THE CARDS: each row of YtmnpcooaijpigaaDoorRows.lean that lists a variable, with what it lists TIED to the program's text (the seventh form; the later family's looks); each row that meets fmt, with fmt's text TOLD by the authors' own Lean function (tested against real Go, not proved from fmt's source: count such statements apart). THE CARD IS WHAT COUNTS. Prove the row's statement (the work); the ties are given (YtmnpcooaijpigaaDoorTie.lean); close each card by the builder's one call (the guide's Derived/Test/ToyasCard.lean, 'card_holds'). Laid BY PROGRAM, IN A SANDBOX (cutbox-door.mjs). By AI agents, Wed Nov 11 2026. No macro, syntax, notation, axiom, sorry.
-/
import Derived.Test.YtmnpcooaijpigaaDoorRows
import GoSem.ClaimSeven
namespace Go.Proofs.YtmnpcooaijpigaaDoor
namespace Rows

/-- THE TIED CARD OF 'laws.FnFields'. -/
def fnFieldsCard : Claim7 := { stood := { row := fnFieldsRow, standIns := [], harness := (true, "b5a7df10ac64ddcb6b83f4e4edf9683adb74476e71ba0bf1aa9dbb84e03baac1"), looks := false }, kinds := [], alts := [], laidByText := true, laidKinds := [.data], laidTests := true, laidLooks := .later }
def FnFieldsCardSaid : Prop := Claim7.holds Tryd.pinned (.plain (OpenSpec.ofChange fnFieldsSpec)) fnFieldsCard

/-- THE TIED CARD OF 'laws.FnFieldRoots'. -/
def fnFieldRootsCard : Claim7 := { stood := { row := fnFieldRootsRow, standIns := [], harness := (true, "b5a7df10ac64ddcb6b83f4e4edf9683adb74476e71ba0bf1aa9dbb84e03baac1"), looks := false }, kinds := [], alts := [], laidByText := true, laidKinds := [.data], laidTests := true, laidLooks := .later }
def FnFieldRootsCardSaid : Prop := Claim7.holds Tryd.pinned (.plain (OpenSpec.ofChange fnFieldRootsSpec)) fnFieldRootsCard

/-- THE TIED CARD OF 'laws.FnExactIsScript'. -/
def fnExactIsScriptCard : Claim7 := { stood := { row := fnExactIsScriptRow, standIns := [], harness := (true, "b5a7df10ac64ddcb6b83f4e4edf9683adb74476e71ba0bf1aa9dbb84e03baac1"), looks := false }, kinds := [], alts := [], laidByText := true, laidKinds := [.data, .pinned], laidTests := true, laidLooks := .later }
def FnExactIsScriptCardSaid : Prop := Claim7.holds Tryd.pinned (.plain (OpenSpec.ofChange fnExactIsScriptSpec)) fnExactIsScriptCard

/-- THE SECOND FORM's CARD OF 'laws.FnFields'. -/
def fnFieldsUptoCard : Claim7 := { stood := { row := fnFieldsUptoRow, standIns := [], harness := (true, "b5a7df10ac64ddcb6b83f4e4edf9683adb74476e71ba0bf1aa9dbb84e03baac1"), looks := false }, kinds := [], alts := [], laidByText := true, laidKinds := [.data], laidTests := true, laidLooks := .later }
def FnFieldsUptoCardSaid : Prop := Claim7.holds Tryd.pinned (.plain (OpenSpec.upto fnFieldsSpec)) fnFieldsUptoCard

/-- THE SECOND FORM's CARD OF 'laws.FnFieldRoots'. -/
def fnFieldRootsUptoCard : Claim7 := { stood := { row := fnFieldRootsUptoRow, standIns := [], harness := (true, "b5a7df10ac64ddcb6b83f4e4edf9683adb74476e71ba0bf1aa9dbb84e03baac1"), looks := false }, kinds := [], alts := [], laidByText := true, laidKinds := [.data], laidTests := true, laidLooks := .later }
def FnFieldRootsUptoCardSaid : Prop := Claim7.holds Tryd.pinned (.plain (OpenSpec.upto fnFieldRootsSpec)) fnFieldRootsUptoCard

/-- THE SECOND FORM's CARD OF 'laws.FnExactIsScript'. -/
def fnExactIsScriptUptoCard : Claim7 := { stood := { row := fnExactIsScriptUptoRow, standIns := [], harness := (true, "b5a7df10ac64ddcb6b83f4e4edf9683adb74476e71ba0bf1aa9dbb84e03baac1"), looks := false }, kinds := [], alts := [], laidByText := true, laidKinds := [.data, .pinned], laidTests := true, laidLooks := .later }
def FnExactIsScriptUptoCardSaid : Prop := Claim7.holds Tryd.pinned (.plain (OpenSpec.upto fnExactIsScriptSpec)) fnExactIsScriptUptoCard
end Rows
end Go.Proofs.YtmnpcooaijpigaaDoor
