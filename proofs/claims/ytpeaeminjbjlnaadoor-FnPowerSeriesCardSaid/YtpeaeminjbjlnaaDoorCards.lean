/-
  DERIVED. GIVEN WITH THE SEED: THE CARDS: each row of YtpeaeminjbjlnaaDoorRows.lean that lists a variable, with what it lists TIED to the program's text (the seventh form; the later family's looks); each row that meets fmt, with fmt's text TOLD by the authors' own Lean function (tested against real Go, not proved from fmt's source: count such statements apart). THE CARD IS WHAT COUNTS. Prove the row's statement (the work); the ties are given (YtpeaeminjbjlnaaDoorTie.lean); close each card by the builder's one call (the guide's Derived/Test/ToyasCard.lean, 'card_holds'). Laid BY PROGRAM, IN A SANDBOX (cutbox-door.mjs). By AI agents, Wed Nov 11 2026. No macro, syntax, notation, axiom, sorry.
-/
import Derived.Test.YtpeaeminjbjlnaaDoorRows
import GoSem.ClaimSeven
namespace Go.Proofs.YtpeaeminjbjlnaaDoor
namespace Rows

/-- THE TIED CARD OF 'laws.FnPolynomials'. -/
def fnPolynomialsCard : Claim7 := { stood := { row := fnPolynomialsRow, standIns := [], harness := (true, "71352554c1f02e39f2f536c9925f79a970cc3c2a3650caff1553c0e82b24d479"), looks := false }, kinds := [], alts := [], laidByText := true, laidKinds := [.data], laidTests := true, laidLooks := .later }
def FnPolynomialsCardSaid : Prop := Claim7.holds Tryd.pinned (.plain (OpenSpec.ofChange fnPolynomialsSpec)) fnPolynomialsCard

/-- THE TIED CARD OF 'laws.FnRowReduction'. -/
def fnRowReductionCard : Claim7 := { stood := { row := fnRowReductionRow, standIns := [], harness := (true, "71352554c1f02e39f2f536c9925f79a970cc3c2a3650caff1553c0e82b24d479"), looks := false }, kinds := [], alts := [], laidByText := true, laidKinds := [.data], laidTests := true, laidLooks := .later }
def FnRowReductionCardSaid : Prop := Claim7.holds Tryd.pinned (.plain (OpenSpec.ofChange fnRowReductionSpec)) fnRowReductionCard

/-- THE TIED CARD OF 'laws.FnPowerSeries'. -/
def fnPowerSeriesCard : Claim7 := { stood := { row := fnPowerSeriesRow, standIns := [], harness := (true, "71352554c1f02e39f2f536c9925f79a970cc3c2a3650caff1553c0e82b24d479"), looks := false }, kinds := [], alts := [], laidByText := true, laidKinds := [.data], laidTests := true, laidLooks := .later }
def FnPowerSeriesCardSaid : Prop := Claim7.holds Tryd.pinned (.plain (OpenSpec.ofChange fnPowerSeriesSpec)) fnPowerSeriesCard

/-- THE TIED CARD OF 'laws.FnRelations'. -/
def fnRelationsCard : Claim7 := { stood := { row := fnRelationsRow, standIns := [], harness := (true, "71352554c1f02e39f2f536c9925f79a970cc3c2a3650caff1553c0e82b24d479"), looks := false }, kinds := [], alts := [], laidByText := true, laidKinds := [.data], laidTests := true, laidLooks := .later }
def FnRelationsCardSaid : Prop := Claim7.holds Tryd.pinned (.plain (OpenSpec.ofChange fnRelationsSpec)) fnRelationsCard

/-- THE TIED CARD OF 'laws.FnSpaces'. -/
def fnSpacesCard : Claim7 := { stood := { row := fnSpacesRow, standIns := [], harness := (true, "71352554c1f02e39f2f536c9925f79a970cc3c2a3650caff1553c0e82b24d479"), looks := false }, kinds := [], alts := [], laidByText := true, laidKinds := [.data], laidTests := true, laidLooks := .later }
def FnSpacesCardSaid : Prop := Claim7.holds Tryd.pinned (.plain (OpenSpec.ofChange fnSpacesSpec)) fnSpacesCard

/-- THE TIED CARD OF 'laws.FnMatrixRing'. -/
def fnMatrixRingCard : Claim7 := { stood := { row := fnMatrixRingRow, standIns := [], harness := (true, "71352554c1f02e39f2f536c9925f79a970cc3c2a3650caff1553c0e82b24d479"), looks := false }, kinds := [], alts := [], laidByText := true, laidKinds := [.data], laidTests := true, laidLooks := .later }
def FnMatrixRingCardSaid : Prop := Claim7.holds Tryd.pinned (.plain (OpenSpec.ofChange fnMatrixRingSpec)) fnMatrixRingCard

/-- THE TIED CARD OF 'laws.FnSeparators'. -/
def fnSeparatorsCard : Claim7 := { stood := { row := fnSeparatorsRow, standIns := [], harness := (true, "71352554c1f02e39f2f536c9925f79a970cc3c2a3650caff1553c0e82b24d479"), looks := false }, kinds := [], alts := [], laidByText := true, laidKinds := [.data], laidTests := true, laidLooks := .later }
def FnSeparatorsCardSaid : Prop := Claim7.holds Tryd.pinned (.plain (OpenSpec.ofChange fnSeparatorsSpec)) fnSeparatorsCard

/-- THE TIED CARD OF 'laws.FnFunctions'. -/
def fnFunctionsCard : Claim7 := { stood := { row := fnFunctionsRow, standIns := [], harness := (true, "71352554c1f02e39f2f536c9925f79a970cc3c2a3650caff1553c0e82b24d479"), looks := false }, kinds := [], alts := [], laidByText := true, laidKinds := [.data], laidTests := true, laidLooks := .later }
def FnFunctionsCardSaid : Prop := Claim7.holds Tryd.pinned (.plain (OpenSpec.ofChange fnFunctionsSpec)) fnFunctionsCard

/-- THE TIED CARD OF 'laws.FnChoices'. -/
def fnChoicesCard : Claim7 := { stood := { row := fnChoicesRow, standIns := [], harness := (true, "71352554c1f02e39f2f536c9925f79a970cc3c2a3650caff1553c0e82b24d479"), looks := false }, kinds := [], alts := [], laidByText := true, laidKinds := [.data], laidTests := true, laidLooks := .later }
def FnChoicesCardSaid : Prop := Claim7.holds Tryd.pinned (.plain (OpenSpec.ofChange fnChoicesSpec)) fnChoicesCard

/-- THE TIED CARD OF 'laws.FnOrthogonals'. -/
def fnOrthogonalsCard : Claim7 := { stood := { row := fnOrthogonalsRow, standIns := [], harness := (true, "71352554c1f02e39f2f536c9925f79a970cc3c2a3650caff1553c0e82b24d479"), looks := false }, kinds := [], alts := [], laidByText := true, laidKinds := [.data], laidTests := true, laidLooks := .later }
def FnOrthogonalsCardSaid : Prop := Claim7.holds Tryd.pinned (.plain (OpenSpec.ofChange fnOrthogonalsSpec)) fnOrthogonalsCard

/-- THE SECOND FORM's CARD OF 'laws.FnPolynomials'. -/
def fnPolynomialsUptoCard : Claim7 := { stood := { row := fnPolynomialsUptoRow, standIns := [], harness := (true, "71352554c1f02e39f2f536c9925f79a970cc3c2a3650caff1553c0e82b24d479"), looks := false }, kinds := [], alts := [], laidByText := true, laidKinds := [.data], laidTests := true, laidLooks := .later }
def FnPolynomialsUptoCardSaid : Prop := Claim7.holds Tryd.pinned (.plain (OpenSpec.upto fnPolynomialsSpec)) fnPolynomialsUptoCard

/-- THE SECOND FORM's CARD OF 'laws.FnRowReduction'. -/
def fnRowReductionUptoCard : Claim7 := { stood := { row := fnRowReductionUptoRow, standIns := [], harness := (true, "71352554c1f02e39f2f536c9925f79a970cc3c2a3650caff1553c0e82b24d479"), looks := false }, kinds := [], alts := [], laidByText := true, laidKinds := [.data], laidTests := true, laidLooks := .later }
def FnRowReductionUptoCardSaid : Prop := Claim7.holds Tryd.pinned (.plain (OpenSpec.upto fnRowReductionSpec)) fnRowReductionUptoCard

/-- THE SECOND FORM's CARD OF 'laws.FnPowerSeries'. -/
def fnPowerSeriesUptoCard : Claim7 := { stood := { row := fnPowerSeriesUptoRow, standIns := [], harness := (true, "71352554c1f02e39f2f536c9925f79a970cc3c2a3650caff1553c0e82b24d479"), looks := false }, kinds := [], alts := [], laidByText := true, laidKinds := [.data], laidTests := true, laidLooks := .later }
def FnPowerSeriesUptoCardSaid : Prop := Claim7.holds Tryd.pinned (.plain (OpenSpec.upto fnPowerSeriesSpec)) fnPowerSeriesUptoCard

/-- THE SECOND FORM's CARD OF 'laws.FnRelations'. -/
def fnRelationsUptoCard : Claim7 := { stood := { row := fnRelationsUptoRow, standIns := [], harness := (true, "71352554c1f02e39f2f536c9925f79a970cc3c2a3650caff1553c0e82b24d479"), looks := false }, kinds := [], alts := [], laidByText := true, laidKinds := [.data], laidTests := true, laidLooks := .later }
def FnRelationsUptoCardSaid : Prop := Claim7.holds Tryd.pinned (.plain (OpenSpec.upto fnRelationsSpec)) fnRelationsUptoCard

/-- THE SECOND FORM's CARD OF 'laws.FnSpaces'. -/
def fnSpacesUptoCard : Claim7 := { stood := { row := fnSpacesUptoRow, standIns := [], harness := (true, "71352554c1f02e39f2f536c9925f79a970cc3c2a3650caff1553c0e82b24d479"), looks := false }, kinds := [], alts := [], laidByText := true, laidKinds := [.data], laidTests := true, laidLooks := .later }
def FnSpacesUptoCardSaid : Prop := Claim7.holds Tryd.pinned (.plain (OpenSpec.upto fnSpacesSpec)) fnSpacesUptoCard

/-- THE SECOND FORM's CARD OF 'laws.FnMatrixRing'. -/
def fnMatrixRingUptoCard : Claim7 := { stood := { row := fnMatrixRingUptoRow, standIns := [], harness := (true, "71352554c1f02e39f2f536c9925f79a970cc3c2a3650caff1553c0e82b24d479"), looks := false }, kinds := [], alts := [], laidByText := true, laidKinds := [.data], laidTests := true, laidLooks := .later }
def FnMatrixRingUptoCardSaid : Prop := Claim7.holds Tryd.pinned (.plain (OpenSpec.upto fnMatrixRingSpec)) fnMatrixRingUptoCard

/-- THE SECOND FORM's CARD OF 'laws.FnSeparators'. -/
def fnSeparatorsUptoCard : Claim7 := { stood := { row := fnSeparatorsUptoRow, standIns := [], harness := (true, "71352554c1f02e39f2f536c9925f79a970cc3c2a3650caff1553c0e82b24d479"), looks := false }, kinds := [], alts := [], laidByText := true, laidKinds := [.data], laidTests := true, laidLooks := .later }
def FnSeparatorsUptoCardSaid : Prop := Claim7.holds Tryd.pinned (.plain (OpenSpec.upto fnSeparatorsSpec)) fnSeparatorsUptoCard

/-- THE SECOND FORM's CARD OF 'laws.FnFunctions'. -/
def fnFunctionsUptoCard : Claim7 := { stood := { row := fnFunctionsUptoRow, standIns := [], harness := (true, "71352554c1f02e39f2f536c9925f79a970cc3c2a3650caff1553c0e82b24d479"), looks := false }, kinds := [], alts := [], laidByText := true, laidKinds := [.data], laidTests := true, laidLooks := .later }
def FnFunctionsUptoCardSaid : Prop := Claim7.holds Tryd.pinned (.plain (OpenSpec.upto fnFunctionsSpec)) fnFunctionsUptoCard

/-- THE SECOND FORM's CARD OF 'laws.FnChoices'. -/
def fnChoicesUptoCard : Claim7 := { stood := { row := fnChoicesUptoRow, standIns := [], harness := (true, "71352554c1f02e39f2f536c9925f79a970cc3c2a3650caff1553c0e82b24d479"), looks := false }, kinds := [], alts := [], laidByText := true, laidKinds := [.data], laidTests := true, laidLooks := .later }
def FnChoicesUptoCardSaid : Prop := Claim7.holds Tryd.pinned (.plain (OpenSpec.upto fnChoicesSpec)) fnChoicesUptoCard

/-- THE SECOND FORM's CARD OF 'laws.FnOrthogonals'. -/
def fnOrthogonalsUptoCard : Claim7 := { stood := { row := fnOrthogonalsUptoRow, standIns := [], harness := (true, "71352554c1f02e39f2f536c9925f79a970cc3c2a3650caff1553c0e82b24d479"), looks := false }, kinds := [], alts := [], laidByText := true, laidKinds := [.data], laidTests := true, laidLooks := .later }
def FnOrthogonalsUptoCardSaid : Prop := Claim7.holds Tryd.pinned (.plain (OpenSpec.upto fnOrthogonalsSpec)) fnOrthogonalsUptoCard
end Rows
end Go.Proofs.YtpeaeminjbjlnaaDoor
