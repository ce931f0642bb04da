/-
  DERIVED. GIVEN WITH THE SEED: THE CARDS: each row of YtlpgjnjhhgjkmaaDoorRows.lean that lists a variable, with what it lists TIED to the program's text (the seventh form; the later family's looks); each row that meets fmt, with fmt's text TOLD by the authors' own Lean function (tested against real Go, not proved from fmt's source: count such statements apart). THE CARD IS WHAT COUNTS. Prove the row's statement (the work); the ties are given (YtlpgjnjhhgjkmaaDoorTie.lean); close each card by the builder's one call (the guide's Derived/Test/ToyasCard.lean, 'card_holds'). Laid BY PROGRAM, IN A SANDBOX (cutbox-door.mjs). By AI agents, Wed Nov 11 2026. No macro, syntax, notation, axiom, sorry.
-/
import Derived.Test.YtlpgjnjhhgjkmaaDoorRows
import GoSem.ClaimSeven
namespace Go.Proofs.YtlpgjnjhhgjkmaaDoor
namespace Rows

/-- THE TIED CARD OF 'laws.FnExactIsSession'. -/
def fnExactIsSessionCard : Claim7 := { stood := { row := fnExactIsSessionRow, standIns := [], harness := (true, "8c7693626401fc8e0627d3390e7842ce409326dbbad3235c44d71dc6141819df"), looks := false }, kinds := [], alts := [], laidByText := true, laidKinds := [.data], laidTests := true, laidLooks := .later }
def FnExactIsSessionCardSaid : Prop := Claim7.holds Tryd.pinned (.plain (OpenSpec.ofChange fnExactIsSessionSpec)) fnExactIsSessionCard

/-- THE TIED CARD OF 'laws.FnExactHistoryOf'. -/
def fnExactHistoryOfCard : Claim7 := { stood := { row := fnExactHistoryOfRow, standIns := [], harness := (true, "8c7693626401fc8e0627d3390e7842ce409326dbbad3235c44d71dc6141819df"), looks := false }, kinds := [], alts := [], laidByText := true, laidKinds := [.data], laidTests := true, laidLooks := .later }
def FnExactHistoryOfCardSaid : Prop := Claim7.holds Tryd.pinned (.plain (OpenSpec.ofChange fnExactHistoryOfSpec)) fnExactHistoryOfCard

/-- THE SECOND FORM's CARD OF 'laws.FnExactIsSession'. -/
def fnExactIsSessionUptoCard : Claim7 := { stood := { row := fnExactIsSessionUptoRow, standIns := [], harness := (true, "8c7693626401fc8e0627d3390e7842ce409326dbbad3235c44d71dc6141819df"), looks := false }, kinds := [], alts := [], laidByText := true, laidKinds := [.data], laidTests := true, laidLooks := .later }
def FnExactIsSessionUptoCardSaid : Prop := Claim7.holds Tryd.pinned (.plain (OpenSpec.upto fnExactIsSessionSpec)) fnExactIsSessionUptoCard

/-- THE SECOND FORM's CARD OF 'laws.FnExactHistoryOf'. -/
def fnExactHistoryOfUptoCard : Claim7 := { stood := { row := fnExactHistoryOfUptoRow, standIns := [], harness := (true, "8c7693626401fc8e0627d3390e7842ce409326dbbad3235c44d71dc6141819df"), looks := false }, kinds := [], alts := [], laidByText := true, laidKinds := [.data], laidTests := true, laidLooks := .later }
def FnExactHistoryOfUptoCardSaid : Prop := Claim7.holds Tryd.pinned (.plain (OpenSpec.upto fnExactHistoryOfSpec)) fnExactHistoryOfUptoCard
end Rows
end Go.Proofs.YtlpgjnjhhgjkmaaDoor
