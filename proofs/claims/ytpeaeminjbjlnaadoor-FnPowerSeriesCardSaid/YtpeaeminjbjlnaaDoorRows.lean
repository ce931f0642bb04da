/-
  NARROWER THAN 'FOR EVERY INPUT', by the rows' own cells (each row's printed sentence says how): FnPolynomials: laid · FnRowReduction: laid · FnPowerSeries: laid · FnRelations: laid · FnSpaces: laid · FnMatrixRing: laid · FnSeparators: laid · FnFunctions: laid · FnChoices: laid · FnOrthogonals: laid.
  DERIVED. THE GIVEN ROWS OF THIS SEAT. 10 by the template 'for every input the law returns true; each argument reads behind the call as it read before'; 0 by the template 'total and deterministic' (their statements: YtpeaeminjbjlnaaDoorTotals.lean).
  GIVEN WITH THE SEED: the statements are not yours to turn. If you find one false, say at which input.
  Laid BY PROGRAM, IN A SANDBOX (cutbox-rows.mjs): the forced cells as the released guide's own fill.sh prints them over the translation 451b18a6a536c51c… (all of the seat's roots in one cut). By AI agents, Wed Nov 11 2026. No macro, syntax, notation, axiom, sorry.
-/
import Derived.Test.YtpeaeminjbjlnaaDoorChecked
import GoSem.Claim
import GoSem.ClaimJoined
import GoSem.ClaimMapViews
import Derived.JoinedTies
import Derived.KernelRfl
namespace Go.Proofs.YtpeaeminjbjlnaaDoor
/- THE CELL 'sum', in the pinned program and in every row, IS THE sha256 OF THE DUMP (.gsa) THAT YtpeaeminjbjlnaaDoorProg.lean LOADS. Nothing in Lean hashes anything: it is a label: what it is worth is what the hold of that sum in a sandbox is worth. -/
noncomputable def Tryd.pinned : Pinned := { name := "ytpeaeminjbjlnaadoor", sum := "451b18a6a536c51c642a3b0100a624b656aec7bb0041512e410a3b244e9f68ac", checked := Tryd.checked }
namespace Rows
def none {H : Type} : Left H := { results := [], args := [] }

/- WHAT THE LISTED PACKAGE-LEVEL VARIABLES READ AS WHEN THE CALL BEGINS. Each datum BY PROGRAM (the guide's laid-datum.mjs) off the statement by which the dump's own 'gosem.cut.vars' lays the variable. In a bare row this is a premise. The card (YtpeaeminjbjlnaaDoorCards.lean) ties it to the program's text. -/
def laid_loop_example_g01073_impl_smallPrimes {H : Type} : DataW H := .agg [.lit (.int .i64 2), .lit (.int .i64 3), .lit (.int .i64 5), .lit (.int .i64 7)]

/-- 'laws.FnPolynomials': WHATEVER THE INPUT: true; the input reads as it did. -/
def fnPolynomialsSpec : ChangeSpec := { name := "fnPolynomials", vars := ["loop.example/g01073/impl.smallPrimes"], fn := fun _ => fun
  | [d1, d2, g1] => { results := [.lit (.bool true)], args := [d1, d2], vars := [g1] }
  | _ => none }
def fnPolynomialsRow : OpenClaim := { program := "ytpeaeminjbjlnaadoor", sum := "451b18a6a536c51c642a3b0100a624b656aec7bb0041512e410a3b244e9f68ac", func := "loop.example/g01073/laws.FnPolynomials", spec := "fnPolynomials", unfollowed := true, recurses := true, named := ["loop.example/g01073/impl.smallPrimes"], apart := false, laid := [("loop.example/g01073/impl.smallPrimes", laid_loop_example_g01073_impl_smallPrimes)] }
def FnPolynomialsSaid : Prop := fnPolynomialsRow.holds Tryd.pinned (OpenSpec.ofChange fnPolynomialsSpec)

/-- ITS FALSE NEIGHBOUR: 'it returns false'. Refute it at one input. -/
def fnPolynomialsWrong : ChangeSpec := { name := "fnPolynomials", vars := ["loop.example/g01073/impl.smallPrimes"], fn := fun _ => fun
  | [d1, d2, g1] => { results := [.lit (.bool false)], args := [d1, d2], vars := [g1] }
  | _ => none }
def FnPolynomialsWrongFalsely : Prop := fnPolynomialsRow.holds Tryd.pinned (OpenSpec.ofChange fnPolynomialsWrong)

/-- 'laws.FnRowReduction': WHATEVER THE INPUT: true; the input reads as it did. -/
def fnRowReductionSpec : ChangeSpec := { name := "fnRowReduction", vars := ["loop.example/g01073/impl.smallPrimes"], fn := fun _ => fun
  | [d1, d2, g1] => { results := [.lit (.bool true)], args := [d1, d2], vars := [g1] }
  | _ => none }
def fnRowReductionRow : OpenClaim := { program := "ytpeaeminjbjlnaadoor", sum := "451b18a6a536c51c642a3b0100a624b656aec7bb0041512e410a3b244e9f68ac", func := "loop.example/g01073/laws.FnRowReduction", spec := "fnRowReduction", unfollowed := true, recurses := true, named := ["loop.example/g01073/impl.smallPrimes"], apart := false, laid := [("loop.example/g01073/impl.smallPrimes", laid_loop_example_g01073_impl_smallPrimes)] }
def FnRowReductionSaid : Prop := fnRowReductionRow.holds Tryd.pinned (OpenSpec.ofChange fnRowReductionSpec)

/-- ITS FALSE NEIGHBOUR: 'it returns false'. Refute it at one input. -/
def fnRowReductionWrong : ChangeSpec := { name := "fnRowReduction", vars := ["loop.example/g01073/impl.smallPrimes"], fn := fun _ => fun
  | [d1, d2, g1] => { results := [.lit (.bool false)], args := [d1, d2], vars := [g1] }
  | _ => none }
def FnRowReductionWrongFalsely : Prop := fnRowReductionRow.holds Tryd.pinned (OpenSpec.ofChange fnRowReductionWrong)

/-- 'laws.FnPowerSeries': WHATEVER THE INPUT: true; the input reads as it did. -/
def fnPowerSeriesSpec : ChangeSpec := { name := "fnPowerSeries", vars := ["loop.example/g01073/impl.smallPrimes"], fn := fun _ => fun
  | [d1, d2, g1] => { results := [.lit (.bool true)], args := [d1, d2], vars := [g1] }
  | _ => none }
def fnPowerSeriesRow : OpenClaim := { program := "ytpeaeminjbjlnaadoor", sum := "451b18a6a536c51c642a3b0100a624b656aec7bb0041512e410a3b244e9f68ac", func := "loop.example/g01073/laws.FnPowerSeries", spec := "fnPowerSeries", named := ["loop.example/g01073/impl.smallPrimes"], apart := false, laid := [("loop.example/g01073/impl.smallPrimes", laid_loop_example_g01073_impl_smallPrimes)] }
def FnPowerSeriesSaid : Prop := fnPowerSeriesRow.holds Tryd.pinned (OpenSpec.ofChange fnPowerSeriesSpec)

/-- ITS FALSE NEIGHBOUR: 'it returns false'. Refute it at one input. -/
def fnPowerSeriesWrong : ChangeSpec := { name := "fnPowerSeries", vars := ["loop.example/g01073/impl.smallPrimes"], fn := fun _ => fun
  | [d1, d2, g1] => { results := [.lit (.bool false)], args := [d1, d2], vars := [g1] }
  | _ => none }
def FnPowerSeriesWrongFalsely : Prop := fnPowerSeriesRow.holds Tryd.pinned (OpenSpec.ofChange fnPowerSeriesWrong)

/-- 'laws.FnRelations': WHATEVER THE INPUT: true; the input reads as it did. -/
def fnRelationsSpec : ChangeSpec := { name := "fnRelations", vars := ["loop.example/g01073/impl.smallPrimes"], fn := fun _ => fun
  | [d1, d2, g1] => { results := [.lit (.bool true)], args := [d1, d2], vars := [g1] }
  | _ => none }
def fnRelationsRow : OpenClaim := { program := "ytpeaeminjbjlnaadoor", sum := "451b18a6a536c51c642a3b0100a624b656aec7bb0041512e410a3b244e9f68ac", func := "loop.example/g01073/laws.FnRelations", spec := "fnRelations", unfollowed := true, recurses := true, named := ["loop.example/g01073/impl.smallPrimes"], apart := false, laid := [("loop.example/g01073/impl.smallPrimes", laid_loop_example_g01073_impl_smallPrimes)] }
def FnRelationsSaid : Prop := fnRelationsRow.holds Tryd.pinned (OpenSpec.ofChange fnRelationsSpec)

/-- ITS FALSE NEIGHBOUR: 'it returns false'. Refute it at one input. -/
def fnRelationsWrong : ChangeSpec := { name := "fnRelations", vars := ["loop.example/g01073/impl.smallPrimes"], fn := fun _ => fun
  | [d1, d2, g1] => { results := [.lit (.bool false)], args := [d1, d2], vars := [g1] }
  | _ => none }
def FnRelationsWrongFalsely : Prop := fnRelationsRow.holds Tryd.pinned (OpenSpec.ofChange fnRelationsWrong)

/-- 'laws.FnSpaces': WHATEVER THE INPUT: true; the input reads as it did. -/
def fnSpacesSpec : ChangeSpec := { name := "fnSpaces", vars := ["loop.example/g01073/impl.smallPrimes"], fn := fun _ => fun
  | [d1, d2, g1] => { results := [.lit (.bool true)], args := [d1, d2], vars := [g1] }
  | _ => none }
def fnSpacesRow : OpenClaim := { program := "ytpeaeminjbjlnaadoor", sum := "451b18a6a536c51c642a3b0100a624b656aec7bb0041512e410a3b244e9f68ac", func := "loop.example/g01073/laws.FnSpaces", spec := "fnSpaces", unfollowed := true, recurses := true, named := ["loop.example/g01073/impl.smallPrimes"], apart := false, laid := [("loop.example/g01073/impl.smallPrimes", laid_loop_example_g01073_impl_smallPrimes)] }
def FnSpacesSaid : Prop := fnSpacesRow.holds Tryd.pinned (OpenSpec.ofChange fnSpacesSpec)

/-- ITS FALSE NEIGHBOUR: 'it returns false'. Refute it at one input. -/
def fnSpacesWrong : ChangeSpec := { name := "fnSpaces", vars := ["loop.example/g01073/impl.smallPrimes"], fn := fun _ => fun
  | [d1, d2, g1] => { results := [.lit (.bool false)], args := [d1, d2], vars := [g1] }
  | _ => none }
def FnSpacesWrongFalsely : Prop := fnSpacesRow.holds Tryd.pinned (OpenSpec.ofChange fnSpacesWrong)

/-- 'laws.FnMatrixRing': WHATEVER THE INPUT: true; the input reads as it did. -/
def fnMatrixRingSpec : ChangeSpec := { name := "fnMatrixRing", vars := ["loop.example/g01073/impl.smallPrimes"], fn := fun _ => fun
  | [d1, d2, g1] => { results := [.lit (.bool true)], args := [d1, d2], vars := [g1] }
  | _ => none }
def fnMatrixRingRow : OpenClaim := { program := "ytpeaeminjbjlnaadoor", sum := "451b18a6a536c51c642a3b0100a624b656aec7bb0041512e410a3b244e9f68ac", func := "loop.example/g01073/laws.FnMatrixRing", spec := "fnMatrixRing", unfollowed := true, recurses := true, named := ["loop.example/g01073/impl.smallPrimes"], apart := false, laid := [("loop.example/g01073/impl.smallPrimes", laid_loop_example_g01073_impl_smallPrimes)] }
def FnMatrixRingSaid : Prop := fnMatrixRingRow.holds Tryd.pinned (OpenSpec.ofChange fnMatrixRingSpec)

/-- ITS FALSE NEIGHBOUR: 'it returns false'. Refute it at one input. -/
def fnMatrixRingWrong : ChangeSpec := { name := "fnMatrixRing", vars := ["loop.example/g01073/impl.smallPrimes"], fn := fun _ => fun
  | [d1, d2, g1] => { results := [.lit (.bool false)], args := [d1, d2], vars := [g1] }
  | _ => none }
def FnMatrixRingWrongFalsely : Prop := fnMatrixRingRow.holds Tryd.pinned (OpenSpec.ofChange fnMatrixRingWrong)

/-- 'laws.FnSeparators': WHATEVER THE INPUT: true; the input reads as it did. -/
def fnSeparatorsSpec : ChangeSpec := { name := "fnSeparators", vars := ["loop.example/g01073/impl.smallPrimes"], fn := fun _ => fun
  | [d1, d2, g1] => { results := [.lit (.bool true)], args := [d1, d2], vars := [g1] }
  | _ => none }
def fnSeparatorsRow : OpenClaim := { program := "ytpeaeminjbjlnaadoor", sum := "451b18a6a536c51c642a3b0100a624b656aec7bb0041512e410a3b244e9f68ac", func := "loop.example/g01073/laws.FnSeparators", spec := "fnSeparators", unfollowed := true, recurses := true, named := ["loop.example/g01073/impl.smallPrimes"], apart := false, laid := [("loop.example/g01073/impl.smallPrimes", laid_loop_example_g01073_impl_smallPrimes)] }
def FnSeparatorsSaid : Prop := fnSeparatorsRow.holds Tryd.pinned (OpenSpec.ofChange fnSeparatorsSpec)

/-- ITS FALSE NEIGHBOUR: 'it returns false'. Refute it at one input. -/
def fnSeparatorsWrong : ChangeSpec := { name := "fnSeparators", vars := ["loop.example/g01073/impl.smallPrimes"], fn := fun _ => fun
  | [d1, d2, g1] => { results := [.lit (.bool false)], args := [d1, d2], vars := [g1] }
  | _ => none }
def FnSeparatorsWrongFalsely : Prop := fnSeparatorsRow.holds Tryd.pinned (OpenSpec.ofChange fnSeparatorsWrong)

/-- 'laws.FnFunctions': WHATEVER THE INPUT: true; the input reads as it did. -/
def fnFunctionsSpec : ChangeSpec := { name := "fnFunctions", vars := ["loop.example/g01073/impl.smallPrimes"], fn := fun _ => fun
  | [d1, d2, g1] => { results := [.lit (.bool true)], args := [d1, d2], vars := [g1] }
  | _ => none }
def fnFunctionsRow : OpenClaim := { program := "ytpeaeminjbjlnaadoor", sum := "451b18a6a536c51c642a3b0100a624b656aec7bb0041512e410a3b244e9f68ac", func := "loop.example/g01073/laws.FnFunctions", spec := "fnFunctions", unfollowed := true, recurses := true, named := ["loop.example/g01073/impl.smallPrimes"], apart := false, laid := [("loop.example/g01073/impl.smallPrimes", laid_loop_example_g01073_impl_smallPrimes)] }
def FnFunctionsSaid : Prop := fnFunctionsRow.holds Tryd.pinned (OpenSpec.ofChange fnFunctionsSpec)

/-- ITS FALSE NEIGHBOUR: 'it returns false'. Refute it at one input. -/
def fnFunctionsWrong : ChangeSpec := { name := "fnFunctions", vars := ["loop.example/g01073/impl.smallPrimes"], fn := fun _ => fun
  | [d1, d2, g1] => { results := [.lit (.bool false)], args := [d1, d2], vars := [g1] }
  | _ => none }
def FnFunctionsWrongFalsely : Prop := fnFunctionsRow.holds Tryd.pinned (OpenSpec.ofChange fnFunctionsWrong)

/-- 'laws.FnChoices': WHATEVER THE INPUT: true; the input reads as it did. -/
def fnChoicesSpec : ChangeSpec := { name := "fnChoices", vars := ["loop.example/g01073/impl.smallPrimes"], fn := fun _ => fun
  | [d1, d2, g1] => { results := [.lit (.bool true)], args := [d1, d2], vars := [g1] }
  | _ => none }
def fnChoicesRow : OpenClaim := { program := "ytpeaeminjbjlnaadoor", sum := "451b18a6a536c51c642a3b0100a624b656aec7bb0041512e410a3b244e9f68ac", func := "loop.example/g01073/laws.FnChoices", spec := "fnChoices", unfollowed := true, recurses := true, named := ["loop.example/g01073/impl.smallPrimes"], apart := false, laid := [("loop.example/g01073/impl.smallPrimes", laid_loop_example_g01073_impl_smallPrimes)] }
def FnChoicesSaid : Prop := fnChoicesRow.holds Tryd.pinned (OpenSpec.ofChange fnChoicesSpec)

/-- ITS FALSE NEIGHBOUR: 'it returns false'. Refute it at one input. -/
def fnChoicesWrong : ChangeSpec := { name := "fnChoices", vars := ["loop.example/g01073/impl.smallPrimes"], fn := fun _ => fun
  | [d1, d2, g1] => { results := [.lit (.bool false)], args := [d1, d2], vars := [g1] }
  | _ => none }
def FnChoicesWrongFalsely : Prop := fnChoicesRow.holds Tryd.pinned (OpenSpec.ofChange fnChoicesWrong)

/-- 'laws.FnOrthogonals': WHATEVER THE INPUT: true; the input reads as it did. -/
def fnOrthogonalsSpec : ChangeSpec := { name := "fnOrthogonals", vars := ["loop.example/g01073/impl.smallPrimes"], fn := fun _ => fun
  | [d1, d2, g1] => { results := [.lit (.bool true)], args := [d1, d2], vars := [g1] }
  | _ => none }
def fnOrthogonalsRow : OpenClaim := { program := "ytpeaeminjbjlnaadoor", sum := "451b18a6a536c51c642a3b0100a624b656aec7bb0041512e410a3b244e9f68ac", func := "loop.example/g01073/laws.FnOrthogonals", spec := "fnOrthogonals", unfollowed := true, recurses := true, named := ["loop.example/g01073/impl.smallPrimes"], apart := false, laid := [("loop.example/g01073/impl.smallPrimes", laid_loop_example_g01073_impl_smallPrimes)] }
def FnOrthogonalsSaid : Prop := fnOrthogonalsRow.holds Tryd.pinned (OpenSpec.ofChange fnOrthogonalsSpec)

/-- ITS FALSE NEIGHBOUR: 'it returns false'. Refute it at one input. -/
def fnOrthogonalsWrong : ChangeSpec := { name := "fnOrthogonals", vars := ["loop.example/g01073/impl.smallPrimes"], fn := fun _ => fun
  | [d1, d2, g1] => { results := [.lit (.bool false)], args := [d1, d2], vars := [g1] }
  | _ => none }
def FnOrthogonalsWrongFalsely : Prop := fnOrthogonalsRow.holds Tryd.pinned (OpenSpec.ofChange fnOrthogonalsWrong)

/- THE SECOND FORM. 'bulk': how many values and letters a reading holds, each counted each time it is reached (what is shared counts as often as it is met; a slice's spare places count too). A statement '..UptoSaid' is the law's where the arguments, and the package variables that the reading takes, are together of bulk at most 1048576: NARROWER than '..Said'. Prove '..Said' where nothing that the law and all that it calls make is longer than what came in: it says more and counts as full. Else prove '..UptoSaid'. A law counts once. -/
mutual
def uptoBulk {H : Type} : DataW H → Nat
  | .lit (.string bytes) => bytes.length + 1
  | .lit _ => 1
  | .nil => 1
  | .ptr d => uptoBulk d + 1
  | .slice elems spare => uptoBulkAll elems + uptoBulkAll spare + 1
  | .agg parts => uptoBulkAll parts + 1
  | .iface _ d => uptoBulk d + 1
  | .map entries => uptoBulkEntries entries + 1
  | .held _ => 1
def uptoBulkAll {H : Type} : List (DataW H) → Nat
  | [] => 0
  | d :: r => uptoBulk d + uptoBulkAll r
def uptoBulkEntries {H : Type} : List (Lit × DataW H) → Nat
  | [] => 0
  | x :: r => uptoBulkEntry x + uptoBulkEntries r
def uptoBulkEntry {H : Type} : Lit × DataW H → Nat
  | (.string bytes, d) => bytes.length + uptoBulk d + 1
  | (_, d) => uptoBulk d + 1
 end
def uptoSmall : (H : Type) → List (DataW H) → Bool := fun _ ds => decide (uptoBulkAll ds ≤ 1048576)
def OpenSpec.upto (s : _root_.Go.ChangeSpec) : _root_.Go.OpenSpec := { _root_.Go.OpenSpec.ofChange s with cond := some uptoSmall }

/-- 'laws.FnPolynomials', WHERE WHAT IT READS IS OF BULK AT MOST 1048576: true; the input reads as it did. -/
def fnPolynomialsUptoRow : OpenClaim := { program := "ytpeaeminjbjlnaadoor", sum := "451b18a6a536c51c642a3b0100a624b656aec7bb0041512e410a3b244e9f68ac", func := "loop.example/g01073/laws.FnPolynomials", spec := "fnPolynomials", unfollowed := true, recurses := true, named := ["loop.example/g01073/impl.smallPrimes"], apart := false, laid := [("loop.example/g01073/impl.smallPrimes", laid_loop_example_g01073_impl_smallPrimes)], narrowed := true }
def FnPolynomialsUptoSaid : Prop := fnPolynomialsUptoRow.holds Tryd.pinned (OpenSpec.upto fnPolynomialsSpec)

/-- 'laws.FnRowReduction', WHERE WHAT IT READS IS OF BULK AT MOST 1048576: true; the input reads as it did. -/
def fnRowReductionUptoRow : OpenClaim := { program := "ytpeaeminjbjlnaadoor", sum := "451b18a6a536c51c642a3b0100a624b656aec7bb0041512e410a3b244e9f68ac", func := "loop.example/g01073/laws.FnRowReduction", spec := "fnRowReduction", unfollowed := true, recurses := true, named := ["loop.example/g01073/impl.smallPrimes"], apart := false, laid := [("loop.example/g01073/impl.smallPrimes", laid_loop_example_g01073_impl_smallPrimes)], narrowed := true }
def FnRowReductionUptoSaid : Prop := fnRowReductionUptoRow.holds Tryd.pinned (OpenSpec.upto fnRowReductionSpec)

/-- 'laws.FnPowerSeries', WHERE WHAT IT READS IS OF BULK AT MOST 1048576: true; the input reads as it did. -/
def fnPowerSeriesUptoRow : OpenClaim := { program := "ytpeaeminjbjlnaadoor", sum := "451b18a6a536c51c642a3b0100a624b656aec7bb0041512e410a3b244e9f68ac", func := "loop.example/g01073/laws.FnPowerSeries", spec := "fnPowerSeries", named := ["loop.example/g01073/impl.smallPrimes"], apart := false, laid := [("loop.example/g01073/impl.smallPrimes", laid_loop_example_g01073_impl_smallPrimes)], narrowed := true }
def FnPowerSeriesUptoSaid : Prop := fnPowerSeriesUptoRow.holds Tryd.pinned (OpenSpec.upto fnPowerSeriesSpec)

/-- 'laws.FnRelations', WHERE WHAT IT READS IS OF BULK AT MOST 1048576: true; the input reads as it did. -/
def fnRelationsUptoRow : OpenClaim := { program := "ytpeaeminjbjlnaadoor", sum := "451b18a6a536c51c642a3b0100a624b656aec7bb0041512e410a3b244e9f68ac", func := "loop.example/g01073/laws.FnRelations", spec := "fnRelations", unfollowed := true, recurses := true, named := ["loop.example/g01073/impl.smallPrimes"], apart := false, laid := [("loop.example/g01073/impl.smallPrimes", laid_loop_example_g01073_impl_smallPrimes)], narrowed := true }
def FnRelationsUptoSaid : Prop := fnRelationsUptoRow.holds Tryd.pinned (OpenSpec.upto fnRelationsSpec)

/-- 'laws.FnSpaces', WHERE WHAT IT READS IS OF BULK AT MOST 1048576: true; the input reads as it did. -/
def fnSpacesUptoRow : OpenClaim := { program := "ytpeaeminjbjlnaadoor", sum := "451b18a6a536c51c642a3b0100a624b656aec7bb0041512e410a3b244e9f68ac", func := "loop.example/g01073/laws.FnSpaces", spec := "fnSpaces", unfollowed := true, recurses := true, named := ["loop.example/g01073/impl.smallPrimes"], apart := false, laid := [("loop.example/g01073/impl.smallPrimes", laid_loop_example_g01073_impl_smallPrimes)], narrowed := true }
def FnSpacesUptoSaid : Prop := fnSpacesUptoRow.holds Tryd.pinned (OpenSpec.upto fnSpacesSpec)

/-- 'laws.FnMatrixRing', WHERE WHAT IT READS IS OF BULK AT MOST 1048576: true; the input reads as it did. -/
def fnMatrixRingUptoRow : OpenClaim := { program := "ytpeaeminjbjlnaadoor", sum := "451b18a6a536c51c642a3b0100a624b656aec7bb0041512e410a3b244e9f68ac", func := "loop.example/g01073/laws.FnMatrixRing", spec := "fnMatrixRing", unfollowed := true, recurses := true, named := ["loop.example/g01073/impl.smallPrimes"], apart := false, laid := [("loop.example/g01073/impl.smallPrimes", laid_loop_example_g01073_impl_smallPrimes)], narrowed := true }
def FnMatrixRingUptoSaid : Prop := fnMatrixRingUptoRow.holds Tryd.pinned (OpenSpec.upto fnMatrixRingSpec)

/-- 'laws.FnSeparators', WHERE WHAT IT READS IS OF BULK AT MOST 1048576: true; the input reads as it did. -/
def fnSeparatorsUptoRow : OpenClaim := { program := "ytpeaeminjbjlnaadoor", sum := "451b18a6a536c51c642a3b0100a624b656aec7bb0041512e410a3b244e9f68ac", func := "loop.example/g01073/laws.FnSeparators", spec := "fnSeparators", unfollowed := true, recurses := true, named := ["loop.example/g01073/impl.smallPrimes"], apart := false, laid := [("loop.example/g01073/impl.smallPrimes", laid_loop_example_g01073_impl_smallPrimes)], narrowed := true }
def FnSeparatorsUptoSaid : Prop := fnSeparatorsUptoRow.holds Tryd.pinned (OpenSpec.upto fnSeparatorsSpec)

/-- 'laws.FnFunctions', WHERE WHAT IT READS IS OF BULK AT MOST 1048576: true; the input reads as it did. -/
def fnFunctionsUptoRow : OpenClaim := { program := "ytpeaeminjbjlnaadoor", sum := "451b18a6a536c51c642a3b0100a624b656aec7bb0041512e410a3b244e9f68ac", func := "loop.example/g01073/laws.FnFunctions", spec := "fnFunctions", unfollowed := true, recurses := true, named := ["loop.example/g01073/impl.smallPrimes"], apart := false, laid := [("loop.example/g01073/impl.smallPrimes", laid_loop_example_g01073_impl_smallPrimes)], narrowed := true }
def FnFunctionsUptoSaid : Prop := fnFunctionsUptoRow.holds Tryd.pinned (OpenSpec.upto fnFunctionsSpec)

/-- 'laws.FnChoices', WHERE WHAT IT READS IS OF BULK AT MOST 1048576: true; the input reads as it did. -/
def fnChoicesUptoRow : OpenClaim := { program := "ytpeaeminjbjlnaadoor", sum := "451b18a6a536c51c642a3b0100a624b656aec7bb0041512e410a3b244e9f68ac", func := "loop.example/g01073/laws.FnChoices", spec := "fnChoices", unfollowed := true, recurses := true, named := ["loop.example/g01073/impl.smallPrimes"], apart := false, laid := [("loop.example/g01073/impl.smallPrimes", laid_loop_example_g01073_impl_smallPrimes)], narrowed := true }
def FnChoicesUptoSaid : Prop := fnChoicesUptoRow.holds Tryd.pinned (OpenSpec.upto fnChoicesSpec)

/-- 'laws.FnOrthogonals', WHERE WHAT IT READS IS OF BULK AT MOST 1048576: true; the input reads as it did. -/
def fnOrthogonalsUptoRow : OpenClaim := { program := "ytpeaeminjbjlnaadoor", sum := "451b18a6a536c51c642a3b0100a624b656aec7bb0041512e410a3b244e9f68ac", func := "loop.example/g01073/laws.FnOrthogonals", spec := "fnOrthogonals", unfollowed := true, recurses := true, named := ["loop.example/g01073/impl.smallPrimes"], apart := false, laid := [("loop.example/g01073/impl.smallPrimes", laid_loop_example_g01073_impl_smallPrimes)], narrowed := true }
def FnOrthogonalsUptoSaid : Prop := fnOrthogonalsUptoRow.holds Tryd.pinned (OpenSpec.upto fnOrthogonalsSpec)

end Rows
end Go.Proofs.YtpeaeminjbjlnaaDoor
