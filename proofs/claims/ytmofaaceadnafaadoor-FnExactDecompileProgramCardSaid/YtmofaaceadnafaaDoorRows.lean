/-
  NARROWER THAN 'FOR EVERY INPUT', by the rows' own cells (each row's printed sentence says how): FnExactSimplifyGates: laid · FnExactShareGates: laid · FnExactOptimizeCircuit: laid · FnExactDecompileProgram: laid · FnExactCircuitOfSpace: laid.
  DERIVED. THE GIVEN ROWS OF THIS SEAT. 5 by the template 'for every input the law returns true; each argument reads behind the call as it read before'; 0 by the template 'total and deterministic' (their statements: YtmofaaceadnafaaDoorTotals.lean).
  GIVEN WITH THE SEED: the statements are not yours to turn. If you find one false, say at which input.
  Laid BY PROGRAM, IN A SANDBOX (cutbox-rows.mjs): the forced cells as the released guide's own fill.sh prints them over the translation 1a3170f6f46c46aa… (all of the seat's roots in one cut). By AI agents, Wed Nov 11 2026. No macro, syntax, notation, axiom, sorry.
-/
import Derived.Test.YtmofaaceadnafaaDoorChecked
import GoSem.Claim
import GoSem.ClaimJoined
import GoSem.ClaimMapViews
import Derived.JoinedTies
import Derived.KernelRfl
namespace Go.Proofs.YtmofaaceadnafaaDoor
/- THE CELL 'sum', in the pinned program and in every row, IS THE sha256 OF THE DUMP (.gsa) THAT YtmofaaceadnafaaDoorProg.lean LOADS. Nothing in Lean hashes anything: it is a label: what it is worth is what the hold of that sum in a sandbox is worth. -/
noncomputable def Tryd.pinned : Pinned := { name := "ytmofaaceadnafaadoor", sum := "1a3170f6f46c46aa90cc33b5dbf3e129c2522a84733d0fd2d4ed6cdb1101d417", checked := Tryd.checked }
namespace Rows
def none {H : Type} : Left H := { results := [], args := [] }

/- WHAT THE LISTED PACKAGE-LEVEL VARIABLES READ AS WHEN THE CALL BEGINS. Each datum BY PROGRAM (the guide's laid-datum.mjs) off the statement by which the dump's own 'gosem.cut.vars' lays the variable. In a bare row this is a premise. The card (YtmofaaceadnafaaDoorCards.lean) ties it to the program's text. -/
def laid_loop_example_g01073_impl_smallPrimes {H : Type} : DataW H := .agg [.lit (.int .i64 2), .lit (.int .i64 3), .lit (.int .i64 5), .lit (.int .i64 7)]

/-- 'laws.FnExactSimplifyGates': WHATEVER THE INPUT: true; the input reads as it did. -/
def fnExactSimplifyGatesSpec : ChangeSpec := { name := "fnExactSimplifyGates", vars := ["loop.example/g01073/impl.smallPrimes"], fn := fun _ => fun
  | [d1, d2, g1] => { results := [.lit (.bool true)], args := [d1, d2], vars := [g1] }
  | _ => none }
def fnExactSimplifyGatesRow : OpenClaim := { program := "ytmofaaceadnafaadoor", sum := "1a3170f6f46c46aa90cc33b5dbf3e129c2522a84733d0fd2d4ed6cdb1101d417", func := "loop.example/g01073/laws.FnExactSimplifyGates", spec := "fnExactSimplifyGates", unfollowed := true, recurses := true, named := ["loop.example/g01073/impl.smallPrimes"], plainKeys := false, apart := false, laid := [("loop.example/g01073/impl.smallPrimes", laid_loop_example_g01073_impl_smallPrimes)] }
def FnExactSimplifyGatesSaid : Prop := fnExactSimplifyGatesRow.holds Tryd.pinned (OpenSpec.ofChange fnExactSimplifyGatesSpec)

/-- ITS FALSE NEIGHBOUR: 'it returns false'. Refute it at one input. -/
def fnExactSimplifyGatesWrong : ChangeSpec := { name := "fnExactSimplifyGates", vars := ["loop.example/g01073/impl.smallPrimes"], fn := fun _ => fun
  | [d1, d2, g1] => { results := [.lit (.bool false)], args := [d1, d2], vars := [g1] }
  | _ => none }
def FnExactSimplifyGatesWrongFalsely : Prop := fnExactSimplifyGatesRow.holds Tryd.pinned (OpenSpec.ofChange fnExactSimplifyGatesWrong)

/-- 'laws.FnExactShareGates': WHATEVER THE INPUT: true; the input reads as it did. -/
def fnExactShareGatesSpec : ChangeSpec := { name := "fnExactShareGates", vars := ["loop.example/g01073/impl.smallPrimes"], fn := fun _ => fun
  | [d1, d2, g1] => { results := [.lit (.bool true)], args := [d1, d2], vars := [g1] }
  | _ => none }
def fnExactShareGatesRow : OpenClaim := { program := "ytmofaaceadnafaadoor", sum := "1a3170f6f46c46aa90cc33b5dbf3e129c2522a84733d0fd2d4ed6cdb1101d417", func := "loop.example/g01073/laws.FnExactShareGates", spec := "fnExactShareGates", unfollowed := true, recurses := true, named := ["loop.example/g01073/impl.smallPrimes"], plainKeys := false, apart := false, laid := [("loop.example/g01073/impl.smallPrimes", laid_loop_example_g01073_impl_smallPrimes)] }
def FnExactShareGatesSaid : Prop := fnExactShareGatesRow.holds Tryd.pinned (OpenSpec.ofChange fnExactShareGatesSpec)

/-- ITS FALSE NEIGHBOUR: 'it returns false'. Refute it at one input. -/
def fnExactShareGatesWrong : ChangeSpec := { name := "fnExactShareGates", vars := ["loop.example/g01073/impl.smallPrimes"], fn := fun _ => fun
  | [d1, d2, g1] => { results := [.lit (.bool false)], args := [d1, d2], vars := [g1] }
  | _ => none }
def FnExactShareGatesWrongFalsely : Prop := fnExactShareGatesRow.holds Tryd.pinned (OpenSpec.ofChange fnExactShareGatesWrong)

/-- 'laws.FnExactOptimizeCircuit': WHATEVER THE INPUT: true; the input reads as it did. -/
def fnExactOptimizeCircuitSpec : ChangeSpec := { name := "fnExactOptimizeCircuit", vars := ["loop.example/g01073/impl.smallPrimes"], fn := fun _ => fun
  | [d1, d2, g1] => { results := [.lit (.bool true)], args := [d1, d2], vars := [g1] }
  | _ => none }
def fnExactOptimizeCircuitRow : OpenClaim := { program := "ytmofaaceadnafaadoor", sum := "1a3170f6f46c46aa90cc33b5dbf3e129c2522a84733d0fd2d4ed6cdb1101d417", func := "loop.example/g01073/laws.FnExactOptimizeCircuit", spec := "fnExactOptimizeCircuit", unfollowed := true, recurses := true, named := ["loop.example/g01073/impl.smallPrimes"], plainKeys := false, apart := false, laid := [("loop.example/g01073/impl.smallPrimes", laid_loop_example_g01073_impl_smallPrimes)] }
def FnExactOptimizeCircuitSaid : Prop := fnExactOptimizeCircuitRow.holds Tryd.pinned (OpenSpec.ofChange fnExactOptimizeCircuitSpec)

/-- ITS FALSE NEIGHBOUR: 'it returns false'. Refute it at one input. -/
def fnExactOptimizeCircuitWrong : ChangeSpec := { name := "fnExactOptimizeCircuit", vars := ["loop.example/g01073/impl.smallPrimes"], fn := fun _ => fun
  | [d1, d2, g1] => { results := [.lit (.bool false)], args := [d1, d2], vars := [g1] }
  | _ => none }
def FnExactOptimizeCircuitWrongFalsely : Prop := fnExactOptimizeCircuitRow.holds Tryd.pinned (OpenSpec.ofChange fnExactOptimizeCircuitWrong)

/-- 'laws.FnExactDecompileProgram': WHATEVER THE INPUT: true; the input reads as it did. -/
def fnExactDecompileProgramSpec : ChangeSpec := { name := "fnExactDecompileProgram", vars := ["loop.example/g01073/impl.smallPrimes"], fn := fun _ => fun
  | [d1, d2, g1] => { results := [.lit (.bool true)], args := [d1, d2], vars := [g1] }
  | _ => none }
def fnExactDecompileProgramRow : OpenClaim := { program := "ytmofaaceadnafaadoor", sum := "1a3170f6f46c46aa90cc33b5dbf3e129c2522a84733d0fd2d4ed6cdb1101d417", func := "loop.example/g01073/laws.FnExactDecompileProgram", spec := "fnExactDecompileProgram", unfollowed := true, recurses := true, named := ["loop.example/g01073/impl.smallPrimes"], plainKeys := false, apart := false, laid := [("loop.example/g01073/impl.smallPrimes", laid_loop_example_g01073_impl_smallPrimes)] }
def FnExactDecompileProgramSaid : Prop := fnExactDecompileProgramRow.holds Tryd.pinned (OpenSpec.ofChange fnExactDecompileProgramSpec)

/-- ITS FALSE NEIGHBOUR: 'it returns false'. Refute it at one input. -/
def fnExactDecompileProgramWrong : ChangeSpec := { name := "fnExactDecompileProgram", vars := ["loop.example/g01073/impl.smallPrimes"], fn := fun _ => fun
  | [d1, d2, g1] => { results := [.lit (.bool false)], args := [d1, d2], vars := [g1] }
  | _ => none }
def FnExactDecompileProgramWrongFalsely : Prop := fnExactDecompileProgramRow.holds Tryd.pinned (OpenSpec.ofChange fnExactDecompileProgramWrong)

/-- 'laws.FnExactCircuitOfSpace': WHATEVER THE INPUT: true; the input reads as it did. -/
def fnExactCircuitOfSpaceSpec : ChangeSpec := { name := "fnExactCircuitOfSpace", vars := ["loop.example/g01073/impl.smallPrimes"], fn := fun _ => fun
  | [d1, d2, g1] => { results := [.lit (.bool true)], args := [d1, d2], vars := [g1] }
  | _ => none }
def fnExactCircuitOfSpaceRow : OpenClaim := { program := "ytmofaaceadnafaadoor", sum := "1a3170f6f46c46aa90cc33b5dbf3e129c2522a84733d0fd2d4ed6cdb1101d417", func := "loop.example/g01073/laws.FnExactCircuitOfSpace", spec := "fnExactCircuitOfSpace", unfollowed := true, recurses := true, named := ["loop.example/g01073/impl.smallPrimes"], plainKeys := false, apart := false, laid := [("loop.example/g01073/impl.smallPrimes", laid_loop_example_g01073_impl_smallPrimes)] }
def FnExactCircuitOfSpaceSaid : Prop := fnExactCircuitOfSpaceRow.holds Tryd.pinned (OpenSpec.ofChange fnExactCircuitOfSpaceSpec)

/-- ITS FALSE NEIGHBOUR: 'it returns false'. Refute it at one input. -/
def fnExactCircuitOfSpaceWrong : ChangeSpec := { name := "fnExactCircuitOfSpace", vars := ["loop.example/g01073/impl.smallPrimes"], fn := fun _ => fun
  | [d1, d2, g1] => { results := [.lit (.bool false)], args := [d1, d2], vars := [g1] }
  | _ => none }
def FnExactCircuitOfSpaceWrongFalsely : Prop := fnExactCircuitOfSpaceRow.holds Tryd.pinned (OpenSpec.ofChange fnExactCircuitOfSpaceWrong)

/- THE SECOND FORM. 'bulk': how many values and letters a reading holds, each counted each time it is reached (what is shared counts as often as it is met; a slice's spare places count too). A statement '..UptoSaid' is the law's where the arguments, and the package variables that the reading takes, are together of bulk at most 1048576: NARROWER than '..Said'. Prove '..Said' where nothing that the law and all that it calls make is longer than what came in: it says more and counts as full. Else prove '..UptoSaid'. A law counts once. -/
mutual
def uptoBulk {H : Type} : DataW H → Nat
  | .lit (.string bytes) => bytes.length + 1
  | .lit _ => 1
  | .nil => 1
  | .ptr d => uptoBulk d + 1
  | .slice elems spare => uptoBulkAll elems + uptoBulkAll spare + 1
  | .agg parts => uptoBulkAll parts + 1
  | .iface _ d => uptoBulk d + 1
  | .map entries => uptoBulkEntries entries + 1
  | .held _ => 1
def uptoBulkAll {H : Type} : List (DataW H) → Nat
  | [] => 0
  | d :: r => uptoBulk d + uptoBulkAll r
def uptoBulkEntries {H : Type} : List (Lit × DataW H) → Nat
  | [] => 0
  | x :: r => uptoBulkEntry x + uptoBulkEntries r
def uptoBulkEntry {H : Type} : Lit × DataW H → Nat
  | (.string bytes, d) => bytes.length + uptoBulk d + 1
  | (_, d) => uptoBulk d + 1
 end
def uptoSmall : (H : Type) → List (DataW H) → Bool := fun _ ds => decide (uptoBulkAll ds ≤ 1048576)
def OpenSpec.upto (s : _root_.Go.ChangeSpec) : _root_.Go.OpenSpec := { _root_.Go.OpenSpec.ofChange s with cond := some uptoSmall }

/-- 'laws.FnExactSimplifyGates', WHERE WHAT IT READS IS OF BULK AT MOST 1048576: true; the input reads as it did. -/
def fnExactSimplifyGatesUptoRow : OpenClaim := { program := "ytmofaaceadnafaadoor", sum := "1a3170f6f46c46aa90cc33b5dbf3e129c2522a84733d0fd2d4ed6cdb1101d417", func := "loop.example/g01073/laws.FnExactSimplifyGates", spec := "fnExactSimplifyGates", unfollowed := true, recurses := true, named := ["loop.example/g01073/impl.smallPrimes"], plainKeys := false, apart := false, laid := [("loop.example/g01073/impl.smallPrimes", laid_loop_example_g01073_impl_smallPrimes)], narrowed := true }
def FnExactSimplifyGatesUptoSaid : Prop := fnExactSimplifyGatesUptoRow.holds Tryd.pinned (OpenSpec.upto fnExactSimplifyGatesSpec)

/-- 'laws.FnExactShareGates', WHERE WHAT IT READS IS OF BULK AT MOST 1048576: true; the input reads as it did. -/
def fnExactShareGatesUptoRow : OpenClaim := { program := "ytmofaaceadnafaadoor", sum := "1a3170f6f46c46aa90cc33b5dbf3e129c2522a84733d0fd2d4ed6cdb1101d417", func := "loop.example/g01073/laws.FnExactShareGates", spec := "fnExactShareGates", unfollowed := true, recurses := true, named := ["loop.example/g01073/impl.smallPrimes"], plainKeys := false, apart := false, laid := [("loop.example/g01073/impl.smallPrimes", laid_loop_example_g01073_impl_smallPrimes)], narrowed := true }
def FnExactShareGatesUptoSaid : Prop := fnExactShareGatesUptoRow.holds Tryd.pinned (OpenSpec.upto fnExactShareGatesSpec)

/-- 'laws.FnExactOptimizeCircuit', WHERE WHAT IT READS IS OF BULK AT MOST 1048576: true; the input reads as it did. -/
def fnExactOptimizeCircuitUptoRow : OpenClaim := { program := "ytmofaaceadnafaadoor", sum := "1a3170f6f46c46aa90cc33b5dbf3e129c2522a84733d0fd2d4ed6cdb1101d417", func := "loop.example/g01073/laws.FnExactOptimizeCircuit", spec := "fnExactOptimizeCircuit", unfollowed := true, recurses := true, named := ["loop.example/g01073/impl.smallPrimes"], plainKeys := false, apart := false, laid := [("loop.example/g01073/impl.smallPrimes", laid_loop_example_g01073_impl_smallPrimes)], narrowed := true }
def FnExactOptimizeCircuitUptoSaid : Prop := fnExactOptimizeCircuitUptoRow.holds Tryd.pinned (OpenSpec.upto fnExactOptimizeCircuitSpec)

/-- 'laws.FnExactDecompileProgram', WHERE WHAT IT READS IS OF BULK AT MOST 1048576: true; the input reads as it did. -/
def fnExactDecompileProgramUptoRow : OpenClaim := { program := "ytmofaaceadnafaadoor", sum := "1a3170f6f46c46aa90cc33b5dbf3e129c2522a84733d0fd2d4ed6cdb1101d417", func := "loop.example/g01073/laws.FnExactDecompileProgram", spec := "fnExactDecompileProgram", unfollowed := true, recurses := true, named := ["loop.example/g01073/impl.smallPrimes"], plainKeys := false, apart := false, laid := [("loop.example/g01073/impl.smallPrimes", laid_loop_example_g01073_impl_smallPrimes)], narrowed := true }
def FnExactDecompileProgramUptoSaid : Prop := fnExactDecompileProgramUptoRow.holds Tryd.pinned (OpenSpec.upto fnExactDecompileProgramSpec)

/-- 'laws.FnExactCircuitOfSpace', WHERE WHAT IT READS IS OF BULK AT MOST 1048576: true; the input reads as it did. -/
def fnExactCircuitOfSpaceUptoRow : OpenClaim := { program := "ytmofaaceadnafaadoor", sum := "1a3170f6f46c46aa90cc33b5dbf3e129c2522a84733d0fd2d4ed6cdb1101d417", func := "loop.example/g01073/laws.FnExactCircuitOfSpace", spec := "fnExactCircuitOfSpace", unfollowed := true, recurses := true, named := ["loop.example/g01073/impl.smallPrimes"], plainKeys := false, apart := false, laid := [("loop.example/g01073/impl.smallPrimes", laid_loop_example_g01073_impl_smallPrimes)], narrowed := true }
def FnExactCircuitOfSpaceUptoSaid : Prop := fnExactCircuitOfSpaceUptoRow.holds Tryd.pinned (OpenSpec.upto fnExactCircuitOfSpaceSpec)

end Rows
end Go.Proofs.YtmofaaceadnafaaDoor
