/-
  No cell of these rows narrows 'for every input' (looked for: loops, veiled, ifaces, maps, wideKeys, modest, calm, conditions, laid).
  DERIVED. THE GIVEN ROWS OF THIS SEAT. 4 by the template 'for every input the law returns true; each argument reads behind the call as it read before'; 0 by the template 'total and deterministic' (their statements: YtlpgjnjhhgjkmaaTotals.lean).
  GIVEN WITH THE SEED: the statements are not yours to turn. If you find one false, say at which input.
  Laid BY PROGRAM, IN A SANDBOX (cutbox-rows.mjs): the forced cells as the released guide's own fill.sh prints them over the translation a27ab98a4941a077… (all of the seat's roots in one cut). By AI agents, Wed Nov 11 2026. No macro, syntax, notation, axiom, sorry.
-/
import Derived.Test.YtlpgjnjhhgjkmaaChecked
import GoSem.Claim
import GoSem.ClaimJoined
import GoSem.ClaimMapViews
import Derived.JoinedTies
import Derived.KernelRfl
namespace Go.Proofs.Ytlpgjnjhhgjkmaa
/- THE CELL 'sum', in the pinned program and in every row, IS THE sha256 OF THE DUMP (.gsa) THAT YtlpgjnjhhgjkmaaProg.lean LOADS. Nothing in Lean hashes anything: it is a label: what it is worth is what the hold of that sum in a sandbox is worth. -/
noncomputable def Try.pinned : Pinned := { name := "ytlpgjnjhhgjkmaa", sum := "a27ab98a4941a077626788bc549c4d419df7d7014d6ace54f14013760b7cf292", checked := Try.checked }
namespace Rows
def none {H : Type} : Left H := { results := [], args := [] }

/-- 'laws.FnExactTraceGraph': WHATEVER THE INPUT: true; the input reads as it did. -/
def fnExactTraceGraphSpec : ChangeSpec := { name := "fnExactTraceGraph", fn := fun _ => fun
  | [d1, d2] => { results := [.lit (.bool true)], args := [d1, d2] }
  | _ => none }
def fnExactTraceGraphRow : OpenClaim := { program := "ytlpgjnjhhgjkmaa", sum := "a27ab98a4941a077626788bc549c4d419df7d7014d6ace54f14013760b7cf292", func := "loop.example/g01073/laws.FnExactTraceGraph", spec := "fnExactTraceGraph", unfollowed := true, recurses := true, apart := false }
def FnExactTraceGraphSaid : Prop := fnExactTraceGraphRow.holds Try.pinned (OpenSpec.ofChange fnExactTraceGraphSpec)

/-- ITS FALSE NEIGHBOUR: 'it returns false'. Refute it at one input. -/
def fnExactTraceGraphWrong : ChangeSpec := { name := "fnExactTraceGraph", fn := fun _ => fun
  | [d1, d2] => { results := [.lit (.bool false)], args := [d1, d2] }
  | _ => none }
def FnExactTraceGraphWrongFalsely : Prop := fnExactTraceGraphRow.holds Try.pinned (OpenSpec.ofChange fnExactTraceGraphWrong)

/-- 'laws.FnExactFirstMatch': WHATEVER THE INPUT: true; the input reads as it did. -/
def fnExactFirstMatchSpec : ChangeSpec := { name := "fnExactFirstMatch", fn := fun _ => fun
  | [d1, d2] => { results := [.lit (.bool true)], args := [d1, d2] }
  | _ => none }
def fnExactFirstMatchRow : OpenClaim := { program := "ytlpgjnjhhgjkmaa", sum := "a27ab98a4941a077626788bc549c4d419df7d7014d6ace54f14013760b7cf292", func := "loop.example/g01073/laws.FnExactFirstMatch", spec := "fnExactFirstMatch", unfollowed := true, recurses := true, apart := false }
def FnExactFirstMatchSaid : Prop := fnExactFirstMatchRow.holds Try.pinned (OpenSpec.ofChange fnExactFirstMatchSpec)

/-- ITS FALSE NEIGHBOUR: 'it returns false'. Refute it at one input. -/
def fnExactFirstMatchWrong : ChangeSpec := { name := "fnExactFirstMatch", fn := fun _ => fun
  | [d1, d2] => { results := [.lit (.bool false)], args := [d1, d2] }
  | _ => none }
def FnExactFirstMatchWrongFalsely : Prop := fnExactFirstMatchRow.holds Try.pinned (OpenSpec.ofChange fnExactFirstMatchWrong)

/-- 'laws.FnExactMatchesOf': WHATEVER THE INPUT: true; the input reads as it did. -/
def fnExactMatchesOfSpec : ChangeSpec := { name := "fnExactMatchesOf", fn := fun _ => fun
  | [d1, d2] => { results := [.lit (.bool true)], args := [d1, d2] }
  | _ => none }
def fnExactMatchesOfRow : OpenClaim := { program := "ytlpgjnjhhgjkmaa", sum := "a27ab98a4941a077626788bc549c4d419df7d7014d6ace54f14013760b7cf292", func := "loop.example/g01073/laws.FnExactMatchesOf", spec := "fnExactMatchesOf", unfollowed := true, recurses := true, apart := false }
def FnExactMatchesOfSaid : Prop := fnExactMatchesOfRow.holds Try.pinned (OpenSpec.ofChange fnExactMatchesOfSpec)

/-- ITS FALSE NEIGHBOUR: 'it returns false'. Refute it at one input. -/
def fnExactMatchesOfWrong : ChangeSpec := { name := "fnExactMatchesOf", fn := fun _ => fun
  | [d1, d2] => { results := [.lit (.bool false)], args := [d1, d2] }
  | _ => none }
def FnExactMatchesOfWrongFalsely : Prop := fnExactMatchesOfRow.holds Try.pinned (OpenSpec.ofChange fnExactMatchesOfWrong)

/-- 'laws.FnExactPackMatches': WHATEVER THE INPUT: true; the input reads as it did. -/
def fnExactPackMatchesSpec : ChangeSpec := { name := "fnExactPackMatches", fn := fun _ => fun
  | [d1, d2] => { results := [.lit (.bool true)], args := [d1, d2] }
  | _ => none }
def fnExactPackMatchesRow : OpenClaim := { program := "ytlpgjnjhhgjkmaa", sum := "a27ab98a4941a077626788bc549c4d419df7d7014d6ace54f14013760b7cf292", func := "loop.example/g01073/laws.FnExactPackMatches", spec := "fnExactPackMatches", unfollowed := true, recurses := true, apart := false }
def FnExactPackMatchesSaid : Prop := fnExactPackMatchesRow.holds Try.pinned (OpenSpec.ofChange fnExactPackMatchesSpec)

/-- ITS FALSE NEIGHBOUR: 'it returns false'. Refute it at one input. -/
def fnExactPackMatchesWrong : ChangeSpec := { name := "fnExactPackMatches", fn := fun _ => fun
  | [d1, d2] => { results := [.lit (.bool false)], args := [d1, d2] }
  | _ => none }
def FnExactPackMatchesWrongFalsely : Prop := fnExactPackMatchesRow.holds Try.pinned (OpenSpec.ofChange fnExactPackMatchesWrong)

/- THE SECOND FORM. 'bulk': how many values and letters a reading holds, each counted each time it is reached (what is shared counts as often as it is met; a slice's spare places count too). A statement '..UptoSaid' is the law's where the arguments, and the package variables that the reading takes, are together of bulk at most 1048576: NARROWER than '..Said'. Prove '..Said' where nothing that the law and all that it calls make is longer than what came in: it says more and counts as full. Else prove '..UptoSaid'. A law counts once. -/
mutual
def uptoBulk {H : Type} : DataW H → Nat
  | .lit (.string bytes) => bytes.length + 1
  | .lit _ => 1
  | .nil => 1
  | .ptr d => uptoBulk d + 1
  | .slice elems spare => uptoBulkAll elems + uptoBulkAll spare + 1
  | .agg parts => uptoBulkAll parts + 1
  | .iface _ d => uptoBulk d + 1
  | .map entries => uptoBulkEntries entries + 1
  | .held _ => 1
def uptoBulkAll {H : Type} : List (DataW H) → Nat
  | [] => 0
  | d :: r => uptoBulk d + uptoBulkAll r
def uptoBulkEntries {H : Type} : List (Lit × DataW H) → Nat
  | [] => 0
  | x :: r => uptoBulkEntry x + uptoBulkEntries r
def uptoBulkEntry {H : Type} : Lit × DataW H → Nat
  | (.string bytes, d) => bytes.length + uptoBulk d + 1
  | (_, d) => uptoBulk d + 1
 end
def uptoSmall : (H : Type) → List (DataW H) → Bool := fun _ ds => decide (uptoBulkAll ds ≤ 1048576)
def OpenSpec.upto (s : _root_.Go.ChangeSpec) : _root_.Go.OpenSpec := { _root_.Go.OpenSpec.ofChange s with cond := some uptoSmall }

/-- 'laws.FnExactTraceGraph', WHERE WHAT IT READS IS OF BULK AT MOST 1048576: true; the input reads as it did. -/
def fnExactTraceGraphUptoRow : OpenClaim := { program := "ytlpgjnjhhgjkmaa", sum := "a27ab98a4941a077626788bc549c4d419df7d7014d6ace54f14013760b7cf292", func := "loop.example/g01073/laws.FnExactTraceGraph", spec := "fnExactTraceGraph", unfollowed := true, recurses := true, apart := false, narrowed := true }
def FnExactTraceGraphUptoSaid : Prop := fnExactTraceGraphUptoRow.holds Try.pinned (OpenSpec.upto fnExactTraceGraphSpec)

/-- 'laws.FnExactFirstMatch', WHERE WHAT IT READS IS OF BULK AT MOST 1048576: true; the input reads as it did. -/
def fnExactFirstMatchUptoRow : OpenClaim := { program := "ytlpgjnjhhgjkmaa", sum := "a27ab98a4941a077626788bc549c4d419df7d7014d6ace54f14013760b7cf292", func := "loop.example/g01073/laws.FnExactFirstMatch", spec := "fnExactFirstMatch", unfollowed := true, recurses := true, apart := false, narrowed := true }
def FnExactFirstMatchUptoSaid : Prop := fnExactFirstMatchUptoRow.holds Try.pinned (OpenSpec.upto fnExactFirstMatchSpec)

/-- 'laws.FnExactMatchesOf', WHERE WHAT IT READS IS OF BULK AT MOST 1048576: true; the input reads as it did. -/
def fnExactMatchesOfUptoRow : OpenClaim := { program := "ytlpgjnjhhgjkmaa", sum := "a27ab98a4941a077626788bc549c4d419df7d7014d6ace54f14013760b7cf292", func := "loop.example/g01073/laws.FnExactMatchesOf", spec := "fnExactMatchesOf", unfollowed := true, recurses := true, apart := false, narrowed := true }
def FnExactMatchesOfUptoSaid : Prop := fnExactMatchesOfUptoRow.holds Try.pinned (OpenSpec.upto fnExactMatchesOfSpec)

/-- 'laws.FnExactPackMatches', WHERE WHAT IT READS IS OF BULK AT MOST 1048576: true; the input reads as it did. -/
def fnExactPackMatchesUptoRow : OpenClaim := { program := "ytlpgjnjhhgjkmaa", sum := "a27ab98a4941a077626788bc549c4d419df7d7014d6ace54f14013760b7cf292", func := "loop.example/g01073/laws.FnExactPackMatches", spec := "fnExactPackMatches", unfollowed := true, recurses := true, apart := false, narrowed := true }
def FnExactPackMatchesUptoSaid : Prop := fnExactPackMatchesUptoRow.holds Try.pinned (OpenSpec.upto fnExactPackMatchesSpec)

end Rows
end Go.Proofs.Ytlpgjnjhhgjkmaa
