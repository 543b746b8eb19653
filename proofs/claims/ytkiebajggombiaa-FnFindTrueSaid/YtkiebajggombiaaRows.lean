/-
  No cell of these rows narrows 'for every input' (looked for: loops, veiled, ifaces, maps, wideKeys, modest, calm, conditions, laid).
  DERIVED. THE GIVEN ROWS OF THIS SEAT. 8 by the template 'for every input the law returns true; each argument reads behind the call as it read before'; 0 by the template 'total and deterministic' (their statements: YtkiebajggombiaaTotals.lean).
  GIVEN WITH THE SEED: the statements are not yours to turn. If you find one false, say at which input.
  Laid BY PROGRAM, IN A SANDBOX (cutbox-rows.mjs): the forced cells as the released guide's own fill.sh prints them over the translation edae3574d4a1cd6c… (all of the seat's roots in one cut). By AI agents, Wed Nov 11 2026. No macro, syntax, notation, axiom, sorry.
-/
import Derived.Test.YtkiebajggombiaaChecked
import GoSem.Claim
import GoSem.ClaimJoined
import GoSem.ClaimMapViews
import Derived.JoinedTies
import Derived.KernelRfl
namespace Go.Proofs.Ytkiebajggombiaa
/- THE CELL 'sum', in the pinned program and in every row, IS THE sha256 OF THE DUMP (.gsa) THAT YtkiebajggombiaaProg.lean LOADS. Nothing in Lean hashes anything: it is a label: what it is worth is what the hold of that sum in a sandbox is worth. -/
noncomputable def Try.pinned : Pinned := { name := "ytkiebajggombiaa", sum := "edae3574d4a1cd6c8c5879667fc9bc52409343a5b2beb8d694b50ee5cb8c6b34", checked := Try.checked }
namespace Rows
def none {H : Type} : Left H := { results := [], args := [] }

/-- 'laws.FnFewestPrefix': WHATEVER THE INPUT: true; the input reads as it did. -/
def fnFewestPrefixSpec : ChangeSpec := { name := "fnFewestPrefix", fn := fun _ => fun
  | [d1, d2] => { results := [.lit (.bool true)], args := [d1, d2] }
  | _ => none }
def fnFewestPrefixRow : OpenClaim := { program := "ytkiebajggombiaa", sum := "edae3574d4a1cd6c8c5879667fc9bc52409343a5b2beb8d694b50ee5cb8c6b34", func := "loop.example/differenceengine/laws.FnFewestPrefix", spec := "fnFewestPrefix", apart := false }
def FnFewestPrefixSaid : Prop := fnFewestPrefixRow.holds Try.pinned (OpenSpec.ofChange fnFewestPrefixSpec)

/-- ITS FALSE NEIGHBOUR: 'it returns false'. Refute it at one input. -/
def fnFewestPrefixWrong : ChangeSpec := { name := "fnFewestPrefix", fn := fun _ => fun
  | [d1, d2] => { results := [.lit (.bool false)], args := [d1, d2] }
  | _ => none }
def FnFewestPrefixWrongFalsely : Prop := fnFewestPrefixRow.holds Try.pinned (OpenSpec.ofChange fnFewestPrefixWrong)

/-- 'laws.FnGreedyDegree': WHATEVER THE INPUT: true; the input reads as it did. -/
def fnGreedyDegreeSpec : ChangeSpec := { name := "fnGreedyDegree", fn := fun _ => fun
  | [d] => { results := [.lit (.bool true)], args := [d] }
  | _ => none }
def fnGreedyDegreeRow : OpenClaim := { program := "ytkiebajggombiaa", sum := "edae3574d4a1cd6c8c5879667fc9bc52409343a5b2beb8d694b50ee5cb8c6b34", func := "loop.example/differenceengine/laws.FnGreedyDegree", spec := "fnGreedyDegree", apart := false }
def FnGreedyDegreeSaid : Prop := fnGreedyDegreeRow.holds Try.pinned (OpenSpec.ofChange fnGreedyDegreeSpec)

/-- ITS FALSE NEIGHBOUR: 'it returns false'. Refute it at one input. -/
def fnGreedyDegreeWrong : ChangeSpec := { name := "fnGreedyDegree", fn := fun _ => fun
  | [d] => { results := [.lit (.bool false)], args := [d] }
  | _ => none }
def FnGreedyDegreeWrongFalsely : Prop := fnGreedyDegreeRow.holds Try.pinned (OpenSpec.ofChange fnGreedyDegreeWrong)

/-- 'laws.FnPlanCost': WHATEVER THE INPUT: true; the input reads as it did. -/
def fnPlanCostSpec : ChangeSpec := { name := "fnPlanCost", fn := fun _ => fun
  | [d] => { results := [.lit (.bool true)], args := [d] }
  | _ => none }
def fnPlanCostRow : OpenClaim := { program := "ytkiebajggombiaa", sum := "edae3574d4a1cd6c8c5879667fc9bc52409343a5b2beb8d694b50ee5cb8c6b34", func := "loop.example/differenceengine/laws.FnPlanCost", spec := "fnPlanCost", apart := false }
def FnPlanCostSaid : Prop := fnPlanCostRow.holds Try.pinned (OpenSpec.ofChange fnPlanCostSpec)

/-- ITS FALSE NEIGHBOUR: 'it returns false'. Refute it at one input. -/
def fnPlanCostWrong : ChangeSpec := { name := "fnPlanCost", fn := fun _ => fun
  | [d] => { results := [.lit (.bool false)], args := [d] }
  | _ => none }
def FnPlanCostWrongFalsely : Prop := fnPlanCostRow.holds Try.pinned (OpenSpec.ofChange fnPlanCostWrong)

/-- 'laws.FnSegmentOf': WHATEVER THE INPUT: true; the input reads as it did. -/
def fnSegmentOfSpec : ChangeSpec := { name := "fnSegmentOf", fn := fun _ => fun
  | [d] => { results := [.lit (.bool true)], args := [d] }
  | _ => none }
def fnSegmentOfRow : OpenClaim := { program := "ytkiebajggombiaa", sum := "edae3574d4a1cd6c8c5879667fc9bc52409343a5b2beb8d694b50ee5cb8c6b34", func := "loop.example/differenceengine/laws.FnSegmentOf", spec := "fnSegmentOf", apart := false }
def FnSegmentOfSaid : Prop := fnSegmentOfRow.holds Try.pinned (OpenSpec.ofChange fnSegmentOfSpec)

/-- ITS FALSE NEIGHBOUR: 'it returns false'. Refute it at one input. -/
def fnSegmentOfWrong : ChangeSpec := { name := "fnSegmentOf", fn := fun _ => fun
  | [d] => { results := [.lit (.bool false)], args := [d] }
  | _ => none }
def FnSegmentOfWrongFalsely : Prop := fnSegmentOfRow.holds Try.pinned (OpenSpec.ofChange fnSegmentOfWrong)

/-- 'laws.FnCheapestParts': WHATEVER THE INPUT: true; the input reads as it did. -/
def fnCheapestPartsSpec : ChangeSpec := { name := "fnCheapestParts", fn := fun _ => fun
  | [d] => { results := [.lit (.bool true)], args := [d] }
  | _ => none }
def fnCheapestPartsRow : OpenClaim := { program := "ytkiebajggombiaa", sum := "edae3574d4a1cd6c8c5879667fc9bc52409343a5b2beb8d694b50ee5cb8c6b34", func := "loop.example/differenceengine/laws.FnCheapestParts", spec := "fnCheapestParts", apart := false }
def FnCheapestPartsSaid : Prop := fnCheapestPartsRow.holds Try.pinned (OpenSpec.ofChange fnCheapestPartsSpec)

/-- ITS FALSE NEIGHBOUR: 'it returns false'. Refute it at one input. -/
def fnCheapestPartsWrong : ChangeSpec := { name := "fnCheapestParts", fn := fun _ => fun
  | [d] => { results := [.lit (.bool false)], args := [d] }
  | _ => none }
def FnCheapestPartsWrongFalsely : Prop := fnCheapestPartsRow.holds Try.pinned (OpenSpec.ofChange fnCheapestPartsWrong)

/-- 'laws.FnGreedyFewest': WHATEVER THE INPUT: true; the input reads as it did. -/
def fnGreedyFewestSpec : ChangeSpec := { name := "fnGreedyFewest", fn := fun _ => fun
  | [d] => { results := [.lit (.bool true)], args := [d] }
  | _ => none }
def fnGreedyFewestRow : OpenClaim := { program := "ytkiebajggombiaa", sum := "edae3574d4a1cd6c8c5879667fc9bc52409343a5b2beb8d694b50ee5cb8c6b34", func := "loop.example/differenceengine/laws.FnGreedyFewest", spec := "fnGreedyFewest", apart := false }
def FnGreedyFewestSaid : Prop := fnGreedyFewestRow.holds Try.pinned (OpenSpec.ofChange fnGreedyFewestSpec)

/-- ITS FALSE NEIGHBOUR: 'it returns false'. Refute it at one input. -/
def fnGreedyFewestWrong : ChangeSpec := { name := "fnGreedyFewest", fn := fun _ => fun
  | [d] => { results := [.lit (.bool false)], args := [d] }
  | _ => none }
def FnGreedyFewestWrongFalsely : Prop := fnGreedyFewestRow.holds Try.pinned (OpenSpec.ofChange fnGreedyFewestWrong)

/-- 'laws.FnFindSingle': WHATEVER THE INPUT: true; the input reads as it did. -/
def fnFindSingleSpec : ChangeSpec := { name := "fnFindSingle", fn := fun _ => fun
  | [d1, d2] => { results := [.lit (.bool true)], args := [d1, d2] }
  | _ => none }
def fnFindSingleRow : OpenClaim := { program := "ytkiebajggombiaa", sum := "edae3574d4a1cd6c8c5879667fc9bc52409343a5b2beb8d694b50ee5cb8c6b34", func := "loop.example/differenceengine/laws.FnFindSingle", spec := "fnFindSingle", apart := false }
def FnFindSingleSaid : Prop := fnFindSingleRow.holds Try.pinned (OpenSpec.ofChange fnFindSingleSpec)

/-- ITS FALSE NEIGHBOUR: 'it returns false'. Refute it at one input. -/
def fnFindSingleWrong : ChangeSpec := { name := "fnFindSingle", fn := fun _ => fun
  | [d1, d2] => { results := [.lit (.bool false)], args := [d1, d2] }
  | _ => none }
def FnFindSingleWrongFalsely : Prop := fnFindSingleRow.holds Try.pinned (OpenSpec.ofChange fnFindSingleWrong)

/-- 'laws.FnFindTrue': WHATEVER THE INPUT: true; the input reads as it did. -/
def fnFindTrueSpec : ChangeSpec := { name := "fnFindTrue", fn := fun _ => fun
  | [d] => { results := [.lit (.bool true)], args := [d] }
  | _ => none }
def fnFindTrueRow : OpenClaim := { program := "ytkiebajggombiaa", sum := "edae3574d4a1cd6c8c5879667fc9bc52409343a5b2beb8d694b50ee5cb8c6b34", func := "loop.example/differenceengine/laws.FnFindTrue", spec := "fnFindTrue", apart := false }
def FnFindTrueSaid : Prop := fnFindTrueRow.holds Try.pinned (OpenSpec.ofChange fnFindTrueSpec)

/-- ITS FALSE NEIGHBOUR: 'it returns false'. Refute it at one input. -/
def fnFindTrueWrong : ChangeSpec := { name := "fnFindTrue", fn := fun _ => fun
  | [d] => { results := [.lit (.bool false)], args := [d] }
  | _ => none }
def FnFindTrueWrongFalsely : Prop := fnFindTrueRow.holds Try.pinned (OpenSpec.ofChange fnFindTrueWrong)

/- THE SECOND FORM. 'bulk': how many values and letters a reading holds, each counted each time it is reached (what is shared counts as often as it is met; a slice's spare places count too). A statement '..UptoSaid' is the law's where the arguments, and the package variables that the reading takes, are together of bulk at most 1048576: NARROWER than '..Said'. Prove '..Said' where nothing that the law and all that it calls make is longer than what came in: it says more and counts as full. Else prove '..UptoSaid'. A law counts once. -/
mutual
def uptoBulk {H : Type} : DataW H → Nat
  | .lit (.string bytes) => bytes.length + 1
  | .lit _ => 1
  | .nil => 1
  | .ptr d => uptoBulk d + 1
  | .slice elems spare => uptoBulkAll elems + uptoBulkAll spare + 1
  | .agg parts => uptoBulkAll parts + 1
  | .iface _ d => uptoBulk d + 1
  | .map entries => uptoBulkEntries entries + 1
  | .held _ => 1
def uptoBulkAll {H : Type} : List (DataW H) → Nat
  | [] => 0
  | d :: r => uptoBulk d + uptoBulkAll r
def uptoBulkEntries {H : Type} : List (Lit × DataW H) → Nat
  | [] => 0
  | x :: r => uptoBulkEntry x + uptoBulkEntries r
def uptoBulkEntry {H : Type} : Lit × DataW H → Nat
  | (.string bytes, d) => bytes.length + uptoBulk d + 1
  | (_, d) => uptoBulk d + 1
 end
def uptoSmall : (H : Type) → List (DataW H) → Bool := fun _ ds => decide (uptoBulkAll ds ≤ 1048576)
def OpenSpec.upto (s : _root_.Go.ChangeSpec) : _root_.Go.OpenSpec := { _root_.Go.OpenSpec.ofChange s with cond := some uptoSmall }

/-- 'laws.FnFewestPrefix', WHERE WHAT IT READS IS OF BULK AT MOST 1048576: true; the input reads as it did. -/
def fnFewestPrefixUptoRow : OpenClaim := { program := "ytkiebajggombiaa", sum := "edae3574d4a1cd6c8c5879667fc9bc52409343a5b2beb8d694b50ee5cb8c6b34", func := "loop.example/differenceengine/laws.FnFewestPrefix", spec := "fnFewestPrefix", apart := false, narrowed := true }
def FnFewestPrefixUptoSaid : Prop := fnFewestPrefixUptoRow.holds Try.pinned (OpenSpec.upto fnFewestPrefixSpec)

/-- 'laws.FnGreedyDegree', WHERE WHAT IT READS IS OF BULK AT MOST 1048576: true; the input reads as it did. -/
def fnGreedyDegreeUptoRow : OpenClaim := { program := "ytkiebajggombiaa", sum := "edae3574d4a1cd6c8c5879667fc9bc52409343a5b2beb8d694b50ee5cb8c6b34", func := "loop.example/differenceengine/laws.FnGreedyDegree", spec := "fnGreedyDegree", apart := false, narrowed := true }
def FnGreedyDegreeUptoSaid : Prop := fnGreedyDegreeUptoRow.holds Try.pinned (OpenSpec.upto fnGreedyDegreeSpec)

/-- 'laws.FnPlanCost', WHERE WHAT IT READS IS OF BULK AT MOST 1048576: true; the input reads as it did. -/
def fnPlanCostUptoRow : OpenClaim := { program := "ytkiebajggombiaa", sum := "edae3574d4a1cd6c8c5879667fc9bc52409343a5b2beb8d694b50ee5cb8c6b34", func := "loop.example/differenceengine/laws.FnPlanCost", spec := "fnPlanCost", apart := false, narrowed := true }
def FnPlanCostUptoSaid : Prop := fnPlanCostUptoRow.holds Try.pinned (OpenSpec.upto fnPlanCostSpec)

/-- 'laws.FnSegmentOf', WHERE WHAT IT READS IS OF BULK AT MOST 1048576: true; the input reads as it did. -/
def fnSegmentOfUptoRow : OpenClaim := { program := "ytkiebajggombiaa", sum := "edae3574d4a1cd6c8c5879667fc9bc52409343a5b2beb8d694b50ee5cb8c6b34", func := "loop.example/differenceengine/laws.FnSegmentOf", spec := "fnSegmentOf", apart := false, narrowed := true }
def FnSegmentOfUptoSaid : Prop := fnSegmentOfUptoRow.holds Try.pinned (OpenSpec.upto fnSegmentOfSpec)

/-- 'laws.FnCheapestParts', WHERE WHAT IT READS IS OF BULK AT MOST 1048576: true; the input reads as it did. -/
def fnCheapestPartsUptoRow : OpenClaim := { program := "ytkiebajggombiaa", sum := "edae3574d4a1cd6c8c5879667fc9bc52409343a5b2beb8d694b50ee5cb8c6b34", func := "loop.example/differenceengine/laws.FnCheapestParts", spec := "fnCheapestParts", apart := false, narrowed := true }
def FnCheapestPartsUptoSaid : Prop := fnCheapestPartsUptoRow.holds Try.pinned (OpenSpec.upto fnCheapestPartsSpec)

/-- 'laws.FnGreedyFewest', WHERE WHAT IT READS IS OF BULK AT MOST 1048576: true; the input reads as it did. -/
def fnGreedyFewestUptoRow : OpenClaim := { program := "ytkiebajggombiaa", sum := "edae3574d4a1cd6c8c5879667fc9bc52409343a5b2beb8d694b50ee5cb8c6b34", func := "loop.example/differenceengine/laws.FnGreedyFewest", spec := "fnGreedyFewest", apart := false, narrowed := true }
def FnGreedyFewestUptoSaid : Prop := fnGreedyFewestUptoRow.holds Try.pinned (OpenSpec.upto fnGreedyFewestSpec)

/-- 'laws.FnFindSingle', WHERE WHAT IT READS IS OF BULK AT MOST 1048576: true; the input reads as it did. -/
def fnFindSingleUptoRow : OpenClaim := { program := "ytkiebajggombiaa", sum := "edae3574d4a1cd6c8c5879667fc9bc52409343a5b2beb8d694b50ee5cb8c6b34", func := "loop.example/differenceengine/laws.FnFindSingle", spec := "fnFindSingle", apart := false, narrowed := true }
def FnFindSingleUptoSaid : Prop := fnFindSingleUptoRow.holds Try.pinned (OpenSpec.upto fnFindSingleSpec)

/-- 'laws.FnFindTrue', WHERE WHAT IT READS IS OF BULK AT MOST 1048576: true; the input reads as it did. -/
def fnFindTrueUptoRow : OpenClaim := { program := "ytkiebajggombiaa", sum := "edae3574d4a1cd6c8c5879667fc9bc52409343a5b2beb8d694b50ee5cb8c6b34", func := "loop.example/differenceengine/laws.FnFindTrue", spec := "fnFindTrue", apart := false, narrowed := true }
def FnFindTrueUptoSaid : Prop := fnFindTrueUptoRow.holds Try.pinned (OpenSpec.upto fnFindTrueSpec)

end Rows
end Go.Proofs.Ytkiebajggombiaa
