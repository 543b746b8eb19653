/-
  No cell of these rows narrows 'for every input' (looked for: loops, veiled, ifaces, maps, wideKeys, modest, calm, conditions, laid).
  DERIVED. THE GIVEN ROWS OF THIS SEAT. 12 by the template 'for every input the law returns true; each argument reads behind the call as it read before'; 0 by the template 'total and deterministic' (their statements: YtefdnkhmgefdaaaTotals.lean).
  GIVEN WITH THE SEED: the statements are not yours to turn. If you find one false, say at which input.
  Laid BY PROGRAM, IN A SANDBOX (cutbox-rows.mjs): the forced cells as the released guide's own fill.sh prints them over the translation 7a7e5a318d9ca8da… (all of the seat's roots in one cut). By AI agents, Wed Nov 11 2026. No macro, syntax, notation, axiom, sorry.
-/
import Derived.Test.YtefdnkhmgefdaaaChecked
import GoSem.Claim
import GoSem.ClaimJoined
import GoSem.ClaimMapViews
import Derived.JoinedTies
import Derived.KernelRfl
namespace Go.Proofs.Ytefdnkhmgefdaaa
/- THE CELL 'sum', in the pinned program and in every row, IS THE sha256 OF THE DUMP (.gsa) THAT YtefdnkhmgefdaaaProg.lean LOADS. Nothing in Lean hashes anything: it is a label: what it is worth is what the hold of that sum in a sandbox is worth. -/
noncomputable def Try.pinned : Pinned := { name := "ytefdnkhmgefdaaa", sum := "7a7e5a318d9ca8da1921aa981725ad0ba40cbe909759d71ebd3eebae112086a5", checked := Try.checked }
namespace Rows
def none {H : Type} : Left H := { results := [], args := [] }

/-- 'laws.FnExactErrataOf': WHATEVER THE INPUT: true; the input reads as it did. -/
def fnExactErrataOfSpec : ChangeSpec := { name := "fnExactErrataOf", fn := fun _ => fun
  | [d1, d2] => { results := [.lit (.bool true)], args := [d1, d2] }
  | _ => none }
def fnExactErrataOfRow : OpenClaim := { program := "ytefdnkhmgefdaaa", sum := "7a7e5a318d9ca8da1921aa981725ad0ba40cbe909759d71ebd3eebae112086a5", func := "loop.example/differenceengine/laws.FnExactErrataOf", spec := "fnExactErrataOf", apart := false }
def FnExactErrataOfSaid : Prop := fnExactErrataOfRow.holds Try.pinned (OpenSpec.ofChange fnExactErrataOfSpec)

/-- ITS FALSE NEIGHBOUR: 'it returns false'. Refute it at one input. -/
def fnExactErrataOfWrong : ChangeSpec := { name := "fnExactErrataOf", fn := fun _ => fun
  | [d1, d2] => { results := [.lit (.bool false)], args := [d1, d2] }
  | _ => none }
def FnExactErrataOfWrongFalsely : Prop := fnExactErrataOfRow.holds Try.pinned (OpenSpec.ofChange fnExactErrataOfWrong)

/-- 'laws.FnWrongNines': WHATEVER THE INPUT: true; the input reads as it did. -/
def fnWrongNinesSpec : ChangeSpec := { name := "fnWrongNines", fn := fun _ => fun
  | [d] => { results := [.lit (.bool true)], args := [d] }
  | _ => none }
def fnWrongNinesRow : OpenClaim := { program := "ytefdnkhmgefdaaa", sum := "7a7e5a318d9ca8da1921aa981725ad0ba40cbe909759d71ebd3eebae112086a5", func := "loop.example/differenceengine/laws.FnWrongNines", spec := "fnWrongNines", apart := false }
def FnWrongNinesSaid : Prop := fnWrongNinesRow.holds Try.pinned (OpenSpec.ofChange fnWrongNinesSpec)

/-- ITS FALSE NEIGHBOUR: 'it returns false'. Refute it at one input. -/
def fnWrongNinesWrong : ChangeSpec := { name := "fnWrongNines", fn := fun _ => fun
  | [d] => { results := [.lit (.bool false)], args := [d] }
  | _ => none }
def FnWrongNinesWrongFalsely : Prop := fnWrongNinesRow.holds Try.pinned (OpenSpec.ofChange fnWrongNinesWrong)

/-- 'laws.FnNines': WHATEVER THE INPUT: true; the input reads as it did. -/
def fnNinesSpec : ChangeSpec := { name := "fnNines", fn := fun _ => fun
  | [d] => { results := [.lit (.bool true)], args := [d] }
  | _ => none }
def fnNinesRow : OpenClaim := { program := "ytefdnkhmgefdaaa", sum := "7a7e5a318d9ca8da1921aa981725ad0ba40cbe909759d71ebd3eebae112086a5", func := "loop.example/differenceengine/laws.FnNines", spec := "fnNines", apart := false }
def FnNinesSaid : Prop := fnNinesRow.holds Try.pinned (OpenSpec.ofChange fnNinesSpec)

/-- ITS FALSE NEIGHBOUR: 'it returns false'. Refute it at one input. -/
def fnNinesWrong : ChangeSpec := { name := "fnNines", fn := fun _ => fun
  | [d] => { results := [.lit (.bool false)], args := [d] }
  | _ => none }
def FnNinesWrongFalsely : Prop := fnNinesRow.holds Try.pinned (OpenSpec.ofChange fnNinesWrong)

/-- 'laws.FnExactApplyErrata': WHATEVER THE INPUT: true; the input reads as it did. -/
def fnExactApplyErrataSpec : ChangeSpec := { name := "fnExactApplyErrata", fn := fun _ => fun
  | [d1, d2] => { results := [.lit (.bool true)], args := [d1, d2] }
  | _ => none }
def fnExactApplyErrataRow : OpenClaim := { program := "ytefdnkhmgefdaaa", sum := "7a7e5a318d9ca8da1921aa981725ad0ba40cbe909759d71ebd3eebae112086a5", func := "loop.example/differenceengine/laws.FnExactApplyErrata", spec := "fnExactApplyErrata", apart := false }
def FnExactApplyErrataSaid : Prop := fnExactApplyErrataRow.holds Try.pinned (OpenSpec.ofChange fnExactApplyErrataSpec)

/-- ITS FALSE NEIGHBOUR: 'it returns false'. Refute it at one input. -/
def fnExactApplyErrataWrong : ChangeSpec := { name := "fnExactApplyErrata", fn := fun _ => fun
  | [d1, d2] => { results := [.lit (.bool false)], args := [d1, d2] }
  | _ => none }
def FnExactApplyErrataWrongFalsely : Prop := fnExactApplyErrataRow.holds Try.pinned (OpenSpec.ofChange fnExactApplyErrataWrong)

/-- 'laws.FnPutError': WHATEVER THE INPUT: true; the input reads as it did. -/
def fnPutErrorSpec : ChangeSpec := { name := "fnPutError", fn := fun _ => fun
  | [d] => { results := [.lit (.bool true)], args := [d] }
  | _ => none }
def fnPutErrorRow : OpenClaim := { program := "ytefdnkhmgefdaaa", sum := "7a7e5a318d9ca8da1921aa981725ad0ba40cbe909759d71ebd3eebae112086a5", func := "loop.example/differenceengine/laws.FnPutError", spec := "fnPutError", apart := false }
def FnPutErrorSaid : Prop := fnPutErrorRow.holds Try.pinned (OpenSpec.ofChange fnPutErrorSpec)

/-- ITS FALSE NEIGHBOUR: 'it returns false'. Refute it at one input. -/
def fnPutErrorWrong : ChangeSpec := { name := "fnPutError", fn := fun _ => fun
  | [d] => { results := [.lit (.bool false)], args := [d] }
  | _ => none }
def FnPutErrorWrongFalsely : Prop := fnPutErrorRow.holds Try.pinned (OpenSpec.ofChange fnPutErrorWrong)

/-- 'laws.FnExactFindError': WHATEVER THE INPUT: true; the input reads as it did. -/
def fnExactFindErrorSpec : ChangeSpec := { name := "fnExactFindError", fn := fun _ => fun
  | [d1, d2] => { results := [.lit (.bool true)], args := [d1, d2] }
  | _ => none }
def fnExactFindErrorRow : OpenClaim := { program := "ytefdnkhmgefdaaa", sum := "7a7e5a318d9ca8da1921aa981725ad0ba40cbe909759d71ebd3eebae112086a5", func := "loop.example/differenceengine/laws.FnExactFindError", spec := "fnExactFindError", apart := false }
def FnExactFindErrorSaid : Prop := fnExactFindErrorRow.holds Try.pinned (OpenSpec.ofChange fnExactFindErrorSpec)

/-- ITS FALSE NEIGHBOUR: 'it returns false'. Refute it at one input. -/
def fnExactFindErrorWrong : ChangeSpec := { name := "fnExactFindError", fn := fun _ => fun
  | [d1, d2] => { results := [.lit (.bool false)], args := [d1, d2] }
  | _ => none }
def FnExactFindErrorWrongFalsely : Prop := fnExactFindErrorRow.holds Try.pinned (OpenSpec.ofChange fnExactFindErrorWrong)

/-- 'laws.FnApplyErrata': WHATEVER THE INPUT: true; the input reads as it did. -/
def fnApplyErrataSpec : ChangeSpec := { name := "fnApplyErrata", fn := fun _ => fun
  | [d] => { results := [.lit (.bool true)], args := [d] }
  | _ => none }
def fnApplyErrataRow : OpenClaim := { program := "ytefdnkhmgefdaaa", sum := "7a7e5a318d9ca8da1921aa981725ad0ba40cbe909759d71ebd3eebae112086a5", func := "loop.example/differenceengine/laws.FnApplyErrata", spec := "fnApplyErrata", apart := false }
def FnApplyErrataSaid : Prop := fnApplyErrataRow.holds Try.pinned (OpenSpec.ofChange fnApplyErrataSpec)

/-- ITS FALSE NEIGHBOUR: 'it returns false'. Refute it at one input. -/
def fnApplyErrataWrong : ChangeSpec := { name := "fnApplyErrata", fn := fun _ => fun
  | [d] => { results := [.lit (.bool false)], args := [d] }
  | _ => none }
def FnApplyErrataWrongFalsely : Prop := fnApplyErrataRow.holds Try.pinned (OpenSpec.ofChange fnApplyErrataWrong)

/-- 'laws.FnClean': WHATEVER THE INPUT: true; the input reads as it did. -/
def fnCleanSpec : ChangeSpec := { name := "fnClean", fn := fun _ => fun
  | [d] => { results := [.lit (.bool true)], args := [d] }
  | _ => none }
def fnCleanRow : OpenClaim := { program := "ytefdnkhmgefdaaa", sum := "7a7e5a318d9ca8da1921aa981725ad0ba40cbe909759d71ebd3eebae112086a5", func := "loop.example/differenceengine/laws.FnClean", spec := "fnClean", apart := false }
def FnCleanSaid : Prop := fnCleanRow.holds Try.pinned (OpenSpec.ofChange fnCleanSpec)

/-- ITS FALSE NEIGHBOUR: 'it returns false'. Refute it at one input. -/
def fnCleanWrong : ChangeSpec := { name := "fnClean", fn := fun _ => fun
  | [d] => { results := [.lit (.bool false)], args := [d] }
  | _ => none }
def FnCleanWrongFalsely : Prop := fnCleanRow.holds Try.pinned (OpenSpec.ofChange fnCleanWrong)

/-- 'laws.FnPattern': WHATEVER THE INPUT: true; the input reads as it did. -/
def fnPatternSpec : ChangeSpec := { name := "fnPattern", fn := fun _ => fun
  | [d1, d2] => { results := [.lit (.bool true)], args := [d1, d2] }
  | _ => none }
def fnPatternRow : OpenClaim := { program := "ytefdnkhmgefdaaa", sum := "7a7e5a318d9ca8da1921aa981725ad0ba40cbe909759d71ebd3eebae112086a5", func := "loop.example/differenceengine/laws.FnPattern", spec := "fnPattern", apart := false }
def FnPatternSaid : Prop := fnPatternRow.holds Try.pinned (OpenSpec.ofChange fnPatternSpec)

/-- ITS FALSE NEIGHBOUR: 'it returns false'. Refute it at one input. -/
def fnPatternWrong : ChangeSpec := { name := "fnPattern", fn := fun _ => fun
  | [d1, d2] => { results := [.lit (.bool false)], args := [d1, d2] }
  | _ => none }
def FnPatternWrongFalsely : Prop := fnPatternRow.holds Try.pinned (OpenSpec.ofChange fnPatternWrong)

/-- 'laws.FnExactCorrectTable': WHATEVER THE INPUT: true; the input reads as it did. -/
def fnExactCorrectTableSpec : ChangeSpec := { name := "fnExactCorrectTable", fn := fun _ => fun
  | [d1, d2] => { results := [.lit (.bool true)], args := [d1, d2] }
  | _ => none }
def fnExactCorrectTableRow : OpenClaim := { program := "ytefdnkhmgefdaaa", sum := "7a7e5a318d9ca8da1921aa981725ad0ba40cbe909759d71ebd3eebae112086a5", func := "loop.example/differenceengine/laws.FnExactCorrectTable", spec := "fnExactCorrectTable", apart := false }
def FnExactCorrectTableSaid : Prop := fnExactCorrectTableRow.holds Try.pinned (OpenSpec.ofChange fnExactCorrectTableSpec)

/-- ITS FALSE NEIGHBOUR: 'it returns false'. Refute it at one input. -/
def fnExactCorrectTableWrong : ChangeSpec := { name := "fnExactCorrectTable", fn := fun _ => fun
  | [d1, d2] => { results := [.lit (.bool false)], args := [d1, d2] }
  | _ => none }
def FnExactCorrectTableWrongFalsely : Prop := fnExactCorrectTableRow.holds Try.pinned (OpenSpec.ofChange fnExactCorrectTableWrong)

/-- 'laws.FnErrata': WHATEVER THE INPUT: true; the input reads as it did. -/
def fnErrataSpec : ChangeSpec := { name := "fnErrata", fn := fun _ => fun
  | [d] => { results := [.lit (.bool true)], args := [d] }
  | _ => none }
def fnErrataRow : OpenClaim := { program := "ytefdnkhmgefdaaa", sum := "7a7e5a318d9ca8da1921aa981725ad0ba40cbe909759d71ebd3eebae112086a5", func := "loop.example/differenceengine/laws.FnErrata", spec := "fnErrata", apart := false }
def FnErrataSaid : Prop := fnErrataRow.holds Try.pinned (OpenSpec.ofChange fnErrataSpec)

/-- ITS FALSE NEIGHBOUR: 'it returns false'. Refute it at one input. -/
def fnErrataWrong : ChangeSpec := { name := "fnErrata", fn := fun _ => fun
  | [d] => { results := [.lit (.bool false)], args := [d] }
  | _ => none }
def FnErrataWrongFalsely : Prop := fnErrataRow.holds Try.pinned (OpenSpec.ofChange fnErrataWrong)

/-- 'laws.FnDiagnoseTrue': WHATEVER THE INPUT: true; the input reads as it did. -/
def fnDiagnoseTrueSpec : ChangeSpec := { name := "fnDiagnoseTrue", fn := fun _ => fun
  | [d] => { results := [.lit (.bool true)], args := [d] }
  | _ => none }
def fnDiagnoseTrueRow : OpenClaim := { program := "ytefdnkhmgefdaaa", sum := "7a7e5a318d9ca8da1921aa981725ad0ba40cbe909759d71ebd3eebae112086a5", func := "loop.example/differenceengine/laws.FnDiagnoseTrue", spec := "fnDiagnoseTrue", apart := false }
def FnDiagnoseTrueSaid : Prop := fnDiagnoseTrueRow.holds Try.pinned (OpenSpec.ofChange fnDiagnoseTrueSpec)

/-- ITS FALSE NEIGHBOUR: 'it returns false'. Refute it at one input. -/
def fnDiagnoseTrueWrong : ChangeSpec := { name := "fnDiagnoseTrue", fn := fun _ => fun
  | [d] => { results := [.lit (.bool false)], args := [d] }
  | _ => none }
def FnDiagnoseTrueWrongFalsely : Prop := fnDiagnoseTrueRow.holds Try.pinned (OpenSpec.ofChange fnDiagnoseTrueWrong)

/- THE SECOND FORM. 'bulk': how many values and letters a reading holds, each counted each time it is reached (what is shared counts as often as it is met; a slice's spare places count too). A statement '..UptoSaid' is the law's where the arguments, and the package variables that the reading takes, are together of bulk at most 1048576: NARROWER than '..Said'. Prove '..Said' where nothing that the law and all that it calls make is longer than what came in: it says more and counts as full. Else prove '..UptoSaid'. A law counts once. -/
mutual
def uptoBulk {H : Type} : DataW H → Nat
  | .lit (.string bytes) => bytes.length + 1
  | .lit _ => 1
  | .nil => 1
  | .ptr d => uptoBulk d + 1
  | .slice elems spare => uptoBulkAll elems + uptoBulkAll spare + 1
  | .agg parts => uptoBulkAll parts + 1
  | .iface _ d => uptoBulk d + 1
  | .map entries => uptoBulkEntries entries + 1
  | .held _ => 1
def uptoBulkAll {H : Type} : List (DataW H) → Nat
  | [] => 0
  | d :: r => uptoBulk d + uptoBulkAll r
def uptoBulkEntries {H : Type} : List (Lit × DataW H) → Nat
  | [] => 0
  | x :: r => uptoBulkEntry x + uptoBulkEntries r
def uptoBulkEntry {H : Type} : Lit × DataW H → Nat
  | (.string bytes, d) => bytes.length + uptoBulk d + 1
  | (_, d) => uptoBulk d + 1
 end
def uptoSmall : (H : Type) → List (DataW H) → Bool := fun _ ds => decide (uptoBulkAll ds ≤ 1048576)
def OpenSpec.upto (s : _root_.Go.ChangeSpec) : _root_.Go.OpenSpec := { _root_.Go.OpenSpec.ofChange s with cond := some uptoSmall }

/-- 'laws.FnExactErrataOf', WHERE WHAT IT READS IS OF BULK AT MOST 1048576: true; the input reads as it did. -/
def fnExactErrataOfUptoRow : OpenClaim := { program := "ytefdnkhmgefdaaa", sum := "7a7e5a318d9ca8da1921aa981725ad0ba40cbe909759d71ebd3eebae112086a5", func := "loop.example/differenceengine/laws.FnExactErrataOf", spec := "fnExactErrataOf", apart := false, narrowed := true }
def FnExactErrataOfUptoSaid : Prop := fnExactErrataOfUptoRow.holds Try.pinned (OpenSpec.upto fnExactErrataOfSpec)

/-- 'laws.FnWrongNines', WHERE WHAT IT READS IS OF BULK AT MOST 1048576: true; the input reads as it did. -/
def fnWrongNinesUptoRow : OpenClaim := { program := "ytefdnkhmgefdaaa", sum := "7a7e5a318d9ca8da1921aa981725ad0ba40cbe909759d71ebd3eebae112086a5", func := "loop.example/differenceengine/laws.FnWrongNines", spec := "fnWrongNines", apart := false, narrowed := true }
def FnWrongNinesUptoSaid : Prop := fnWrongNinesUptoRow.holds Try.pinned (OpenSpec.upto fnWrongNinesSpec)

/-- 'laws.FnNines', WHERE WHAT IT READS IS OF BULK AT MOST 1048576: true; the input reads as it did. -/
def fnNinesUptoRow : OpenClaim := { program := "ytefdnkhmgefdaaa", sum := "7a7e5a318d9ca8da1921aa981725ad0ba40cbe909759d71ebd3eebae112086a5", func := "loop.example/differenceengine/laws.FnNines", spec := "fnNines", apart := false, narrowed := true }
def FnNinesUptoSaid : Prop := fnNinesUptoRow.holds Try.pinned (OpenSpec.upto fnNinesSpec)

/-- 'laws.FnExactApplyErrata', WHERE WHAT IT READS IS OF BULK AT MOST 1048576: true; the input reads as it did. -/
def fnExactApplyErrataUptoRow : OpenClaim := { program := "ytefdnkhmgefdaaa", sum := "7a7e5a318d9ca8da1921aa981725ad0ba40cbe909759d71ebd3eebae112086a5", func := "loop.example/differenceengine/laws.FnExactApplyErrata", spec := "fnExactApplyErrata", apart := false, narrowed := true }
def FnExactApplyErrataUptoSaid : Prop := fnExactApplyErrataUptoRow.holds Try.pinned (OpenSpec.upto fnExactApplyErrataSpec)

/-- 'laws.FnPutError', WHERE WHAT IT READS IS OF BULK AT MOST 1048576: true; the input reads as it did. -/
def fnPutErrorUptoRow : OpenClaim := { program := "ytefdnkhmgefdaaa", sum := "7a7e5a318d9ca8da1921aa981725ad0ba40cbe909759d71ebd3eebae112086a5", func := "loop.example/differenceengine/laws.FnPutError", spec := "fnPutError", apart := false, narrowed := true }
def FnPutErrorUptoSaid : Prop := fnPutErrorUptoRow.holds Try.pinned (OpenSpec.upto fnPutErrorSpec)

/-- 'laws.FnExactFindError', WHERE WHAT IT READS IS OF BULK AT MOST 1048576: true; the input reads as it did. -/
def fnExactFindErrorUptoRow : OpenClaim := { program := "ytefdnkhmgefdaaa", sum := "7a7e5a318d9ca8da1921aa981725ad0ba40cbe909759d71ebd3eebae112086a5", func := "loop.example/differenceengine/laws.FnExactFindError", spec := "fnExactFindError", apart := false, narrowed := true }
def FnExactFindErrorUptoSaid : Prop := fnExactFindErrorUptoRow.holds Try.pinned (OpenSpec.upto fnExactFindErrorSpec)

/-- 'laws.FnApplyErrata', WHERE WHAT IT READS IS OF BULK AT MOST 1048576: true; the input reads as it did. -/
def fnApplyErrataUptoRow : OpenClaim := { program := "ytefdnkhmgefdaaa", sum := "7a7e5a318d9ca8da1921aa981725ad0ba40cbe909759d71ebd3eebae112086a5", func := "loop.example/differenceengine/laws.FnApplyErrata", spec := "fnApplyErrata", apart := false, narrowed := true }
def FnApplyErrataUptoSaid : Prop := fnApplyErrataUptoRow.holds Try.pinned (OpenSpec.upto fnApplyErrataSpec)

/-- 'laws.FnClean', WHERE WHAT IT READS IS OF BULK AT MOST 1048576: true; the input reads as it did. -/
def fnCleanUptoRow : OpenClaim := { program := "ytefdnkhmgefdaaa", sum := "7a7e5a318d9ca8da1921aa981725ad0ba40cbe909759d71ebd3eebae112086a5", func := "loop.example/differenceengine/laws.FnClean", spec := "fnClean", apart := false, narrowed := true }
def FnCleanUptoSaid : Prop := fnCleanUptoRow.holds Try.pinned (OpenSpec.upto fnCleanSpec)

/-- 'laws.FnPattern', WHERE WHAT IT READS IS OF BULK AT MOST 1048576: true; the input reads as it did. -/
def fnPatternUptoRow : OpenClaim := { program := "ytefdnkhmgefdaaa", sum := "7a7e5a318d9ca8da1921aa981725ad0ba40cbe909759d71ebd3eebae112086a5", func := "loop.example/differenceengine/laws.FnPattern", spec := "fnPattern", apart := false, narrowed := true }
def FnPatternUptoSaid : Prop := fnPatternUptoRow.holds Try.pinned (OpenSpec.upto fnPatternSpec)

/-- 'laws.FnExactCorrectTable', WHERE WHAT IT READS IS OF BULK AT MOST 1048576: true; the input reads as it did. -/
def fnExactCorrectTableUptoRow : OpenClaim := { program := "ytefdnkhmgefdaaa", sum := "7a7e5a318d9ca8da1921aa981725ad0ba40cbe909759d71ebd3eebae112086a5", func := "loop.example/differenceengine/laws.FnExactCorrectTable", spec := "fnExactCorrectTable", apart := false, narrowed := true }
def FnExactCorrectTableUptoSaid : Prop := fnExactCorrectTableUptoRow.holds Try.pinned (OpenSpec.upto fnExactCorrectTableSpec)

/-- 'laws.FnErrata', WHERE WHAT IT READS IS OF BULK AT MOST 1048576: true; the input reads as it did. -/
def fnErrataUptoRow : OpenClaim := { program := "ytefdnkhmgefdaaa", sum := "7a7e5a318d9ca8da1921aa981725ad0ba40cbe909759d71ebd3eebae112086a5", func := "loop.example/differenceengine/laws.FnErrata", spec := "fnErrata", apart := false, narrowed := true }
def FnErrataUptoSaid : Prop := fnErrataUptoRow.holds Try.pinned (OpenSpec.upto fnErrataSpec)

/-- 'laws.FnDiagnoseTrue', WHERE WHAT IT READS IS OF BULK AT MOST 1048576: true; the input reads as it did. -/
def fnDiagnoseTrueUptoRow : OpenClaim := { program := "ytefdnkhmgefdaaa", sum := "7a7e5a318d9ca8da1921aa981725ad0ba40cbe909759d71ebd3eebae112086a5", func := "loop.example/differenceengine/laws.FnDiagnoseTrue", spec := "fnDiagnoseTrue", apart := false, narrowed := true }
def FnDiagnoseTrueUptoSaid : Prop := fnDiagnoseTrueUptoRow.holds Try.pinned (OpenSpec.upto fnDiagnoseTrueSpec)

end Rows
end Go.Proofs.Ytefdnkhmgefdaaa
