/-
  No cell of these rows narrows 'for every input' (looked for: loops, veiled, ifaces, maps, wideKeys, modest, calm, conditions, laid).
  DERIVED. THE GIVEN ROWS OF THIS SEAT. 12 by the template 'for every input the law returns true; each argument reads behind the call as it read before'; 0 by the template 'total and deterministic' (their statements: YtgdekefpglhoeaaTotals.lean).
  GIVEN WITH THE SEED: the statements are not yours to turn. If you find one false, say at which input.
  Laid BY PROGRAM, IN A SANDBOX (cutbox-rows.mjs): the forced cells as the released guide's own fill.sh prints them over the translation 5e191798859065c9… (all of the seat's roots in one cut). By AI agents, Wed Nov 11 2026. No macro, syntax, notation, axiom, sorry.
-/
import Derived.Test.YtgdekefpglhoeaaChecked
import GoSem.Claim
import GoSem.ClaimJoined
import GoSem.ClaimMapViews
import Derived.JoinedTies
import Derived.KernelRfl
namespace Go.Proofs.Ytgdekefpglhoeaa
/- THE CELL 'sum', in the pinned program and in every row, IS THE sha256 OF THE DUMP (.gsa) THAT YtgdekefpglhoeaaProg.lean LOADS. Nothing in Lean hashes anything: it is a label: what it is worth is what the hold of that sum in a sandbox is worth. -/
noncomputable def Try.pinned : Pinned := { name := "ytgdekefpglhoeaa", sum := "5e191798859065c9d023c528b28ac8f172b81fd6debec8befed8abe1305f4da4", checked := Try.checked }
namespace Rows
def none {H : Type} : Left H := { results := [], args := [] }

/-- 'laws.FnExactNinesOf': WHATEVER THE INPUT: true; the input reads as it did. -/
def fnExactNinesOfSpec : ChangeSpec := { name := "fnExactNinesOf", fn := fun _ => fun
  | [d] => { results := [.lit (.bool true)], args := [d] }
  | _ => none }
def fnExactNinesOfRow : OpenClaim := { program := "ytgdekefpglhoeaa", sum := "5e191798859065c9d023c528b28ac8f172b81fd6debec8befed8abe1305f4da4", func := "loop.example/differenceengine/laws.FnExactNinesOf", spec := "fnExactNinesOf", apart := false }
def FnExactNinesOfSaid : Prop := fnExactNinesOfRow.holds Try.pinned (OpenSpec.ofChange fnExactNinesOfSpec)

/-- ITS FALSE NEIGHBOUR: 'it returns false'. Refute it at one input. -/
def fnExactNinesOfWrong : ChangeSpec := { name := "fnExactNinesOf", fn := fun _ => fun
  | [d] => { results := [.lit (.bool false)], args := [d] }
  | _ => none }
def FnExactNinesOfWrongFalsely : Prop := fnExactNinesOfRow.holds Try.pinned (OpenSpec.ofChange fnExactNinesOfWrong)

/-- 'laws.FnExactPutError': WHATEVER THE INPUT: true; the input reads as it did. -/
def fnExactPutErrorSpec : ChangeSpec := { name := "fnExactPutError", fn := fun _ => fun
  | [d1, d2, d3] => { results := [.lit (.bool true)], args := [d1, d2, d3] }
  | _ => none }
def fnExactPutErrorRow : OpenClaim := { program := "ytgdekefpglhoeaa", sum := "5e191798859065c9d023c528b28ac8f172b81fd6debec8befed8abe1305f4da4", func := "loop.example/differenceengine/laws.FnExactPutError", spec := "fnExactPutError", apart := false }
def FnExactPutErrorSaid : Prop := fnExactPutErrorRow.holds Try.pinned (OpenSpec.ofChange fnExactPutErrorSpec)

/-- ITS FALSE NEIGHBOUR: 'it returns false'. Refute it at one input. -/
def fnExactPutErrorWrong : ChangeSpec := { name := "fnExactPutError", fn := fun _ => fun
  | [d1, d2, d3] => { results := [.lit (.bool false)], args := [d1, d2, d3] }
  | _ => none }
def FnExactPutErrorWrongFalsely : Prop := fnExactPutErrorRow.holds Try.pinned (OpenSpec.ofChange fnExactPutErrorWrong)

/-- 'laws.FnPatternSum': WHATEVER THE INPUT: true; the input reads as it did. -/
def fnPatternSumSpec : ChangeSpec := { name := "fnPatternSum", fn := fun _ => fun
  | [d] => { results := [.lit (.bool true)], args := [d] }
  | _ => none }
def fnPatternSumRow : OpenClaim := { program := "ytgdekefpglhoeaa", sum := "5e191798859065c9d023c528b28ac8f172b81fd6debec8befed8abe1305f4da4", func := "loop.example/differenceengine/laws.FnPatternSum", spec := "fnPatternSum", apart := false }
def FnPatternSumSaid : Prop := fnPatternSumRow.holds Try.pinned (OpenSpec.ofChange fnPatternSumSpec)

/-- ITS FALSE NEIGHBOUR: 'it returns false'. Refute it at one input. -/
def fnPatternSumWrong : ChangeSpec := { name := "fnPatternSum", fn := fun _ => fun
  | [d] => { results := [.lit (.bool false)], args := [d] }
  | _ => none }
def FnPatternSumWrongFalsely : Prop := fnPatternSumRow.holds Try.pinned (OpenSpec.ofChange fnPatternSumWrong)

/-- 'laws.FnExactCleanTable': WHATEVER THE INPUT: true; the input reads as it did. -/
def fnExactCleanTableSpec : ChangeSpec := { name := "fnExactCleanTable", fn := fun _ => fun
  | [d1, d2] => { results := [.lit (.bool true)], args := [d1, d2] }
  | _ => none }
def fnExactCleanTableRow : OpenClaim := { program := "ytgdekefpglhoeaa", sum := "5e191798859065c9d023c528b28ac8f172b81fd6debec8befed8abe1305f4da4", func := "loop.example/differenceengine/laws.FnExactCleanTable", spec := "fnExactCleanTable", apart := false }
def FnExactCleanTableSaid : Prop := fnExactCleanTableRow.holds Try.pinned (OpenSpec.ofChange fnExactCleanTableSpec)

/-- ITS FALSE NEIGHBOUR: 'it returns false'. Refute it at one input. -/
def fnExactCleanTableWrong : ChangeSpec := { name := "fnExactCleanTable", fn := fun _ => fun
  | [d1, d2] => { results := [.lit (.bool false)], args := [d1, d2] }
  | _ => none }
def FnExactCleanTableWrongFalsely : Prop := fnExactCleanTableRow.holds Try.pinned (OpenSpec.ofChange fnExactCleanTableWrong)

/-- 'laws.FnSlipEffect': WHATEVER THE INPUT: true; the input reads as it did. -/
def fnSlipEffectSpec : ChangeSpec := { name := "fnSlipEffect", fn := fun _ => fun
  | [d] => { results := [.lit (.bool true)], args := [d] }
  | _ => none }
def fnSlipEffectRow : OpenClaim := { program := "ytgdekefpglhoeaa", sum := "5e191798859065c9d023c528b28ac8f172b81fd6debec8befed8abe1305f4da4", func := "loop.example/differenceengine/laws.FnSlipEffect", spec := "fnSlipEffect", apart := false }
def FnSlipEffectSaid : Prop := fnSlipEffectRow.holds Try.pinned (OpenSpec.ofChange fnSlipEffectSpec)

/-- ITS FALSE NEIGHBOUR: 'it returns false'. Refute it at one input. -/
def fnSlipEffectWrong : ChangeSpec := { name := "fnSlipEffect", fn := fun _ => fun
  | [d] => { results := [.lit (.bool false)], args := [d] }
  | _ => none }
def FnSlipEffectWrongFalsely : Prop := fnSlipEffectRow.holds Try.pinned (OpenSpec.ofChange fnSlipEffectWrong)

/-- 'laws.FnExactErrataOf': WHATEVER THE INPUT: true; the input reads as it did. -/
def fnExactErrataOfSpec : ChangeSpec := { name := "fnExactErrataOf", fn := fun _ => fun
  | [d1, d2] => { results := [.lit (.bool true)], args := [d1, d2] }
  | _ => none }
def fnExactErrataOfRow : OpenClaim := { program := "ytgdekefpglhoeaa", sum := "5e191798859065c9d023c528b28ac8f172b81fd6debec8befed8abe1305f4da4", func := "loop.example/differenceengine/laws.FnExactErrataOf", spec := "fnExactErrataOf", apart := false }
def FnExactErrataOfSaid : Prop := fnExactErrataOfRow.holds Try.pinned (OpenSpec.ofChange fnExactErrataOfSpec)

/-- ITS FALSE NEIGHBOUR: 'it returns false'. Refute it at one input. -/
def fnExactErrataOfWrong : ChangeSpec := { name := "fnExactErrataOf", fn := fun _ => fun
  | [d1, d2] => { results := [.lit (.bool false)], args := [d1, d2] }
  | _ => none }
def FnExactErrataOfWrongFalsely : Prop := fnExactErrataOfRow.holds Try.pinned (OpenSpec.ofChange fnExactErrataOfWrong)

/-- 'laws.FnExactDiagnoseSlip': WHATEVER THE INPUT: true; the input reads as it did. -/
def fnExactDiagnoseSlipSpec : ChangeSpec := { name := "fnExactDiagnoseSlip", fn := fun _ => fun
  | [d1, d2] => { results := [.lit (.bool true)], args := [d1, d2] }
  | _ => none }
def fnExactDiagnoseSlipRow : OpenClaim := { program := "ytgdekefpglhoeaa", sum := "5e191798859065c9d023c528b28ac8f172b81fd6debec8befed8abe1305f4da4", func := "loop.example/differenceengine/laws.FnExactDiagnoseSlip", spec := "fnExactDiagnoseSlip", apart := false }
def FnExactDiagnoseSlipSaid : Prop := fnExactDiagnoseSlipRow.holds Try.pinned (OpenSpec.ofChange fnExactDiagnoseSlipSpec)

/-- ITS FALSE NEIGHBOUR: 'it returns false'. Refute it at one input. -/
def fnExactDiagnoseSlipWrong : ChangeSpec := { name := "fnExactDiagnoseSlip", fn := fun _ => fun
  | [d1, d2] => { results := [.lit (.bool false)], args := [d1, d2] }
  | _ => none }
def FnExactDiagnoseSlipWrongFalsely : Prop := fnExactDiagnoseSlipRow.holds Try.pinned (OpenSpec.ofChange fnExactDiagnoseSlipWrong)

/-- 'laws.FnDiagnoseFound': WHATEVER THE INPUT: true; the input reads as it did. -/
def fnDiagnoseFoundSpec : ChangeSpec := { name := "fnDiagnoseFound", fn := fun _ => fun
  | [d] => { results := [.lit (.bool true)], args := [d] }
  | _ => none }
def fnDiagnoseFoundRow : OpenClaim := { program := "ytgdekefpglhoeaa", sum := "5e191798859065c9d023c528b28ac8f172b81fd6debec8befed8abe1305f4da4", func := "loop.example/differenceengine/laws.FnDiagnoseFound", spec := "fnDiagnoseFound", apart := false }
def FnDiagnoseFoundSaid : Prop := fnDiagnoseFoundRow.holds Try.pinned (OpenSpec.ofChange fnDiagnoseFoundSpec)

/-- ITS FALSE NEIGHBOUR: 'it returns false'. Refute it at one input. -/
def fnDiagnoseFoundWrong : ChangeSpec := { name := "fnDiagnoseFound", fn := fun _ => fun
  | [d] => { results := [.lit (.bool false)], args := [d] }
  | _ => none }
def FnDiagnoseFoundWrongFalsely : Prop := fnDiagnoseFoundRow.holds Try.pinned (OpenSpec.ofChange fnDiagnoseFoundWrong)

/-- 'laws.FnWrongNines': WHATEVER THE INPUT: true; the input reads as it did. -/
def fnWrongNinesSpec : ChangeSpec := { name := "fnWrongNines", fn := fun _ => fun
  | [d] => { results := [.lit (.bool true)], args := [d] }
  | _ => none }
def fnWrongNinesRow : OpenClaim := { program := "ytgdekefpglhoeaa", sum := "5e191798859065c9d023c528b28ac8f172b81fd6debec8befed8abe1305f4da4", func := "loop.example/differenceengine/laws.FnWrongNines", spec := "fnWrongNines", apart := false }
def FnWrongNinesSaid : Prop := fnWrongNinesRow.holds Try.pinned (OpenSpec.ofChange fnWrongNinesSpec)

/-- ITS FALSE NEIGHBOUR: 'it returns false'. Refute it at one input. -/
def fnWrongNinesWrong : ChangeSpec := { name := "fnWrongNines", fn := fun _ => fun
  | [d] => { results := [.lit (.bool false)], args := [d] }
  | _ => none }
def FnWrongNinesWrongFalsely : Prop := fnWrongNinesRow.holds Try.pinned (OpenSpec.ofChange fnWrongNinesWrong)

/-- 'laws.FnNines': WHATEVER THE INPUT: true; the input reads as it did. -/
def fnNinesSpec : ChangeSpec := { name := "fnNines", fn := fun _ => fun
  | [d] => { results := [.lit (.bool true)], args := [d] }
  | _ => none }
def fnNinesRow : OpenClaim := { program := "ytgdekefpglhoeaa", sum := "5e191798859065c9d023c528b28ac8f172b81fd6debec8befed8abe1305f4da4", func := "loop.example/differenceengine/laws.FnNines", spec := "fnNines", apart := false }
def FnNinesSaid : Prop := fnNinesRow.holds Try.pinned (OpenSpec.ofChange fnNinesSpec)

/-- ITS FALSE NEIGHBOUR: 'it returns false'. Refute it at one input. -/
def fnNinesWrong : ChangeSpec := { name := "fnNines", fn := fun _ => fun
  | [d] => { results := [.lit (.bool false)], args := [d] }
  | _ => none }
def FnNinesWrongFalsely : Prop := fnNinesRow.holds Try.pinned (OpenSpec.ofChange fnNinesWrong)

/-- 'laws.FnExactApplyErrata': WHATEVER THE INPUT: true; the input reads as it did. -/
def fnExactApplyErrataSpec : ChangeSpec := { name := "fnExactApplyErrata", fn := fun _ => fun
  | [d1, d2] => { results := [.lit (.bool true)], args := [d1, d2] }
  | _ => none }
def fnExactApplyErrataRow : OpenClaim := { program := "ytgdekefpglhoeaa", sum := "5e191798859065c9d023c528b28ac8f172b81fd6debec8befed8abe1305f4da4", func := "loop.example/differenceengine/laws.FnExactApplyErrata", spec := "fnExactApplyErrata", apart := false }
def FnExactApplyErrataSaid : Prop := fnExactApplyErrataRow.holds Try.pinned (OpenSpec.ofChange fnExactApplyErrataSpec)

/-- ITS FALSE NEIGHBOUR: 'it returns false'. Refute it at one input. -/
def fnExactApplyErrataWrong : ChangeSpec := { name := "fnExactApplyErrata", fn := fun _ => fun
  | [d1, d2] => { results := [.lit (.bool false)], args := [d1, d2] }
  | _ => none }
def FnExactApplyErrataWrongFalsely : Prop := fnExactApplyErrataRow.holds Try.pinned (OpenSpec.ofChange fnExactApplyErrataWrong)

/-- 'laws.FnPutError': WHATEVER THE INPUT: true; the input reads as it did. -/
def fnPutErrorSpec : ChangeSpec := { name := "fnPutError", fn := fun _ => fun
  | [d] => { results := [.lit (.bool true)], args := [d] }
  | _ => none }
def fnPutErrorRow : OpenClaim := { program := "ytgdekefpglhoeaa", sum := "5e191798859065c9d023c528b28ac8f172b81fd6debec8befed8abe1305f4da4", func := "loop.example/differenceengine/laws.FnPutError", spec := "fnPutError", apart := false }
def FnPutErrorSaid : Prop := fnPutErrorRow.holds Try.pinned (OpenSpec.ofChange fnPutErrorSpec)

/-- ITS FALSE NEIGHBOUR: 'it returns false'. Refute it at one input. -/
def fnPutErrorWrong : ChangeSpec := { name := "fnPutError", fn := fun _ => fun
  | [d] => { results := [.lit (.bool false)], args := [d] }
  | _ => none }
def FnPutErrorWrongFalsely : Prop := fnPutErrorRow.holds Try.pinned (OpenSpec.ofChange fnPutErrorWrong)

/- THE SECOND FORM. 'bulk': how many values and letters a reading holds, each counted each time it is reached (what is shared counts as often as it is met; a slice's spare places count too). A statement '..UptoSaid' is the law's where the arguments, and the package variables that the reading takes, are together of bulk at most 1048576: NARROWER than '..Said'. Prove '..Said' where nothing that the law and all that it calls make is longer than what came in: it says more and counts as full. Else prove '..UptoSaid'. A law counts once. -/
mutual
def uptoBulk {H : Type} : DataW H → Nat
  | .lit (.string bytes) => bytes.length + 1
  | .lit _ => 1
  | .nil => 1
  | .ptr d => uptoBulk d + 1
  | .slice elems spare => uptoBulkAll elems + uptoBulkAll spare + 1
  | .agg parts => uptoBulkAll parts + 1
  | .iface _ d => uptoBulk d + 1
  | .map entries => uptoBulkEntries entries + 1
  | .held _ => 1
def uptoBulkAll {H : Type} : List (DataW H) → Nat
  | [] => 0
  | d :: r => uptoBulk d + uptoBulkAll r
def uptoBulkEntries {H : Type} : List (Lit × DataW H) → Nat
  | [] => 0
  | x :: r => uptoBulkEntry x + uptoBulkEntries r
def uptoBulkEntry {H : Type} : Lit × DataW H → Nat
  | (.string bytes, d) => bytes.length + uptoBulk d + 1
  | (_, d) => uptoBulk d + 1
 end
def uptoSmall : (H : Type) → List (DataW H) → Bool := fun _ ds => decide (uptoBulkAll ds ≤ 1048576)
def OpenSpec.upto (s : _root_.Go.ChangeSpec) : _root_.Go.OpenSpec := { _root_.Go.OpenSpec.ofChange s with cond := some uptoSmall }

/-- 'laws.FnExactNinesOf', WHERE WHAT IT READS IS OF BULK AT MOST 1048576: true; the input reads as it did. -/
def fnExactNinesOfUptoRow : OpenClaim := { program := "ytgdekefpglhoeaa", sum := "5e191798859065c9d023c528b28ac8f172b81fd6debec8befed8abe1305f4da4", func := "loop.example/differenceengine/laws.FnExactNinesOf", spec := "fnExactNinesOf", apart := false, narrowed := true }
def FnExactNinesOfUptoSaid : Prop := fnExactNinesOfUptoRow.holds Try.pinned (OpenSpec.upto fnExactNinesOfSpec)

/-- 'laws.FnExactPutError', WHERE WHAT IT READS IS OF BULK AT MOST 1048576: true; the input reads as it did. -/
def fnExactPutErrorUptoRow : OpenClaim := { program := "ytgdekefpglhoeaa", sum := "5e191798859065c9d023c528b28ac8f172b81fd6debec8befed8abe1305f4da4", func := "loop.example/differenceengine/laws.FnExactPutError", spec := "fnExactPutError", apart := false, narrowed := true }
def FnExactPutErrorUptoSaid : Prop := fnExactPutErrorUptoRow.holds Try.pinned (OpenSpec.upto fnExactPutErrorSpec)

/-- 'laws.FnPatternSum', WHERE WHAT IT READS IS OF BULK AT MOST 1048576: true; the input reads as it did. -/
def fnPatternSumUptoRow : OpenClaim := { program := "ytgdekefpglhoeaa", sum := "5e191798859065c9d023c528b28ac8f172b81fd6debec8befed8abe1305f4da4", func := "loop.example/differenceengine/laws.FnPatternSum", spec := "fnPatternSum", apart := false, narrowed := true }
def FnPatternSumUptoSaid : Prop := fnPatternSumUptoRow.holds Try.pinned (OpenSpec.upto fnPatternSumSpec)

/-- 'laws.FnExactCleanTable', WHERE WHAT IT READS IS OF BULK AT MOST 1048576: true; the input reads as it did. -/
def fnExactCleanTableUptoRow : OpenClaim := { program := "ytgdekefpglhoeaa", sum := "5e191798859065c9d023c528b28ac8f172b81fd6debec8befed8abe1305f4da4", func := "loop.example/differenceengine/laws.FnExactCleanTable", spec := "fnExactCleanTable", apart := false, narrowed := true }
def FnExactCleanTableUptoSaid : Prop := fnExactCleanTableUptoRow.holds Try.pinned (OpenSpec.upto fnExactCleanTableSpec)

/-- 'laws.FnSlipEffect', WHERE WHAT IT READS IS OF BULK AT MOST 1048576: true; the input reads as it did. -/
def fnSlipEffectUptoRow : OpenClaim := { program := "ytgdekefpglhoeaa", sum := "5e191798859065c9d023c528b28ac8f172b81fd6debec8befed8abe1305f4da4", func := "loop.example/differenceengine/laws.FnSlipEffect", spec := "fnSlipEffect", apart := false, narrowed := true }
def FnSlipEffectUptoSaid : Prop := fnSlipEffectUptoRow.holds Try.pinned (OpenSpec.upto fnSlipEffectSpec)

/-- 'laws.FnExactErrataOf', WHERE WHAT IT READS IS OF BULK AT MOST 1048576: true; the input reads as it did. -/
def fnExactErrataOfUptoRow : OpenClaim := { program := "ytgdekefpglhoeaa", sum := "5e191798859065c9d023c528b28ac8f172b81fd6debec8befed8abe1305f4da4", func := "loop.example/differenceengine/laws.FnExactErrataOf", spec := "fnExactErrataOf", apart := false, narrowed := true }
def FnExactErrataOfUptoSaid : Prop := fnExactErrataOfUptoRow.holds Try.pinned (OpenSpec.upto fnExactErrataOfSpec)

/-- 'laws.FnExactDiagnoseSlip', WHERE WHAT IT READS IS OF BULK AT MOST 1048576: true; the input reads as it did. -/
def fnExactDiagnoseSlipUptoRow : OpenClaim := { program := "ytgdekefpglhoeaa", sum := "5e191798859065c9d023c528b28ac8f172b81fd6debec8befed8abe1305f4da4", func := "loop.example/differenceengine/laws.FnExactDiagnoseSlip", spec := "fnExactDiagnoseSlip", apart := false, narrowed := true }
def FnExactDiagnoseSlipUptoSaid : Prop := fnExactDiagnoseSlipUptoRow.holds Try.pinned (OpenSpec.upto fnExactDiagnoseSlipSpec)

/-- 'laws.FnDiagnoseFound', WHERE WHAT IT READS IS OF BULK AT MOST 1048576: true; the input reads as it did. -/
def fnDiagnoseFoundUptoRow : OpenClaim := { program := "ytgdekefpglhoeaa", sum := "5e191798859065c9d023c528b28ac8f172b81fd6debec8befed8abe1305f4da4", func := "loop.example/differenceengine/laws.FnDiagnoseFound", spec := "fnDiagnoseFound", apart := false, narrowed := true }
def FnDiagnoseFoundUptoSaid : Prop := fnDiagnoseFoundUptoRow.holds Try.pinned (OpenSpec.upto fnDiagnoseFoundSpec)

/-- 'laws.FnWrongNines', WHERE WHAT IT READS IS OF BULK AT MOST 1048576: true; the input reads as it did. -/
def fnWrongNinesUptoRow : OpenClaim := { program := "ytgdekefpglhoeaa", sum := "5e191798859065c9d023c528b28ac8f172b81fd6debec8befed8abe1305f4da4", func := "loop.example/differenceengine/laws.FnWrongNines", spec := "fnWrongNines", apart := false, narrowed := true }
def FnWrongNinesUptoSaid : Prop := fnWrongNinesUptoRow.holds Try.pinned (OpenSpec.upto fnWrongNinesSpec)

/-- 'laws.FnNines', WHERE WHAT IT READS IS OF BULK AT MOST 1048576: true; the input reads as it did. -/
def fnNinesUptoRow : OpenClaim := { program := "ytgdekefpglhoeaa", sum := "5e191798859065c9d023c528b28ac8f172b81fd6debec8befed8abe1305f4da4", func := "loop.example/differenceengine/laws.FnNines", spec := "fnNines", apart := false, narrowed := true }
def FnNinesUptoSaid : Prop := fnNinesUptoRow.holds Try.pinned (OpenSpec.upto fnNinesSpec)

/-- 'laws.FnExactApplyErrata', WHERE WHAT IT READS IS OF BULK AT MOST 1048576: true; the input reads as it did. -/
def fnExactApplyErrataUptoRow : OpenClaim := { program := "ytgdekefpglhoeaa", sum := "5e191798859065c9d023c528b28ac8f172b81fd6debec8befed8abe1305f4da4", func := "loop.example/differenceengine/laws.FnExactApplyErrata", spec := "fnExactApplyErrata", apart := false, narrowed := true }
def FnExactApplyErrataUptoSaid : Prop := fnExactApplyErrataUptoRow.holds Try.pinned (OpenSpec.upto fnExactApplyErrataSpec)

/-- 'laws.FnPutError', WHERE WHAT IT READS IS OF BULK AT MOST 1048576: true; the input reads as it did. -/
def fnPutErrorUptoRow : OpenClaim := { program := "ytgdekefpglhoeaa", sum := "5e191798859065c9d023c528b28ac8f172b81fd6debec8befed8abe1305f4da4", func := "loop.example/differenceengine/laws.FnPutError", spec := "fnPutError", apart := false, narrowed := true }
def FnPutErrorUptoSaid : Prop := fnPutErrorUptoRow.holds Try.pinned (OpenSpec.upto fnPutErrorSpec)

end Rows
end Go.Proofs.Ytgdekefpglhoeaa
