/-
  No cell of these rows narrows 'for every input' (looked for: loops, veiled, ifaces, maps, wideKeys, modest, calm, conditions, laid).
  DERIVED. THE GIVEN ROWS OF THIS SEAT. 6 by the template 'for every input the law returns true; each argument reads behind the call as it read before'; 0 by the template 'total and deterministic' (their statements: YthjcolddnbcniaaTotals.lean).
  GIVEN WITH THE SEED: the statements are not yours to turn. If you find one false, say at which input.
  Laid BY PROGRAM, IN A SANDBOX (cutbox-rows.mjs): the forced cells as the released guide's own fill.sh prints them over the translation 931342bb1b660790… (all of the seat's roots in one cut). By AI agents, Wed Nov 11 2026. No macro, syntax, notation, axiom, sorry.
-/
import Derived.Test.YthjcolddnbcniaaChecked
import GoSem.Claim
import GoSem.ClaimJoined
import GoSem.ClaimMapViews
import Derived.JoinedTies
import Derived.KernelRfl
namespace Go.Proofs.Ythjcolddnbcniaa
/- THE CELL 'sum', in the pinned program and in every row, IS THE sha256 OF THE DUMP (.gsa) THAT YthjcolddnbcniaaProg.lean LOADS. Nothing in Lean hashes anything: it is a label: what it is worth is what the hold of that sum in a sandbox is worth. -/
noncomputable def Try.pinned : Pinned := { name := "ythjcolddnbcniaa", sum := "931342bb1b660790d4355f35e82a2c798be12c9f665bcc40017f38aaf4359224", checked := Try.checked }
namespace Rows
def none {H : Type} : Left H := { results := [], args := [] }

/-- 'laws.FnExactExchangeDigits': WHATEVER THE INPUT: true; the input reads as it did. -/
def fnExactExchangeDigitsSpec : ChangeSpec := { name := "fnExactExchangeDigits", fn := fun _ => fun
  | [d1, d2] => { results := [.lit (.bool true)], args := [d1, d2] }
  | _ => none }
def fnExactExchangeDigitsRow : OpenClaim := { program := "ythjcolddnbcniaa", sum := "931342bb1b660790d4355f35e82a2c798be12c9f665bcc40017f38aaf4359224", func := "loop.example/differenceengine/laws.FnExactExchangeDigits", spec := "fnExactExchangeDigits", apart := false }
def FnExactExchangeDigitsSaid : Prop := fnExactExchangeDigitsRow.holds Try.pinned (OpenSpec.ofChange fnExactExchangeDigitsSpec)

/-- ITS FALSE NEIGHBOUR: 'it returns false'. Refute it at one input. -/
def fnExactExchangeDigitsWrong : ChangeSpec := { name := "fnExactExchangeDigits", fn := fun _ => fun
  | [d1, d2] => { results := [.lit (.bool false)], args := [d1, d2] }
  | _ => none }
def FnExactExchangeDigitsWrongFalsely : Prop := fnExactExchangeDigitsRow.holds Try.pinned (OpenSpec.ofChange fnExactExchangeDigitsWrong)

/-- 'laws.FnExchange': WHATEVER THE INPUT: true; the input reads as it did. -/
def fnExchangeSpec : ChangeSpec := { name := "fnExchange", fn := fun _ => fun
  | [d] => { results := [.lit (.bool true)], args := [d] }
  | _ => none }
def fnExchangeRow : OpenClaim := { program := "ythjcolddnbcniaa", sum := "931342bb1b660790d4355f35e82a2c798be12c9f665bcc40017f38aaf4359224", func := "loop.example/differenceengine/laws.FnExchange", spec := "fnExchange", apart := false }
def FnExchangeSaid : Prop := fnExchangeRow.holds Try.pinned (OpenSpec.ofChange fnExchangeSpec)

/-- ITS FALSE NEIGHBOUR: 'it returns false'. Refute it at one input. -/
def fnExchangeWrong : ChangeSpec := { name := "fnExchange", fn := fun _ => fun
  | [d] => { results := [.lit (.bool false)], args := [d] }
  | _ => none }
def FnExchangeWrongFalsely : Prop := fnExchangeRow.holds Try.pinned (OpenSpec.ofChange fnExchangeWrong)

/-- 'laws.FnExactErrorPattern': WHATEVER THE INPUT: true; the input reads as it did. -/
def fnExactErrorPatternSpec : ChangeSpec := { name := "fnExactErrorPattern", fn := fun _ => fun
  | [d1, d2] => { results := [.lit (.bool true)], args := [d1, d2] }
  | _ => none }
def fnExactErrorPatternRow : OpenClaim := { program := "ythjcolddnbcniaa", sum := "931342bb1b660790d4355f35e82a2c798be12c9f665bcc40017f38aaf4359224", func := "loop.example/differenceengine/laws.FnExactErrorPattern", spec := "fnExactErrorPattern", apart := false }
def FnExactErrorPatternSaid : Prop := fnExactErrorPatternRow.holds Try.pinned (OpenSpec.ofChange fnExactErrorPatternSpec)

/-- ITS FALSE NEIGHBOUR: 'it returns false'. Refute it at one input. -/
def fnExactErrorPatternWrong : ChangeSpec := { name := "fnExactErrorPattern", fn := fun _ => fun
  | [d1, d2] => { results := [.lit (.bool false)], args := [d1, d2] }
  | _ => none }
def FnExactErrorPatternWrongFalsely : Prop := fnExactErrorPatternRow.holds Try.pinned (OpenSpec.ofChange fnExactErrorPatternWrong)

/-- 'laws.FnExactSlipEffect': WHATEVER THE INPUT: true; the input reads as it did. -/
def fnExactSlipEffectSpec : ChangeSpec := { name := "fnExactSlipEffect", fn := fun _ => fun
  | [d1, d2, d3, d4] => { results := [.lit (.bool true)], args := [d1, d2, d3, d4] }
  | _ => none }
def fnExactSlipEffectRow : OpenClaim := { program := "ythjcolddnbcniaa", sum := "931342bb1b660790d4355f35e82a2c798be12c9f665bcc40017f38aaf4359224", func := "loop.example/differenceengine/laws.FnExactSlipEffect", spec := "fnExactSlipEffect", apart := false }
def FnExactSlipEffectSaid : Prop := fnExactSlipEffectRow.holds Try.pinned (OpenSpec.ofChange fnExactSlipEffectSpec)

/-- ITS FALSE NEIGHBOUR: 'it returns false'. Refute it at one input. -/
def fnExactSlipEffectWrong : ChangeSpec := { name := "fnExactSlipEffect", fn := fun _ => fun
  | [d1, d2, d3, d4] => { results := [.lit (.bool false)], args := [d1, d2, d3, d4] }
  | _ => none }
def FnExactSlipEffectWrongFalsely : Prop := fnExactSlipEffectRow.holds Try.pinned (OpenSpec.ofChange fnExactSlipEffectWrong)

/-- 'laws.FnExactWrongNines': WHATEVER THE INPUT: true; the input reads as it did. -/
def fnExactWrongNinesSpec : ChangeSpec := { name := "fnExactWrongNines", fn := fun _ => fun
  | [d1, d2] => { results := [.lit (.bool true)], args := [d1, d2] }
  | _ => none }
def fnExactWrongNinesRow : OpenClaim := { program := "ythjcolddnbcniaa", sum := "931342bb1b660790d4355f35e82a2c798be12c9f665bcc40017f38aaf4359224", func := "loop.example/differenceengine/laws.FnExactWrongNines", spec := "fnExactWrongNines", apart := false }
def FnExactWrongNinesSaid : Prop := fnExactWrongNinesRow.holds Try.pinned (OpenSpec.ofChange fnExactWrongNinesSpec)

/-- ITS FALSE NEIGHBOUR: 'it returns false'. Refute it at one input. -/
def fnExactWrongNinesWrong : ChangeSpec := { name := "fnExactWrongNines", fn := fun _ => fun
  | [d1, d2] => { results := [.lit (.bool false)], args := [d1, d2] }
  | _ => none }
def FnExactWrongNinesWrongFalsely : Prop := fnExactWrongNinesRow.holds Try.pinned (OpenSpec.ofChange fnExactWrongNinesWrong)

/-- 'laws.FnExactElevensOf': WHATEVER THE INPUT: true; the input reads as it did. -/
def fnExactElevensOfSpec : ChangeSpec := { name := "fnExactElevensOf", fn := fun _ => fun
  | [d] => { results := [.lit (.bool true)], args := [d] }
  | _ => none }
def fnExactElevensOfRow : OpenClaim := { program := "ythjcolddnbcniaa", sum := "931342bb1b660790d4355f35e82a2c798be12c9f665bcc40017f38aaf4359224", func := "loop.example/differenceengine/laws.FnExactElevensOf", spec := "fnExactElevensOf", apart := false }
def FnExactElevensOfSaid : Prop := fnExactElevensOfRow.holds Try.pinned (OpenSpec.ofChange fnExactElevensOfSpec)

/-- ITS FALSE NEIGHBOUR: 'it returns false'. Refute it at one input. -/
def fnExactElevensOfWrong : ChangeSpec := { name := "fnExactElevensOf", fn := fun _ => fun
  | [d] => { results := [.lit (.bool false)], args := [d] }
  | _ => none }
def FnExactElevensOfWrongFalsely : Prop := fnExactElevensOfRow.holds Try.pinned (OpenSpec.ofChange fnExactElevensOfWrong)

/- THE SECOND FORM. 'bulk': how many values and letters a reading holds, each counted each time it is reached (what is shared counts as often as it is met; a slice's spare places count too). A statement '..UptoSaid' is the law's where the arguments, and the package variables that the reading takes, are together of bulk at most 1048576: NARROWER than '..Said'. Prove '..Said' where nothing that the law and all that it calls make is longer than what came in: it says more and counts as full. Else prove '..UptoSaid'. A law counts once. -/
mutual
def uptoBulk {H : Type} : DataW H → Nat
  | .lit (.string bytes) => bytes.length + 1
  | .lit _ => 1
  | .nil => 1
  | .ptr d => uptoBulk d + 1
  | .slice elems spare => uptoBulkAll elems + uptoBulkAll spare + 1
  | .agg parts => uptoBulkAll parts + 1
  | .iface _ d => uptoBulk d + 1
  | .map entries => uptoBulkEntries entries + 1
  | .held _ => 1
def uptoBulkAll {H : Type} : List (DataW H) → Nat
  | [] => 0
  | d :: r => uptoBulk d + uptoBulkAll r
def uptoBulkEntries {H : Type} : List (Lit × DataW H) → Nat
  | [] => 0
  | x :: r => uptoBulkEntry x + uptoBulkEntries r
def uptoBulkEntry {H : Type} : Lit × DataW H → Nat
  | (.string bytes, d) => bytes.length + uptoBulk d + 1
  | (_, d) => uptoBulk d + 1
 end
def uptoSmall : (H : Type) → List (DataW H) → Bool := fun _ ds => decide (uptoBulkAll ds ≤ 1048576)
def OpenSpec.upto (s : _root_.Go.ChangeSpec) : _root_.Go.OpenSpec := { _root_.Go.OpenSpec.ofChange s with cond := some uptoSmall }

/-- 'laws.FnExactExchangeDigits', WHERE WHAT IT READS IS OF BULK AT MOST 1048576: true; the input reads as it did. -/
def fnExactExchangeDigitsUptoRow : OpenClaim := { program := "ythjcolddnbcniaa", sum := "931342bb1b660790d4355f35e82a2c798be12c9f665bcc40017f38aaf4359224", func := "loop.example/differenceengine/laws.FnExactExchangeDigits", spec := "fnExactExchangeDigits", apart := false, narrowed := true }
def FnExactExchangeDigitsUptoSaid : Prop := fnExactExchangeDigitsUptoRow.holds Try.pinned (OpenSpec.upto fnExactExchangeDigitsSpec)

/-- 'laws.FnExchange', WHERE WHAT IT READS IS OF BULK AT MOST 1048576: true; the input reads as it did. -/
def fnExchangeUptoRow : OpenClaim := { program := "ythjcolddnbcniaa", sum := "931342bb1b660790d4355f35e82a2c798be12c9f665bcc40017f38aaf4359224", func := "loop.example/differenceengine/laws.FnExchange", spec := "fnExchange", apart := false, narrowed := true }
def FnExchangeUptoSaid : Prop := fnExchangeUptoRow.holds Try.pinned (OpenSpec.upto fnExchangeSpec)

/-- 'laws.FnExactErrorPattern', WHERE WHAT IT READS IS OF BULK AT MOST 1048576: true; the input reads as it did. -/
def fnExactErrorPatternUptoRow : OpenClaim := { program := "ythjcolddnbcniaa", sum := "931342bb1b660790d4355f35e82a2c798be12c9f665bcc40017f38aaf4359224", func := "loop.example/differenceengine/laws.FnExactErrorPattern", spec := "fnExactErrorPattern", apart := false, narrowed := true }
def FnExactErrorPatternUptoSaid : Prop := fnExactErrorPatternUptoRow.holds Try.pinned (OpenSpec.upto fnExactErrorPatternSpec)

/-- 'laws.FnExactSlipEffect', WHERE WHAT IT READS IS OF BULK AT MOST 1048576: true; the input reads as it did. -/
def fnExactSlipEffectUptoRow : OpenClaim := { program := "ythjcolddnbcniaa", sum := "931342bb1b660790d4355f35e82a2c798be12c9f665bcc40017f38aaf4359224", func := "loop.example/differenceengine/laws.FnExactSlipEffect", spec := "fnExactSlipEffect", apart := false, narrowed := true }
def FnExactSlipEffectUptoSaid : Prop := fnExactSlipEffectUptoRow.holds Try.pinned (OpenSpec.upto fnExactSlipEffectSpec)

/-- 'laws.FnExactWrongNines', WHERE WHAT IT READS IS OF BULK AT MOST 1048576: true; the input reads as it did. -/
def fnExactWrongNinesUptoRow : OpenClaim := { program := "ythjcolddnbcniaa", sum := "931342bb1b660790d4355f35e82a2c798be12c9f665bcc40017f38aaf4359224", func := "loop.example/differenceengine/laws.FnExactWrongNines", spec := "fnExactWrongNines", apart := false, narrowed := true }
def FnExactWrongNinesUptoSaid : Prop := fnExactWrongNinesUptoRow.holds Try.pinned (OpenSpec.upto fnExactWrongNinesSpec)

/-- 'laws.FnExactElevensOf', WHERE WHAT IT READS IS OF BULK AT MOST 1048576: true; the input reads as it did. -/
def fnExactElevensOfUptoRow : OpenClaim := { program := "ythjcolddnbcniaa", sum := "931342bb1b660790d4355f35e82a2c798be12c9f665bcc40017f38aaf4359224", func := "loop.example/differenceengine/laws.FnExactElevensOf", spec := "fnExactElevensOf", apart := false, narrowed := true }
def FnExactElevensOfUptoSaid : Prop := fnExactElevensOfUptoRow.holds Try.pinned (OpenSpec.upto fnExactElevensOfSpec)

end Rows
end Go.Proofs.Ythjcolddnbcniaa
