/-
  No cell of these rows narrows 'for every input' (looked for: loops, veiled, ifaces, maps, wideKeys, modest, calm, conditions, laid).
  DERIVED. THE GIVEN ROWS OF THIS SEAT. 5 by the template 'for every input the law returns true; each argument reads behind the call as it read before'; 0 by the template 'total and deterministic' (their statements: YtkaanlldjkflaaaTotals.lean).
  GIVEN WITH THE SEED: the statements are not yours to turn. If you find one false, say at which input.
  Laid BY PROGRAM, IN A SANDBOX (cutbox-rows.mjs): the forced cells as the released guide's own fill.sh prints them over the translation f27ae0fc3571fbd9… (all of the seat's roots in one cut). By AI agents, Wed Nov 11 2026. No macro, syntax, notation, axiom, sorry.
-/
import Derived.Test.YtkaanlldjkflaaaChecked
import GoSem.Claim
import GoSem.ClaimJoined
import GoSem.ClaimMapViews
import Derived.JoinedTies
import Derived.KernelRfl
namespace Go.Proofs.Ytkaanlldjkflaaa
/- THE CELL 'sum', in the pinned program and in every row, IS THE sha256 OF THE DUMP (.gsa) THAT YtkaanlldjkflaaaProg.lean LOADS. Nothing in Lean hashes anything: it is a label: what it is worth is what the hold of that sum in a sandbox is worth. -/
noncomputable def Try.pinned : Pinned := { name := "ytkaanlldjkflaaa", sum := "f27ae0fc3571fbd90161d21560defdd2991bbee25f5e223954e267e8007f9c1e", checked := Try.checked }
namespace Rows
def none {H : Type} : Left H := { results := [], args := [] }

/-- 'laws.FnExactChangeWheels': WHATEVER THE INPUT: true; the input reads as it did. -/
def fnExactChangeWheelsSpec : ChangeSpec := { name := "fnExactChangeWheels", fn := fun _ => fun
  | [d1, d2] => { results := [.lit (.bool true)], args := [d1, d2] }
  | _ => none }
def fnExactChangeWheelsRow : OpenClaim := { program := "ytkaanlldjkflaaa", sum := "f27ae0fc3571fbd90161d21560defdd2991bbee25f5e223954e267e8007f9c1e", func := "loop.example/differenceengine/laws.FnExactChangeWheels", spec := "fnExactChangeWheels", apart := false }
def FnExactChangeWheelsSaid : Prop := fnExactChangeWheelsRow.holds Try.pinned (OpenSpec.ofChange fnExactChangeWheelsSpec)

/-- ITS FALSE NEIGHBOUR: 'it returns false'. Refute it at one input. -/
def fnExactChangeWheelsWrong : ChangeSpec := { name := "fnExactChangeWheels", fn := fun _ => fun
  | [d1, d2] => { results := [.lit (.bool false)], args := [d1, d2] }
  | _ => none }
def FnExactChangeWheelsWrongFalsely : Prop := fnExactChangeWheelsRow.holds Try.pinned (OpenSpec.ofChange fnExactChangeWheelsWrong)

/-- 'laws.FnChangeWheels': WHATEVER THE INPUT: true; the input reads as it did. -/
def fnChangeWheelsSpec : ChangeSpec := { name := "fnChangeWheels", fn := fun _ => fun
  | [d] => { results := [.lit (.bool true)], args := [d] }
  | _ => none }
def fnChangeWheelsRow : OpenClaim := { program := "ytkaanlldjkflaaa", sum := "f27ae0fc3571fbd90161d21560defdd2991bbee25f5e223954e267e8007f9c1e", func := "loop.example/differenceengine/laws.FnChangeWheels", spec := "fnChangeWheels", apart := false }
def FnChangeWheelsSaid : Prop := fnChangeWheelsRow.holds Try.pinned (OpenSpec.ofChange fnChangeWheelsSpec)

/-- ITS FALSE NEIGHBOUR: 'it returns false'. Refute it at one input. -/
def fnChangeWheelsWrong : ChangeSpec := { name := "fnChangeWheels", fn := fun _ => fun
  | [d] => { results := [.lit (.bool false)], args := [d] }
  | _ => none }
def FnChangeWheelsWrongFalsely : Prop := fnChangeWheelsRow.holds Try.pinned (OpenSpec.ofChange fnChangeWheelsWrong)

/-- 'laws.FnExactRunWithSlip': WHATEVER THE INPUT: true; the input reads as it did. -/
def fnExactRunWithSlipSpec : ChangeSpec := { name := "fnExactRunWithSlip", fn := fun _ => fun
  | [d1, d2, d3, d4, d5] => { results := [.lit (.bool true)], args := [d1, d2, d3, d4, d5] }
  | _ => none }
def fnExactRunWithSlipRow : OpenClaim := { program := "ytkaanlldjkflaaa", sum := "f27ae0fc3571fbd90161d21560defdd2991bbee25f5e223954e267e8007f9c1e", func := "loop.example/differenceengine/laws.FnExactRunWithSlip", spec := "fnExactRunWithSlip", apart := false }
def FnExactRunWithSlipSaid : Prop := fnExactRunWithSlipRow.holds Try.pinned (OpenSpec.ofChange fnExactRunWithSlipSpec)

/-- ITS FALSE NEIGHBOUR: 'it returns false'. Refute it at one input. -/
def fnExactRunWithSlipWrong : ChangeSpec := { name := "fnExactRunWithSlip", fn := fun _ => fun
  | [d1, d2, d3, d4, d5] => { results := [.lit (.bool false)], args := [d1, d2, d3, d4, d5] }
  | _ => none }
def FnExactRunWithSlipWrongFalsely : Prop := fnExactRunWithSlipRow.holds Try.pinned (OpenSpec.ofChange fnExactRunWithSlipWrong)

/-- 'laws.FnSlipRun': WHATEVER THE INPUT: true; the input reads as it did. -/
def fnSlipRunSpec : ChangeSpec := { name := "fnSlipRun", fn := fun _ => fun
  | [d] => { results := [.lit (.bool true)], args := [d] }
  | _ => none }
def fnSlipRunRow : OpenClaim := { program := "ytkaanlldjkflaaa", sum := "f27ae0fc3571fbd90161d21560defdd2991bbee25f5e223954e267e8007f9c1e", func := "loop.example/differenceengine/laws.FnSlipRun", spec := "fnSlipRun", unfollowed := true, recurses := true, apart := false }
def FnSlipRunSaid : Prop := fnSlipRunRow.holds Try.pinned (OpenSpec.ofChange fnSlipRunSpec)

/-- ITS FALSE NEIGHBOUR: 'it returns false'. Refute it at one input. -/
def fnSlipRunWrong : ChangeSpec := { name := "fnSlipRun", fn := fun _ => fun
  | [d] => { results := [.lit (.bool false)], args := [d] }
  | _ => none }
def FnSlipRunWrongFalsely : Prop := fnSlipRunRow.holds Try.pinned (OpenSpec.ofChange fnSlipRunWrong)

/-- 'laws.FnCarriesOf': WHATEVER THE INPUT: true; the input reads as it did. -/
def fnCarriesOfSpec : ChangeSpec := { name := "fnCarriesOf", fn := fun _ => fun
  | [d] => { results := [.lit (.bool true)], args := [d] }
  | _ => none }
def fnCarriesOfRow : OpenClaim := { program := "ytkaanlldjkflaaa", sum := "f27ae0fc3571fbd90161d21560defdd2991bbee25f5e223954e267e8007f9c1e", func := "loop.example/differenceengine/laws.FnCarriesOf", spec := "fnCarriesOf", inPlace := ["internal/bytealg.IndexByteString", "internal/bytealg.IndexString", "internal/abi.NoEscape", "internal/bytealg.MakeNoZero"], named := ["internal/bytealg.MaxLen"], apart := false }
def FnCarriesOfSaid : Prop := fnCarriesOfRow.holds Try.pinned (OpenSpec.ofChange fnCarriesOfSpec)

/-- ITS FALSE NEIGHBOUR: 'it returns false'. Refute it at one input. -/
def fnCarriesOfWrong : ChangeSpec := { name := "fnCarriesOf", fn := fun _ => fun
  | [d] => { results := [.lit (.bool false)], args := [d] }
  | _ => none }
def FnCarriesOfWrongFalsely : Prop := fnCarriesOfRow.holds Try.pinned (OpenSpec.ofChange fnCarriesOfWrong)

/- THE SECOND FORM. 'bulk': how many values and letters a reading holds, each counted each time it is reached (what is shared counts as often as it is met; a slice's spare places count too). A statement '..UptoSaid' is the law's where the arguments, and the package variables that the reading takes, are together of bulk at most 1048576: NARROWER than '..Said'. Prove '..Said' where nothing that the law and all that it calls make is longer than what came in: it says more and counts as full. Else prove '..UptoSaid'. A law counts once. -/
mutual
def uptoBulk {H : Type} : DataW H → Nat
  | .lit (.string bytes) => bytes.length + 1
  | .lit _ => 1
  | .nil => 1
  | .ptr d => uptoBulk d + 1
  | .slice elems spare => uptoBulkAll elems + uptoBulkAll spare + 1
  | .agg parts => uptoBulkAll parts + 1
  | .iface _ d => uptoBulk d + 1
  | .map entries => uptoBulkEntries entries + 1
  | .held _ => 1
def uptoBulkAll {H : Type} : List (DataW H) → Nat
  | [] => 0
  | d :: r => uptoBulk d + uptoBulkAll r
def uptoBulkEntries {H : Type} : List (Lit × DataW H) → Nat
  | [] => 0
  | x :: r => uptoBulkEntry x + uptoBulkEntries r
def uptoBulkEntry {H : Type} : Lit × DataW H → Nat
  | (.string bytes, d) => bytes.length + uptoBulk d + 1
  | (_, d) => uptoBulk d + 1
 end
def uptoSmall : (H : Type) → List (DataW H) → Bool := fun _ ds => decide (uptoBulkAll ds ≤ 1048576)
def OpenSpec.upto (s : _root_.Go.ChangeSpec) : _root_.Go.OpenSpec := { _root_.Go.OpenSpec.ofChange s with cond := some uptoSmall }

/-- 'laws.FnExactChangeWheels', WHERE WHAT IT READS IS OF BULK AT MOST 1048576: true; the input reads as it did. -/
def fnExactChangeWheelsUptoRow : OpenClaim := { program := "ytkaanlldjkflaaa", sum := "f27ae0fc3571fbd90161d21560defdd2991bbee25f5e223954e267e8007f9c1e", func := "loop.example/differenceengine/laws.FnExactChangeWheels", spec := "fnExactChangeWheels", apart := false, narrowed := true }
def FnExactChangeWheelsUptoSaid : Prop := fnExactChangeWheelsUptoRow.holds Try.pinned (OpenSpec.upto fnExactChangeWheelsSpec)

/-- 'laws.FnChangeWheels', WHERE WHAT IT READS IS OF BULK AT MOST 1048576: true; the input reads as it did. -/
def fnChangeWheelsUptoRow : OpenClaim := { program := "ytkaanlldjkflaaa", sum := "f27ae0fc3571fbd90161d21560defdd2991bbee25f5e223954e267e8007f9c1e", func := "loop.example/differenceengine/laws.FnChangeWheels", spec := "fnChangeWheels", apart := false, narrowed := true }
def FnChangeWheelsUptoSaid : Prop := fnChangeWheelsUptoRow.holds Try.pinned (OpenSpec.upto fnChangeWheelsSpec)

/-- 'laws.FnExactRunWithSlip', WHERE WHAT IT READS IS OF BULK AT MOST 1048576: true; the input reads as it did. -/
def fnExactRunWithSlipUptoRow : OpenClaim := { program := "ytkaanlldjkflaaa", sum := "f27ae0fc3571fbd90161d21560defdd2991bbee25f5e223954e267e8007f9c1e", func := "loop.example/differenceengine/laws.FnExactRunWithSlip", spec := "fnExactRunWithSlip", apart := false, narrowed := true }
def FnExactRunWithSlipUptoSaid : Prop := fnExactRunWithSlipUptoRow.holds Try.pinned (OpenSpec.upto fnExactRunWithSlipSpec)

/-- 'laws.FnSlipRun', WHERE WHAT IT READS IS OF BULK AT MOST 1048576: true; the input reads as it did. -/
def fnSlipRunUptoRow : OpenClaim := { program := "ytkaanlldjkflaaa", sum := "f27ae0fc3571fbd90161d21560defdd2991bbee25f5e223954e267e8007f9c1e", func := "loop.example/differenceengine/laws.FnSlipRun", spec := "fnSlipRun", unfollowed := true, recurses := true, apart := false, narrowed := true }
def FnSlipRunUptoSaid : Prop := fnSlipRunUptoRow.holds Try.pinned (OpenSpec.upto fnSlipRunSpec)

/-- 'laws.FnCarriesOf', WHERE WHAT IT READS IS OF BULK AT MOST 1048576: true; the input reads as it did. -/
def fnCarriesOfUptoRow : OpenClaim := { program := "ytkaanlldjkflaaa", sum := "f27ae0fc3571fbd90161d21560defdd2991bbee25f5e223954e267e8007f9c1e", func := "loop.example/differenceengine/laws.FnCarriesOf", spec := "fnCarriesOf", inPlace := ["internal/bytealg.IndexByteString", "internal/bytealg.IndexString", "internal/abi.NoEscape", "internal/bytealg.MakeNoZero"], named := ["internal/bytealg.MaxLen"], apart := false, narrowed := true }
def FnCarriesOfUptoSaid : Prop := fnCarriesOfUptoRow.holds Try.pinned (OpenSpec.upto fnCarriesOfSpec)

end Rows
end Go.Proofs.Ytkaanlldjkflaaa
