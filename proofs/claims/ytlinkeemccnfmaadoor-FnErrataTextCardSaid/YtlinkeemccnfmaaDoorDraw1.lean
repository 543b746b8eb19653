/- What is proved here: the contracts of l4Turn, DrawErrorPattern and DrawSlipEffect. -/
import Derived.Test.YtlinkeemccnfmaaDoorDraw0
set_option linter.unusedVariables false
set_option linter.unusedSimpArgs false
namespace Go.Proofs.YtlinkeemccnfmaaDoor
open Go.RowKit

/-- Three numbers, whatever they are, drawn from the reader. -/
def Drew3 (w : World) (B g L : Nat) (e : Ending) (w' : World) : Prop :=
  ∃ x y z : Int, e = .returned (.tuple #[.int .i64 x, .int .i64 y, .int .i64 z]) ∧ (I64 x ∧ I64 y ∧ I64 z) ∧ Rd w' B g L ∧ Chg g (g + 1) w w'
/-- What is left by a call that answers four numbers, whatever they are. -/
def FourInts (w : World) (e : Ending) (w' : World) : Prop := ∃ x y z u : Int, e = .returned (.tuple #[.int .i64 x, .int .i64 y, .int .i64 z, .int .i64 u]) ∧ (I64 x ∧ I64 y ∧ I64 z ∧ I64 u) ∧ Below w.heap.size w w'
end Go.Proofs.YtlinkeemccnfmaaDoor
