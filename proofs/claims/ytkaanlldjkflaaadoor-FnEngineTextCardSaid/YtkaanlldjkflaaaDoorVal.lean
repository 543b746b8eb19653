/- What is proved here: contracts of the functions that read a column as a number and that add columns. -/
import Derived.Test.YtkaanlldjkflaaaDoorShw
set_option linter.unusedVariables false
set_option linter.unusedSimpArgs false
namespace Go.Proofs.YtkaanlldjkflaaaDoor
open Go.RowKit

theorem vN_step {s : ByteArray} {j : Nat} (hj : j < s.size) : vN s (j + 1) = vN s j * 10 + (((s[j]'hj).toNat : Int) - 48) := by rw [vN, bN_eq hj]
end Go.Proofs.YtkaanlldjkflaaaDoor
