/- What is proved here: contracts of DiagnoseSlip (impl and spec) and of what it calls. -/
import Derived.Test.YtlinkeemccnfmaaDoorSlc
import Derived.Test.YtlinkeemccnfmaaDoorErr2
import Derived.Test.YtlinkeemccnfmaaDoorDsM
set_option linter.unusedVariables false
set_option linter.unusedSimpArgs false
namespace Go.Proofs.YtlinkeemccnfmaaDoor
open Go.RowKit


/-- Whether two lists are tables of one length. -/
def alike2 (xs ys : List Int) : Bool := TB xs && (TB ys && decide (xs.length = ys.length))


end Go.Proofs.YtlinkeemccnfmaaDoor
