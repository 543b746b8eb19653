/- What is proved here: the walk of laws.FnExactExchangeDigits. -/
import Derived.Test.YthjcolddnbcniaaErr3
import Derived.Test.YthjcolddnbcniaaLaws1
set_option linter.unusedVariables false
set_option linter.unusedSimpArgs false
namespace Go.Proofs.Ythjcolddnbcniaa
open Go.RowKit

theorem w_FnExactExchangeDigits (w : World) (n : Int) (hn : I64 n) (p : Int) (hp : I64 p) :
    Calls Try.prog 3 #[.int .i64 n, .int .i64 p] w fun e w' => e = .returned (.bool true) ∧ Below w.heap.size w w' := by
  clear hn
  clear hp
  have b : Below w.heap.size w w := Below.refl _ _
  go_enter Try.func3, Try.ntmps3
  go_wp2_with fail
  refine (c_sExchangeDigits _ n p).mono ?_
  rintro e wx1 ⟨rfl, rfl⟩
  go_wp2_with fail
  refine (c_iExchangeDigits _ n p).mono ?_
  rintro e wx2 ⟨rfl, rfl⟩
  have ht1 : ((exV n p) != (exV n p)) = false := by simp
  have ht2 : ((exOk n p) != (exOk n p)) = false := by simp
  go_wp2_with fail
  go_ret
  exact ⟨rfl, b⟩
end Go.Proofs.Ythjcolddnbcniaa
