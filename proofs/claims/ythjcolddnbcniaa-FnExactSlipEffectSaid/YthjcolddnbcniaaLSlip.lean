/- What is proved here: the walk of laws.FnExactSlipEffect. -/
import Derived.Test.YthjcolddnbcniaaErr2
import Derived.Test.YthjcolddnbcniaaLaws1
set_option linter.unusedVariables false
set_option linter.unusedSimpArgs false
namespace Go.Proofs.Ythjcolddnbcniaa
open Go.RowKit

theorem w_FnExactSlipEffect (w : World) (c : Int) (hc : I64 c) (t : Int) (ht : I64 t) (a : Int) (ha : I64 a) (cnt : Int) (hcnt : I64 cnt) :
    Calls Try.prog 6 #[.int .i64 c, .int .i64 t, .int .i64 a, .int .i64 cnt] w fun e w' => e = .returned (.bool true) ∧ Below w.heap.size w w' := by
  have hl := slipF_len (c := c) (t := t) (a := a) (cnt := cnt)
  clear hc
  clear ht
  clear ha
  clear hcnt
  have b : Below w.heap.size w w := Below.refl _ _
  go_enter Try.func6, Try.ntmps6
  go_wp2_with fail
  refine (c_sSlipEffect _ c t a cnt).mono ?_
  rintro e w1 ⟨v1, rfl, r1, c1⟩
  have s1 := c1.size
  replace b := b.trans (c1.mono (by omega))
  clear c1
  go_wp2_with fail
  refine (c_iSlipEffect _ c t a cnt).mono ?_
  rintro e w2 ⟨v2, rfl, r2, c2⟩
  have s2 := c2.size
  replace r1 := r1.below c2 (by omega)
  replace b := b.trans (c2.mono (by omega))
  clear c2
  have ht1 : ((slipOk c t a cnt) != (slipOk c t a cnt)) = false := by simp
  go_wp2_with fail
  refine (eqSameC _ _ _ _ _ _ r2.isI r1.isI).mono ?_
  rintro e w3 ⟨rfl, c3⟩
  have s3 := c3.size
  replace r1 := r1.keep c3 (by omega)
  replace r2 := r2.keep c3 (by omega)
  replace b := b.trans (c3.below (by omega) (by omega))
  clear c3
  go_wp2_with fail
  refine (markInts _ _ 1 _ _ _ (by omega) (by omega) r2).mono ?_
  clear r2
  rintro e w4 ⟨rfl, r2, c4⟩
  have s4 := c4.size
  replace r1 := r1.keep c4 (by omega)
  replace b := b.trans (c4.below (by omega) (by omega))
  clear c4
  have ht2 : (((1 + (((slipF c t a cnt).length : Nat) : Int))) != ((1 + (((slipF c t a cnt).length : Nat) : Int)))) = false := by simp
  go_wp2_with fail
  refine (heldRow _ 1 (1 + (((slipF c t a cnt).length : Nat) : Int)) _ _ _ _ (by omega) (by omega) (by omega) r2).mono ?_
  rintro e wx5 ⟨rfl, rfl⟩
  go_wp2_with fail
  refine (c_iSlipEffect _ c t a cnt).mono ?_
  rintro e w6 ⟨v6, rfl, r6, c6⟩
  have s6 := c6.size
  replace r1 := r1.below c6 (by omega)
  replace r2 := r2.below c6 (by omega)
  replace b := b.trans (c6.mono (by omega))
  clear c6
  go_wp2_with fail
  refine (eqSameC _ _ _ _ _ _ r6.isI r1.isI).mono ?_
  rintro e w7 ⟨rfl, c7⟩
  have s7 := c7.size
  replace r1 := r1.keep c7 (by omega)
  replace r2 := r2.keep c7 (by omega)
  replace r6 := r6.keep c7 (by omega)
  replace b := b.trans (c7.below (by omega) (by omega))
  clear c7
  go_wp2_with fail
  refine (heldRow _ 1 (1 + (((slipF c t a cnt).length : Nat) : Int)) _ _ _ _ (by omega) (by omega) (by omega) r2).mono ?_
  rintro e wx8 ⟨rfl, rfl⟩
  go_wp2_with fail
  go_ret
  exact ⟨rfl, b⟩
end Go.Proofs.Ythjcolddnbcniaa
