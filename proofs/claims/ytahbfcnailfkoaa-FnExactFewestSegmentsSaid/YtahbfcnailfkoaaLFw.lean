/- What is proved here: the walk of laws.FnExactFewestSegments. -/
import Derived.Test.YtahbfcnailfkoaaFws
import Derived.Test.YtahbfcnailfkoaaLaws1
set_option linter.unusedVariables false
set_option linter.unusedSimpArgs false
namespace Go.Proofs.Ytahbfcnailfkoaa
open Go.RowKit

theorem w_FnExactFewestSegments (w : World) (vxs : Value) (xs : List Int) (i_xs : IsI w w.heap.size vxs xs) (d : Int) (hd : I64 d) :
    Calls Try.prog 5 #[vxs, .int .i64 d] w fun e w' => e = .returned (.bool true) ∧ Below w.heap.size w w' := by
  by_cases b_xs : 1048576 < xs.length
  · obtain ⟨a_, cap_, rfl, hm_, -, -⟩ := i_xs
    unfold maxLen at hm_
    go_enter Try.func5, Try.ntmps5
    go_wp2_with fail
    go_ret
    exact ⟨rfl, Below.refl _ _⟩
  obtain ⟨a_xs, cap_xs, hva_xs⟩ : ∃ a cap, vxs = .slice a xs.length cap := ⟨_, _, i_xs.choose_spec.choose_spec.1⟩
  subst hva_xs
  clear hd
  have b : Below w.heap.size w w := Below.refl _ _
  go_enter Try.func5, Try.ntmps5
  go_wp2_with fail
  refine (toInts _ _ _ (by omega) (i_xs.up (by omega))).mono ?_
  rintro e w1 ⟨v1, rfl, r1, c1⟩
  have s1 := c1.size
  replace i_xs := i_xs.below c1 (by omega)
  replace b := b.trans (c1.mono (by omega))
  clear c1
  go_wp2_with fail
  refine (c_sFewestSegments _ _ xs (r1.isI.up (by omega)) d).mono ?_
  rintro e w2 ⟨rfl, c2⟩
  have s2 := c2.size
  replace r1 := r1.below c2 (by omega)
  replace i_xs := i_xs.below c2 (by omega)
  replace b := b.trans (c2.mono (by omega))
  clear c2
  go_wp2_with fail
  refine (toInts _ _ _ (by omega) (i_xs.up (by omega))).mono ?_
  rintro e w3 ⟨v3, rfl, r3, c3⟩
  have s3 := c3.size
  replace r1 := r1.below c3 (by omega)
  replace i_xs := i_xs.below c3 (by omega)
  replace b := b.trans (c3.mono (by omega))
  clear c3
  go_wp2_with fail
  refine (c_iFewestSegments _ _ xs (r3.isI.up (by omega)) d).mono ?_
  rintro e w4 ⟨rfl, c4⟩
  have s4 := c4.size
  replace r1 := r1.below c4 (by omega)
  replace r3 := r3.below c4 (by omega)
  replace i_xs := i_xs.below c4 (by omega)
  replace b := b.trans (c4.mono (by omega))
  clear c4
  have ht1 : ((fsF xs d) != (fsF xs d)) = false := by simp
  go_wp2_with fail
  refine (toInts _ _ _ (by omega) (i_xs.up (by omega))).mono ?_
  rintro e w5 ⟨v5, rfl, r5, c5⟩
  have s5 := c5.size
  replace r1 := r1.below c5 (by omega)
  replace r3 := r3.below c5 (by omega)
  replace i_xs := i_xs.below c5 (by omega)
  replace b := b.trans (c5.mono (by omega))
  clear c5
  go_wp2_with fail
  refine (eqSameC _ _ _ _ _ _ r3.isI r5.isI).mono ?_
  rintro e w6 ⟨rfl, c6⟩
  have s6 := c6.size
  replace r1 := r1.keep c6 (by omega)
  replace r3 := r3.keep c6 (by omega)
  replace r5 := r5.keep c6 (by omega)
  replace i_xs := i_xs.chg c6 (by omega) (by omega)
  replace b := b.trans (c6.below (by omega) (by omega))
  clear c6
  go_wp2_with fail
  go_ret
  exact ⟨rfl, b⟩
end Go.Proofs.Ytahbfcnailfkoaa
