/- What is proved here: the walk of laws.FnExactDiagnoseSlip. -/
import Derived.Test.YtgdekefpglhoeaaDsl2
import Derived.Test.YtgdekefpglhoeaaLaws1
set_option linter.unusedVariables false
set_option linter.unusedSimpArgs false
namespace Go.Proofs.Ytgdekefpglhoeaa
open Go.RowKit

theorem w_FnExactDiagnoseSlip (w : World) (vxs : Value) (xs : List Int) (i_xs : IsI w w.heap.size vxs xs) (vys : Value) (ys : List Int) (i_ys : IsI w w.heap.size vys ys) :
    Calls Try.prog 9 #[vxs, vys] w fun e w' => e = .returned (.bool true) ∧ Below w.heap.size w w' := by
  by_cases b_xs : 1048576 < xs.length
  · obtain ⟨a_, cap_, rfl, hm_, -, -⟩ := i_xs
    unfold maxLen at hm_
    go_enter Try.func9, Try.ntmps9
    go_wp2_with fail
    go_ret
    exact ⟨rfl, Below.refl _ _⟩
  by_cases b_ys : 1048576 < ys.length
  · obtain ⟨a_, cap_, rfl, hm_, -, -⟩ := i_ys
    obtain ⟨a_xs, cap_xs, rfl, hm_xs, -, -⟩ := i_xs
    unfold maxLen at hm_xs
    unfold maxLen at hm_
    go_enter Try.func9, Try.ntmps9
    go_wp2_with fail
    go_ret
    exact ⟨rfl, Below.refl _ _⟩
  obtain ⟨a_xs, cap_xs, hva_xs⟩ : ∃ a cap, vxs = .slice a xs.length cap := ⟨_, _, i_xs.choose_spec.choose_spec.1⟩
  subst hva_xs
  obtain ⟨a_ys, cap_ys, hva_ys⟩ : ∃ a cap, vys = .slice a ys.length cap := ⟨_, _, i_ys.choose_spec.choose_spec.1⟩
  subst hva_ys
  have b : Below w.heap.size w w := Below.refl _ _
  go_enter Try.func9, Try.ntmps9
  go_wp2_with fail
  refine (toInts _ _ _ (by omega) (i_xs.up (by omega))).mono ?_
  rintro e w1 ⟨v1, rfl, r1, c1⟩
  have s1 := c1.size
  replace i_xs := i_xs.below c1 (by omega)
  replace i_ys := i_ys.below c1 (by omega)
  replace b := b.trans (c1.mono (by omega))
  clear c1
  go_wp2_with fail
  refine (toInts _ _ _ (by omega) (i_ys.up (by omega))).mono ?_
  rintro e w2 ⟨v2, rfl, r2, c2⟩
  have s2 := c2.size
  replace r1 := r1.below c2 (by omega)
  replace i_xs := i_xs.below c2 (by omega)
  replace i_ys := i_ys.below c2 (by omega)
  replace b := b.trans (c2.mono (by omega))
  clear c2
  go_wp2_with fail
  refine (c_sDiagnoseSlip _ _ xs (r1.isI.up (by omega)) _ ys (r2.isI.up (by omega))).mono ?_
  rintro e w3 ⟨rfl, c3⟩
  have s3 := c3.size
  replace r1 := r1.below c3 (by omega)
  replace r2 := r2.below c3 (by omega)
  replace i_xs := i_xs.below c3 (by omega)
  replace i_ys := i_ys.below c3 (by omega)
  replace b := b.trans (c3.mono (by omega))
  clear c3
  go_wp2_with fail
  refine (toInts _ _ _ (by omega) (i_xs.up (by omega))).mono ?_
  rintro e w4 ⟨v4, rfl, r4, c4⟩
  have s4 := c4.size
  replace r1 := r1.below c4 (by omega)
  replace r2 := r2.below c4 (by omega)
  replace i_xs := i_xs.below c4 (by omega)
  replace i_ys := i_ys.below c4 (by omega)
  replace b := b.trans (c4.mono (by omega))
  clear c4
  go_wp2_with fail
  refine (toInts _ _ _ (by omega) (i_ys.up (by omega))).mono ?_
  rintro e w5 ⟨v5, rfl, r5, c5⟩
  have s5 := c5.size
  replace r1 := r1.below c5 (by omega)
  replace r2 := r2.below c5 (by omega)
  replace r4 := r4.below c5 (by omega)
  replace i_xs := i_xs.below c5 (by omega)
  replace i_ys := i_ys.below c5 (by omega)
  replace b := b.trans (c5.mono (by omega))
  clear c5
  go_wp2_with fail
  refine (c_iDiagnoseSlip _ _ xs (r4.isI.up (by omega)) _ ys (r5.isI.up (by omega))).mono ?_
  rintro e w6 ⟨rfl, c6⟩
  have s6 := c6.size
  replace r1 := r1.below c6 (by omega)
  replace r2 := r2.below c6 (by omega)
  replace r4 := r4.below c6 (by omega)
  replace r5 := r5.below c6 (by omega)
  replace i_xs := i_xs.below c6 (by omega)
  replace i_ys := i_ys.below c6 (by omega)
  replace b := b.trans (c6.mono (by omega))
  clear c6
  have ht1 : (((diag xs ys).1) != ((diag xs ys).1)) = false := by simp
  have ht2 : (((diag xs ys).2.1) != ((diag xs ys).2.1)) = false := by simp
  have ht3 : (((diag xs ys).2.2.1) != ((diag xs ys).2.2.1)) = false := by simp
  have ht4 : (((diag xs ys).2.2.2) != ((diag xs ys).2.2.2)) = false := by simp
  go_wp2_with fail
  refine (toInts _ _ _ (by omega) (i_xs.up (by omega))).mono ?_
  rintro e w7 ⟨v7, rfl, r7, c7⟩
  have s7 := c7.size
  replace r1 := r1.below c7 (by omega)
  replace r2 := r2.below c7 (by omega)
  replace r4 := r4.below c7 (by omega)
  replace r5 := r5.below c7 (by omega)
  replace i_xs := i_xs.below c7 (by omega)
  replace i_ys := i_ys.below c7 (by omega)
  replace b := b.trans (c7.mono (by omega))
  clear c7
  go_wp2_with fail
  refine (eqSameC _ _ _ _ _ _ r4.isI r7.isI).mono ?_
  rintro e w8 ⟨rfl, c8⟩
  have s8 := c8.size
  replace r1 := r1.keep c8 (by omega)
  replace r2 := r2.keep c8 (by omega)
  replace r4 := r4.keep c8 (by omega)
  replace r5 := r5.keep c8 (by omega)
  replace r7 := r7.keep c8 (by omega)
  replace i_xs := i_xs.chg c8 (by omega) (by omega)
  replace i_ys := i_ys.chg c8 (by omega) (by omega)
  replace b := b.trans (c8.below (by omega) (by omega))
  clear c8
  go_wp2_with fail
  refine (toInts _ _ _ (by omega) (i_ys.up (by omega))).mono ?_
  rintro e w9 ⟨v9, rfl, r9, c9⟩
  have s9 := c9.size
  replace r1 := r1.below c9 (by omega)
  replace r2 := r2.below c9 (by omega)
  replace r4 := r4.below c9 (by omega)
  replace r5 := r5.below c9 (by omega)
  replace r7 := r7.below c9 (by omega)
  replace i_xs := i_xs.below c9 (by omega)
  replace i_ys := i_ys.below c9 (by omega)
  replace b := b.trans (c9.mono (by omega))
  clear c9
  go_wp2_with fail
  refine (eqSameC _ _ _ _ _ _ r5.isI r9.isI).mono ?_
  rintro e w10 ⟨rfl, c10⟩
  have s10 := c10.size
  replace r1 := r1.keep c10 (by omega)
  replace r2 := r2.keep c10 (by omega)
  replace r4 := r4.keep c10 (by omega)
  replace r5 := r5.keep c10 (by omega)
  replace r7 := r7.keep c10 (by omega)
  replace r9 := r9.keep c10 (by omega)
  replace i_xs := i_xs.chg c10 (by omega) (by omega)
  replace i_ys := i_ys.chg c10 (by omega) (by omega)
  replace b := b.trans (c10.below (by omega) (by omega))
  clear c10
  go_wp2_with fail
  go_ret
  exact ⟨rfl, b⟩
end Go.Proofs.Ytgdekefpglhoeaa
