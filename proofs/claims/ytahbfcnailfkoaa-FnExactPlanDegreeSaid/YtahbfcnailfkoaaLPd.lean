/- What is proved here: the walk of laws.FnExactPlanDegree. -/
import Derived.Test.YtahbfcnailfkoaaPlnR
import Derived.Test.YtahbfcnailfkoaaPlnL
set_option linter.unusedVariables false
set_option linter.unusedSimpArgs false
namespace Go.Proofs.Ytahbfcnailfkoaa
open Go.RowKit

theorem w_FnExactPlanDegree (w : World) (vL : Value) (L : List (Int × List Int)) (i_L : IsS w w.heap.size vL L) :
    Calls Try.prog 10 #[vL] w fun e w' => e = .returned (.bool true) ∧ Below w.heap.size w w' := by
  by_cases b_L : 1048576 < pO L L.length
  · have hz : szL L 1048576 = -1 := if_pos (by omega)
    go_enter Try.func10, Try.ntmps10
    go_wp2_with fail
    refine (szSeg _ L 1048576 (by omega) (by omega) _ i_L).mono ?_
    rw [hz]
    rintro e w1 ⟨rfl, c1⟩
    go_wp2_with fail
    go_ret
    exact ⟨rfl, c1⟩
  have b : Below w.heap.size w w := Below.refl _ _
  go_enter Try.func10, Try.ntmps10
  have hp_L := pO_small (L := L) (by omega)
  have hl_L := hp_L.1
  have HP_L := hid hp_L.2
  clear hp_L
  have hbz_L : pZ L ≤ 1048576 := by unfold pZ; omega
  have HSZ_L := hid (szL_yes (L := L) (m := 1048576) (by omega))
  have hz0_L : ¬ (1048576 - ((pZ L : Nat) : Int)) < 0 := by omega
  clear b_L
  go_wp2_with fail
  refine (szSeg _ L 1048576 (by omega) (by omega) _ i_L).mono ?_
  rw [HSZ_L.out]
  rintro e w1 ⟨rfl, c1⟩
  have s1 := c1.size
  replace i_L := i_L.below c1 (by omega)
  replace b := b.trans (c1.mono (by omega))
  clear c1
  go_wp2_with fail
  refine (toSeg _ _ _ (by omega) HP_L.out (i_L.up (by omega))).mono ?_
  rintro e w2 ⟨v2, rfl, r2, c2⟩
  have s2 := c2.size
  replace i_L := i_L.below c2 (by omega)
  replace b := b.trans (c2.mono (by omega))
  clear c2
  go_wp2_with fail
  refine (c_sPlanDegree _ _ L (r2.isI.up (by omega)) (by omega)).mono ?_
  rintro e w3 ⟨rfl, c3⟩
  have s3 := c3.size
  replace r2 := r2.below c3 (by omega)
  replace i_L := i_L.below c3 (by omega)
  replace b := b.trans (c3.mono (by omega))
  clear c3
  go_wp2_with fail
  refine (toSeg _ _ _ (by omega) HP_L.out (i_L.up (by omega))).mono ?_
  rintro e w4 ⟨v4, rfl, r4, c4⟩
  have s4 := c4.size
  replace r2 := r2.below c4 (by omega)
  replace i_L := i_L.below c4 (by omega)
  replace b := b.trans (c4.mono (by omega))
  clear c4
  go_wp2_with fail
  refine (c_iPlanDegree _ _ L (r4.isI.up (by omega)) (by omega)).mono ?_
  rintro e w5 ⟨rfl, c5⟩
  have s5 := c5.size
  replace r2 := r2.below c5 (by omega)
  replace r4 := r4.below c5 (by omega)
  replace i_L := i_L.below c5 (by omega)
  replace b := b.trans (c5.mono (by omega))
  clear c5
  have ht1 : ((plD L) != (plD L)) = false := by simp
  go_wp2_with fail
  refine (toSeg _ _ _ (by omega) HP_L.out (i_L.up (by omega))).mono ?_
  rintro e w6 ⟨v6, rfl, r6, c6⟩
  have s6 := c6.size
  replace r2 := r2.below c6 (by omega)
  replace r4 := r4.below c6 (by omega)
  replace i_L := i_L.below c6 (by omega)
  replace b := b.trans (c6.mono (by omega))
  clear c6
  go_wp2_with fail
  refine (eqSameSeg _ _ _ _ _ _ (by omega) (by omega) r4.isI r6.isI).mono ?_
  rintro e w7 ⟨rfl, c7⟩
  have s7 := c7.size
  replace r2 := r2.keep c7 (by omega)
  replace r4 := r4.keep c7 (by omega)
  replace r6 := r6.keep c7 (by omega)
  replace i_L := i_L.chg c7 (by omega) (by omega)
  replace b := b.trans (c7.below (by omega) (by omega))
  clear c7
  go_wp2_with fail
  go_ret
  exact ⟨rfl, b⟩
end Go.Proofs.Ytahbfcnailfkoaa
