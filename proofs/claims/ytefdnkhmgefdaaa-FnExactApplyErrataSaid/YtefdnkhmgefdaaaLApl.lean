/- What is proved here: the walk of laws.FnExactApplyErrata. -/
import Derived.Test.YtefdnkhmgefdaaaApl2
import Derived.Test.YtefdnkhmgefdaaaLaws1
set_option linter.unusedVariables false
set_option linter.unusedSimpArgs false
namespace Go.Proofs.Ytefdnkhmgefdaaa
open Go.RowKit

theorem w_FnExactApplyErrata (w : World) (vps : Value) (ps : List Int) (i_ps : IsI w w.heap.size vps ps) (vzs : Value) (zs : List Int) (i_zs : IsE w w.heap.size vzs zs) :
    Calls Try.prog 6 #[vps, vzs] w fun e w' => e = .returned (.bool true) ∧ Below w.heap.size w w' := by
  by_cases b_ps : 1048576 < ps.length
  · obtain ⟨a_, cap_, rfl, hm_, -, -⟩ := i_ps
    unfold maxLen at hm_
    go_enter Try.func6, Try.ntmps6
    go_wp2_with fail
    go_ret
    exact ⟨rfl, Below.refl _ _⟩
  by_cases b_zs : 1048576 * 3 < (zs.length : Int)
  · obtain ⟨a_ps, cap_ps, rfl, hm_ps, -, -⟩ := i_ps
    unfold maxLen at hm_ps
    go_enter Try.func6, Try.ntmps6
    go_wp2_with fail
    refine (szErr _ zs _ _ 1048576 (by omega) (by omega) i_zs).mono ?_
    rw [if_pos (by omega)]
    rintro e wx ⟨rfl, rfl⟩
    go_wp2_with fail
    go_ret
    exact ⟨rfl, Below.refl _ _⟩
  have hl := apF_len (ps := ps) (zs := zs)
  obtain ⟨a_ps, cap_ps, hva_ps⟩ : ∃ a cap, vps = .slice a ps.length cap := ⟨_, _, i_ps.choose_spec.choose_spec.1⟩
  subst hva_ps
  have b : Below w.heap.size w w := Below.refl _ _
  go_enter Try.func6, Try.ntmps6
  have hz0 : 0 ≤ 1048576 - ((zs.length / 3 : Nat) : Int) := by omega
  go_wp2_with fail
  refine (szErr _ zs _ _ 1048576 (by omega) (by omega) i_zs).mono ?_
  rw [if_neg (by omega)]
  rintro e wx ⟨rfl, rfl⟩
  go_wp2_with fail
  refine (toInts _ _ _ (by omega) (i_ps.up (by omega))).mono ?_
  rintro e w1 ⟨v1, rfl, r1, c1⟩
  have s1 := c1.size
  replace i_ps := i_ps.below c1 (by omega)
  replace i_zs := i_zs.below c1 (by omega)
  replace b := b.trans (c1.mono (by omega))
  clear c1
  go_wp2_with fail
  refine (toErr _ _ _ (by omega) (i_zs.up (by omega))).mono ?_
  rintro e w2 ⟨v2, rfl, r2, c2⟩
  have s2 := c2.size
  replace r1 := r1.below c2 (by omega)
  replace i_ps := i_ps.below c2 (by omega)
  replace i_zs := i_zs.below c2 (by omega)
  replace b := b.trans (c2.mono (by omega))
  clear c2
  go_wp2_with fail
  refine (c_sApplyErrata _ _ ps (r1.isI.up (by omega)) _ zs (r2.isI.up (by omega))).mono ?_
  rintro e w3 ⟨v3, rfl, r3, c3⟩
  have s3 := c3.size
  replace r1 := r1.below c3 (by omega)
  replace r2 := r2.below c3 (by omega)
  replace i_ps := i_ps.below c3 (by omega)
  replace i_zs := i_zs.below c3 (by omega)
  replace b := b.trans (c3.mono (by omega))
  clear c3
  go_wp2_with fail
  refine (toInts _ _ _ (by omega) (i_ps.up (by omega))).mono ?_
  rintro e w4 ⟨v4, rfl, r4, c4⟩
  have s4 := c4.size
  replace r1 := r1.below c4 (by omega)
  replace r2 := r2.below c4 (by omega)
  replace r3 := r3.below c4 (by omega)
  replace i_ps := i_ps.below c4 (by omega)
  replace i_zs := i_zs.below c4 (by omega)
  replace b := b.trans (c4.mono (by omega))
  clear c4
  go_wp2_with fail
  refine (toErr _ _ _ (by omega) (i_zs.up (by omega))).mono ?_
  rintro e w5 ⟨v5, rfl, r5, c5⟩
  have s5 := c5.size
  replace r1 := r1.below c5 (by omega)
  replace r2 := r2.below c5 (by omega)
  replace r3 := r3.below c5 (by omega)
  replace r4 := r4.below c5 (by omega)
  replace i_ps := i_ps.below c5 (by omega)
  replace i_zs := i_zs.below c5 (by omega)
  replace b := b.trans (c5.mono (by omega))
  clear c5
  go_wp2_with fail
  refine (c_iApplyErrata _ _ ps (r4.isI.up (by omega)) _ zs (r5.isI.up (by omega))).mono ?_
  rintro e w6 ⟨v6, rfl, r6, c6⟩
  have s6 := c6.size
  replace r1 := r1.below c6 (by omega)
  replace r2 := r2.below c6 (by omega)
  replace r3 := r3.below c6 (by omega)
  replace r4 := r4.below c6 (by omega)
  replace r5 := r5.below c6 (by omega)
  replace i_ps := i_ps.below c6 (by omega)
  replace i_zs := i_zs.below c6 (by omega)
  replace b := b.trans (c6.mono (by omega))
  clear c6
  have ht1 : ((apOk ps zs) != (apOk ps zs)) = false := by simp
  go_wp2_with fail
  refine (eqSameC _ _ _ _ _ _ r6.isI r3.isI).mono ?_
  rintro e w7 ⟨rfl, c7⟩
  have s7 := c7.size
  replace r1 := r1.keep c7 (by omega)
  replace r2 := r2.keep c7 (by omega)
  replace r3 := r3.keep c7 (by omega)
  replace r4 := r4.keep c7 (by omega)
  replace r5 := r5.keep c7 (by omega)
  replace r6 := r6.keep c7 (by omega)
  replace i_ps := i_ps.chg c7 (by omega) (by omega)
  replace i_zs := i_zs.chg c7 (by omega) (by omega)
  replace b := b.trans (c7.below (by omega) (by omega))
  clear c7
  go_wp2_with fail
  refine (toInts _ _ _ (by omega) (i_ps.up (by omega))).mono ?_
  rintro e w8 ⟨v8, rfl, r8, c8⟩
  have s8 := c8.size
  replace r1 := r1.below c8 (by omega)
  replace r2 := r2.below c8 (by omega)
  replace r3 := r3.below c8 (by omega)
  replace r4 := r4.below c8 (by omega)
  replace r5 := r5.below c8 (by omega)
  replace r6 := r6.below c8 (by omega)
  replace i_ps := i_ps.below c8 (by omega)
  replace i_zs := i_zs.below c8 (by omega)
  replace b := b.trans (c8.mono (by omega))
  clear c8
  go_wp2_with fail
  refine (eqSameC _ _ _ _ _ _ r4.isI r8.isI).mono ?_
  rintro e w9 ⟨rfl, c9⟩
  have s9 := c9.size
  replace r1 := r1.keep c9 (by omega)
  replace r2 := r2.keep c9 (by omega)
  replace r3 := r3.keep c9 (by omega)
  replace r4 := r4.keep c9 (by omega)
  replace r5 := r5.keep c9 (by omega)
  replace r6 := r6.keep c9 (by omega)
  replace r8 := r8.keep c9 (by omega)
  replace i_ps := i_ps.chg c9 (by omega) (by omega)
  replace i_zs := i_zs.chg c9 (by omega) (by omega)
  replace b := b.trans (c9.below (by omega) (by omega))
  clear c9
  go_wp2_with fail
  refine (toErr _ _ _ (by omega) (i_zs.up (by omega))).mono ?_
  rintro e w10 ⟨v10, rfl, r10, c10⟩
  have s10 := c10.size
  replace r1 := r1.below c10 (by omega)
  replace r2 := r2.below c10 (by omega)
  replace r3 := r3.below c10 (by omega)
  replace r4 := r4.below c10 (by omega)
  replace r5 := r5.below c10 (by omega)
  replace r6 := r6.below c10 (by omega)
  replace r8 := r8.below c10 (by omega)
  replace i_ps := i_ps.below c10 (by omega)
  replace i_zs := i_zs.below c10 (by omega)
  replace b := b.trans (c10.mono (by omega))
  clear c10
  go_wp2_with fail
  refine (eqSameErr _ _ _ _ _ _ (by omega) (by omega) r5.isI r10.isI).mono ?_
  rintro e w11 ⟨rfl, c11⟩
  have s11 := c11.size
  replace r1 := r1.keep c11 (by omega)
  replace r2 := r2.keep c11 (by omega)
  replace r3 := r3.keep c11 (by omega)
  replace r4 := r4.keep c11 (by omega)
  replace r5 := r5.keep c11 (by omega)
  replace r6 := r6.keep c11 (by omega)
  replace r8 := r8.keep c11 (by omega)
  replace r10 := r10.keep c11 (by omega)
  replace i_ps := i_ps.chg c11 (by omega) (by omega)
  replace i_zs := i_zs.chg c11 (by omega) (by omega)
  replace b := b.trans (c11.below (by omega) (by omega))
  clear c11
  go_wp2_with fail
  refine (markInts _ _ (1) _ _ _ (by omega) (by omega) r4).mono ?_
  clear r4
  rintro e w12 ⟨rfl, r4, c12⟩
  have s12 := c12.size
  replace r1 := r1.keep c12 (by omega)
  replace r2 := r2.keep c12 (by omega)
  replace r3 := r3.keep c12 (by omega)
  replace r5 := r5.keep c12 (by omega)
  replace r6 := r6.keep c12 (by omega)
  replace r8 := r8.keep c12 (by omega)
  replace r10 := r10.keep c12 (by omega)
  replace i_ps := i_ps.chg c12 (by omega) (by omega)
  replace i_zs := i_zs.chg c12 (by omega) (by omega)
  replace b := b.trans (c12.below (by omega) (by omega))
  clear c12
  go_wp2_with fail
  refine (markErr _ _ (1 + ((ps.length : Nat) : Int)) _ _ _ (by omega) (by omega) r5).mono ?_
  clear r5
  rintro e w13 ⟨rfl, r5, c13⟩
  have s13 := c13.size
  replace r1 := r1.keep c13 (by omega)
  replace r2 := r2.keep c13 (by omega)
  replace r3 := r3.keep c13 (by omega)
  replace r6 := r6.keep c13 (by omega)
  replace r8 := r8.keep c13 (by omega)
  replace r10 := r10.keep c13 (by omega)
  replace r4 := r4.keep c13 (by omega)
  replace i_ps := i_ps.chg c13 (by omega) (by omega)
  replace i_zs := i_zs.chg c13 (by omega) (by omega)
  replace b := b.trans (c13.below (by omega) (by omega))
  clear c13
  go_wp2_with fail
  refine (eqSameC _ _ _ _ _ _ r6.isI r3.isI).mono ?_
  rintro e w14 ⟨rfl, c14⟩
  have s14 := c14.size
  replace r1 := r1.keep c14 (by omega)
  replace r2 := r2.keep c14 (by omega)
  replace r3 := r3.keep c14 (by omega)
  replace r6 := r6.keep c14 (by omega)
  replace r8 := r8.keep c14 (by omega)
  replace r10 := r10.keep c14 (by omega)
  replace r4 := r4.keep c14 (by omega)
  replace r5 := r5.keep c14 (by omega)
  replace i_ps := i_ps.chg c14 (by omega) (by omega)
  replace i_zs := i_zs.chg c14 (by omega) (by omega)
  replace b := b.trans (c14.below (by omega) (by omega))
  clear c14
  go_wp2_with fail
  refine (markInts _ _ 1 _ _ _ (by omega) (by omega) r6).mono ?_
  clear r6
  rintro e w15 ⟨rfl, r6, c15⟩
  have s15 := c15.size
  replace r1 := r1.keep c15 (by omega)
  replace r2 := r2.keep c15 (by omega)
  replace r3 := r3.keep c15 (by omega)
  replace r8 := r8.keep c15 (by omega)
  replace r10 := r10.keep c15 (by omega)
  replace r4 := r4.keep c15 (by omega)
  replace r5 := r5.keep c15 (by omega)
  replace i_ps := i_ps.chg c15 (by omega) (by omega)
  replace i_zs := i_zs.chg c15 (by omega) (by omega)
  replace b := b.trans (c15.below (by omega) (by omega))
  clear c15
  have ht2 : (((1 + (((apF ps zs).length : Nat) : Int))) != ((1 + (((apF ps zs).length : Nat) : Int)))) = false := by simp
  go_wp2_with fail
  refine (heldRow _ 1 (1 + (((apF ps zs).length : Nat) : Int)) _ _ _ _ (by omega) (by omega) (by omega) r6).mono ?_
  rintro e wx16 ⟨rfl, rfl⟩
  go_wp2_with fail
  refine (toInts _ _ _ (by omega) (i_ps.up (by omega))).mono ?_
  rintro e w17 ⟨v17, rfl, r17, c17⟩
  have s17 := c17.size
  replace r1 := r1.below c17 (by omega)
  replace r2 := r2.below c17 (by omega)
  replace r3 := r3.below c17 (by omega)
  replace r8 := r8.below c17 (by omega)
  replace r10 := r10.below c17 (by omega)
  replace r4 := r4.below c17 (by omega)
  replace r5 := r5.below c17 (by omega)
  replace r6 := r6.below c17 (by omega)
  replace i_ps := i_ps.below c17 (by omega)
  replace i_zs := i_zs.below c17 (by omega)
  replace b := b.trans (c17.mono (by omega))
  clear c17
  go_wp2_with fail
  refine (toErr _ _ _ (by omega) (i_zs.up (by omega))).mono ?_
  rintro e w18 ⟨v18, rfl, r18, c18⟩
  have s18 := c18.size
  replace r1 := r1.below c18 (by omega)
  replace r2 := r2.below c18 (by omega)
  replace r3 := r3.below c18 (by omega)
  replace r8 := r8.below c18 (by omega)
  replace r10 := r10.below c18 (by omega)
  replace r4 := r4.below c18 (by omega)
  replace r5 := r5.below c18 (by omega)
  replace r6 := r6.below c18 (by omega)
  replace r17 := r17.below c18 (by omega)
  replace i_ps := i_ps.below c18 (by omega)
  replace i_zs := i_zs.below c18 (by omega)
  replace b := b.trans (c18.mono (by omega))
  clear c18
  go_wp2_with fail
  refine (c_iApplyErrata _ _ ps (r17.isI.up (by omega)) _ zs (r18.isI.up (by omega))).mono ?_
  rintro e w19 ⟨v19, rfl, r19, c19⟩
  have s19 := c19.size
  replace r1 := r1.below c19 (by omega)
  replace r2 := r2.below c19 (by omega)
  replace r3 := r3.below c19 (by omega)
  replace r8 := r8.below c19 (by omega)
  replace r10 := r10.below c19 (by omega)
  replace r4 := r4.below c19 (by omega)
  replace r5 := r5.below c19 (by omega)
  replace r6 := r6.below c19 (by omega)
  replace r17 := r17.below c19 (by omega)
  replace r18 := r18.below c19 (by omega)
  replace i_ps := i_ps.below c19 (by omega)
  replace i_zs := i_zs.below c19 (by omega)
  replace b := b.trans (c19.mono (by omega))
  clear c19
  go_wp2_with fail
  refine (eqSameC _ _ _ _ _ _ r19.isI r3.isI).mono ?_
  rintro e w20 ⟨rfl, c20⟩
  have s20 := c20.size
  replace r1 := r1.keep c20 (by omega)
  replace r2 := r2.keep c20 (by omega)
  replace r3 := r3.keep c20 (by omega)
  replace r8 := r8.keep c20 (by omega)
  replace r10 := r10.keep c20 (by omega)
  replace r4 := r4.keep c20 (by omega)
  replace r5 := r5.keep c20 (by omega)
  replace r6 := r6.keep c20 (by omega)
  replace r17 := r17.keep c20 (by omega)
  replace r18 := r18.keep c20 (by omega)
  replace r19 := r19.keep c20 (by omega)
  replace i_ps := i_ps.chg c20 (by omega) (by omega)
  replace i_zs := i_zs.chg c20 (by omega) (by omega)
  replace b := b.trans (c20.below (by omega) (by omega))
  clear c20
  go_wp2_with fail
  refine (heldRow _ 1 (1 + (((apF ps zs).length : Nat) : Int)) _ _ _ _ (by omega) (by omega) (by omega) r6).mono ?_
  rintro e wx21 ⟨rfl, rfl⟩
  go_wp2_with fail
  go_ret
  exact ⟨rfl, b⟩
end Go.Proofs.Ytefdnkhmgefdaaa
