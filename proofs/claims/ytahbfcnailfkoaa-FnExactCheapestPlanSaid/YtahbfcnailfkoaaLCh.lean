/- What is proved here: the walk of laws.FnExactCheapestPlan. -/
import Derived.Test.YtahbfcnailfkoaaPlnD
import Derived.Test.YtahbfcnailfkoaaPlnL
import Derived.Test.YtahbfcnailfkoaaLaws1
set_option linter.unusedVariables false
set_option linter.unusedSimpArgs false
namespace Go.Proofs.Ytahbfcnailfkoaa
open Go.RowKit

theorem w_FnExactCheapestPlan (w : World) (vxs : Value) (xs : List Int) (i_xs : IsI w w.heap.size vxs xs) (d : Int) (hd : I64 d) (s : Int) (hs : I64 s) (c : Int) (hc : I64 c) :
    Calls Try.prog 12 #[vxs, .int .i64 d, .int .i64 s, .int .i64 c] w fun e w' => e = .returned (.bool true) ∧ Below w.heap.size w w' := by
  by_cases b_xs : 1048576 < xs.length
  · obtain ⟨a_, cap_, rfl, hm_, -, -⟩ := i_xs
    unfold maxLen at hm_
    go_enter Try.func12, Try.ntmps12
    go_wp2_with fail
    go_ret
    exact ⟨rfl, Below.refl _ _⟩
  have hl := pZ_small (ckL_facts xs d s c).1 (ckL_facts xs d s c).2
  obtain ⟨a_xs, cap_xs, hva_xs⟩ : ∃ a cap, vxs = .slice a xs.length cap := ⟨_, _, i_xs.choose_spec.choose_spec.1⟩
  subst hva_xs
  clear hd
  clear hs
  clear hc
  have b : Below w.heap.size w w := Below.refl _ _
  go_enter Try.func12, Try.ntmps12
  go_wp2_with fail
  refine (toInts _ _ _ (by omega) (i_xs.up (by omega))).mono ?_
  rintro e w1 ⟨v1, rfl, r1, c1⟩
  have s1 := c1.size
  replace i_xs := i_xs.below c1 (by omega)
  replace b := b.trans (c1.mono (by omega))
  clear c1
  go_wp2_with fail
  refine (c_sCheapestPlan _ _ xs (r1.isI.up (by omega)) d s c).mono ?_
  rintro e w2 ⟨v2, rfl, r2, c2⟩
  have s2 := c2.size
  replace r1 := r1.below c2 (by omega)
  replace i_xs := i_xs.below c2 (by omega)
  replace b := b.trans (c2.mono (by omega))
  clear c2
  go_wp2_with fail
  refine (toInts _ _ _ (by omega) (i_xs.up (by omega))).mono ?_
  rintro e w3 ⟨v3, rfl, r3, c3⟩
  have s3 := c3.size
  replace r1 := r1.below c3 (by omega)
  replace r2 := r2.below c3 (by omega)
  replace i_xs := i_xs.below c3 (by omega)
  replace b := b.trans (c3.mono (by omega))
  clear c3
  go_wp2_with fail
  refine (c_iCheapestPlan _ _ xs (r3.isI.up (by omega)) d s c).mono ?_
  rintro e w4 ⟨v4, rfl, r4, c4⟩
  have s4 := c4.size
  replace r1 := r1.below c4 (by omega)
  replace r2 := r2.below c4 (by omega)
  replace r3 := r3.below c4 (by omega)
  replace i_xs := i_xs.below c4 (by omega)
  replace b := b.trans (c4.mono (by omega))
  clear c4
  have ht1 : ((ckB xs d s c) != (ckB xs d s c)) = false := by simp
  go_wp2_with fail
  refine (eqSameSeg _ _ _ _ _ _ (by omega) (by omega) r4.isI r2.isI).mono ?_
  rintro e w5 ⟨rfl, c5⟩
  have s5 := c5.size
  replace r1 := r1.keep c5 (by omega)
  replace r2 := r2.keep c5 (by omega)
  replace r3 := r3.keep c5 (by omega)
  replace r4 := r4.keep c5 (by omega)
  replace i_xs := i_xs.chg c5 (by omega) (by omega)
  replace b := b.trans (c5.below (by omega) (by omega))
  clear c5
  go_wp2_with fail
  refine (toInts _ _ _ (by omega) (i_xs.up (by omega))).mono ?_
  rintro e w6 ⟨v6, rfl, r6, c6⟩
  have s6 := c6.size
  replace r1 := r1.below c6 (by omega)
  replace r2 := r2.below c6 (by omega)
  replace r3 := r3.below c6 (by omega)
  replace r4 := r4.below c6 (by omega)
  replace i_xs := i_xs.below c6 (by omega)
  replace b := b.trans (c6.mono (by omega))
  clear c6
  go_wp2_with fail
  refine (eqSameC _ _ _ _ _ _ r3.isI r6.isI).mono ?_
  rintro e w7 ⟨rfl, c7⟩
  have s7 := c7.size
  replace r1 := r1.keep c7 (by omega)
  replace r2 := r2.keep c7 (by omega)
  replace r3 := r3.keep c7 (by omega)
  replace r4 := r4.keep c7 (by omega)
  replace r6 := r6.keep c7 (by omega)
  replace i_xs := i_xs.chg c7 (by omega) (by omega)
  replace b := b.trans (c7.below (by omega) (by omega))
  clear c7
  go_wp2_with fail
  refine (markInts _ _ (1) _ _ _ (by omega) (by omega) r3).mono ?_
  clear r3
  rintro e w8 ⟨rfl, r3, c8⟩
  have s8 := c8.size
  replace r1 := r1.keep c8 (by omega)
  replace r2 := r2.keep c8 (by omega)
  replace r4 := r4.keep c8 (by omega)
  replace r6 := r6.keep c8 (by omega)
  replace i_xs := i_xs.chg c8 (by omega) (by omega)
  replace b := b.trans (c8.below (by omega) (by omega))
  clear c8
  go_wp2_with fail
  refine (eqSameSeg _ _ _ _ _ _ (by omega) (by omega) r4.isI r2.isI).mono ?_
  rintro e w9 ⟨rfl, c9⟩
  have s9 := c9.size
  replace r1 := r1.keep c9 (by omega)
  replace r2 := r2.keep c9 (by omega)
  replace r4 := r4.keep c9 (by omega)
  replace r6 := r6.keep c9 (by omega)
  replace r3 := r3.keep c9 (by omega)
  replace i_xs := i_xs.chg c9 (by omega) (by omega)
  replace b := b.trans (c9.below (by omega) (by omega))
  clear c9
  go_wp2_with fail
  refine (markSegZ _ _ 1 _ _ _ (by omega) (by omega) r4).mono ?_
  clear r4
  rintro e w10 ⟨rfl, r4, c10⟩
  have s10 := c10.size
  replace r1 := r1.keep c10 (by omega)
  replace r2 := r2.keep c10 (by omega)
  replace r6 := r6.keep c10 (by omega)
  replace r3 := r3.keep c10 (by omega)
  replace i_xs := i_xs.chg c10 (by omega) (by omega)
  replace b := b.trans (c10.below (by omega) (by omega))
  clear c10
  have ht2 : (((1 + ((pZ ((ckL xs d s c)) : Nat) : Int))) != ((1 + ((pZ ((ckL xs d s c)) : Nat) : Int)))) = false := by simp
  go_wp2_with fail
  refine (heldSegZ _ 1 (1 + ((pZ ((ckL xs d s c)) : Nat) : Int)) _ _ _ _ (by omega) (by omega) (by omega) r4).mono ?_
  rintro e wx11 ⟨rfl, rfl⟩
  go_wp2_with fail
  refine (toInts _ _ _ (by omega) (i_xs.up (by omega))).mono ?_
  rintro e w12 ⟨v12, rfl, r12, c12⟩
  have s12 := c12.size
  replace r1 := r1.below c12 (by omega)
  replace r2 := r2.below c12 (by omega)
  replace r6 := r6.below c12 (by omega)
  replace r3 := r3.below c12 (by omega)
  replace r4 := r4.below c12 (by omega)
  replace i_xs := i_xs.below c12 (by omega)
  replace b := b.trans (c12.mono (by omega))
  clear c12
  go_wp2_with fail
  refine (c_iCheapestPlan _ _ xs (r12.isI.up (by omega)) d s c).mono ?_
  rintro e w13 ⟨v13, rfl, r13, c13⟩
  have s13 := c13.size
  replace r1 := r1.below c13 (by omega)
  replace r2 := r2.below c13 (by omega)
  replace r6 := r6.below c13 (by omega)
  replace r3 := r3.below c13 (by omega)
  replace r4 := r4.below c13 (by omega)
  replace r12 := r12.below c13 (by omega)
  replace i_xs := i_xs.below c13 (by omega)
  replace b := b.trans (c13.mono (by omega))
  clear c13
  go_wp2_with fail
  refine (eqSameSeg _ _ _ _ _ _ (by omega) (by omega) r13.isI r2.isI).mono ?_
  rintro e w14 ⟨rfl, c14⟩
  have s14 := c14.size
  replace r1 := r1.keep c14 (by omega)
  replace r2 := r2.keep c14 (by omega)
  replace r6 := r6.keep c14 (by omega)
  replace r3 := r3.keep c14 (by omega)
  replace r4 := r4.keep c14 (by omega)
  replace r12 := r12.keep c14 (by omega)
  replace r13 := r13.keep c14 (by omega)
  replace i_xs := i_xs.chg c14 (by omega) (by omega)
  replace b := b.trans (c14.below (by omega) (by omega))
  clear c14
  go_wp2_with fail
  refine (heldSegZ _ 1 (1 + ((pZ ((ckL xs d s c)) : Nat) : Int)) _ _ _ _ (by omega) (by omega) (by omega) r4).mono ?_
  rintro e wx15 ⟨rfl, rfl⟩
  go_wp2_with fail
  go_ret
  exact ⟨rfl, b⟩
end Go.Proofs.Ytahbfcnailfkoaa
