/- What is proved here: the walk of laws.FnExactSegmentOf. -/
import Derived.Test.YtahbfcnailfkoaaSegS
import Derived.Test.YtahbfcnailfkoaaLaws1
import Derived.Test.YtahbfcnailfkoaaBstM
set_option linter.unusedVariables false
set_option linter.unusedSimpArgs false
namespace Go.Proofs.Ytahbfcnailfkoaa
open Go.RowKit

theorem sgP_len {xs : List Int} {f c d : Int} : (sgP xs f c d).length ≤ 7 := by
  unfold sgP
  split
  · exact rnL_len
  · simp
set_option maxHeartbeats 1600000 in
set_option maxRecDepth 100000 in
theorem w_FnExactSegmentOf (w : World) (vxs : Value) (xs : List Int) (i_xs : IsI w w.heap.size vxs xs) (f : Int) (hf : I64 f) (c : Int) (hc : I64 c) (d : Int) (hd : I64 d) :
    Calls Try.prog 8 #[vxs, .int .i64 f, .int .i64 c, .int .i64 d] w fun e w' => e = .returned (.bool true) ∧ Below w.heap.size w w' := by
  by_cases b_xs : 1048576 < xs.length
  · obtain ⟨a_, cap_, rfl, hm_, -, -⟩ := i_xs
    unfold maxLen at hm_
    go_enter Try.func8, Try.ntmps8
    go_wp2_with fail
    go_ret
    exact ⟨rfl, Below.refl _ _⟩
  have hl : (sgP xs f c d).length ≤ 7 := sgP_len
  obtain ⟨a_xs, cap_xs, hva_xs⟩ : ∃ a cap, vxs = .slice a xs.length cap := ⟨_, _, i_xs.choose_spec.choose_spec.1⟩
  subst hva_xs
  clear hf hc hd
  have b : Below w.heap.size w w := Below.refl _ _
  go_enter Try.func8, Try.ntmps8
  have ht1 : ((sgOk xs f c d) != (sgOk xs f c d)) = false := by simp
  go_wp2_with fail
  refine (toInts _ _ _ (by omega) (i_xs.up (by omega))).mono ?_
  rintro e w1 ⟨v1, rfl, r1, c1⟩
  have s1 := c1.size
  replace i_xs := i_xs.below c1 (by omega)
  replace b := b.trans (c1.mono (by omega))
  clear c1
  go_wp2_with fail
  refine (c_sSegmentOf _ _ xs (r1.isI.up (by omega)) f c d).mono ?_
  rintro e w2 ⟨v2, rfl, r2, c2⟩
  have s2 := c2.size
  replace r1 := r1.below c2 (by omega)
  replace i_xs := i_xs.below c2 (by omega)
  replace b := b.trans (c2.mono (by omega))
  clear c2
  obtain ⟨a2, cap2, hv2⟩ : ∃ a cap, v2 = .slice a (sgP xs f c d).length cap := ⟨_, _, r2.isI.choose_spec.choose_spec.1⟩
  subst hv2
  have g2 := seg_alloc_cells w2 (.int .i64 (sgC xs f c d)) (.slice a2 (sgP xs f c d).length cap2) 40
  have c2A := seg_alloc_chg w2 (.cells #[.int .i64 (sgC xs f c d), .slice a2 (sgP xs f c d).length cap2] 40) 0 0
  have hsz2 : (w2.alloc (.cells #[.int .i64 (sgC xs f c d), .slice a2 (sgP xs f c d).length cap2] 40)).heap.size = w2.heap.size + 1 := by simp
  replace r1 := r1.keep c2A (.inr (Nat.zero_le _))
  replace r2 := r2.keep c2A (.inr (Nat.zero_le _))
  replace i_xs := i_xs.chg c2A (.inr (Nat.le_refl _)) (by omega)
  replace b := b.trans (c2A.below (.inr (Nat.le_refl _)) (by omega))
  clear c2A
  obtain ⟨e00, e01, -⟩ := seg_cells g2 (.int .i64 0)
  go_wp2_with fail
  clear e00 e01
  generalize hwA2 : (w2.alloc (.cells #[.int .i64 (sgC xs f c d), .slice a2 (sgP xs f c d).length cap2] 40)) = wA2 at *
  clear hwA2
  refine (toInts _ _ _ (by omega) (i_xs.up (by omega))).mono ?_
  rintro e w3 ⟨v3, rfl, r3, c3⟩
  have s3 := c3.size
  replace g2 := (c3.block _ (by omega)).trans g2
  replace r1 := r1.below c3 (by omega)
  replace r2 := r2.below c3 (by omega)
  replace i_xs := i_xs.below c3 (by omega)
  replace b := b.trans (c3.mono (by omega))
  clear c3
  obtain ⟨e00, e01, -⟩ := seg_cells g2 (.int .i64 0)
  go_wp2_with fail
  clear e00 e01
  refine (c_iSegmentOf _ _ xs (r3.isI.up (by omega)) f c d).mono ?_
  rintro e w4 ⟨v4, rfl, r4, c4⟩
  have s4 := c4.size
  replace g2 := (c4.block _ (by omega)).trans g2
  replace r1 := r1.below c4 (by omega)
  replace r2 := r2.below c4 (by omega)
  replace r3 := r3.below c4 (by omega)
  replace i_xs := i_xs.below c4 (by omega)
  replace b := b.trans (c4.mono (by omega))
  clear c4
  obtain ⟨a4, cap4, hv4⟩ : ∃ a cap, v4 = .slice a (sgP xs f c d).length cap := ⟨_, _, r4.isI.choose_spec.choose_spec.1⟩
  subst hv4
  have g4 := seg_alloc_cells w4 (.int .i64 (sgC xs f c d)) (.slice a4 (sgP xs f c d).length cap4) 40
  have c4A := seg_alloc_chg w4 (.cells #[.int .i64 (sgC xs f c d), .slice a4 (sgP xs f c d).length cap4] 40) 0 0
  have hsz4 : (w4.alloc (.cells #[.int .i64 (sgC xs f c d), .slice a4 (sgP xs f c d).length cap4] 40)).heap.size = w4.heap.size + 1 := by simp
  replace g2 := (c4A.block _ (by omega) (by omega)).trans g2
  replace r1 := r1.keep c4A (.inr (Nat.zero_le _))
  replace r2 := r2.keep c4A (.inr (Nat.zero_le _))
  replace r3 := r3.keep c4A (.inr (Nat.zero_le _))
  replace r4 := r4.keep c4A (.inr (Nat.zero_le _))
  replace i_xs := i_xs.chg c4A (.inr (Nat.le_refl _)) (by omega)
  replace b := b.trans (c4A.below (.inr (Nat.le_refl _)) (by omega))
  clear c4A
  obtain ⟨e00, e01, -⟩ := seg_cells g2 (.int .i64 0)
  obtain ⟨e10, e11, -⟩ := seg_cells g4 (.int .i64 0)
  go_wp2_with fail
  clear e00 e01
  clear e10 e11
  generalize hwA4 : (w4.alloc (.cells #[.int .i64 (sgC xs f c d), .slice a4 (sgP xs f c d).length cap4] 40)) = wA4 at *
  clear hwA4
  refine (eqSeg1 _ _ _ _ _ (r4.isI.up (by omega)) (r2.isI.up (by omega))).mono ?_
  rintro e w5 ⟨rfl, c5⟩
  have s5 := c5.size
  replace g2 := (c5.block _ (by omega) (by omega)).trans g2
  replace g4 := (c5.block _ (by omega) (by omega)).trans g4
  replace r1 := r1.keep c5 (by omega)
  replace r2 := r2.keep c5 (by omega)
  replace r3 := r3.keep c5 (by omega)
  replace r4 := r4.keep c5 (by omega)
  replace i_xs := i_xs.chg c5 (by omega) (by omega)
  replace b := b.trans (c5.below (by omega) (by omega))
  clear c5
  obtain ⟨e00, e01, -⟩ := seg_cells g2 (.int .i64 0)
  obtain ⟨e10, e11, -⟩ := seg_cells g4 (.int .i64 0)
  go_wp2_with fail
  clear e00 e01
  clear e10 e11
  refine (toInts _ _ _ (by omega) (i_xs.up (by omega))).mono ?_
  rintro e w6 ⟨v6, rfl, r6, c6⟩
  have s6 := c6.size
  replace g2 := (c6.block _ (by omega)).trans g2
  replace g4 := (c6.block _ (by omega)).trans g4
  replace r1 := r1.below c6 (by omega)
  replace r2 := r2.below c6 (by omega)
  replace r3 := r3.below c6 (by omega)
  replace r4 := r4.below c6 (by omega)
  replace i_xs := i_xs.below c6 (by omega)
  replace b := b.trans (c6.mono (by omega))
  clear c6
  obtain ⟨e00, e01, -⟩ := seg_cells g2 (.int .i64 0)
  obtain ⟨e10, e11, -⟩ := seg_cells g4 (.int .i64 0)
  go_wp2_with fail
  clear e00 e01
  clear e10 e11
  refine (eqSameC _ _ _ _ _ _ r3.isI r6.isI).mono ?_
  rintro e w7 ⟨rfl, c7⟩
  have s7 := c7.size
  replace g2 := (c7.block _ (by omega) (by omega)).trans g2
  replace g4 := (c7.block _ (by omega) (by omega)).trans g4
  replace r1 := r1.keep c7 (by omega)
  replace r2 := r2.keep c7 (by omega)
  replace r3 := r3.keep c7 (by omega)
  replace r4 := r4.keep c7 (by omega)
  replace r6 := r6.keep c7 (by omega)
  replace i_xs := i_xs.chg c7 (by omega) (by omega)
  replace b := b.trans (c7.below (by omega) (by omega))
  clear c7
  obtain ⟨e00, e01, -⟩ := seg_cells g2 (.int .i64 0)
  obtain ⟨e10, e11, -⟩ := seg_cells g4 (.int .i64 0)
  go_wp2_with fail
  clear e00 e01
  clear e10 e11
  refine (markInts _ _ (1) _ _ _ (by omega) (by omega) r3).mono ?_
  clear r3
  rintro e w8 ⟨rfl, r3, c8⟩
  have s8 := c8.size
  replace g2 := (c8.block _ (by omega) (by omega)).trans g2
  replace g4 := (c8.block _ (by omega) (by omega)).trans g4
  replace r1 := r1.keep c8 (by omega)
  replace r2 := r2.keep c8 (by omega)
  replace r4 := r4.keep c8 (by omega)
  replace r6 := r6.keep c8 (by omega)
  replace i_xs := i_xs.chg c8 (by omega) (by omega)
  replace b := b.trans (c8.below (by omega) (by omega))
  clear c8
  obtain ⟨e00, e01, -⟩ := seg_cells g2 (.int .i64 0)
  obtain ⟨e10, e11, -⟩ := seg_cells g4 (.int .i64 0)
  go_wp2_with fail
  clear e00 e01
  clear e10 e11
  refine (eqSeg1 _ _ _ _ _ (r4.isI.up (by omega)) (r2.isI.up (by omega))).mono ?_
  rintro e w9 ⟨rfl, c9⟩
  have s9 := c9.size
  replace g2 := (c9.block _ (by omega) (by omega)).trans g2
  replace g4 := (c9.block _ (by omega) (by omega)).trans g4
  replace r1 := r1.keep c9 (by omega)
  replace r2 := r2.keep c9 (by omega)
  replace r4 := r4.keep c9 (by omega)
  replace r6 := r6.keep c9 (by omega)
  replace r3 := r3.keep c9 (by omega)
  replace i_xs := i_xs.chg c9 (by omega) (by omega)
  replace b := b.trans (c9.below (by omega) (by omega))
  clear c9
  obtain ⟨e00, e01, -⟩ := seg_cells g2 (.int .i64 0)
  obtain ⟨e10, e11, -⟩ := seg_cells g4 (.int .i64 0)
  go_wp2_with fail
  clear e00 e01
  clear e10 e11
  refine (markSeg1 _ _ _ 1 _ _ _ (by omega) (by omega) r4 (by omega)).mono ?_
  clear r4
  rintro e w10 ⟨rfl, r4, c10⟩
  have s10 := c10.size
  replace g2 := (c10.block _ (by omega) (by omega)).trans g2
  replace g4 := (c10.block _ (by omega) (by omega)).trans g4
  replace r1 := r1.keep c10 (by omega)
  replace r2 := r2.keep c10 (by omega)
  replace r6 := r6.keep c10 (by omega)
  replace r3 := r3.keep c10 (by omega)
  replace i_xs := i_xs.chg c10 (by omega) (by omega)
  replace b := b.trans (c10.below (by omega) (by omega))
  clear c10
  have ht2 : ((1 + ((((sgP xs f c d)).length : Nat) : Int)) != (1 + ((((sgP xs f c d)).length : Nat) : Int))) = false := by simp
  obtain ⟨e00, e01, -⟩ := seg_cells g2 (.int .i64 0)
  obtain ⟨e10, e11, -⟩ := seg_cells g4 (.int .i64 0)
  go_wp2_with fail
  clear e00 e01
  clear e10 e11
  refine (heldSeg1 _ _ 1 (1 + ((((sgP xs f c d)).length : Nat) : Int)) _ _ _ _ (by omega) (by omega) (by omega) r4).mono ?_
  rintro e w11 ⟨rfl, c11⟩
  have s11 := c11.size
  replace g2 := (c11.block _ (by omega) (by omega)).trans g2
  replace g4 := (c11.block _ (by omega) (by omega)).trans g4
  replace r1 := r1.keep c11 (by omega)
  replace r2 := r2.keep c11 (by omega)
  replace r6 := r6.keep c11 (by omega)
  replace r3 := r3.keep c11 (by omega)
  replace r4 := r4.keep c11 (by omega)
  replace i_xs := i_xs.chg c11 (by omega) (by omega)
  replace b := b.trans (c11.below (by omega) (by omega))
  clear c11
  obtain ⟨e00, e01, -⟩ := seg_cells g2 (.int .i64 0)
  obtain ⟨e10, e11, -⟩ := seg_cells g4 (.int .i64 0)
  go_wp2_with fail
  clear e00 e01
  clear e10 e11
  refine (toInts _ _ _ (by omega) (i_xs.up (by omega))).mono ?_
  rintro e w12 ⟨v12, rfl, r12, c12⟩
  have s12 := c12.size
  replace g2 := (c12.block _ (by omega)).trans g2
  replace g4 := (c12.block _ (by omega)).trans g4
  replace r1 := r1.below c12 (by omega)
  replace r2 := r2.below c12 (by omega)
  replace r6 := r6.below c12 (by omega)
  replace r3 := r3.below c12 (by omega)
  replace r4 := r4.below c12 (by omega)
  replace i_xs := i_xs.below c12 (by omega)
  replace b := b.trans (c12.mono (by omega))
  clear c12
  obtain ⟨e00, e01, -⟩ := seg_cells g2 (.int .i64 0)
  obtain ⟨e10, e11, -⟩ := seg_cells g4 (.int .i64 0)
  go_wp2_with fail
  clear e00 e01
  clear e10 e11
  refine (c_iSegmentOf _ _ xs (r12.isI.up (by omega)) f c d).mono ?_
  rintro e w13 ⟨v13, rfl, r13, c13⟩
  have s13 := c13.size
  replace g2 := (c13.block _ (by omega)).trans g2
  replace g4 := (c13.block _ (by omega)).trans g4
  replace r1 := r1.below c13 (by omega)
  replace r2 := r2.below c13 (by omega)
  replace r6 := r6.below c13 (by omega)
  replace r3 := r3.below c13 (by omega)
  replace r4 := r4.below c13 (by omega)
  replace r12 := r12.below c13 (by omega)
  replace i_xs := i_xs.below c13 (by omega)
  replace b := b.trans (c13.mono (by omega))
  clear c13
  obtain ⟨a13, cap13, hv13⟩ : ∃ a cap, v13 = .slice a (sgP xs f c d).length cap := ⟨_, _, r13.isI.choose_spec.choose_spec.1⟩
  subst hv13
  have g13 := seg_alloc_cells w13 (.int .i64 (sgC xs f c d)) (.slice a13 (sgP xs f c d).length cap13) 40
  have c13A := seg_alloc_chg w13 (.cells #[.int .i64 (sgC xs f c d), .slice a13 (sgP xs f c d).length cap13] 40) 0 0
  have hsz13 : (w13.alloc (.cells #[.int .i64 (sgC xs f c d), .slice a13 (sgP xs f c d).length cap13] 40)).heap.size = w13.heap.size + 1 := by simp
  replace g2 := (c13A.block _ (by omega) (by omega)).trans g2
  replace g4 := (c13A.block _ (by omega) (by omega)).trans g4
  replace r1 := r1.keep c13A (.inr (Nat.zero_le _))
  replace r2 := r2.keep c13A (.inr (Nat.zero_le _))
  replace r6 := r6.keep c13A (.inr (Nat.zero_le _))
  replace r3 := r3.keep c13A (.inr (Nat.zero_le _))
  replace r4 := r4.keep c13A (.inr (Nat.zero_le _))
  replace r12 := r12.keep c13A (.inr (Nat.zero_le _))
  replace r13 := r13.keep c13A (.inr (Nat.zero_le _))
  replace i_xs := i_xs.chg c13A (.inr (Nat.le_refl _)) (by omega)
  replace b := b.trans (c13A.below (.inr (Nat.le_refl _)) (by omega))
  clear c13A
  obtain ⟨e00, e01, -⟩ := seg_cells g2 (.int .i64 0)
  obtain ⟨e10, e11, -⟩ := seg_cells g4 (.int .i64 0)
  obtain ⟨e20, e21, -⟩ := seg_cells g13 (.int .i64 0)
  go_wp2_with fail
  clear e00 e01
  clear e10 e11
  clear e20 e21
  generalize hwA13 : (w13.alloc (.cells #[.int .i64 (sgC xs f c d), .slice a13 (sgP xs f c d).length cap13] 40)) = wA13 at *
  clear hwA13
  refine (eqSeg1 _ _ _ _ _ (r13.isI.up (by omega)) (r2.isI.up (by omega))).mono ?_
  rintro e w14 ⟨rfl, c14⟩
  have s14 := c14.size
  replace g2 := (c14.block _ (by omega) (by omega)).trans g2
  replace g4 := (c14.block _ (by omega) (by omega)).trans g4
  replace g13 := (c14.block _ (by omega) (by omega)).trans g13
  replace r1 := r1.keep c14 (by omega)
  replace r2 := r2.keep c14 (by omega)
  replace r6 := r6.keep c14 (by omega)
  replace r3 := r3.keep c14 (by omega)
  replace r4 := r4.keep c14 (by omega)
  replace r12 := r12.keep c14 (by omega)
  replace r13 := r13.keep c14 (by omega)
  replace i_xs := i_xs.chg c14 (by omega) (by omega)
  replace b := b.trans (c14.below (by omega) (by omega))
  clear c14
  obtain ⟨e00, e01, -⟩ := seg_cells g2 (.int .i64 0)
  obtain ⟨e10, e11, -⟩ := seg_cells g4 (.int .i64 0)
  obtain ⟨e20, e21, -⟩ := seg_cells g13 (.int .i64 0)
  go_wp2_with fail
  clear e00 e01
  clear e10 e11
  clear e20 e21
  refine (heldSeg1 _ _ 1 (1 + ((((sgP xs f c d)).length : Nat) : Int)) _ _ _ _ (by omega) (by omega) (by omega) r4).mono ?_
  rintro e w15 ⟨rfl, c15⟩
  have s15 := c15.size
  replace g2 := (c15.block _ (by omega) (by omega)).trans g2
  replace g4 := (c15.block _ (by omega) (by omega)).trans g4
  replace g13 := (c15.block _ (by omega) (by omega)).trans g13
  replace r1 := r1.keep c15 (by omega)
  replace r2 := r2.keep c15 (by omega)
  replace r6 := r6.keep c15 (by omega)
  replace r3 := r3.keep c15 (by omega)
  replace r4 := r4.keep c15 (by omega)
  replace r12 := r12.keep c15 (by omega)
  replace r13 := r13.keep c15 (by omega)
  replace i_xs := i_xs.chg c15 (by omega) (by omega)
  replace b := b.trans (c15.below (by omega) (by omega))
  clear c15
  obtain ⟨e00, e01, -⟩ := seg_cells g2 (.int .i64 0)
  obtain ⟨e10, e11, -⟩ := seg_cells g4 (.int .i64 0)
  obtain ⟨e20, e21, -⟩ := seg_cells g13 (.int .i64 0)
  go_wp2_with fail
  go_ret
  exact ⟨rfl, b⟩
end Go.Proofs.Ytahbfcnailfkoaa
