/- What is proved here: the walk of laws.FnExactSplitSegment. -/
import Derived.Test.YtahbfcnailfkoaaPlnU
import Derived.Test.YtahbfcnailfkoaaPlnL
import Derived.Test.YtahbfcnailfkoaaLaws1
import Derived.Test.YtahbfcnailfkoaaPlnG
set_option linter.unusedVariables false
set_option linter.unusedSimpArgs false
namespace Go.Proofs.Ytahbfcnailfkoaa
open Go.RowKit

theorem sp_Z (L : List (Int × List Int)) (i t : Int) : pZ (spL L i t) ≤ 488 := by
  have h := spL_facts L i t
  have := pO_le7 h.2 (spL L i t).length
  unfold pZ; omega
theorem w_FnExactSplitSegment (w : World) (vL : Value) (L : List (Int × List Int)) (i_L : IsS w w.heap.size vL L) (i : Int) (hi : I64 i) (t : Int) (ht : I64 t) :
    Calls Try.prog 13 #[vL, .int .i64 i, .int .i64 t] w fun e w' => e = .returned (.bool true) ∧ Below w.heap.size w w' := by
  by_cases b_L : 1048576 < pO L L.length
  · have hz : szL L 1048576 = -1 := if_pos (by omega)
    go_enter Try.func13, Try.ntmps13
    go_wp2_with fail
    refine (szSeg _ L 1048576 (by omega) (by omega) _ i_L).mono ?_
    rw [hz]
    rintro e w1 ⟨rfl, c1⟩
    go_wp2_with fail
    go_ret
    exact ⟨rfl, c1⟩
  have hl := sp_Z L i t
  clear hi
  clear ht
  have b : Below w.heap.size w w := Below.refl _ _
  go_enter Try.func13, Try.ntmps13
  have hp_L := pO_small (L := L) (by omega)
  have hl_L := hp_L.1
  have HP_L := hid hp_L.2
  clear hp_L
  have hbz_L : pZ L ≤ 1048576 := by unfold pZ; omega
  have HSZ_L := hid (szL_yes (L := L) (m := 1048576) (by omega))
  have hz0_L : ¬ (1048576 - ((pZ L : Nat) : Int)) < 0 := by omega
  clear b_L
  go_wp2_with fail
  refine (szSeg _ L 1048576 (by omega) (by omega) _ i_L).mono ?_
  rw [HSZ_L.out]
  rintro e w1 ⟨rfl, c1⟩
  have s1 := c1.size
  replace i_L := i_L.below c1 (by omega)
  replace b := b.trans (c1.mono (by omega))
  clear c1
  go_wp2_with fail
  refine (toSeg _ _ _ (by omega) HP_L.out (i_L.up (by omega))).mono ?_
  rintro e w2 ⟨v2, rfl, r2, c2⟩
  have s2 := c2.size
  replace i_L := i_L.below c2 (by omega)
  replace b := b.trans (c2.mono (by omega))
  clear c2
  go_wp2_with fail
  refine (c_sSplitSegment _ _ L (r2.isI.up (by omega)) (by omega) HP_L.out i t).mono ?_
  rintro e w3 ⟨v3, rfl, r3, c3⟩
  have s3 := c3.size
  replace r2 := r2.below c3 (by omega)
  replace i_L := i_L.below c3 (by omega)
  replace b := b.trans (c3.mono (by omega))
  clear c3
  go_wp2_with fail
  refine (toSeg _ _ _ (by omega) HP_L.out (i_L.up (by omega))).mono ?_
  rintro e w4 ⟨v4, rfl, r4, c4⟩
  have s4 := c4.size
  replace r2 := r2.below c4 (by omega)
  replace r3 := r3.below c4 (by omega)
  replace i_L := i_L.below c4 (by omega)
  replace b := b.trans (c4.mono (by omega))
  clear c4
  go_wp2_with fail
  refine (c_iSplitSegment _ _ L (r4.isI.up (by omega)) (by omega) HP_L.out i t).mono ?_
  rintro e w5 ⟨v5, rfl, r5, c5⟩
  have s5 := c5.size
  replace r2 := r2.below c5 (by omega)
  replace r3 := r3.below c5 (by omega)
  replace r4 := r4.below c5 (by omega)
  replace i_L := i_L.below c5 (by omega)
  replace b := b.trans (c5.mono (by omega))
  clear c5
  have ht1 : ((spOk L i t) != (spOk L i t)) = false := by simp
  go_wp2_with fail
  refine (eqSameSeg _ _ _ _ _ _ (by omega) (by omega) r5.isI r3.isI).mono ?_
  rintro e w6 ⟨rfl, c6⟩
  have s6 := c6.size
  replace r2 := r2.keep c6 (by omega)
  replace r3 := r3.keep c6 (by omega)
  replace r4 := r4.keep c6 (by omega)
  replace r5 := r5.keep c6 (by omega)
  replace i_L := i_L.chg c6 (by omega) (by omega)
  replace b := b.trans (c6.below (by omega) (by omega))
  clear c6
  go_wp2_with fail
  refine (toSeg _ _ _ (by omega) HP_L.out (i_L.up (by omega))).mono ?_
  rintro e w7 ⟨v7, rfl, r7, c7⟩
  have s7 := c7.size
  replace r2 := r2.below c7 (by omega)
  replace r3 := r3.below c7 (by omega)
  replace r4 := r4.below c7 (by omega)
  replace r5 := r5.below c7 (by omega)
  replace i_L := i_L.below c7 (by omega)
  replace b := b.trans (c7.mono (by omega))
  clear c7
  go_wp2_with fail
  refine (eqSameSeg _ _ _ _ _ _ (by omega) (by omega) r4.isI r7.isI).mono ?_
  rintro e w8 ⟨rfl, c8⟩
  have s8 := c8.size
  replace r2 := r2.keep c8 (by omega)
  replace r3 := r3.keep c8 (by omega)
  replace r4 := r4.keep c8 (by omega)
  replace r5 := r5.keep c8 (by omega)
  replace r7 := r7.keep c8 (by omega)
  replace i_L := i_L.chg c8 (by omega) (by omega)
  replace b := b.trans (c8.below (by omega) (by omega))
  clear c8
  go_wp2_with fail
  refine (markSegZ _ _ (1) _ _ _ (by omega) (by omega) r4).mono ?_
  clear r4
  rintro e w9 ⟨rfl, r4, c9⟩
  have s9 := c9.size
  replace r2 := r2.keep c9 (by omega)
  replace r3 := r3.keep c9 (by omega)
  replace r5 := r5.keep c9 (by omega)
  replace r7 := r7.keep c9 (by omega)
  replace i_L := i_L.chg c9 (by omega) (by omega)
  replace b := b.trans (c9.below (by omega) (by omega))
  clear c9
  go_wp2_with fail
  refine (eqSameSeg _ _ _ _ _ _ (by omega) (by omega) r5.isI r3.isI).mono ?_
  rintro e w10 ⟨rfl, c10⟩
  have s10 := c10.size
  replace r2 := r2.keep c10 (by omega)
  replace r3 := r3.keep c10 (by omega)
  replace r5 := r5.keep c10 (by omega)
  replace r7 := r7.keep c10 (by omega)
  replace r4 := r4.keep c10 (by omega)
  replace i_L := i_L.chg c10 (by omega) (by omega)
  replace b := b.trans (c10.below (by omega) (by omega))
  clear c10
  go_wp2_with fail
  refine (markSegZ _ _ 1 _ _ _ (by omega) (by omega) r5).mono ?_
  clear r5
  rintro e w11 ⟨rfl, r5, c11⟩
  have s11 := c11.size
  replace r2 := r2.keep c11 (by omega)
  replace r3 := r3.keep c11 (by omega)
  replace r7 := r7.keep c11 (by omega)
  replace r4 := r4.keep c11 (by omega)
  replace i_L := i_L.chg c11 (by omega) (by omega)
  replace b := b.trans (c11.below (by omega) (by omega))
  clear c11
  have ht2 : (((1 + ((pZ ((spL L i t)) : Nat) : Int))) != ((1 + ((pZ ((spL L i t)) : Nat) : Int)))) = false := by simp
  go_wp2_with fail
  refine (heldSegZ _ 1 (1 + ((pZ ((spL L i t)) : Nat) : Int)) _ _ _ _ (by omega) (by omega) (by omega) r5).mono ?_
  rintro e wx12 ⟨rfl, rfl⟩
  go_wp2_with fail
  refine (toSeg _ _ _ (by omega) HP_L.out (i_L.up (by omega))).mono ?_
  rintro e w13 ⟨v13, rfl, r13, c13⟩
  have s13 := c13.size
  replace r2 := r2.below c13 (by omega)
  replace r3 := r3.below c13 (by omega)
  replace r7 := r7.below c13 (by omega)
  replace r4 := r4.below c13 (by omega)
  replace r5 := r5.below c13 (by omega)
  replace i_L := i_L.below c13 (by omega)
  replace b := b.trans (c13.mono (by omega))
  clear c13
  go_wp2_with fail
  refine (c_iSplitSegment _ _ L (r13.isI.up (by omega)) (by omega) HP_L.out i t).mono ?_
  rintro e w14 ⟨v14, rfl, r14, c14⟩
  have s14 := c14.size
  replace r2 := r2.below c14 (by omega)
  replace r3 := r3.below c14 (by omega)
  replace r7 := r7.below c14 (by omega)
  replace r4 := r4.below c14 (by omega)
  replace r5 := r5.below c14 (by omega)
  replace r13 := r13.below c14 (by omega)
  replace i_L := i_L.below c14 (by omega)
  replace b := b.trans (c14.mono (by omega))
  clear c14
  go_wp2_with fail
  refine (eqSameSeg _ _ _ _ _ _ (by omega) (by omega) r14.isI r3.isI).mono ?_
  rintro e w15 ⟨rfl, c15⟩
  have s15 := c15.size
  replace r2 := r2.keep c15 (by omega)
  replace r3 := r3.keep c15 (by omega)
  replace r7 := r7.keep c15 (by omega)
  replace r4 := r4.keep c15 (by omega)
  replace r5 := r5.keep c15 (by omega)
  replace r13 := r13.keep c15 (by omega)
  replace r14 := r14.keep c15 (by omega)
  replace i_L := i_L.chg c15 (by omega) (by omega)
  replace b := b.trans (c15.below (by omega) (by omega))
  clear c15
  go_wp2_with fail
  refine (heldSegZ _ 1 (1 + ((pZ ((spL L i t)) : Nat) : Int)) _ _ _ _ (by omega) (by omega) (by omega) r5).mono ?_
  rintro e wx16 ⟨rfl, rfl⟩
  go_wp2_with fail
  go_ret
  exact ⟨rfl, b⟩
end Go.Proofs.Ytahbfcnailfkoaa
