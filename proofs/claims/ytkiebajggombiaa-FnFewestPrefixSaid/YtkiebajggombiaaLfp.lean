/- What is proved here: the walk of laws.FnFewestPrefix. -/
import Derived.Test.YtkiebajggombiaaDfs
import Derived.Test.YtkiebajggombiaaCutM
set_option linter.unusedVariables false
set_option linter.unusedSimpArgs false
namespace Go.Proofs.Ytkiebajggombiaa
open Go.RowKit

set_option maxRecDepth 100000 in
set_option maxHeartbeats 1600000 in
theorem w_FnFewestPrefix (w : World) (v : Value) (nb : Nat) (hv : IsBy w w.heap.size v nb) (v2 : Value) (nb2 : Nat) (hv2 : IsBy w w.heap.size v2 nb2) :
    Calls Try.prog 3 #[v, v2] w fun e w' => e = .returned (.bool true) ∧ Below w.heap.size w w' := by
  have hD := c_DrawFewestSegments w v nb hv
  obtain ⟨a, cap, hva, hm, hc⟩ := id hv
  obtain ⟨a2, cap2, hva2, hm2, hc2⟩ := id hv2
  subst hva hva2
  unfold maxLen at hm hm2
  clear hc hc2 hv2
  by_cases hbig : 1048576 < nb
  · clear hv hD
    go_enter Try.func3, Try.ntmps3
    go_wp2_with fail
    go_ret
    exact ⟨rfl, Below.refl _ _⟩
  by_cases hbig2 : 1048576 < nb2
  · clear hv hD
    go_enter Try.func3, Try.ntmps3
    go_wp2_with fail
    go_ret
    exact ⟨rfl, Below.refl _ _⟩
  · go_enter Try.func3, Try.ntmps3
    go_wp2_with fail
    refine hD.mono ?_
    rintro e w1 ⟨vx, xs, d, rfl, hd, hx, b⟩
    have s1 := b.size
    clear hv hD
    have hcase := fsF_cases xs d hd
    clear hd
    go_wp2_with fail
    refine (c_iFewestSegments _ _ xs hx d).mono ?_
    rintro e w4 ⟨rfl, c⟩
    have s4 := c.size
    replace hx := hx.below c (by omega)
    replace b := b.trans (c.mono (by omega))
    clear c
    go_wp2_with fail
    refine (c_sFewestSegments _ _ xs (hx.up (by omega)) d).mono ?_
    rintro e w5 ⟨rfl, c⟩
    have s5 := c.size
    replace hx := hx.below c (by omega)
    replace b := b.trans (c.mono (by omega))
    clear c
    rcases hcase with hr | ⟨hS, dn, rfl, hdn⟩
    · rw [hr]
      have HR := hid hr
      clear hr
      go_wp2_with fail
      refine (c_sFewestSegments _ _ xs (hx.up (by omega)) d).mono ?_
      rintro e w6 ⟨rfl, c⟩
      have s6 := c.size
      replace hx := hx.below c (by omega)
      replace b := b.trans (c.mono (by omega))
      clear c
      rw [HR.out]
      go_wp2
      go_ret
      exact ⟨rfl, b⟩
    · have hp := fsH_pos hS hdn
      have hl := SM_iff.1 hS
      have hl0 := hl.1
      have hl1 := hl.2.1
      clear hl
      by_cases h2 : xs.length < 2
      · generalize hK : fsF xs (dn : Int) = K at *
        have HK := hid hK
        have k1 : ¬ K < 0 := by omega
        have k2 : (K != K) = false := by simp
        have k3 : (xs.length : Int) < 2 := by omega
        clear hK hp
        obtain ⟨ax, capx, hvx, -⟩ := id hx
        subst hvx
        go_wp2_with fail
        refine (c_sFewestSegments _ _ xs (hx.up (by omega)) (dn : Int)).mono ?_
        rintro e w7 ⟨rfl, c⟩
        have s7 := c.size
        replace hx := hx.below c (by omega)
        replace b := b.trans (c.mono (by omega))
        clear c
        rw [HK.out]
        go_wp2
        go_ret
        exact ⟨by simp, b⟩
      · obtain ⟨k, hk⟩ : ∃ k : Nat, k = 1 + nb2 % (xs.length - 1) := ⟨_, rfl⟩
        have hk2 := Nat.mod_lt nb2 (show xs.length - 1 > 0 by omega)
        have LAW := hid (fp_law hS hdn (show 1 ≤ k by omega) (show k < xs.length by omega))
        have e0 : (1 : Int) + (nb2 : Int) % ((xs.length : Int) - 1) = k := by
          rw [hk, show (xs.length : Int) - 1 = ((xs.length - 1 : Nat) : Int) by omega, ← Int.natCast_emod]; omega
        have E1 := hid e0
        have kb : 1 ≤ k ∧ k < xs.length := by omega
        have kb0 := kb.1
        have kb1 := kb.2
        clear kb hk hk2 e0
        obtain ⟨ax, capx, hvx, hmx, -, hcx⟩ := id hx
        subst hvx
        unfold maxLen at hmx
        obtain ⟨bx, ox, rfl, hbx, -⟩ := hcx 0 (by omega)
        clear hcx
        have hT1 := hx.take (show xs.length - 1 ≤ xs.length by omega)
        have hD1 := hx.sub (lo := 1) (m := xs.length - 1) (by omega)
        have hTk := hx.take (show k ≤ xs.length by omega)
        have hDk := hx.sub (lo := k) (m := xs.length - k) (by omega)
        rw [List.take_of_length_le (by rw [List.length_drop]; omega)] at hD1 hDk
        have PB := hid (show 1 ≤ fsF xs dn ∧ fsF xs dn ≤ 60 ∧ 1 ≤ fsF (xs.take k) dn ∧ 1 ≤ fsF (xs.drop k) dn from ⟨hp, by
          have := (bst_same hS hdn xs.length (Nat.le_refl _)).2
          rw [(fsF_yes hS hdn).1]; omega, fsH_pos (SM_take hS kb0) hdn, fsH_pos (SM_drop hS kb1) hdn⟩)
        clear hp hS
        generalize hK : fsF xs (dn : Int) = K at *
        generalize hA : fsF (xs.take (xs.length - 1)) (dn : Int) = A at *
        generalize hB : fsF (xs.drop 1) (dn : Int) = B at *
        generalize hF : fsF (xs.take k) (dn : Int) = F at *
        generalize hG : fsF (xs.drop k) (dn : Int) = G at *
        have HA := hid hA
        have HB := hid hB
        have HF := hid hF
        have HG := hid hG
        clear hK hA hB hF hG
        obtain ⟨pb1, pb2, pb3, pb4⟩ := PB.out
        obtain ⟨l1, l2, l3, l4, l5, l6⟩ := LAW.out
        have k1 : ¬ K < 0 := by omega
        have k2 : (K != K) = false := by simp
        have k3 : ¬ (xs.length : Int) < 2 := by omega
        have k5 : 0 ≤ (xs.length : Int) - 1 := by omega
        have k6 : (xs.length : Int) - 1 ≤ capx := by omega
        have k7 : ((xs.length : Int) - 1).toNat = xs.length - 1 := by omega
        have k8 : (1 : Int) < capx := by omega
        have k9 : ¬ capx = 1 := by omega
        have k10 : (k : Int) ≤ capx := by omega
        have k11 : (k : Int) < capx := by omega
        have k12 : ¬ capx = k := by omega
        have k13 : (k : Int) ≤ xs.length := by omega
        have k14 : (1 : Int) ≤ xs.length := by omega
        have k15 : ¬ (xs.length : Int) - 1 = 0 := by omega
        clear l1 l2 l3 l4 l5 l6 hbig hbig2 PB h2
        go_wp2_with fail
        refine (c_iFewestSegments _ _ _ (hT1.up (by omega)) (dn : Int)).mono ?_
        rintro e w8 ⟨rfl, c⟩
        have s8 := c.size
        replace hx := hx.below c (by omega)
        replace b := b.trans (c.mono (by omega))
        replace hT1 := hT1.below c (by omega)
        replace hD1 := hD1.below c (by omega)
        replace hTk := hTk.below c (by omega)
        replace hDk := hDk.below c (by omega)
        clear c
        rw [HA.out]
        clear hT1 HA
        go_wp2_with fail
        refine (c_iFewestSegments _ _ _ (hD1.up (by omega)) (dn : Int)).mono ?_
        rintro e w9 ⟨rfl, c⟩
        have s9 := c.size
        replace hx := hx.below c (by omega)
        replace b := b.trans (c.mono (by omega))
        replace hD1 := hD1.below c (by omega)
        replace hTk := hTk.below c (by omega)
        replace hDk := hDk.below c (by omega)
        clear c
        rw [HB.out]
        clear hD1 HB
        have e0 := E1.out
        have m0 : 0 ≤ (nb2 : Int) % ((xs.length : Int) - 1) := by omega
        have m1 : (nb2 : Int) % ((xs.length : Int) - 1) ≤ 60 := by omega
        go_wp2_with fail
        refine (c_iFewestSegments _ _ _ (hTk.up (by omega)) (dn : Int)).mono ?_
        rintro e w10 ⟨rfl, c⟩
        have s10 := c.size
        replace hx := hx.below c (by omega)
        replace b := b.trans (c.mono (by omega))
        replace hTk := hTk.below c (by omega)
        replace hDk := hDk.below c (by omega)
        clear c
        rw [HF.out]
        clear hTk HF
        go_wp2_with fail
        refine (c_iFewestSegments _ _ _ (hDk.up (by omega)) (dn : Int)).mono ?_
        rintro e w11 ⟨rfl, c⟩
        have s11 := c.size
        replace hx := hx.below c (by omega)
        replace b := b.trans (c.mono (by omega))
        replace hDk := hDk.below c (by omega)
        clear c
        rw [HG.out]
        obtain ⟨l1, l2, l3, l4, l5, l6⟩ := LAW.out
        clear e0 m0 m1
        have hAK : K = A ∨ K - 1 = A := by omega
        have hBK : K = B ∨ K - 1 = B := by omega
        have f1 : K ≤ F + G := by omega
        have f2 : F + G ≤ K + 1 := by omega
        have f3 : F ≤ 61 := by omega
        have f4 : G ≤ 61 := by omega
        clear l1 l2 l3 l4 l5 l6 LAW E1
        rcases hAK with rfl | rfl <;> rcases hBK with rfl | rfl
        all_goals
          have t1 : (K - 1 == K) = false := by simp; omega
          have t2 : (K == K) = true := by simp
          have t3 : (K - 1 == K - 1) = true := by simp
          go_wp2
          go_ret
          exact ⟨by simp, b⟩
end Go.Proofs.Ytkiebajggombiaa
