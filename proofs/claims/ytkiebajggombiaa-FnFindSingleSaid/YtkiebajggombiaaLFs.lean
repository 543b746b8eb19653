/- What is proved here: the walk of laws.FnFindSingle. -/
import Derived.Test.YtkiebajggombiaaDraw3
import Derived.Test.YtkiebajggombiaaFsM
import Derived.Test.YtkiebajggombiaaLaws1
set_option linter.unusedVariables false
set_option linter.unusedSimpArgs false
namespace Go.Proofs.Ytkiebajggombiaa
open Go.RowKit

set_option maxRecDepth 100000 in
set_option maxHeartbeats 1600000 in
theorem w_FnFindSingle (w : World) (v : Value) (nb : Nat) (hv : IsBy w w.heap.size v nb) (u : Value) (mb : Nat) (hu : IsBy w w.heap.size u mb) :
    Calls Try.prog 9 #[v, u] w fun e w' => e = .returned (.bool true) ∧ Below w.heap.size w w' := by
  obtain ⟨a, cap, hva, hm, hc⟩ := id hv
  obtain ⟨a', cap', hua, hm', hc'⟩ := id hu
  subst hva
  subst hua
  unfold maxLen at hm hm'
  clear hc hc' hu
  by_cases hbig : 1048576 < nb
  · clear hv
    go_enter Try.func9, Try.ntmps9
    go_wp2_with fail
    go_ret
    exact ⟨rfl, Below.refl _ _⟩
  by_cases hbig2 : 1048576 < mb
  · clear hv
    go_enter Try.func9, Try.ntmps9
    go_wp2_with fail
    go_ret
    exact ⟨rfl, Below.refl _ _⟩
  go_enter Try.func9, Try.ntmps9
  go_wp2_with fail
  refine (c_DrawCleanTable _ _ _ hv).mono ?_
  rintro e w1 ⟨vx, xs, d, rfl, hd, hx, b⟩
  have s1 := b.size
  clear hv
  go_wp2_with fail
  refine (c_iCleanTable _ _ xs hx d).mono ?_
  rintro e w4 ⟨rfl, c⟩
  have s4 := c.size
  replace hx := hx.below c (by omega)
  replace b := b.trans (c.mono (by omega))
  clear c
  go_wp2_with fail
  refine (c_sCleanTable _ _ xs (hx.up (by omega)) d).mono ?_
  rintro e w5 ⟨rfl, c⟩
  have s5 := c.size
  replace hx := hx.below c (by omega)
  replace b := b.trans (c.mono (by omega))
  clear c
  obtain ⟨ax, capx, hvx⟩ : ∃ a cap, vx = .slice a xs.length cap := ⟨_, _, hx.choose_spec.choose_spec.1⟩
  subst hvx
  by_cases hcl : cleanF xs d = true
  · have HCL := hid hcl
    rw [hcl]
    have t1 : (true != true) = false := rfl
    have hcl' := hcl
    unfold cleanF at hcl'
    simp only [Bool.and_eq_true, inB_iff] at hcl'
    obtain ⟨hT, ⟨d0, d1⟩, -⟩ := hcl'
    obtain ⟨k, rfl⟩ : ∃ k : Nat, d = k := ⟨d.toNat, by omega⟩
    have h60 := (TB_iff.1 hT).2.1
    have h01 := (TB_iff.1 hT).1
    clear hcl hd hT
    by_cases hl : (xs.length : Int) < k + 3
    · go_wp2_with fail
      refine (c_sCleanTable _ _ xs (hx.up (by omega)) k).mono ?_
      rintro e w6 ⟨rfl, c⟩
      have s6 := c.size
      replace hx := hx.below c (by omega)
      replace b := b.trans (c.mono (by omega))
      clear c
      rw [HCL.out]
      go_wp2_with fail
      go_ret
      exact ⟨rfl, b⟩
    · obtain ⟨p, hp⟩ : ∃ p, mb % xs.length = p := ⟨_, rfl⟩
      have hpl : p < xs.length := by rw [← hp]; exact Nat.mod_lt _ (by omega)
      have hmod : (mb : Int) % (xs.length : Int) = (p : Int) := by rw [← hp]; rfl
      have hmod2 : (mb : Int).tmod (xs.length : Int) = (p : Int) := by rw [Int.tmod_eq_emod_of_nonneg (by omega)]; exact hmod
      have hnz : ¬ (xs.length : Int) = 0 := by omega
      obtain ⟨m, hmm⟩ : ∃ m : Int, (mb : Int) / 3 % 40 - 20 = m := ⟨_, rfl⟩
      have HM := hid hmm
      have hmb : -20 ≤ m ∧ m ≤ 19 := by omega
      obtain ⟨hm0, hm1⟩ := hmb
      have HP := hid hp
      clear hp
      go_wp2_with fail
      have hfit : ((mb : Int) / 3 % 40 - 20) = m := HM.out
      refine (c_iPutError _ _ xs (hx.up (by omega)) p m).mono ?_
      rintro e w6 ⟨v6, rfl, r6, c⟩
      have s6 := c.size
      replace hx := hx.below c (by omega)
      replace b := b.trans (c.mono (by omega))
      clear c
      by_cases hok : putOk xs p m = true
      · rw [hok]
        have HL := hid (show k + 3 ≤ xs.length by omega)
        have HOK := hid hok
        clear hok hmod hmod2 hfit hmm
        by_cases h0 : m = 0
        · have hF : putF xs p m = xs := by
            rw [putF_ok HOK.out, h0, Int.toNat_natCast, Int.add_zero]
            refine list_ext (by simp) fun j hj => ?_
            by_cases e : p = j
            · subst e; rw [el_set_same hpl]
            · rw [el_set_other e]
          rw [hF] at r6
          have HN := hid (find_nothing HCL.out HL.out)
          have t2 : (m == 0) = true := by rw [h0]; rfl
          clear h0 hF
          go_wp2_with fail
          refine (c_iFindError _ _ xs (r6.isI.up (by omega)) k).mono ?_
          rw [HN.out.1]
          rintro e w7 ⟨rfl, c⟩
          have s7 := c.size
          replace hx := hx.below c (by omega)
          replace b := b.trans (c.mono (by omega))
          replace r6 := r6.below c (by omega)
          clear c
          go_wp2_with fail
          refine (c_iCorrectTable _ _ xs (r6.isI.up (by omega)) k).mono ?_
          rw [HN.out.2.2]
          rintro e w8 ⟨v8, rfl, r8, c⟩
          replace hx := hx.below c (by omega)
          replace b := b.trans (c.mono (by omega))
          replace r6 := r6.below c (by omega)
          clear c
          go_wp2_with fail
          go_ret
          exact ⟨rfl, b⟩
        · have HS := hid (find_single HCL.out HL.out HOK.out h0)
          have t2 : (m == 0) = false := by simpa using h0
          have t3 : (m == m) = true := by simp
          have t4 : ((p : Int) == (p : Int)) = true := by simp
          clear h0
          go_wp2_with fail
          refine (c_iFindError _ _ (putF xs p m) (r6.isI.up (by omega)) k).mono ?_
          rw [HS.out.1]
          rintro e w7 ⟨rfl, c⟩
          have s7 := c.size
          replace hx := hx.below c (by omega)
          replace b := b.trans (c.mono (by omega))
          replace r6 := r6.below c (by omega)
          clear c
          go_wp2_with fail
          refine (c_iCorrectTable _ _ (putF xs p m) (r6.isI.up (by omega)) k).mono ?_
          rw [HS.out.2.2, HS.out.2.1]
          rintro e w8 ⟨v8, rfl, r8, c⟩
          have s8 := c.size
          replace hx := hx.below c (by omega)
          replace b := b.trans (c.mono (by omega))
          replace r6 := r6.below c (by omega)
          clear c
          go_wp2_with fail
          refine (deSmC _ _ _ _ _ _ r8.isI hx).mono ?_
          rintro e w12 ⟨rfl, c⟩
          have s12 := c.size
          replace hx := hx.chg c (by omega) (by omega)
          replace b := b.trans (c.below (by omega) (by omega))
          replace r6 := r6.keep c (by omega)
          clear c
          go_wp2_with fail
          go_ret
          exact ⟨rfl, b⟩
      · have hok' : putOk xs p m = false := by simpa using hok
        rw [hok']
        clear hok hmod hmod2 hfit hmm
        go_wp2_with fail
        go_ret
        exact ⟨rfl, b⟩
  · have hcl' : cleanF xs d = false := by simpa using hcl
    rw [hcl']
    have t1 : (false != false) = false := rfl
    have HCL := hid hcl'
    clear hcl hd
    go_wp2_with fail
    refine (c_sCleanTable _ _ xs (hx.up (by omega)) d).mono ?_
    rintro e w13 ⟨rfl, c⟩
    have s13 := c.size
    replace hx := hx.below c (by omega)
    replace b := b.trans (c.mono (by omega))
    clear c
    rw [HCL.out]
    go_wp2_with fail
    go_ret
    exact ⟨rfl, b⟩
end Go.Proofs.Ytkiebajggombiaa
