/- What is proved here: the walk of laws.FnWrongNines. -/
import Derived.Test.YtefdnkhmgefdaaaDraw3
import Derived.Test.YtefdnkhmgefdaaaLaws1
set_option linter.unusedVariables false
set_option linter.unusedSimpArgs false
namespace Go.Proofs.Ytefdnkhmgefdaaa
open Go.RowKit

theorem wnT_pre (xs ys : List Int) (j : Nat) : ∀ d, ∃ r, wnT xs ys (j + d) = wnT xs ys j ++ r := by
  intro d
  induction d with
  | zero => exact ⟨[], by simp⟩
  | succ d ih =>
    obtain ⟨r, hr⟩ := ih
    rw [show j + (d + 1) = (j + d) + 1 by omega, wnT, hr]
    split
    · exact ⟨r, rfl⟩
    · exact ⟨r ++ [((j + d : Nat) : Int)], by rw [List.append_assoc]⟩
theorem wn_at {xs ys : List Int} {j m : Nat} (h : j < m) (hne : ¬ md (el xs j) 9 = el ys j) : (wnT xs ys j).length < (wnT xs ys m).length ∧ el (wnT xs ys m) (wnT xs ys j).length = j := by
  obtain ⟨r, hr⟩ := wnT_pre xs ys (j + 1) (m - (j + 1))
  rw [show j + 1 + (m - (j + 1)) = m by omega, wnT, if_neg hne] at hr
  rw [hr]
  constructor
  · simp
  · rw [List.append_assoc, el_append_right (Nat.le_refl _), Nat.sub_self]; rfl
theorem wn_step {xs ys : List Int} {j : Nat} (hne : ¬ md (el xs j) 9 = el ys j) : (wnT xs ys (j + 1)).length = (wnT xs ys j).length + 1 := by
  rw [wnT, if_neg hne]; simp
theorem wn_same {xs ys : List Int} {j : Nat} (h : md (el xs j) 9 = el ys j) : (wnT xs ys (j + 1)).length = (wnT xs ys j).length := by
  rw [wnT, if_pos h]
theorem md9_tmod {x y : Int} (h : md x 9 = y) : (x - y).tmod 9 = 0 := by
  unfold md at h; subst h
  exact Int.tmod_eq_zero_of_dvd (by omega)
theorem md9_ne {x y : Int} (h : ¬ md x 9 = y) (h0 : 0 ≤ y) (h1 : y ≤ 8) : ¬ (x - y).tmod 9 = 0 := by
  unfold md at h
  intro e
  have := Int.dvd_of_tmod_eq_zero e
  omega

set_option maxRecDepth 100000 in
set_option maxHeartbeats 1600000 in
theorem w_FnWrongNines (w : World) (v : Value) (nb : Nat) (hv : IsBy w w.heap.size v nb) :
    Calls Try.prog 4 #[v] w fun e w' => e = .returned (.bool true) ∧ Below w.heap.size w w' := by
  obtain ⟨a, cap, hva, hm, hc⟩ := id hv
  subst hva
  unfold maxLen at hm
  clear hc
  by_cases hbig : 1048576 < nb
  · clear hv
    go_enter Try.func4, Try.ntmps4
    go_wp2_with fail
    go_ret
    exact ⟨rfl, Below.refl _ _⟩
  · go_enter Try.func4, Try.ntmps4
    go_wp2_with fail
    refine (c_DrawWrongNines _ _ _ hv).mono ?_
    rintro e w1 ⟨vx, vy, xs, ys, rfl, hx, hy, b⟩
    have s1 := b.size
    clear hv
    go_wp2_with fail
    refine (c_iWrongNines _ _ xs hx _ ys hy).mono ?_
    rintro e w3 ⟨v2, rfl, r2, c⟩
    have s3 := c.size
    replace hx := hx.below c (by omega)
    replace hy := hy.below c (by omega)
    replace b := b.trans (c.mono (by omega))
    clear c
    go_wp2_with fail
    refine (c_sWrongNines _ _ xs (hx.up (by omega)) _ ys (hy.up (by omega))).mono ?_
    rintro e w4 ⟨v3, rfl, r3, c⟩
    have s4 := c.size
    replace hx := hx.below c (by omega)
    replace hy := hy.below c (by omega)
    replace b := b.trans (c.mono (by omega))
    replace r2 := r2.below c (by omega)
    clear c
    go_wp2_with fail
    refine (deSmC _ _ _ _ _ _ r2.isI r3.isI).mono ?_
    rintro e w5 ⟨rfl, c⟩
    have s5 := c.size
    replace hx := hx.chg c (by omega) (by omega)
    replace hy := hy.chg c (by omega) (by omega)
    replace b := b.trans (c.below (by omega) (by omega))
    replace r2 := r2.keep c (by omega)
    clear c
    clear r3
    obtain ⟨ax, capx, hvx⟩ : ∃ a cap, vx = .slice a xs.length cap := ⟨_, _, hx.choose_spec.choose_spec.1⟩
    obtain ⟨ay, capy, hvy⟩ : ∃ a cap, vy = .slice a ys.length cap := ⟨_, _, hy.choose_spec.choose_spec.1⟩
    subst hvx
    subst hvy
    by_cases hT : TB xs = true
    · by_cases hl : xs.length = ys.length
      · have hl1 : ((xs.length : Int) != (ys.length : Int)) = false := by simp [hl]
        have hl2 := (TB_iff.1 hT).2.1
        have HB := hid (TB_Bd hT)
        have HWE := hid (show wnF xs ys = wnT xs ys xs.length by unfold wnF; rw [if_pos (by simp [hT, hl])])
        have HL := hid hl.symm
        have hlen := wnT_len xs ys xs.length
        have HLx := hid hl
        clear hl
        go_wp2_with fail
        refine (c_iTableValid _ xs _ _ hx).mono ?_
        rw [hT]
        rintro e wx ⟨rfl, rfl⟩
        have hi2 := r2.isI
        rw [HWE.out] at hi2
        obtain ⟨a2, cap2, rfl, hm2, -, hc2⟩ := hi2
        obtain ⟨ax', capx', hvx', hmx, -, hcx⟩ := hx
        obtain ⟨ay', capy', hvy', hmy, -, hcy⟩ := hy
        simp only [Value.slice.injEq, true_and] at hvx' hvy'
        obtain ⟨rfl, rfl⟩ := hvx'
        obtain ⟨rfl, rfl⟩ := hvy'
        unfold maxLen at hmx hmy hm2
        have hl := HLx.out
        clear HLx
        generalize hn : xs.length = n at *
        have HN := hid hn
        rw [← hl] at hl1 hcy hmy ⊢
        clear hT hl hn r2
        go_wp2
        go_loopw [6, 7] (fun c i wr => ∃ j : Nat, j ≤ n ∧ i = .int .i64 j ∧ c = .int .i64 ((wnT xs ys j).length : Nat) ∧ ∃ m, wr = w5.drewN m) (fun _ i _ => n - (intOf i).toNat)
        case atStart => exact ⟨0, Nat.zero_le _, rfl, rfl, 0, rfl⟩
        case round =>
          obtain ⟨j, hj, rfl, rfl, m, rfl⟩ := hrel
          have hlj := wnT_len xs ys j
          by_cases hlt : j < n
          · obtain ⟨b1, o1, rfl, hb1, hcell1⟩ := hcx j hlt
            obtain ⟨b2, o2, rfl, hb2, hcell2⟩ := hcy j hlt
            have g1 := hcell1 j hlt
            have g2 := hcell2 j hlt
            obtain ⟨x0, x1⟩ := HB.out j (by rw [HN.out]; exact hlt)
            have q1 : (j : Int) < n := by omega
            have q0 : 0 ≤ (j : Int) := by omega
            clear hcx hcy hcell1 hcell2
            by_cases he : md (el xs j) 9 = el ys j
            · have y0 := md_nonneg (el xs j) (show (0 : Int) < 9 by omega)
              have y1 := md_lt (el xs j) (show (0 : Int) < 9 by omega)
              rw [he] at y0 y1
              have k1 : IntKind.i64.wrap (el xs j - el ys j) = el xs j - el ys j := IntWalk.i64_in _ (by omega)
              have k2 : ((el xs j - el ys j).tmod 9 != 0) = false := by rw [md9_tmod he]; rfl
              have k3 : ¬ 8 < el ys j := by omega
              have HS := hid (wn_same he)
              clear he hc2
              go_wp2_with fail
              go_quiet (fail)
              go_wp2
              go_roundw
              case rel => exact ⟨j + 1, by omega, by go_num, by rw [HS.out], m + nq, rfl⟩
              case measure => simp [intOf]; omega
            · obtain ⟨a1, a2⟩ := wn_at hlt he
              obtain ⟨b3, o3, rfl, hb3, hcell3⟩ := hc2 _ a1
              have g3 := hcell3 _ a1
              rw [a2] at g3
              have HS := hid (wn_step he)
              have k4 : ((wnT xs ys j).length : Int) < (wnT xs ys n).length := by omega
              have HY := hid he
              clear hc2 hcell3 a1 a2
              generalize hp : (wnT xs ys j).length = p at *
              have HP := hid hp
              generalize (wnT xs ys n).length = pn at *
              clear hp
              by_cases hy8 : 0 ≤ el ys j ∧ el ys j ≤ 8
              · obtain ⟨y0, y1⟩ := hy8
                have k1 : IntKind.i64.wrap (el xs j - el ys j) = el xs j - el ys j := IntWalk.i64_in _ (by omega)
                have k2 : ((el xs j - el ys j).tmod 9 != 0) = true := by simpa using md9_ne he y0 y1
                clear he
                go_wp2_with fail
                go_quiet (fail)
                go_wp2
                go_roundw
                case rel => exact ⟨j + 1, by omega, by go_num, by rw [HS.out]; go_num, m + nq, rfl⟩
                case measure => simp [intOf]; omega
              · clear he
                by_cases hw0 : (IntKind.i64.wrap (el xs j - el ys j)).tmod 9 = 0
                · have k2 : ((IntKind.i64.wrap (el xs j - el ys j)).tmod 9 != 0) = false := by rw [hw0]; rfl
                  clear hw0
                  by_cases hy0 : el ys j < 0
                  · have k3 : decide (el ys j < 0) = true := by simpa using hy0
                    go_wp2_with fail
                    go_quiet (fail)
                    go_wp2
                    go_roundw
                    case rel => exact ⟨j + 1, by omega, by go_num, by rw [HS.out]; go_num, m + nq, rfl⟩
                    case measure => simp [intOf]; omega
                  · have k3 : decide (el ys j < 0) = false := by simpa using hy0
                    have k5 : 8 < el ys j := by omega
                    go_wp2_with fail
                    go_quiet (fail)
                    go_wp2
                    go_roundw
                    case rel => exact ⟨j + 1, by omega, by go_num, by rw [HS.out]; go_num, m + nq, rfl⟩
                    case measure => simp [intOf]; omega
                · have k2 : ((IntKind.i64.wrap (el xs j - el ys j)).tmod 9 != 0) = true := by simpa using hw0
                  clear hw0
                  go_wp2_with fail
                  go_quiet (fail)
                  go_wp2
                  go_roundw
                  case rel => exact ⟨j + 1, by omega, by go_num, by rw [HS.out]; go_num, m + nq, rfl⟩
                  case measure => simp [intOf]; omega
          · obtain rfl : j = n := by omega
            clear hcx hcy hc2
            go_wp2
            go_ret
            exact ⟨rfl, bel_drewN b _⟩
      · have hl1 : ((xs.length : Int) != (ys.length : Int)) = true := by simpa using (by omega : ¬ (xs.length : Int) = ys.length)
        go_wp2_with fail
        refine (c_iTableValid _ xs _ _ hx).mono ?_
        rw [hT]
        rintro e wx ⟨rfl, rfl⟩
        clear hT hl
        go_wp2_with fail
        refine (c_sWrongNines _ _ xs (hx.up (by omega)) _ ys (hy.up (by omega))).mono ?_
        rintro e w6 ⟨v6, rfl, r6, c⟩
        have s6 := c.size
        replace hx := hx.below c (by omega)
        replace hy := hy.below c (by omega)
        replace b := b.trans (c.mono (by omega))
        replace r2 := r2.below c (by omega)
        clear c
        go_wp2_with fail
        refine (deSmC _ _ _ _ _ _ r2.isI r6.isI).mono ?_
        rintro e w7 ⟨rfl, c⟩
        have s7 := c.size
        replace hx := hx.chg c (by omega) (by omega)
        replace hy := hy.chg c (by omega) (by omega)
        replace b := b.trans (c.below (by omega) (by omega))
        replace r2 := r2.keep c (by omega)
        clear c
        go_wp2_with fail
        go_ret
        exact ⟨rfl, b⟩
    · have hT' : TB xs = false := by simpa using hT
      go_wp2_with fail
      refine (c_iTableValid _ xs _ _ hx).mono ?_
      rw [hT']
      rintro e wx ⟨rfl, rfl⟩
      clear hT hT'
      go_wp2_with fail
      refine (c_sWrongNines _ _ xs (hx.up (by omega)) _ ys (hy.up (by omega))).mono ?_
      rintro e w8 ⟨v6, rfl, r6, c⟩
      have s8 := c.size
      replace hx := hx.below c (by omega)
      replace hy := hy.below c (by omega)
      replace b := b.trans (c.mono (by omega))
      replace r2 := r2.below c (by omega)
      clear c
      go_wp2_with fail
      refine (deSmC _ _ _ _ _ _ r2.isI r6.isI).mono ?_
      rintro e w9 ⟨rfl, c⟩
      have s9 := c.size
      replace hx := hx.chg c (by omega) (by omega)
      replace hy := hy.chg c (by omega) (by omega)
      replace b := b.trans (c.below (by omega) (by omega))
      replace r2 := r2.keep c (by omega)
      clear c
      go_wp2_with fail
      go_ret
      exact ⟨rfl, b⟩
end Go.Proofs.Ytefdnkhmgefdaaa
