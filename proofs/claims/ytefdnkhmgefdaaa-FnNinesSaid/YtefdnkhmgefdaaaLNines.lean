/- What is proved here: the walk of laws.FnNines. -/
import Derived.Test.YtefdnkhmgefdaaaDraw3
import Derived.Test.YtefdnkhmgefdaaaLaws1
set_option linter.unusedVariables false
set_option linter.unusedSimpArgs false
namespace Go.Proofs.Ytefdnkhmgefdaaa
open Go.RowKit

/-- The sum of the first j numbers. -/
def sT (xs : List Int) : Nat → Int
  | 0 => 0
  | j + 1 => sT xs j + el xs j
theorem sT_bd {b : Int} {xs : List Int} (h : Bd b xs) : ∀ j, j ≤ xs.length → -(b * j) ≤ sT xs j ∧ sT xs j ≤ b * j := by
  intro j
  induction j with
  | zero => intro _; simp [sT]
  | succ j ih =>
    intro hj
    have h1 := ih (by omega)
    have h2 := h j (by omega)
    have h3 : b * ((j + 1 : Nat) : Int) = b * j + b := by rw [Int.natCast_succ, Int.mul_add, Int.mul_one]
    rw [sT, h3]
    omega
theorem restF_yes {xs : List Int} {m : Int} (h : TB xs = true) : restF xs m = xs.map (md · m) := by simp [restF, h]
theorem restF_el {xs : List Int} {m : Int} (h : TB xs = true) {j : Nat} (hj : j < xs.length) : el (restF xs m) j = md (el xs j) m := by
  rw [restF_yes h, el_map _ _ _ hj, ← el_lt hj]
theorem sT_rest {xs : List Int} {m : Int} (hm : m = 9 ∨ m = 11) (h : TB xs = true) : ∀ j, j ≤ xs.length → (sT xs j - sT (restF xs m) j) % m = 0 := by
  intro j
  induction j with
  | zero => intro _; simp [sT]
  | succ j ih =>
    intro hj
    have h1 := ih (by omega)
    have h2 := restF_el (m := m) h (show j < xs.length by omega)
    unfold md at h2
    rw [sT, sT, h2]
    rcases hm with rfl | rfl <;> omega
theorem tmod_of_emod {x m : Int} (hm : m = 9 ∨ m = 11) (h : x % m = 0) : x.tmod m = 0 := by
  rcases hm with rfl | rfl
  · exact Int.tmod_eq_zero_of_dvd (Int.dvd_of_emod_eq_zero h)
  · exact Int.tmod_eq_zero_of_dvd (Int.dvd_of_emod_eq_zero h)
theorem wn_rest {xs : List Int} (h : TB xs = true) : wnF xs (restF xs 9) = [] := by
  have hl : xs.length = (restF xs 9).length := by rw [restF_yes h]; simp
  have hk : ∀ j, j ≤ xs.length → wnT xs (restF xs 9) j = [] := by
    intro j
    induction j with
    | zero => intro _; rfl
    | succ j ih =>
      intro hj
      rw [wnT, ih (by omega), if_pos (restF_el h (by omega)).symm]
  unfold wnF
  rw [if_pos (by simp [h, ← hl])]
  exact hk _ (Nat.le_refl _)

set_option maxHeartbeats 800000 in
theorem w_FnNines (w : World) (v : Value) (nb : Nat) (hv : IsBy w w.heap.size v nb) :
    Calls Try.prog 5 #[v] w fun e w' => e = .returned (.bool true) ∧ Below w.heap.size w w' := by
  obtain ⟨a, cap, hva, hm, hc⟩ := id hv
  subst hva
  unfold maxLen at hm
  clear hc
  by_cases hbig : 1048576 < nb
  · clear hv
    go_enter Try.func5, Try.ntmps5
    go_wp2_with fail
    go_ret
    exact ⟨rfl, Below.refl _ _⟩
  · go_enter Try.func5, Try.ntmps5
    go_wp2_with fail
    refine (c_DrawNinesOf _ _ _ hv).mono ?_
    rintro e w1 ⟨vx, xs, rfl, hx, b⟩
    have s1 := b.size
    clear hv
    go_wp2_with fail
    refine (c_iNinesOf _ _ xs hx).mono ?_
    rintro e w3 ⟨v2, rfl, r2, c⟩
    have s3 := c.size
    replace hx := hx.below c (by omega)
    replace b := b.trans (c.mono (by omega))
    clear c
    go_wp2_with fail
    refine (c_iElevensOf _ _ xs (hx.up (by omega))).mono ?_
    rintro e w4 ⟨v3, rfl, r3, c⟩
    have s4 := c.size
    replace hx := hx.below c (by omega)
    replace b := b.trans (c.mono (by omega))
    replace r2 := r2.below c (by omega)
    clear c
    go_wp2_with fail
    refine (c_sNinesOf _ _ xs (hx.up (by omega))).mono ?_
    rintro e w5 ⟨v4, rfl, r4, c⟩
    have s5 := c.size
    replace hx := hx.below c (by omega)
    replace b := b.trans (c.mono (by omega))
    replace r2 := r2.below c (by omega)
    replace r3 := r3.below c (by omega)
    clear c
    go_wp2_with fail
    refine (deSmC _ _ _ _ _ _ r2.isI r4.isI).mono ?_
    rintro e w6 ⟨rfl, c⟩
    have s6 := c.size
    replace hx := hx.chg c (by omega) (by omega)
    replace b := b.trans (c.below (by omega) (by omega))
    replace r2 := r2.keep c (by omega)
    replace r3 := r3.keep c (by omega)
    clear c
    clear r4
    go_wp2_with fail
    refine (c_sElevensOf _ _ xs (hx.up (by omega))).mono ?_
    rintro e w7 ⟨v5, rfl, r5, c⟩
    have s7 := c.size
    replace hx := hx.below c (by omega)
    replace b := b.trans (c.mono (by omega))
    replace r2 := r2.below c (by omega)
    replace r3 := r3.below c (by omega)
    clear c
    go_wp2_with fail
    refine (deSmC _ _ _ _ _ _ r3.isI r5.isI).mono ?_
    rintro e w8 ⟨rfl, c⟩
    have s8 := c.size
    replace hx := hx.chg c (by omega) (by omega)
    replace b := b.trans (c.below (by omega) (by omega))
    replace r2 := r2.keep c (by omega)
    replace r3 := r3.keep c (by omega)
    clear c
    clear r5
    by_cases hT : TB xs = true
    · have HT := hid hT
      go_wp2_with fail
      refine (c_iTableValid _ xs _ _ hx).mono ?_
      rw [hT]
      rintro e wx ⟨rfl, rfl⟩
      have hl1 := (TB_iff.1 hT).1
      have hl2 := (TB_iff.1 hT).2.1
      have HB := hid (TB_Bd hT)
      have hnl : (restF xs 9).length = xs.length := by rw [restF_yes hT]; simp
      have hel : (restF xs 11).length = xs.length := by rw [restF_yes hT]; simp
      have HNL := hid hnl
      have HEL := hid hel
      have HS := hid (sT_bd HB.out)
      have HN := hid (fun j (h : j < xs.length) => restF_el (m := 9) hT h)
      have HE := hid (fun j (h : j < xs.length) => restF_el (m := 11) hT h)
      have HSN := hid (sT_bd (b := 8) (xs := restF xs 9) (fun k hk => by rw [restF_el hT (by omega)]; have := md_nonneg (el xs k) (show (0 : Int) < 9 by omega); have := md_lt (el xs k) (show (0 : Int) < 9 by omega); omega))
      have HSE := hid (sT_bd (b := 10) (xs := restF xs 11) (fun k hk => by rw [restF_el hT (by omega)]; have := md_nonneg (el xs k) (show (0 : Int) < 11 by omega); have := md_lt (el xs k) (show (0 : Int) < 11 by omega); omega))
      have HD9 := hid (tmod_of_emod (.inl rfl) (sT_rest (m := 9) (.inl rfl) hT _ (Nat.le_refl _)))
      have HD11 := hid (tmod_of_emod (.inr rfl) (sT_rest (m := 11) (.inr rfl) hT _ (Nat.le_refl _)))
      have HW := hid (wn_rest hT)
      clear hT
      have hni := r2.isI
      have hei := r3.isI
      generalize restF xs 9 = ns at *
      generalize restF xs 11 = es at *
      have hx' := hx
      have hni' := hni
      obtain ⟨ax, capx, rfl, hmx, -, hcx⟩ := hx
      obtain ⟨an, capn, rfl, hmn, -, hcn⟩ := hni
      obtain ⟨ae, cape, rfl, hme, -, hce⟩ := hei
      unfold maxLen at hmx hmn hme
      clear hnl hel r2 r3
      go_wp2_with fail
      go_loop [6, 7, 8, 9] (fun s p q i => ∃ j : Nat, j ≤ xs.length ∧ i = .int .i64 j ∧ s = .int .i64 (sT xs j) ∧ p = .int .i64 (sT ns j) ∧ q = .int .i64 (sT es j)) (fun _ _ _ i => xs.length - (intOf i).toNat)
      case atStart => exact ⟨0, Nat.zero_le _, rfl, rfl, rfl, rfl⟩
      case round =>
        obtain ⟨j, hj, rfl, rfl, rfl, rfl⟩ := hrel
        obtain ⟨u1, u2⟩ := HS.out j hj
        obtain ⟨u3, u4⟩ := HSN.out j (by rw [HNL.out]; exact hj)
        obtain ⟨u5, u6⟩ := HSE.out j (by rw [HEL.out]; exact hj)
        by_cases hlt : j < xs.length
        · obtain ⟨b1, o1, rfl, hb1, hcell1⟩ := hcx j hlt
          obtain ⟨b2, o2, rfl, hb2, hcell2⟩ := hcn j (by rw [HNL.out]; exact hlt)
          obtain ⟨b3, o3, rfl, hb3, hcell3⟩ := hce j (by rw [HEL.out]; exact hlt)
          have g1 := hcell1 j hlt
          have g2 := hcell2 j (by rw [HNL.out]; exact hlt)
          have g3 := hcell3 j (by rw [HEL.out]; exact hlt)
          obtain ⟨x0, x1⟩ := HB.out j hlt
          have n0 : 0 ≤ el ns j ∧ el ns j ≤ 8 := by rw [HN.out j hlt]; have := md_nonneg (el xs j) (show (0 : Int) < 9 by omega); have := md_lt (el xs j) (show (0 : Int) < 9 by omega); omega
          have e0 : 0 ≤ el es j ∧ el es j ≤ 10 := by rw [HE.out j hlt]; have := md_nonneg (el xs j) (show (0 : Int) < 11 by omega); have := md_lt (el xs j) (show (0 : Int) < 11 by omega); omega
          obtain ⟨n0, n1⟩ := n0
          obtain ⟨e0, e1⟩ := e0
          have k2 : (j : Int) < ns.length := by rw [HNL.out]; omega
          have k3 : (j : Int) < es.length := by rw [HEL.out]; omega
          clear hcx hcn hce hcell1 hcell2 hcell3
          go_wp2
          go_round
          case rel => exact ⟨j + 1, by omega, by go_num, rfl, rfl, rfl⟩
          case measure => simp [intOf]; omega
        · obtain rfl : j = xs.length := by omega
          have t1 : ((sT xs xs.length - sT ns xs.length).tmod 9 == 0) = true := by rw [HD9.out]; rfl
          have t2 : ((sT xs xs.length - sT es xs.length).tmod 11 == 0) = true := by rw [HD11.out]; rfl
          have t3 : ((ns.length : Int) == (xs.length : Int)) = true := by rw [HNL.out]; simp
          clear hcx hcn hce
          go_wp2_with fail
          refine (c_iWrongNines _ _ xs (hx'.up (by omega)) _ ns (hni'.up (by omega))).mono ?_
          rw [HW.out]
          rintro e w9 ⟨v9, rfl, r9, c9⟩
          obtain ⟨a9, cap9, hv9⟩ : ∃ a cap, v9 = .slice a 0 cap := ⟨_, _, r9.isI.choose_spec.choose_spec.1⟩
          subst hv9
          replace b := b.trans (c9.mono (by omega))
          go_wp2_with fail
          go_ret
          exact ⟨rfl, b⟩
    · have hT' : TB xs = false := by simpa using hT
      go_wp2_with fail
      refine (c_iTableValid _ xs _ _ hx).mono ?_
      rw [hT']
      rintro e wx ⟨rfl, rfl⟩
      clear hT hT'
      go_wp2_with fail
      refine (c_sNinesOf _ _ xs (hx.up (by omega))).mono ?_
      rintro e w9 ⟨v6, rfl, r6, c⟩
      have s9 := c.size
      replace hx := hx.below c (by omega)
      replace b := b.trans (c.mono (by omega))
      replace r2 := r2.below c (by omega)
      replace r3 := r3.below c (by omega)
      clear c
      go_wp2_with fail
      refine (deSmC _ _ _ _ _ _ r2.isI r6.isI).mono ?_
      rintro e w10 ⟨rfl, c⟩
      have s10 := c.size
      replace hx := hx.chg c (by omega) (by omega)
      replace b := b.trans (c.below (by omega) (by omega))
      replace r2 := r2.keep c (by omega)
      replace r3 := r3.keep c (by omega)
      clear c
      clear r6
      go_wp2_with fail
      refine (c_sElevensOf _ _ xs (hx.up (by omega))).mono ?_
      rintro e w11 ⟨v7, rfl, r7, c⟩
      have s11 := c.size
      replace hx := hx.below c (by omega)
      replace b := b.trans (c.mono (by omega))
      replace r2 := r2.below c (by omega)
      replace r3 := r3.below c (by omega)
      clear c
      go_wp2_with fail
      refine (deSmC _ _ _ _ _ _ r3.isI r7.isI).mono ?_
      rintro e w12 ⟨rfl, c⟩
      have s12 := c.size
      replace hx := hx.chg c (by omega) (by omega)
      replace b := b.trans (c.below (by omega) (by omega))
      replace r2 := r2.keep c (by omega)
      replace r3 := r3.keep c (by omega)
      clear c
      go_wp2_with fail
      go_ret
      exact ⟨rfl, b⟩
end Go.Proofs.Ytefdnkhmgefdaaa
