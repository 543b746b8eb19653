/- What is proved here: contracts of runOf, l5Run, smallTable, l5Small, l5Longest, LongestRun. -/
import Derived.Test.YtkiebajggombiaaLdM
set_option linter.unusedVariables false
set_option linter.unusedSimpArgs false
namespace Go.Proofs.Ytkiebajggombiaa
open Go.RowKit

theorem IsI.sub {w : World} {B n b off cap : Nat} {xs : List Int} (h : IsI w B (.slice (some ⟨b, off, none⟩) n cap) xs) {lo m : Nat} (hm : lo + m ≤ xs.length) : IsI w B (.slice (some ⟨b, off + lo, none⟩) m (cap - lo)) ((xs.drop lo).take m) := by
  obtain ⟨a', cap', he, hmm, hr, hc⟩ := h
  simp only [Value.slice.injEq] at he
  obtain ⟨rfl, rfl, rfl⟩ := he
  have hl : ((xs.drop lo).take m).length = m := by rw [List.length_take, List.length_drop]; omega
  refine ⟨_, cap - lo, by rw [hl], ⟨by omega, by omega, fun h => by cases h⟩, (hr.drop lo).take m, fun i hi => ?_⟩
  rw [hl] at hi
  obtain ⟨b', off', ha, hb, hcell⟩ := hc (lo + i) (by omega)
  simp only [Option.some.injEq, Addr.mk.injEq, and_true] at ha
  obtain ⟨rfl, rfl⟩ := ha
  refine ⟨b, off + lo, rfl, hb, fun j hj => ?_⟩
  rw [hl] at hj
  rw [el_take hj, el_drop, Nat.add_assoc]; exact hcell (lo + j) (by omega)
def pvL (p : List Int) : List Int := if PV p then p else []
theorem c_l2Result (v : Value) (xs : List Int) (w : World) (hv : IsI w w.heap.size v xs) (hl : xs.length ≤ 7) (hb : Bd 1000000000 xs) :
    Calls Try.prog 108 #[v] w (RetRowB w (pvL (fD xs)) (PV (fD xs))) := by
  by_cases hP : PV (fD xs) = true
  · rw [show pvL (fD xs) = fD xs from if_pos hP, hP]
    go_enter Try.func108, Try.ntmps108
    go_wp2_with fail
    refine (c_l2Diffs _ xs _ hv hl hb).mono ?_
    rintro e w1 ⟨v1, rfl, r1, b1⟩
    go_wp2_with fail
    refine (c_sPolyValid _ _ _ _ r1.isI).mono ?_
    rw [hP]
    rintro e wx ⟨rfl, rfl⟩
    go_wp2
    go_ret2
    exact ⟨_, rfl, r1, b1⟩
  · have hP' : PV (fD xs) = false := by simpa using hP
    rw [show pvL (fD xs) = [] from if_neg hP, hP']
    go_enter Try.func108, Try.ntmps108
    go_wp2_with fail
    refine (c_l2Diffs _ xs _ hv hl hb).mono ?_
    rintro e w1 ⟨v1, rfl, r1, b1⟩
    have s1 := b1.size
    go_wp2_with fail
    refine (c_sPolyValid _ _ _ _ r1.isI).mono ?_
    rw [hP']
    rintro e wx ⟨rfl, rfl⟩
    clear hP hP'
    go_wp2
    go_ret2
    exact ⟨_, rfl, (RetRow.e0 w1 rfl).down s1, b1.alloc s1 _⟩
set_option maxHeartbeats 800000 in
theorem c_sInterpolate (w : World) (v : Value) (xs : List Int) (hv : IsI w w.heap.size v xs) :
    Calls Try.prog 94 #[v] w (RetRowB w (ipL xs) (ipOk xs)) := by
  obtain ⟨av, capv, hva⟩ : ∃ a cap, v = .slice a xs.length cap := ⟨_, _, hv.choose_spec.choose_spec.1⟩
  subst hva
  have HY := hid (fun h => @ipL_yes xs h)
  have HNO := hid (fun h => @ipL_no xs h)
  have HOK : Hid (ipOk xs = (TB xs && (decide (ldF xs ≤ 6) && PV (fD (xs.take (ipN xs)))))) := rfl
  by_cases hT : TB xs = true
  · obtain ⟨l0, l1, l2⟩ := ld_bd hT
    have h60 := (TB_iff.1 hT).2.1
    have h01 := (TB_iff.1 hT).1
    have HT := hid hT
    have HTB := hid (TB_Bd hT)
    have HN : Hid (ipN xs = (max (ldF xs) 0).toNat + 1) := rfl
    rw [hT, Bool.true_and] at HOK
    have L2 := hid l2
    clear hT l2
    generalize hK : ldF xs = K at *
    have HK := hid hK
    clear hK
    by_cases h6 : K ≤ 6
    · obtain ⟨m0, m1, m2⟩ := L2.out h6
      have HD : Hid (decide (K ≤ 6) = true) := by show _ = _; simpa using h6
      have hin : inB K (-1) 6 = true := inB_yes l0 h6
      obtain ⟨n, hn⟩ : ∃ n, ipN xs = n := ⟨_, rfl⟩
      rw [hn] at HOK HY m1 m2 HN
      have hcap : xs.length ≤ capv := by
        obtain ⟨aa, cc, he, hx, -⟩ := hv
        simp only [Value.slice.injEq] at he; omega
      have hcm : capv ≤ maxLen := by
        obtain ⟨aa, cc, he, hx, -⟩ := hv
        simp only [Value.slice.injEq] at he; omega
      unfold maxLen at hcm
      have htk := hv.take m1
      have htl : (xs.take n).length = n := by rw [List.length_take]; omega
      have HTL := hid htl
      have HTBn := hid (show Bd 1000000000 (xs.take n) from Bd_take HTB.out n)
      have HR : Hid (ipL xs = pvL (fD (xs.take n)) ∧ ipOk xs = PV (fD (xs.take n))) := by
        show _ ∧ _
        by_cases hP : PV (fD (xs.take n)) = true
        · have hok : ipOk xs = true := by rw [HOK.out, HD.out, hP]; rfl
          rw [HY.out hok, hok, hP]; exact ⟨(if_pos hP).symm, rfl⟩
        · have hP' : PV (fD (xs.take n)) = false := by simpa using hP
          have hok : ipOk xs = false := by rw [HOK.out, HD.out, hP']; rfl
          rw [HNO.out hok, hok, hP']; exact ⟨(if_neg hP).symm, rfl⟩
      rw [HR.out.1, HR.out.2]
      clear hn htl
      rcases Int.lt_or_le K 0 with hk | hk
      · obtain rfl : 1 = n := by have := HN.out; omega
        have q6 : (1 : Int) ≤ capv := by omega
        have q7 : K + 1 ≤ 1 := by omega
        go_enter Try.func94, Try.ntmps94
        go_wp2_with fail
        refine (c_sLeastDegree _ _ xs hv).mono ?_
        rw [HK.out]
        rintro e w1 ⟨rfl, b1⟩
        have s1 := b1.size
        go_wp2_with fail
        refine (c_l1In _ _ _ _).mono ?_
        rw [hin]
        rintro e wx ⟨rfl, rfl⟩
        go_wp2_with fail
        refine (c_l2Result _ (xs.take 1) _ ((htk.below b1 (Nat.le_refl _)).up s1) (by rw [HTL.out]; exact m2) HTBn.out).mono ?_
        rintro e w2 ⟨v2, rfl, r2, b2⟩
        go_wp2
        go_ret2
        exact ⟨_, rfl, r2.down s1, b1.trans (b2.mono s1)⟩
      · have hn2 : (K + 1).toNat = n := by have := HN.out; omega
        have q6 : K + 1 ≤ capv := by omega
        have q8 : 0 ≤ K + 1 := by omega
        have q9 : 1 ≤ K + 1 := by omega
        go_enter Try.func94, Try.ntmps94
        go_wp2_with fail
        refine (c_sLeastDegree _ _ xs hv).mono ?_
        rw [HK.out]
        rintro e w1 ⟨rfl, b1⟩
        have s1 := b1.size
        go_wp2_with fail
        refine (c_l1In _ _ _ _).mono ?_
        rw [hin]
        rintro e wx ⟨rfl, rfl⟩
        go_wp2_with fail
        refine (c_l2Result _ (xs.take n) _ ((htk.below b1 (Nat.le_refl _)).up s1) (by rw [HTL.out]; exact m2) HTBn.out).mono ?_
        rintro e w2 ⟨v2, rfl, r2, b2⟩
        go_wp2
        go_ret2
        exact ⟨_, rfl, r2.down s1, b1.trans (b2.mono s1)⟩
    · have HD : Hid (decide (K ≤ 6) = false) := by show _ = _; simpa using h6
      have HR := hid (show ipOk xs = false by rw [HOK.out, HD.out]; rfl)
      have HV := hid (HNO.out HR.out)
      have hin : inB K (-1) 6 = false := inB_no (by omega)
      rw [HV.out, HR.out]
      go_enter Try.func94, Try.ntmps94
      go_wp2_with fail
      refine (c_sLeastDegree _ _ xs hv).mono ?_
      rw [HK.out]
      rintro e w1 ⟨rfl, b1⟩
      have s1 := b1.size
      go_wp2_with fail
      refine (c_l1In _ _ _ _).mono ?_
      rw [hin]
      rintro e wx ⟨rfl, rfl⟩
      go_wp2
      go_ret2
      exact ⟨_, rfl, (RetRow.e0 w1 rfl).down s1, b1.alloc s1 _⟩
  · have hT' : TB xs = false := by simpa using hT
    have HK := hid (ldF_no hT')
    have HR := hid (show ipOk xs = false by rw [HOK.out, hT']; rfl)
    have HV := hid (HNO.out HR.out)
    rw [HV.out, HR.out]
    clear hT
    go_enter Try.func94, Try.ntmps94
    go_wp2_with fail
    refine (c_sLeastDegree _ _ xs hv).mono ?_
    rw [HK.out]
    rintro e w1 ⟨rfl, b1⟩
    have s1 := b1.size
    go_wp2_with fail
    refine (c_l1In _ _ _ _).mono ?_
    rw [inB_no (by omega)]
    rintro e wx ⟨rfl, rfl⟩
    go_wp2
    go_ret2
    exact ⟨_, rfl, (RetRow.e0 w1 rfl).down s1, b1.alloc s1 _⟩

theorem rnOk_ld {xs : List Int} {d : Int} : rnOk xs d = (decide (ldF xs ≤ d) && ipOk xs) := rfl
theorem rnL_yes {xs : List Int} {d : Int} (h : rnOk xs d = true) : rnL xs d = ipL xs := by simp [rnL, h]
theorem rnL_no {xs : List Int} {d : Int} (h : rnOk xs d = false) : rnL xs d = [] := by simp [rnL, h]
theorem rn_gt {xs : List Int} {d : Int} (h : d < ldF xs) : rnOk xs d = false ∧ rnL xs d = [] := by
  have h1 : rnOk xs d = false := by rw [rnOk_ld, decide_eq_false (by omega)]; rfl
  exact ⟨h1, rnL_no h1⟩
theorem rn_le {xs : List Int} {d : Int} (h : ldF xs ≤ d) : rnOk xs d = ipOk xs ∧ rnL xs d = ipL xs := by
  have h1 : rnOk xs d = ipOk xs := by rw [rnOk_ld, decide_eq_true h]; rfl
  refine ⟨h1, ?_⟩
  by_cases h2 : rnOk xs d = true
  · exact rnL_yes h2
  · rw [rnL_no (by simpa using h2), ipL_no (by rw [← h1]; simpa using h2)]
theorem rn_m2 {xs : List Int} {d : Int} (h : ldF xs = -2) : rnOk xs d = false ∧ rnL xs d = [] := by
  have hT : TB xs = false := by
    rw [← Bool.not_eq_true]; intro hT
    have := (ld_bd hT).1; omega
  have h1 : rnOk xs d = false := by rw [rnOk_ld, ipOk, hT, Bool.false_and, Bool.and_false]
  exact ⟨h1, rnL_no h1⟩
theorem c_runOf (w : World) (v : Value) (xs : List Int) (hv : IsI w w.heap.size v xs) (d : Int) :
    Calls Try.prog 44 #[v, .int .i64 d] w (RetRowB w (rnL xs d) (rnOk xs d)) := by
  have hm2 := hid (@rn_m2 xs d)
  have hgt := hid (@rn_gt xs d)
  have hle := hid (@rn_le xs d)
  obtain ⟨K, hK⟩ : ∃ K, ldF xs = K := ⟨_, rfl⟩
  have HK := hid hK
  clear hK
  by_cases h2 : K = -2
  · have HR := hid (hm2.out (by rw [HK.out]; exact h2))
    have q : (K == -2) = true := by simpa using h2
    rw [HR.out.1, HR.out.2]
    clear h2
    go_enter Try.func44, Try.ntmps44
    go_wp2_with fail
    refine (c_iLeastDegree _ _ xs hv).mono ?_
    rw [HK.out]
    rintro e w1 ⟨rfl, b1⟩
    go_wp2
    go_ret2
    exact ⟨_, rfl, Rw.nil _ _ _, b1⟩
  · have q : (K == -2) = false := by simpa using h2
    by_cases h3 : d < K
    · have HR := hid (hgt.out (by rw [HK.out]; exact h3))
      rw [HR.out.1, HR.out.2]
      clear h2
      go_enter Try.func44, Try.ntmps44
      go_wp2_with fail
      refine (c_iLeastDegree _ _ xs hv).mono ?_
      rw [HK.out]
      rintro e w1 ⟨rfl, b1⟩
      go_wp2
      go_ret2
      exact ⟨_, rfl, Rw.nil _ _ _, b1⟩
    · have HR := hid (hle.out (by rw [HK.out]; omega))
      rw [HR.out.1, HR.out.2]
      clear h2
      go_enter Try.func44, Try.ntmps44
      go_wp2_with fail
      refine (c_iLeastDegree _ _ xs hv).mono ?_
      rw [HK.out]
      rintro e w1 ⟨rfl, b1⟩
      have s1 := b1.size
      go_wp2_with fail
      refine (c_iInterpolate _ _ xs ((hv.below b1 (Nat.le_refl _)).up s1)).mono ?_
      rintro e w2 ⟨v2, rfl, r2, b2⟩
      go_wp2
      go_ret2
      exact ⟨_, rfl, r2.down s1, b1.trans (b2.mono s1)⟩
theorem c_l5Run (w : World) (v : Value) (xs : List Int) (hv : IsI w w.heap.size v xs) (d : Int) :
    Calls Try.prog 60 #[v, .int .i64 d] w (RetRowB w (rnL xs d) (rnOk xs d)) := by
  have hgt := hid (@rn_gt xs d)
  have hle := hid (@rn_le xs d)
  obtain ⟨K, hK⟩ : ∃ K, ldF xs = K := ⟨_, rfl⟩
  have HK := hid hK
  clear hK
  by_cases h3 : d < K
  · have HR := hid (hgt.out (by rw [HK.out]; exact h3))
    rw [HR.out.1, HR.out.2]
    go_enter Try.func60, Try.ntmps60
    go_wp2_with fail
    refine (c_sLeastDegree _ _ xs hv).mono ?_
    rw [HK.out]
    rintro e w1 ⟨rfl, b1⟩
    have s1 := b1.size
    go_wp2
    go_ret2
    exact ⟨_, rfl, (RetRow.e0 w1 rfl).down s1, b1.alloc s1 _⟩
  · have HR := hid (hle.out (by rw [HK.out]; omega))
    rw [HR.out.1, HR.out.2]
    go_enter Try.func60, Try.ntmps60
    go_wp2_with fail
    refine (c_sLeastDegree _ _ xs hv).mono ?_
    rw [HK.out]
    rintro e w1 ⟨rfl, b1⟩
    have s1 := b1.size
    go_wp2_with fail
    refine (c_sInterpolate _ _ xs ((hv.below b1 (Nat.le_refl _)).up s1)).mono ?_
    rintro e w2 ⟨v2, rfl, r2, b2⟩
    go_wp2
    go_ret2
    exact ⟨_, rfl, r2.down s1, b1.trans (b2.mono s1)⟩
theorem c_smallTable (v : Value) (xs : List Int) (B : Nat) (w : World) (hv : IsI w B v xs) :
    Calls Try.prog 42 #[v] w fun e w' => e = .returned (.bool (SM xs)) ∧ w = w' := by
  have HS : Hid (SM xs = (TB xs && alw 1500 xs)) := rfl
  by_cases hT : TB xs = true
  · have HR := hid (show SM xs = alw 1500 xs by rw [HS.out, hT]; rfl)
    rw [HR.out]
    go_enter Try.func42, Try.ntmps42
    go_wp2_with fail
    refine (c_iTableValid _ xs _ _ hv).mono ?_
    rw [hT]
    rintro e wx ⟨rfl, rfl⟩
    go_wp2_with fail
    refine (c_allWithin _ xs _ _ _ (by omega) (by omega) hv).mono ?_
    rintro e wx ⟨rfl, rfl⟩
    go_wp2
    go_ret
    exact ⟨rfl, rfl⟩
  · have hT' : TB xs = false := by simpa using hT
    have HR := hid (show SM xs = false by rw [HS.out, hT']; rfl)
    rw [HR.out]
    go_enter Try.func42, Try.ntmps42
    go_wp2_with fail
    refine (c_iTableValid _ xs _ _ hv).mono ?_
    rw [hT']
    rintro e wx ⟨rfl, rfl⟩
    go_wp2
    go_ret
    exact ⟨rfl, rfl⟩
theorem c_l5Small (v : Value) (xs : List Int) (B : Nat) (w : World) (hv : IsI w B v xs) :
    Calls Try.prog 45 #[v] w fun e w' => e = .returned (.bool (SM xs)) ∧ w = w' := by
  have HS : Hid (SM xs = (TB xs && alw 1500 xs)) := rfl
  have hv0 := hv
  obtain ⟨a, cap, rfl, hm, hr, hc⟩ := hv
  unfold maxLen at hm
  clear hr
  go_enter Try.func45, Try.ntmps45
  go_wp2
  go_loop [3] (fun i => ∃ j : Nat, j ≤ xs.length ∧ i = .int .i64 j ∧ ∀ k, k < j → inB (el xs k) (-1500) 1500 = true) (fun i => xs.length - (intOf i).toNat)
  case atStart => exact ⟨0, Nat.zero_le _, rfl, fun k hk => by omega⟩
  case round =>
    obtain ⟨j, hj, rfl, HA⟩ := hrel
    have HA' : Hid (∀ k, k < j → inB (el xs k) (-1500) 1500 = true) := HA
    clear HA
    by_cases hlt : j < xs.length
    · obtain ⟨bk, off, rfl, hb, hcell⟩ := hc j hlt
      have hce := hcell j hlt
      clear hc hcell hv0
      by_cases he : inB (el xs j) (-1500) 1500 = true
      · go_wp2_with (go_at_call 59; refine (c_l1In _ _ _ _).mono ?_; rintro e w' ⟨rfl, rfl⟩)
        go_round
        case rel => exact ⟨j + 1, by omega, by go_num, fun k hk => if e : k = j then e ▸ he else HA'.out k (by omega)⟩
        case measure => simp [intOf]; omega
      · have he' : inB (el xs j) (-1500) 1500 = false := by simpa using he
        have HE : Hid (inB (el xs j) (-1500) 1500 = false) := he'
        clear he
        go_wp2_with (go_at_call 59; refine (c_l1In _ _ _ _).mono ?_; rintro e w' ⟨rfl, rfl⟩)
        go_ret
        exact ⟨retB (by rw [HS.out, alw_no hlt HE.out, Bool.and_false]), rfl⟩
    · have HR := hid (show SM xs = TB xs by rw [HS.out, alw_yes (by omega) HA'.out, Bool.and_true])
      clear hc
      go_wp2_with fail
      refine (c_sTableValid _ xs _ _ hv0).mono ?_
      rintro e wx ⟨rfl, rfl⟩
      go_wp2
      go_ret
      exact ⟨retB HR.out.symm, rfl⟩
end Go.Proofs.Ytkiebajggombiaa
