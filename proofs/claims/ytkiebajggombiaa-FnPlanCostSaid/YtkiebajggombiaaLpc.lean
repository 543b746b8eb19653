/- What is proved here: the walk of laws.FnPlanCost. -/
import Derived.Test.YtkiebajggombiaaDpc
set_option linter.unusedVariables false
set_option linter.unusedSimpArgs false
namespace Go.Proofs.Ytkiebajggombiaa
open Go.RowKit

theorem pK_lin (P : List (Int × List Int)) (s c : Int) : ∀ k : Nat, pK P s c k = s * (k : Int) + c * pK P 0 1 k := by
  intro k
  induction k with
  | zero => simp [pK]
  | succ k ih =>
    rw [pK, pK, ih, show ((k + 1 : Nat) : Int) = (k : Int) + 1 by omega, Int.mul_add, Int.mul_add, Int.mul_one, Int.zero_add, Int.one_mul]
    omega
theorem pK_one (P : List (Int × List Int)) : ∀ k : Nat, pK P 1 0 k = (k : Int) := by
  intro k
  induction k with
  | zero => rfl
  | succ k ih => rw [pK, ih]; omega
theorem plK_seg {P : List (Int × List Int)} {i : Nat} (hi : i < P.length) (hP : PLV P = true) {s c : Int} (hc : csB s c = true) : plK ((P.drop i).take 1) s c = s + c * ((pP P i).length : Nat) := by
  have hl : ((P.drop i).take 1).length = 1 := by rw [List.length_take, List.length_drop]; omega
  have h0 : pC ((P.drop i).take 1) 0 = pC P i ∧ pP ((P.drop i).take 1) 0 = pP P i := by
    obtain ⟨e1, e2⟩ := p_take (L := P.drop i) (n := 1) (i := 0) (by omega)
    obtain ⟨e3, e4⟩ := p_drop (L := P) (n := i) (i := 0)
    rw [Nat.add_zero] at e3 e4
    exact ⟨e1.trans e3, e2.trans e4⟩
  have hg := (PLV_facts hP).2.1 i hi
  have hV : PLV ((P.drop i).take 1) = true := by
    refine PLV_iff.2 ⟨by omega, fun k hk => ?_, ?_⟩
    · obtain rfl : k = 0 := by omega
      rw [h0.1, h0.2]; exact hg
    · rw [hl]
      have := (sgB_yes hg).1
      simp only [pS]; rw [h0.1]; omega
  rw [plK_yes hV hc, hl]
  simp only [pK]
  rw [h0.2]; omega
set_option maxRecDepth 100000 in
set_option maxHeartbeats 1600000 in
theorem w_FnPlanCost (w : World) (v : Value) (nb : Nat) (hv : IsBy w w.heap.size v nb) :
    Calls Try.prog 5 #[v] w fun e w' => e = .returned (.bool true) ∧ Below w.heap.size w w' := by
  have hD := c_DrawPlanCost w v nb hv
  obtain ⟨a, cap, hva, hm, hc⟩ := id hv
  subst hva
  unfold maxLen at hm
  clear hc
  by_cases hbig : 1048576 < nb
  · clear hv hD
    go_enter Try.func5, Try.ntmps5
    go_wp2_with fail
    go_ret
    exact ⟨rfl, Below.refl _ _⟩
  · go_enter Try.func5, Try.ntmps5
    go_wp2_with fail
    refine hD.mono ?_
    rintro e w1 ⟨vx, P, s, c0, rfl, hx, hl, b⟩
    have s1 := b.size
    clear hv hD
    obtain ⟨n, hn⟩ : ∃ n, P.length = n := ⟨_, rfl⟩
    have HN := hid hn
    rw [hn] at hl
    clear hn
    have hl6 : P.length ≤ 1048576 := by have := HN.out; omega
    go_wp2_with fail
    refine (c_iPlanCost _ _ P (hx.up (by omega)) hl6 s c0).mono ?_
    rintro e w3 ⟨rfl, c⟩
    have s3 := c.size
    replace hx := hx.below c (by omega)
    replace b := b.trans (c.mono (by omega))
    clear c
    go_wp2_with fail
    refine (c_sPlanCost _ _ P (hx.up (by omega)) hl6 s c0).mono ?_
    rintro e w4 ⟨rfl, c⟩
    have s4 := c.size
    replace hx := hx.below c (by omega)
    replace b := b.trans (c.mono (by omega))
    clear c
    have t1 : (plK P s c0 != plK P s c0) = false := by simp
    have t2 : (plK P s c0 == plK P s c0) = true := by simp
    obtain ⟨ax, capx, hvx, -⟩ := id hx
    rw [HN.out] at hvx
    subst hvx
    by_cases hok : PLV P = true ∧ csB s c0 = true
    · obtain ⟨hP, hC⟩ := hok
      obtain ⟨⟨c1, c2⟩, c3, c4⟩ := csB_iff.1 hC
      have HF := hid (PLV_facts hP)
      have H7 := hid (fun i (hi : i < P.length) => (PV_iff.1 (sgB_yes (HF.out.2.1 i hi)).2.1).2.1)
      have HK := hid (plK_yes hP hC)
      have HB := hid (fun k (hk : k ≤ n) => pK_bd (L := P) ⟨c1, c2⟩ ⟨c3, c4⟩ k (fun i hi => H7.out i (by rw [HN.out]; omega)))
      have HBX := hid (pK_bd (L := P) (s := 0) (c := 1) (by omega) (by omega) n (fun i hi => H7.out i (by rw [HN.out]; omega)))
      have HSEG := hid (fun i (hi : i < P.length) => plK_seg hi hP hC)
      have HL1 := hid (show plK P 1 0 = (n : Int) by rw [plK_yes hP (by decide), pK_one, HN.out])
      have HL2 := hid (show plK P 0 1 = pK P 0 1 n by rw [plK_yes hP (by decide), HN.out])
      have HLN := hid (show pK P s c0 n = s * (n : Int) + c0 * pK P 0 1 n from pK_lin P s c0 n)
      rw [HK.out, HN.out] at t1 t2 ⊢
      have hk0 : ¬ pK P s c0 n < 0 := by have := (HB.out n (Nat.le_refl _)).1; omega
      have HKN := hid (show pK P s c0 n = pK P s c0 n from rfl)
      generalize hK : pK P s c0 n = K at *
      have HKK := hid hK
      have HP := hid hP
      have HC := hid hC
      clear hK hP hC
      have hn60 : n ≤ 60 := by have := HF.out.1.2; have := HN.out; omega
      go_wp2
      go_loopw [7, 8] (fun t i wr => ∃ (j : Nat) (T : Int), j ≤ n ∧ i = .int .i64 j ∧ t = .int .i64 T ∧ Hid (T = pK P s c0 j) ∧ Below w4.heap.size w4 wr) (fun _ i _ => n - (intOf i).toNat)
      case atStart => exact ⟨0, 0, Nat.zero_le _, rfl, rfl, rfl, Below.refl _ _⟩
      case round =>
        obtain ⟨j, T, hj, rfl, rfl, HT, bl⟩ := hrel
        have sl := bl.size
        have hxl := hx.below bl (by omega)
        by_cases hlt : j < n
        · have hTB := HB.out j hj
          have hsg := HSEG.out j (by rw [HN.out]; exact hlt)
          have h7 := H7.out j (by rw [HN.out]; exact hlt)
          have hp7 := pk7 ⟨c3, c4⟩ (show 0 ≤ (((pP P j).length : Nat) : Int) ∧ (((pP P j).length : Nat) : Int) ≤ 7 by omega)
          have HNX := hid (show pK P s c0 (j + 1) = pK P s c0 j + (s + c0 * ((pP P j).length : Nat)) from rfl)
          rw [← HT.out] at hTB
          obtain ⟨Y, hY⟩ : ∃ Y, s + c0 * (((pP P j).length : Nat) : Int) = Y := ⟨_, rfl⟩
          have hYB : 0 ≤ Y ∧ Y ≤ 8000 := by omega
          rw [hY] at hsg HNX
          clear hY hp7 h7
          have HSG := hid hsg
          clear hsg
          obtain ⟨T0, T1⟩ := hTB
          obtain ⟨Y0, Y1⟩ := hYB
          obtain ⟨a', c', hva, hm', hc'⟩ := id hxl
          rw [HN.out] at hva hm'
          simp only [Value.slice.injEq, true_and] at hva
          obtain ⟨rfl, rfl⟩ := hva
          obtain ⟨bb, off, u, rfl, -⟩ := hc' j (by rw [HN.out]; exact hlt)
          unfold maxLen at hm'
          obtain ⟨hm1, hm2, -⟩ := hm'
          have hsub := hxl.sub (lo := j) (m := 1) (by rw [HN.out]; omega)
          have q0 : (0 : Int) ≤ (j : Int) := by omega
          have q1 : (j : Int) < n := by omega
          have q6 : ((j : Int) + 1).toNat = j + 1 := by omega
          have q7 : (j : Int) + 1 ≤ capx := by omega
          have q8 : j + 1 - j = 1 := by omega
          clear hc'
          go_wp2_with fail
          refine (c_iPlanCost _ _ _ (hsub.up (by omega)) (by rw [List.length_take]; omega) s c0).mono ?_
          rw [HSG.out]
          rintro e w9 ⟨rfl, b9⟩
          have s9 := b9.size
          go_wp2
          go_roundw
          case rel => exact ⟨j + 1, T + Y, by omega, by go_num, rfl, by show _ = _; rw [HNX.out, ← HT.out], bl.trans (b9.mono sl)⟩
          case measure => simp [intOf]; omega
        · obtain rfl : j = n := by omega
          obtain rfl : T = K := by rw [HT.out, HKK.out]
          have t3 : (((j : Nat) : Int) == (j : Int)) = true := by simp
          have hX := HBX.out
          obtain ⟨X, hX2⟩ : ∃ X, pK P 0 1 j = X := ⟨_, rfl⟩
          rw [hX2] at hX HL2 HLN
          have hLN := HLN.out
          have hm1 : 0 ≤ s * (j : Int) ∧ s * (j : Int) ≤ 1000 * 61 := by
            have h1 := mul_bd (a := s) (b := (j : Int)) (A := 1000) (B := 61) (by omega) (by omega) c2 (by omega) (by omega)
            exact ⟨Int.mul_nonneg c1 (by omega), by omega⟩
          have hm2 : 0 ≤ c0 * X ∧ c0 * X ≤ 1000 * 480000 := by
            have h1 := mul_bd (a := c0) (b := X) (A := 1000) (B := 480000) (by omega) (by omega) c4 (by omega) (by omega)
            exact ⟨Int.mul_nonneg c3 hX.1, by omega⟩
          obtain ⟨m1, m2⟩ := hm1
          obtain ⟨m3, m4⟩ := hm2
          have t4 : (T == s * (j : Int) + c0 * X) = true := by simpa using hLN
          clear hLN hX2 hX HBX
          have t5 : (T == T) = true := by simp
          go_wp2_with fail
          refine (c_iPlanCost _ _ P (hxl.up (by omega)) hl6 1 0).mono ?_
          rw [HL1.out]
          rintro e w9 ⟨rfl, b9⟩
          have s9 := b9.size
          have hx9 := hxl.below b9 (by omega)
          go_wp2_with fail
          refine (c_iPlanCost _ _ P (hx9.up (by omega)) hl6 0 1).mono ?_
          rw [HL2.out]
          rintro e w10 ⟨rfl, b10⟩
          have s10 := b10.size
          have bz := (b.trans (bl.mono (by omega))).trans ((b9.mono (by omega)).trans (b10.mono (by omega)))
          go_wp2
          go_ret
          exact ⟨rfl, bz⟩
    · have HN1 := hid (show plK P s c0 = -1 from plK_no (by
        by_cases h : PLV P = true
        · exact .inr (by simpa [h] using hok)
        · exact .inl (by simpa using h)))
      rw [HN1.out] at t1 t2 ⊢
      clear hok
      go_wp2_with fail
      refine (c_sPlanCost _ _ P (hx.up (by omega)) hl6 s c0).mono ?_
      rw [HN1.out]
      rintro e w9 ⟨rfl, b9⟩
      have bz := b.trans (b9.mono (by omega))
      go_wp2
      go_ret
      exact ⟨rfl, bz⟩
end Go.Proofs.Ytkiebajggombiaa
