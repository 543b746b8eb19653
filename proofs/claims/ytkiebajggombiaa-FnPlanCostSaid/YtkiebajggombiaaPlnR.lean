/- What is proved here: contracts of PlanCost, PlanDegree and PlanValues (spec and impl). -/
import Derived.Test.YtkiebajggombiaaPlnQ
set_option linter.unusedVariables false
set_option linter.unusedSimpArgs false
namespace Go.Proofs.Ytkiebajggombiaa
open Go.RowKit

/-- The cost of the first segments. -/
def pK (L : List (Int × List Int)) (s c : Int) : Nat → Int
  | 0 => 0
  | k + 1 => pK L s c k + (s + c * ((pP L k).length : Nat))
def plK (L : List (Int × List Int)) (s c : Int) : Int := if PLV L && csB s c then pK L s c L.length else -1
theorem plK_yes {L : List (Int × List Int)} {s c : Int} (h : PLV L = true) (h2 : csB s c = true) : plK L s c = pK L s c L.length := by simp [plK, h, h2]
theorem plK_no {L : List (Int × List Int)} {s c : Int} (h : PLV L = false ∨ csB s c = false) : plK L s c = -1 := by
  unfold plK; rw [if_neg]; rcases h with h | h <;> simp [h]
theorem pk7 {c x : Int} (hc : 0 ≤ c ∧ c ≤ 1000) (hx : 0 ≤ x ∧ x ≤ 7) : 0 ≤ c * x ∧ c * x ≤ 7000 := by
  have h1 := mul_bd (a := c) (b := x) (A := 1000) (B := 7) (by omega) (by omega) hc.2 (by omega) hx.2
  have h2 := Int.mul_nonneg hc.1 hx.1
  omega
theorem pK_bd {L : List (Int × List Int)} {s c : Int} (hs : 0 ≤ s ∧ s ≤ 1000) (hc : 0 ≤ c ∧ c ≤ 1000) : ∀ k, (∀ i, i < k → (pP L i).length ≤ 7) → 0 ≤ pK L s c k ∧ pK L s c k ≤ 8000 * (k : Int) := by
  intro k
  induction k with
  | zero => intro _; simp [pK]
  | succ k ih =>
    intro h
    have h1 := ih (fun i hi => h i (by omega))
    have h2 := h k (by omega)
    have h3 := pk7 hc (show 0 ≤ (((pP L k).length : Nat) : Int) ∧ (((pP L k).length : Nat) : Int) ≤ 7 by omega)
    rw [pK]; omega
theorem c_sPlanCost (w : World) (v : Value) (L : List (Int × List Int)) (hv : IsS w w.heap.size v L) (hl : L.length ≤ 1048576) (s c : Int) :
    Calls Try.prog 16 #[v, .int .i64 s, .int .i64 c] w fun e w' => e = .returned (.int .i64 (plK L s c)) ∧ Below w.heap.size w w' := by
  have hv0 := hv
  obtain ⟨a, cap, rfl, hm, hc⟩ := hv
  unfold maxLen at hm
  by_cases hP : PLV L = true
  · by_cases hC : csB s c = true
    · have HR := hid (plK_yes hP hC)
      have HF := hid (PLV_facts hP)
      obtain ⟨⟨s0, s1⟩, c0, c1⟩ := csB_iff.1 hC
      have HP := hid hP
      have HC := hid hC
      have h60 := HF.out.1.2
      have H7 := hid (fun i (hi : i < L.length) => (PV_iff.1 (sgB_yes (HF.out.2.1 i hi)).2.1).2.1)
      obtain ⟨n, hn⟩ : ∃ n, L.length = n := ⟨_, rfl⟩
      have HN := hid hn
      have HL := hid hl
      rw [hn] at hm hc hv0 HF h60 H7 ⊢
      clear hn hP hC hl
      go_enter Try.func16, Try.ntmps16
      go_wp2_with fail
      refine (c_sPlanValid _ L _ HL.out hv0).mono ?_
      rw [HP.out]
      rintro e w1 ⟨rfl, b1⟩
      go_wp2_with fail
      refine (c_l5Cost _ _ _).mono ?_
      rw [HC.out]
      rintro e wx ⟨rfl, rfl⟩
      clear hv0
      go_wp2
      go_loopw [7, 8] (fun t i wr => ∃ (j : Nat) (y : Int), j ≤ n ∧ i = .int .i64 j ∧ t = .int .i64 y ∧ Hid (y = pK L s c j) ∧ Below w.heap.size w wr) (fun _ i _ => n - (intOf i).toNat)
      case atStart => exact ⟨0, 0, Nat.zero_le _, rfl, rfl, rfl, b1⟩
      case round =>
        clear b1
        obtain ⟨j, y, hj, rfl, rfl, HY, hbel⟩ := hrel
        have hbs := hbel.size
        have hyb := pK_bd (L := L) ⟨s0, s1⟩ ⟨c0, c1⟩ j (fun i hi => H7.out i (by omega))
        rw [← HY.out] at hyb
        by_cases hlt : j < n
        · obtain ⟨b, off, u, rfl, hb, g0, g1, hu, -⟩ := hc j hlt
          replace g1 := (hbel.cell (p := ⟨b, off + j * 2 + 1, none⟩) hb).trans g1
          obtain ⟨au, cu, hau⟩ : ∃ a cap, u = .slice a (pP L j).length cap := ⟨_, _, hu.choose_spec.choose_spec.1⟩
          subst hau
          have h7 := H7.out j hlt
          have hm7 := pk7 ⟨c0, c1⟩ (show 0 ≤ (((pP L j).length : Nat) : Int) ∧ (((pP L j).length : Nat) : Int) ≤ 7 by omega)
          have HSU := hid (show pK L s c (j + 1) = pK L s c j + (s + c * ((pP L j).length : Nat)) from rfl)
          clear hc hu g0
          go_wp2
          go_roundw
          case rel => exact ⟨j + 1, _, by omega, by go_num, rfl, by show _ = _; rw [HSU.out, HY.out]; omega, hbel⟩
          case measure => simp [intOf]; omega
        · obtain rfl : j = n := by omega
          clear hc
          go_wp2
          go_ret
          exact ⟨retI (by rw [HR.out, HY.out, HN.out]), hbel⟩
    · have hC' : csB s c = false := by simpa using hC
      have HR := hid (plK_no (L := L) (.inr hC'))
      rw [HR.out]
      clear hC hc
      go_enter Try.func16, Try.ntmps16
      go_wp2_with fail
      refine (c_sPlanValid _ L _ hl hv0).mono ?_
      rw [hP]
      rintro e w1 ⟨rfl, b1⟩
      go_wp2_with fail
      refine (c_l5Cost _ _ _).mono ?_
      rw [hC']
      rintro e wx ⟨rfl, rfl⟩
      go_wp2
      go_ret
      exact ⟨rfl, b1⟩
  · have hP' : PLV L = false := by simpa using hP
    have HR := hid (plK_no (s := s) (c := c) (.inl hP'))
    rw [HR.out]
    clear hP hc
    go_enter Try.func16, Try.ntmps16
    go_wp2_with fail
    refine (c_sPlanValid _ L _ hl hv0).mono ?_
    rw [hP']
    rintro e w1 ⟨rfl, b1⟩
    go_wp2
    go_ret
    exact ⟨rfl, b1⟩
theorem c_iPlanCost (w : World) (v : Value) (L : List (Int × List Int)) (hv : IsS w w.heap.size v L) (hl : L.length ≤ 1048576) (s c : Int) :
    Calls Try.prog 15 #[v, .int .i64 s, .int .i64 c] w fun e w' => e = .returned (.int .i64 (plK L s c)) ∧ Below w.heap.size w w' := by
  have hv0 := hv
  obtain ⟨a, cap, rfl, hm, hc⟩ := hv
  unfold maxLen at hm
  by_cases hP : PLV L = true
  · by_cases hS : inB s 0 1000 = true
    · by_cases hC : inB c 0 1000 = true
      · have HR := hid (plK_yes hP (show csB s c = true by simp [csB, hS, hC]))
        have HF := hid (PLV_facts hP)
        obtain ⟨s0, s1⟩ := inB_iff.1 hS
        obtain ⟨c0, c1⟩ := inB_iff.1 hC
        have HP := hid hP
        have HS := hid hS
        have HC := hid hC
        have h60 := HF.out.1.2
        have H7 := hid (fun i (hi : i < L.length) => (PV_iff.1 (sgB_yes (HF.out.2.1 i hi)).2.1).2.1)
        obtain ⟨n, hn⟩ : ∃ n, L.length = n := ⟨_, rfl⟩
        have HN := hid hn
        rw [hn] at hm hc hv0 HF h60 H7 ⊢
        clear hn hP hC hl hS
        go_enter Try.func15, Try.ntmps15
        go_wp2_with fail
        refine (c_iPlanValid _ L _ hv0).mono ?_
        rw [HP.out]
        rintro e w1 ⟨rfl, b1⟩
        go_wp2_with fail
        refine (c_costValid _ _).mono ?_
        rw [HS.out]
        rintro e wx ⟨rfl, rfl⟩
        go_wp2_with fail
        refine (c_costValid _ _).mono ?_
        rw [HC.out]
        rintro e wx ⟨rfl, rfl⟩
        clear hv0
        go_wp2
        go_loopw [7, 25] (fun t i wr => ∃ (j : Nat) (y : Int), j ≤ n ∧ i = .int .i64 j ∧ t = .int .i64 y ∧ Hid (y = pK L s c j) ∧ Below w.heap.size w wr) (fun _ i _ => n - (intOf i).toNat)
        case atStart => exact ⟨0, 0, Nat.zero_le _, rfl, rfl, rfl, b1⟩
        case round =>
          clear b1
          obtain ⟨j, y, hj, rfl, rfl, HY, hbel⟩ := hrel
          have hbs := hbel.size
          have hyb := pK_bd (L := L) ⟨s0, s1⟩ ⟨c0, c1⟩ j (fun i hi => H7.out i (by omega))
          rw [← HY.out] at hyb
          by_cases hlt : j < n
          · obtain ⟨b, off, u, rfl, hb, g0, g1, hu, -⟩ := hc j hlt
            replace g0 := (hbel.cell (p := ⟨b, off + j * 2, none⟩) hb).trans g0
            replace g1 := (hbel.cell (p := ⟨b, off + j * 2 + 1, none⟩) hb).trans g1
            obtain ⟨au, cu, hau⟩ : ∃ a cap, u = .slice a (pP L j).length cap := ⟨_, _, hu.choose_spec.choose_spec.1⟩
            subst hau
            have h7 := H7.out j hlt
            have hm7 := pk7 ⟨c0, c1⟩ (show 0 ≤ (((pP L j).length : Nat) : Int) ∧ (((pP L j).length : Nat) : Int) ≤ 7 by omega)
            have HSU := hid (show pK L s c (j + 1) = pK L s c j + (s + c * ((pP L j).length : Nat)) from rfl)
            clear hc hu
            go_wp2
            go_roundw
            case rel => exact ⟨j + 1, _, by omega, by go_num, rfl, by show _ = _; rw [HSU.out, HY.out], hbel.alloc hbs _⟩
            case measure => simp [intOf]; omega
          · obtain rfl : j = n := by omega
            clear hc
            go_wp2
            go_ret
            exact ⟨retI (by rw [HR.out, HY.out, HN.out]), hbel⟩
      · have hC' : inB c 0 1000 = false := by simpa using hC
        have HR := hid (plK_no (L := L) (.inr (show csB s c = false by simp [csB, hC'])))
        rw [HR.out]
        clear hC hc
        go_enter Try.func15, Try.ntmps15
        go_wp2_with fail
        refine (c_iPlanValid _ L _ hv0).mono ?_
        rw [hP]
        rintro e w1 ⟨rfl, b1⟩
        go_wp2_with fail
        refine (c_costValid _ _).mono ?_
        rw [hS]
        rintro e wx ⟨rfl, rfl⟩
        go_wp2_with fail
        refine (c_costValid _ _).mono ?_
        rw [hC']
        rintro e wx ⟨rfl, rfl⟩
        go_wp2
        go_ret
        exact ⟨rfl, b1⟩
    · have hS' : inB s 0 1000 = false := by simpa using hS
      have HR := hid (plK_no (L := L) (.inr (show csB s c = false by simp [csB, hS'])))
      rw [HR.out]
      clear hS hc
      go_enter Try.func15, Try.ntmps15
      go_wp2_with fail
      refine (c_iPlanValid _ L _ hv0).mono ?_
      rw [hP]
      rintro e w1 ⟨rfl, b1⟩
      go_wp2_with fail
      refine (c_costValid _ _).mono ?_
      rw [hS']
      rintro e wx ⟨rfl, rfl⟩
      go_wp2
      go_ret
      exact ⟨rfl, b1⟩
  · have hP' : PLV L = false := by simpa using hP
    have HR := hid (plK_no (s := s) (c := c) (.inl hP'))
    rw [HR.out]
    clear hP hc
    go_enter Try.func15, Try.ntmps15
    go_wp2_with fail
    refine (c_iPlanValid _ L _ hv0).mono ?_
    rw [hP']
    rintro e w1 ⟨rfl, b1⟩
    go_wp2
    go_ret
    exact ⟨rfl, b1⟩
/-- The greatest degree of the first segments. -/
def pD (L : List (Int × List Int)) : Nat → Int
  | 0 => -1
  | k + 1 => max (pD L k) (degF (pP L k))
def plD (L : List (Int × List Int)) : Int := if PLV L then pD L L.length else -2
theorem plD_yes {L : List (Int × List Int)} (h : PLV L = true) : plD L = pD L L.length := by simp [plD, h]
theorem plD_no {L : List (Int × List Int)} (h : PLV L = false) : plD L = -2 := by simp [plD, h]
end Go.Proofs.Ytkiebajggombiaa
