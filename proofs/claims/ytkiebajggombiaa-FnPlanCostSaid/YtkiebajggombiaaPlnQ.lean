/- What is proved here: contracts of DegreeOf, PlanLength, PlanCost, PlanDegree and PlanValues (spec and impl). -/
import Derived.Test.YtkiebajggombiaaPlnP
set_option linter.unusedVariables false
set_option linter.unusedSimpArgs false
namespace Go.Proofs.Ytkiebajggombiaa
open Go.RowKit

theorem x_sPlanValid (w : World) (v : Value) (L : List (Int × List Int)) (hv : IsS w w.heap.size v L) (hl : L.length ≤ 1048576) :
    Calls Try.prog 53 #[v] w fun e w' => e = .returned (.bool (PLV L)) ∧ Below w.heap.size w w' := c_sPlanValid v L w hl hv
theorem x_iPlanValid (w : World) (v : Value) (L : List (Int × List Int)) (hv : IsS w w.heap.size v L) (hl : L.length ≤ 1048576) :
    Calls Try.prog 51 #[v] w fun e w' => e = .returned (.bool (PLV L)) ∧ Below w.heap.size w w' := c_iPlanValid v L w hv
theorem trN_all {p : List Int} : ∀ n, 1 ≤ n → (∀ k, 1 ≤ k → k < n → el p k = 0) → trN p n = 1
  | 0, h, _ => by omega
  | 1, _, _ => rfl
  | n + 2, _, h => by
    rw [trN_zero (by omega) (h (n + 2 - 1) (by omega) (by omega))]
    exact trN_all (n + 1) (by omega) (fun k a b => h k a (by omega))
theorem trN_one {p : List Int} : ∀ n, trN p n = 1 → ∀ k, 1 ≤ k → k < n → el p k = 0
  | 0, h, _ => by intro _ hk; omega
  | 1, _, _ => by intro _ hk; omega
  | n + 2, h, k => by
    intro h1 h2
    by_cases e : el p (n + 2 - 1) = 0
    · rw [trN_zero (by omega) e] at h
      by_cases e2 : k = n + 1
      · subst e2; exact e
      · exact trN_one (n + 1) h k h1 (by omega)
    · rw [trN_end (fun _ => e)] at h; omega
theorem alw0 {p : List Int} (hP : PV p = true) : alw 0 p = true ↔ trN p p.length = 1 ∧ el p 0 = 0 := by
  have h1 := (PV_iff.1 hP).1
  rw [alw_iff]
  constructor
  · intro h
    exact ⟨trN_all _ h1 (fun k _ hk => by have := h k hk; omega), by have := h 0 (by omega); omega⟩
  · rintro ⟨a, b⟩ k hk
    have := trN_one _ a
    by_cases e : k = 0
    · subst e; omega
    · have := this k (by omega) hk; omega
theorem c_iTrimPolyY (v : Value) (p : List Int) (w : World) (hP : PV p = true) (hv : IsI w w.heap.size v p) :
    Calls Try.prog 64 #[v] w (RetRow w (trimF p)) := by
  have hv' := hv
  have hl7 := (PV_iff.1 hP).2.1
  obtain ⟨a, cap, rfl, hm, hr, hc⟩ := hv
  unfold maxLen at hm
  clear hr
  go_enter Try.func64, Try.ntmps64
  go_wp2_with fail
  refine (c_iPolyValid _ p _ _ hv').mono ?_
  rw [hP]
  rintro e wx ⟨rfl, rfl⟩
  go_wp2
  go_loop [3] (fun i => ∃ j : Nat, j ≤ p.length ∧ i = .int .i64 j ∧ Hid (trN p p.length = trN p j)) (fun i => (intOf i).toNat)
  case atStart => exact ⟨p.length, Nat.le_refl _, rfl, rfl⟩
  case round =>
    obtain ⟨j, hj, rfl, HA⟩ := hrel
    have htl : (p.take j).length = j := by rw [List.length_take]; omega
    have HTL := hid htl
    have hut := hv'.take hj
    have k6 : 0 ≤ (j : Int) := by omega
    have k5 : (j : Int) ≤ cap := by omega
    clear htl
    by_cases hlt : 1 < j
    · obtain ⟨b, off, rfl, hb, hcell⟩ := hc (j - 1) (by omega)
      have hce := hcell (j - 1) (by omega)
      have k1 : IntKind.i64.wrap ((j : Int) - 1) = (j : Int) - 1 := IntWalk.i64_in _ (by omega)
      have k2 : ((j : Int) - 1).toNat = j - 1 := by omega
      have k3 : 0 ≤ (j : Int) - 1 := by omega
      have k4 : 1 < (j : Int) := by omega
      clear hc hcell
      by_cases h0 : el p (j - 1) = 0
      · have h0' : (el p (j - 1) == 0) = true := by simpa using h0
        have HT := hid (trN_zero hlt h0)
        clear h0
        go_wp2
        go_round
        case rel => exact ⟨j - 1, by omega, by rw [show ((j - 1 : Nat) : Int) = (j : Int) - 1 by omega], by show _ = _; rw [HA.out]; exact HT.out⟩
        case measure => simp [intOf]; omega
      · have h0' : (el p (j - 1) == 0) = false := by simpa using h0
        have HT := hid (trN_end (p := p) (n := j) (fun _ => h0))
        have HF := hid (show p.take j = trimF p by unfold trimF; rw [HA.out, HT.out])
        clear h0
        go_wp2_with fail
        refine (c_CloneI _ (p.take j) _ (by rw [HTL.out]; omega) hut).mono ?_
        rintro e w1 ⟨v1, rfl, r1, b1⟩
        go_wp2
        go_ret
        rw [HF.out] at r1
        exact ⟨_, rfl, r1, b1⟩
    · have HT := hid (trN_end (p := p) (n := j) (fun h => absurd h hlt))
      have HF := hid (show p.take j = trimF p by unfold trimF; rw [HA.out, HT.out])
      have k4 : ¬ 1 < (j : Int) := by omega
      clear hc
      go_wp2_with fail
      refine (c_CloneI _ (p.take j) _ (by rw [HTL.out]; omega) hut).mono ?_
      rintro e w1 ⟨v1, rfl, r1, b1⟩
      go_wp2
      go_ret
      rw [HF.out] at r1
      exact ⟨_, rfl, r1, b1⟩
theorem c_allZeroZ (v : Value) (xs : List Int) (B : Nat) (w : World) (hv : IsI w B v xs) :
    Calls Try.prog 63 #[v] w fun e w' => e = .returned (.bool (alw 0 xs)) ∧ w = w' := by
  go_enter Try.func63, Try.ntmps63
  go_wp2_with fail
  refine (c_allWithin _ xs _ _ _ (by omega) (by omega) hv).mono ?_
  rintro e wx ⟨rfl, rfl⟩
  go_wp2
  go_ret
  exact ⟨rfl, rfl⟩
theorem c_iDegreeOf (v : Value) (p : List Int) (w : World) (hv : IsI w w.heap.size v p) :
    Calls Try.prog 22 #[v] w fun e w' => e = .returned (.int .i64 (degF p)) ∧ Below w.heap.size w w' := by
  obtain ⟨av, capv, hva⟩ : ∃ a cap, v = .slice a p.length cap := ⟨_, _, hv.choose_spec.choose_spec.1⟩
  subst hva
  by_cases hP : PV p = true
  · have hA0 := alw0 hP
    by_cases h0 : alw 0 p = true
    · have HR := hid (degF_m1 hP (hA0.1 h0).1 (hA0.1 h0).2)
      rw [HR.out]
      clear hA0
      go_enter Try.func22, Try.ntmps22
      go_wp2_with fail
      refine (c_iPolyValid _ p _ _ hv).mono ?_
      rw [hP]
      rintro e wx ⟨rfl, rfl⟩
      go_wp2_with fail
      refine (c_allZeroZ _ p _ _ hv).mono ?_
      rw [h0]
      rintro e wx ⟨rfl, rfl⟩
      go_wp2
      go_ret
      exact ⟨rfl, Below.refl _ _⟩
    · have h0' : alw 0 p = false := by simpa using h0
      have HR := hid (degF_yes hP (fun h => h0 (hA0.2 h)))
      have HTL := hid (trimF_len p)
      have htb := trN_le p p.length
      have hl7 := (PV_iff.1 hP).2.1
      rw [HR.out]
      clear hA0 h0
      go_enter Try.func22, Try.ntmps22
      go_wp2_with fail
      refine (c_iPolyValid _ p _ _ hv).mono ?_
      rw [hP]
      rintro e wx ⟨rfl, rfl⟩
      go_wp2_with fail
      refine (c_allZeroZ _ p _ _ hv).mono ?_
      rw [h0']
      rintro e wx ⟨rfl, rfl⟩
      go_wp2_with fail
      refine (c_iTrimPolyY _ p _ hP hv).mono ?_
      rintro e w1 ⟨v1, rfl, r1, b1⟩
      obtain ⟨a1, c1, hv1⟩ : ∃ a cap, v1 = .slice a (trimF p).length cap := ⟨_, _, r1.isI.choose_spec.choose_spec.1⟩
      rw [HTL.out] at hv1
      subst hv1
      go_wp2
      go_ret
      exact ⟨rfl, b1⟩
  · have hP' : PV p = false := by simpa using hP
    have HR := hid (degF_no hP')
    rw [HR.out]
    clear hP
    go_enter Try.func22, Try.ntmps22
    go_wp2_with fail
    refine (c_iPolyValid _ p _ _ hv).mono ?_
    rw [hP']
    rintro e wx ⟨rfl, rfl⟩
    go_wp2
    go_ret
    exact ⟨rfl, Below.refl _ _⟩
theorem c_costValid (n : Int) (w : World) :
    Calls Try.prog 52 #[.int .i64 n] w fun e w' => e = .returned (.bool (inB n 0 1000)) ∧ w = w' := by
  by_cases h1 : n < 0
  · rw [inB_no (by omega)]
    have q : ¬ 0 ≤ n := by omega
    go_enter Try.func52, Try.ntmps52
    go_wp2
    go_ret
    exact ⟨rfl, rfl⟩
  · by_cases h2 : 1000 < n
    · rw [inB_no (by omega)]
      have q : 0 ≤ n := by omega
      have q2 : ¬ n ≤ 1000 := by omega
      go_enter Try.func52, Try.ntmps52
      go_wp2
      go_ret
      exact ⟨rfl, rfl⟩
    · rw [inB_yes (by omega) (by omega)]
      have q : 0 ≤ n := by omega
      have q2 : n ≤ 1000 := by omega
      go_enter Try.func52, Try.ntmps52
      go_wp2
      go_ret
      exact ⟨rfl, rfl⟩
/-- Whether numbers are costs. -/
def csB (s c : Int) : Bool := inB s 0 1000 && inB c 0 1000
theorem csB_iff {s c : Int} : csB s c = true ↔ (0 ≤ s ∧ s ≤ 1000) ∧ 0 ≤ c ∧ c ≤ 1000 := by simp only [csB, Bool.and_eq_true, inB_iff]
theorem c_l5Cost (s c : Int) (w : World) :
    Calls Try.prog 54 #[.int .i64 s, .int .i64 c] w fun e w' => e = .returned (.bool (csB s c)) ∧ w = w' := by
  have HD : Hid (csB s c = (inB s 0 1000 && inB c 0 1000)) := rfl
  by_cases h : inB s 0 1000 = true
  · have HR := hid (show csB s c = inB c 0 1000 by rw [HD.out, h]; rfl)
    rw [HR.out]
    go_enter Try.func54, Try.ntmps54
    go_wp2_with fail
    refine (c_l1In _ _ _ _).mono ?_
    rw [h]
    rintro e wx ⟨rfl, rfl⟩
    go_wp2_with fail
    refine (c_l1In _ _ _ _).mono ?_
    rintro e wx ⟨rfl, rfl⟩
    go_wp2
    go_ret
    exact ⟨rfl, rfl⟩
  · have h' : inB s 0 1000 = false := by simpa using h
    have HR := hid (show csB s c = false by rw [HD.out, h']; rfl)
    rw [HR.out]
    clear h
    go_enter Try.func54, Try.ntmps54
    go_wp2_with fail
    refine (c_l1In _ _ _ _).mono ?_
    rw [h']
    rintro e wx ⟨rfl, rfl⟩
    go_wp2
    go_ret
    exact ⟨rfl, rfl⟩
/-- The number of entries of a plan. -/
def plN (L : List (Int × List Int)) : Int := if PLV L then pS L L.length else -1
theorem plN_yes {L : List (Int × List Int)} (h : PLV L = true) : plN L = pS L L.length := by simp [plN, h]
theorem plN_no {L : List (Int × List Int)} (h : PLV L = false) : plN L = -1 := by simp [plN, h]
end Go.Proofs.Ytkiebajggombiaa
