/- What is proved here: the contracts of LeastDegree (impl and spec). -/
import Derived.Test.YtkiebajggombiaaDif
set_option linter.unusedVariables false
set_option linter.unusedSimpArgs false
namespace Go.Proofs.Ytkiebajggombiaa
open Go.RowKit

/-- The least number of times of taking differences, from i on (n more are tried), after which all are 0; less 1. -/
def ldG (xs : List Int) : Nat → Nat → Int
  | _, 0 => 7
  | i, n + 1 => if az (dN xs i) then (i : Int) - 1 else ldG xs (i + 1) n
def ldF (xs : List Int) : Int := if TB xs then ldG xs 0 8 else -2
theorem ldG_hit {xs : List Int} {i n : Nat} (h : az (dN xs i) = true) : ldG xs i (n + 1) = (i : Int) - 1 := by rw [ldG, if_pos h]
theorem ldG_miss {xs : List Int} {i n : Nat} (h : az (dN xs i) = false) : ldG xs i (n + 1) = ldG xs (i + 1) n := by rw [ldG, if_neg (by simp [h])]
theorem ldF_yes {xs : List Int} (h : TB xs = true) : ldF xs = ldG xs 0 8 := by simp [ldF, h]
theorem ldF_no {xs : List Int} (h : TB xs = false) : ldF xs = -2 := by simp [ldF, h]
theorem dN_bd9 {xs : List Int} (h : TB xs = true) {n : Nat} (hn : n ≤ 9) : Bd 1000000000000 (dN xs n) := by
  refine (dN_bd (TB_Bd h) n).mono ?_
  have : (2 : Int) ^ n ≤ 2 ^ 9 := by
    have h1 : (2 : Nat) ^ n ≤ 2 ^ 9 := Nat.pow_le_pow_right (by omega) hn
    exact_mod_cast h1
  omega

theorem c_iLeastDegree (w : World) (v : Value) (xs : List Int) (hv : IsI w w.heap.size v xs) :
    Calls Try.prog 85 #[v] w fun e w' => e = .returned (.int .i64 (ldF xs)) ∧ Below w.heap.size w w' := by
  by_cases hT : TB xs = true
  · have HT := hid hT
    have h60 := (TB_iff.1 hT).2.1
    rw [ldF_yes hT]
    clear hT
    go_enter Try.func85, Try.ntmps85
    go_wp2_with fail
    refine (c_iTableValid _ xs _ _ hv).mono ?_
    rw [HT.out]
    rintro e wx ⟨rfl, rfl⟩
    go_wp2
    go_loopw [3, 4] (fun v k wr => ∃ j : Nat, j ≤ 8 ∧ k = .int .i64 ((j : Int) - 1) ∧ IsI wr wr.heap.size v (dN xs j) ∧ Hid (ldG xs 0 8 = ldG xs j (8 - j)) ∧ Below w.heap.size w wr) (fun _ k _ => (8 - (intOf k)).toNat)
    case atStart => exact ⟨0, Nat.zero_le _, rfl, hv, rfl, Below.refl _ _⟩
    case round =>
      obtain ⟨j, hj, rfl, hr, HL, hbel⟩ := hrel
      have hbs := hbel.size
      have hlen : (dN xs j).length ≤ 60 := by rw [dN_len]; omega
      by_cases hlt : j < 8
      · have k1 : (j : Int) - 1 ≤ 6 := by omega
        by_cases hz : az (dN xs j) = true
        · have HH := hid (ldG_hit (n := 8 - j - 1) hz)
          have HE := hid (show 8 - j = 8 - j - 1 + 1 by omega)
          go_wp2_with fail
          refine (c_allZero _ (dN xs j) _ _ hr).mono ?_
          rw [hz]
          rintro e wx ⟨rfl, rfl⟩
          clear hz
          go_wp2
          go_ret
          exact ⟨retI (by rw [HL.out, HE.out, HH.out]), hbel⟩
        · have hz' : az (dN xs j) = false := by simpa using hz
          have HH := hid (ldG_miss (n := 8 - j - 1) hz')
          have HE := hid (show 8 - j = 8 - j - 1 + 1 by omega)
          have HB := hid (dN_bd9 HT.out (show j ≤ 9 by omega))
          clear hz
          go_wp2_with fail
          refine (c_allZero _ (dN xs j) _ _ hr).mono ?_
          rw [hz']
          rintro e wx ⟨rfl, rfl⟩
          clear hz'
          go_wp2_with fail
          refine (c_neighbors _ (dN xs j) 1000000000000 _ hr (by omega) HB.out (by omega)).mono ?_
          rintro e w2 ⟨v2, rfl, r2, b2⟩
          go_wp2
          go_roundw
          case rel => exact ⟨j + 1, by omega, retI' (by omega), r2.isI, by show _ = _; rw [HL.out, HE.out, HH.out]; congr 1, hbel.trans (b2.mono hbs)⟩
          case measure => simp [intOf]; omega
      · obtain rfl : j = 8 := by omega
        go_wp2
        go_ret
        exact ⟨retI (by rw [HL.out]; rfl), hbel⟩
  · have hT' : TB xs = false := by simpa using hT
    rw [ldF_no hT']
    clear hT
    go_enter Try.func85, Try.ntmps85
    go_wp2_with fail
    refine (c_iTableValid _ xs _ _ hv).mono ?_
    rw [hT']
    rintro e wx ⟨rfl, rfl⟩
    go_wp2
    go_ret
    exact ⟨rfl, Below.refl _ _⟩
theorem c_sLeastDegree (w : World) (v : Value) (xs : List Int) (hv : IsI w w.heap.size v xs) :
    Calls Try.prog 93 #[v] w fun e w' => e = .returned (.int .i64 (ldF xs)) ∧ Below w.heap.size w w' := by
  by_cases hT : TB xs = true
  · have HT := hid hT
    have h60 := (TB_iff.1 hT).2.1
    rw [ldF_yes hT]
    clear hT
    go_enter Try.func93, Try.ntmps93
    go_wp2_with fail
    refine (c_sTableValid _ xs _ _ hv).mono ?_
    rw [HT.out]
    rintro e wx ⟨rfl, rfl⟩
    go_wp2
    go_loopw [3, 4] (fun v k wr => ∃ j : Nat, j ≤ 7 ∧ k = .int .i64 ((j : Int) - 1) ∧ IsI wr wr.heap.size v (dN xs j) ∧ Hid (ldG xs 0 8 = ldG xs j (8 - j)) ∧ Below w.heap.size w wr) (fun _ k _ => (8 - (intOf k)).toNat)
    case atStart => exact ⟨0, Nat.zero_le _, rfl, hv, rfl, Below.refl _ _⟩
    case round =>
      obtain ⟨j, hj, rfl, hr, HL, hbel⟩ := hrel
      have hbs := hbel.size
      have hlen : (dN xs j).length ≤ 60 := by rw [dN_len]; omega
      by_cases hlt : j < 7
      · have k1 : (j : Int) - 1 < 6 := by omega
        by_cases hz : az (dN xs j) = true
        · have HH := hid (ldG_hit (n := 8 - j - 1) hz)
          have HE := hid (show 8 - j = 8 - j - 1 + 1 by omega)
          go_wp2_with fail
          refine (c_l2Zero _ (dN xs j) _ _ hr).mono ?_
          rw [hz]
          rintro e wx ⟨rfl, rfl⟩
          clear hz
          go_wp2
          go_ret
          exact ⟨retI (by rw [HL.out, HE.out, HH.out]), hbel⟩
        · have hz' : az (dN xs j) = false := by simpa using hz
          have HH := hid (ldG_miss (n := 8 - j - 1) hz')
          have HE := hid (show 8 - j = 8 - j - 1 + 1 by omega)
          have HB := hid (dN_bd9 HT.out (show j ≤ 9 by omega))
          clear hz
          go_wp2_with fail
          refine (c_l2Zero _ (dN xs j) _ _ hr).mono ?_
          rw [hz']
          rintro e wx ⟨rfl, rfl⟩
          clear hz'
          go_wp2_with fail
          refine (c_l2Next _ (dN xs j) 1000000000000 _ hr (by omega) HB.out (by omega)).mono ?_
          rintro e w2 ⟨v2, rfl, r2, b2⟩
          go_wp2
          go_roundw
          case rel => exact ⟨j + 1, by omega, retI' (by omega), r2.isI, by show _ = _; rw [HL.out, HE.out, HH.out]; congr 1, hbel.trans (b2.mono hbs)⟩
          case measure => simp [intOf]; omega
      · obtain rfl : j = 7 := by omega
        by_cases hz : az (dN xs 7) = true
        · have HH := hid (ldG_hit (n := 0) hz)
          go_wp2_with fail
          refine (c_l2Zero _ (dN xs 7) _ _ hr).mono ?_
          rw [hz]
          rintro e wx ⟨rfl, rfl⟩
          clear hz
          go_wp2
          go_ret
          exact ⟨retI (by rw [HL.out]; exact HH.out.symm), hbel⟩
        · have hz' : az (dN xs 7) = false := by simpa using hz
          have HH := hid (ldG_miss (n := 0) hz')
          go_wp2_with fail
          refine (c_l2Zero _ (dN xs 7) _ _ hr).mono ?_
          rw [hz']
          rintro e wx ⟨rfl, rfl⟩
          clear hz hz'
          go_wp2
          go_ret
          exact ⟨retI (by rw [HL.out]; exact HH.out.symm), hbel⟩
  · have hT' : TB xs = false := by simpa using hT
    rw [ldF_no hT']
    clear hT
    go_enter Try.func93, Try.ntmps93
    go_wp2_with fail
    refine (c_sTableValid _ xs _ _ hv).mono ?_
    rw [hT']
    rintro e wx ⟨rfl, rfl⟩
    go_wp2
    go_ret
    exact ⟨rfl, Below.refl _ _⟩
end Go.Proofs.Ytkiebajggombiaa
