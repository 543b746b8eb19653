/- What is proved here: contracts of the small arithmetic functions of impl and spec. -/
import Derived.Test.YtkaanlldjkflaaaBase
import Derived.Test.YtkaanlldjkflaaaChecked
set_option linter.unusedVariables false
set_option linter.unusedSimpArgs false
namespace Go.Proofs.Ytkaanlldjkflaaa
open Go.RowKit

theorem Try.infoInt : (Try.prog.info? 3).map (fun i => (i.zero, i.size, i.bytes)) = some (some (.int .i64 0), 1, 8) := by kernel_rfl

theorem c_l1In (n lo hi : Int) (w : World) :
    Calls Try.prog 67 #[.int .i64 n, .int .i64 lo, .int .i64 hi] w fun e w' => e = .returned (.bool (inB n lo hi)) ∧ w = w' := by
  have H : Hid (lo ≤ n ∧ n ≤ hi → inB n lo hi = true) := fun h => inB_yes h.1 h.2
  have H' : Hid (n < lo ∨ hi < n → inB n lo hi = false) := inB_no
  by_cases h1 : lo ≤ n
  · by_cases h2 : n ≤ hi
    · go_enter Try.func67, Try.ntmps67
      go_wp2
      go_ret
      exact ⟨retB (H.out ⟨h1, h2⟩).symm, rfl⟩
    · go_enter Try.func67, Try.ntmps67
      go_wp2
      go_ret
      exact ⟨retB (H'.out (by omega)).symm, rfl⟩
  · go_enter Try.func67, Try.ntmps67
    go_wp2
    go_ret
    exact ⟨retB (H'.out (by omega)).symm, rfl⟩

theorem c_within (n b : Int) (w : World) (h0 : 0 ≤ b) (h1 : b ≤ 4611686018427387904) :
    Calls Try.prog 72 #[.int .i64 n, .int .i64 b] w fun e w' => e = .returned (.bool (inB n (-b) b)) ∧ w = w' := by
  have H : Hid (-b ≤ n ∧ n ≤ b → inB n (-b) b = true) := fun h => inB_yes h.1 h.2
  have H' : Hid (n < -b ∨ b < n → inB n (-b) b = false) := inB_no
  by_cases h1 : -b ≤ n
  · by_cases h2 : n ≤ b
    · go_enter Try.func72, Try.ntmps72
      go_wp2
      go_ret
      exact ⟨retB (H.out ⟨h1, h2⟩).symm, rfl⟩
    · go_enter Try.func72, Try.ntmps72
      go_wp2
      go_ret
      exact ⟨retB (H'.out (by omega)).symm, rfl⟩
  · go_enter Try.func72, Try.ntmps72
    go_wp2
    go_ret
    exact ⟨retB (H'.out (by omega)).symm, rfl⟩

theorem c_l1Ten (k : Nat) (w : World) (hk : k ≤ 18) :
    Calls Try.prog 74 #[.int .i64 k] w fun e w' => e = .returned (.int .i64 (ten k)) ∧ w = w' := by
  go_enter Try.func74, Try.ntmps74
  go_wp2
  go_loop [3, 4] (fun p i => ∃ j : Nat, j ≤ k ∧ i = .int .i64 j ∧ p = .int .i64 (ten j)) (fun _ i => k - (intOf i).toNat)
  case atStart => exact ⟨0, Nat.zero_le _, rfl, rfl⟩
  case round =>
    obtain ⟨j, hj, rfl, rfl⟩ := hrel
    by_cases hlt : j < k
    · have hb : ten j ≤ 100000000000000000 := ten_mono (show j ≤ 17 by omega)
      have hp := ten_pos j
      go_wp2
      go_round
      case rel => exact ⟨j + 1, by omega, by go_num, by rw [ten_succ]⟩
      case measure => simp [intOf]; omega
    · obtain rfl : j = k := by omega
      go_wp2
      go_ret
      exact ⟨rfl, rfl⟩

theorem c_powerOfTen (k : Nat) (w : World) (hk : k ≤ 18) :
    Calls Try.prog 50 #[.int .i64 k] w fun e w' => e = .returned (.int .i64 (ten k)) ∧ w = w' := by
  go_enter Try.func50, Try.ntmps50
  go_wp2
  go_loop [3, 5] (fun p i => ∃ j : Nat, j ≤ k ∧ i = .int .i64 j ∧ p = .int .i64 (ten j)) (fun _ i => k - (intOf i).toNat)
  case atStart => exact ⟨0, Nat.zero_le _, rfl, rfl⟩
  case round =>
    obtain ⟨j, hj, rfl, rfl⟩ := hrel
    by_cases hlt : j < k
    · have hb : ten j ≤ 100000000000000000 := ten_mono (show j ≤ 17 by omega)
      have hp := ten_pos j
      go_wp2
      go_round
      case rel => exact ⟨j + 1, by omega, by go_num, by rw [ten_succ]⟩
      case measure => simp [intOf]; omega
    · obtain rfl : j = k := by omega
      go_wp2
      go_ret
      exact ⟨rfl, rfl⟩

theorem ch_ret {n : Int} {k : Nat} : Value.int .i64 (chF n (k + 1)) = .int .i64 ((chF n k * (n - k)).tdiv (k + 1)) := rfl


theorem c_choose (n : Int) (k : Nat) (w : World) (hn : -300 ≤ n ∧ n ≤ 300) (hk : k ≤ 7) :
    Calls Try.prog 59 #[.int .i64 n, .int .i64 k] w fun e w' => e = .returned (.int .i64 (chF n k)) ∧ w = w' := by
  obtain ⟨hn1, hn2⟩ := hn
  go_enter Try.func59, Try.ntmps59
  go_wp2
  go_loop [5, 8] (fun p i => ∃ j : Nat, j ≤ k ∧ i = .int .i64 j ∧ p = .int .i64 (chF n j)) (fun _ i => k - (intOf i).toNat)
  case atStart => exact ⟨0, Nat.zero_le _, rfl, rfl⟩
  case round =>
    obtain ⟨j, hj, rfl, rfl⟩ := hrel
    by_cases hlt : j < k
    · obtain ⟨b1, b2⟩ := ch_mul_bd (k := j) ⟨hn1, hn2⟩ (by omega)
      obtain ⟨b3, b4⟩ := ch_bd (k := j + 1) ⟨hn1, hn2⟩ (by omega)
      have HE : Hid (chF n (j + 1) = (chF n j * (n - j)).tdiv (j + 1)) := rfl
      have b3' : -46515922124400 ≤ (chF n j * (n - j)).tdiv (j + 1) := b3
      have b4' : (chF n j * (n - j)).tdiv (j + 1) ≤ 46515922124400 := b4
      clear b3 b4
      go_wp2
      go_round
      case rel => exact ⟨j + 1, by omega, by go_num, retI' HE.out.symm⟩
      case measure => simp [intOf]; omega
    · obtain rfl : j = k := by omega
      go_wp2
      go_ret
      exact ⟨rfl, rfl⟩



theorem c_degreeValid (n : Int) (w : World) :
    Calls Try.prog 76 #[.int .i64 n] w fun e w' => e = .returned (.bool (inB n 0 6)) ∧ w = w' := by
  have H : Hid (0 ≤ n ∧ n ≤ 6 → inB n 0 6 = true) := fun h => inB_yes h.1 h.2
  have H' : Hid (n < 0 ∨ 6 < n → inB n 0 6 = false) := inB_no
  by_cases h1 : 0 ≤ n
  · by_cases h2 : n ≤ 6
    · go_enter Try.func76, Try.ntmps76
      go_wp2
      go_ret
      exact ⟨retB (H.out ⟨h1, h2⟩).symm, rfl⟩
    · go_enter Try.func76, Try.ntmps76
      go_wp2
      go_ret
      exact ⟨retB (H'.out (by omega)).symm, rfl⟩
  · go_enter Try.func76, Try.ntmps76
    go_wp2
    go_ret
    exact ⟨retB (H'.out (by omega)).symm, rfl⟩

theorem c_countValid (n : Int) (w : World) :
    Calls Try.prog 44 #[.int .i64 n] w fun e w' => e = .returned (.bool (inB n 0 60)) ∧ w = w' := by
  have H : Hid (0 ≤ n ∧ n ≤ 60 → inB n 0 60 = true) := fun h => inB_yes h.1 h.2
  have H' : Hid (n < 0 ∨ 60 < n → inB n 0 60 = false) := inB_no
  by_cases h1 : 0 ≤ n
  · by_cases h2 : n ≤ 60
    · go_enter Try.func44, Try.ntmps44
      go_wp2
      go_ret
      exact ⟨retB (H.out ⟨h1, h2⟩).symm, rfl⟩
    · go_enter Try.func44, Try.ntmps44
      go_wp2
      go_ret
      exact ⟨retB (H'.out (by omega)).symm, rfl⟩
  · go_enter Try.func44, Try.ntmps44
    go_wp2
    go_ret
    exact ⟨retB (H'.out (by omega)).symm, rfl⟩

theorem c_slipValid (c t a : Int) (w : World) :
    Calls Try.prog 45 #[.int .i64 c, .int .i64 t, .int .i64 a] w fun e w' => e = .returned (.bool (slipB c t a)) ∧ w = w' := by
  by_cases h1 : inB c 0 6 = true
  · by_cases h2 : 0 ≤ t
    · by_cases h3 : t < 60
      · have H : Hid (slipB c t a = inB a (-100000) 100000) := by show slipB c t a = _; simp [slipB, h1, inB_yes h2 (show t ≤ 59 by omega)]
        go_enter Try.func45, Try.ntmps45
        go_wp2_with (first | (go_at_call 76; refine (c_degreeValid _ _).mono ?_; rintro e w' ⟨rfl, rfl⟩) | (go_at_call 72; refine (c_within _ _ _ (by omega) (by omega)).mono ?_; rintro e w' ⟨rfl, rfl⟩))
        go_ret
        exact ⟨retB H.out.symm, rfl⟩
      · have H : Hid (slipB c t a = false) := by show slipB c t a = _; simp [slipB, inB_no (n := t) (lo := 0) (hi := 59) (by omega)]
        go_enter Try.func45, Try.ntmps45
        go_wp2_with (go_at_call 76; refine (c_degreeValid _ _).mono ?_; rintro e w' ⟨rfl, rfl⟩)
        go_ret
        exact ⟨retB H.out.symm, rfl⟩
    · have H : Hid (slipB c t a = false) := by show slipB c t a = _; simp [slipB, inB_no (n := t) (lo := 0) (hi := 59) (by omega)]
      go_enter Try.func45, Try.ntmps45
      go_wp2_with (go_at_call 76; refine (c_degreeValid _ _).mono ?_; rintro e w' ⟨rfl, rfl⟩)
      go_ret
      exact ⟨retB H.out.symm, rfl⟩
  · have h1' : inB c 0 6 = false := by simpa using h1
    have H : Hid (slipB c t a = false) := by show slipB c t a = _; simp [slipB, h1']
    clear h1
    go_enter Try.func45, Try.ntmps45
    go_wp2_with (go_at_call 76; refine (c_degreeValid _ _).mono ?_; rintro e w' ⟨rfl, rfl⟩)
    go_ret
    exact ⟨retB H.out.symm, rfl⟩
theorem c_l4Slip (c t a : Int) (w : World) :
    Calls Try.prog 38 #[.int .i64 c, .int .i64 t, .int .i64 a] w fun e w' => e = .returned (.bool (slipB c t a)) ∧ w = w' := by
  by_cases h1 : inB c 0 6 = true
  · by_cases h2 : inB t 0 59 = true
    · have H : Hid (slipB c t a = inB a (-100000) 100000) := by show slipB c t a = _; simp [slipB, h1, h2]
      go_enter Try.func38, Try.ntmps38
      go_wp2_with (go_at_call 67; refine (c_l1In _ _ _ _).mono ?_; rintro e w' ⟨rfl, rfl⟩)
      go_ret
      exact ⟨retB H.out.symm, rfl⟩
    · have h2' : inB t 0 59 = false := by simpa using h2
      have H : Hid (slipB c t a = false) := by show slipB c t a = _; simp [slipB, h2']
      clear h2
      go_enter Try.func38, Try.ntmps38
      go_wp2_with (go_at_call 67; refine (c_l1In _ _ _ _).mono ?_; rintro e w' ⟨rfl, rfl⟩)
      go_ret
      exact ⟨retB H.out.symm, rfl⟩
  · have h1' : inB c 0 6 = false := by simpa using h1
    have H : Hid (slipB c t a = false) := by show slipB c t a = _; simp [slipB, h1']
    clear h1
    go_enter Try.func38, Try.ntmps38
    go_wp2_with (go_at_call 67; refine (c_l1In _ _ _ _).mono ?_; rintro e w' ⟨rfl, rfl⟩)
    go_ret
    exact ⟨retB H.out.symm, rfl⟩

theorem c_modulo (n m : Int) (w : World) (h0 : 0 < m) (h1 : m ≤ 1000000000000000000) :
    Calls Try.prog 49 #[.int .i64 n, .int .i64 m] w fun e w' => e = .returned (.int .i64 (md n m)) ∧ w = w' := by
  obtain ⟨b1, b2⟩ := tmod_bd n h0
  by_cases h : n.tmod m < 0
  · have H : Hid (md n m = n.tmod m + m) := md_neg h0 h
    go_enter Try.func49, Try.ntmps49
    go_wp2
    go_ret
    exact ⟨retI H.out.symm, rfl⟩
  · have H : Hid (md n m = n.tmod m) := md_pos h0 (by omega)
    go_enter Try.func49, Try.ntmps49
    go_wp2
    go_ret
    exact ⟨retI H.out.symm, rfl⟩



end Go.Proofs.Ytkaanlldjkflaaa
