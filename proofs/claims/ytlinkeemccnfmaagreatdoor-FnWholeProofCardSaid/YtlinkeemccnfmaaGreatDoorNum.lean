/- What is proved here: those statements of Num that this claim needs. -/
import Derived.Test.YtlinkeemccnfmaaGreatDoorBase
import Derived.Test.YtlinkeemccnfmaaGreatDoorChecked
set_option linter.unusedVariables false
set_option linter.unusedSimpArgs false
namespace Go.Proofs.YtlinkeemccnfmaaGreatDoor
open Go.RowKit
theorem Tryz.infoInt : (Tryz.prog.info? 3).map (fun i => (i.zero, i.size, i.bytes)) = some (some (.int .i64 0), 1, 8) := by kernel_rfl

theorem c_l1In (n lo hi : Int) (w : World) :
    Calls Tryz.prog 63 #[.int .i64 n, .int .i64 lo, .int .i64 hi] w fun e w' => e = .returned (.bool (inB n lo hi)) ∧ w = w' := by
  have H : Hid (lo ≤ n ∧ n ≤ hi → inB n lo hi = true) := fun h => inB_yes h.1 h.2
  have H' : Hid (n < lo ∨ hi < n → inB n lo hi = false) := inB_no
  by_cases h1 : lo ≤ n
  · by_cases h2 : n ≤ hi
    · go_enter Tryz.func63, Tryz.ntmps63
      go_wp2
      go_ret
      exact ⟨retB (H.out ⟨h1, h2⟩).symm, rfl⟩
    · go_enter Tryz.func63, Tryz.ntmps63
      go_wp2
      go_ret
      exact ⟨retB (H'.out (by omega)).symm, rfl⟩
  · go_enter Tryz.func63, Tryz.ntmps63
    go_wp2
    go_ret
    exact ⟨retB (H'.out (by omega)).symm, rfl⟩
theorem c_within (n b : Int) (w : World) (h0 : 0 ≤ b) (h1 : b ≤ 4611686018427387904) :
    Calls Tryz.prog 32 #[.int .i64 n, .int .i64 b] w fun e w' => e = .returned (.bool (inB n (-b) b)) ∧ w = w' := by
  have H : Hid (-b ≤ n ∧ n ≤ b → inB n (-b) b = true) := fun h => inB_yes h.1 h.2
  have H' : Hid (n < -b ∨ b < n → inB n (-b) b = false) := inB_no
  by_cases h1 : -b ≤ n
  · by_cases h2 : n ≤ b
    · go_enter Tryz.func32, Tryz.ntmps32
      go_wp2
      go_ret
      exact ⟨retB (H.out ⟨h1, h2⟩).symm, rfl⟩
    · go_enter Tryz.func32, Tryz.ntmps32
      go_wp2
      go_ret
      exact ⟨retB (H'.out (by omega)).symm, rfl⟩
  · go_enter Tryz.func32, Tryz.ntmps32
    go_wp2
    go_ret
    exact ⟨retB (H'.out (by omega)).symm, rfl⟩
theorem c_l1Ten (k : Nat) (w : World) (hk : k ≤ 18) :
    Calls Tryz.prog 80 #[.int .i64 k] w fun e w' => e = .returned (.int .i64 (ten k)) ∧ w = w' := by
  go_enter Tryz.func80, Tryz.ntmps80
  go_wp2
  go_loop [3, 4] (fun p i => ∃ j : Nat, j ≤ k ∧ i = .int .i64 j ∧ p = .int .i64 (ten j)) (fun _ i => k - (intOf i).toNat)
  case atStart => exact ⟨0, Nat.zero_le _, rfl, rfl⟩
  case round =>
    obtain ⟨j, hj, rfl, rfl⟩ := hrel
    by_cases hlt : j < k
    · have hb : ten j ≤ 100000000000000000 := ten_mono (show j ≤ 17 by omega)
      have hp := ten_pos j
      go_wp2
      go_round
      case rel => exact ⟨j + 1, by omega, by go_num, by rw [ten_succ]⟩
      case measure => simp [intOf]; omega
    · obtain rfl : j = k := by omega
      go_wp2
      go_ret
      exact ⟨rfl, rfl⟩
theorem c_powerOfTen (k : Nat) (w : World) (hk : k ≤ 18) :
    Calls Tryz.prog 41 #[.int .i64 k] w fun e w' => e = .returned (.int .i64 (ten k)) ∧ w = w' := by
  go_enter Tryz.func41, Tryz.ntmps41
  go_wp2
  go_loop [3, 5] (fun p i => ∃ j : Nat, j ≤ k ∧ i = .int .i64 j ∧ p = .int .i64 (ten j)) (fun _ i => k - (intOf i).toNat)
  case atStart => exact ⟨0, Nat.zero_le _, rfl, rfl⟩
  case round =>
    obtain ⟨j, hj, rfl, rfl⟩ := hrel
    by_cases hlt : j < k
    · have hb : ten j ≤ 100000000000000000 := ten_mono (show j ≤ 17 by omega)
      have hp := ten_pos j
      go_wp2
      go_round
      case rel => exact ⟨j + 1, by omega, by go_num, by rw [ten_succ]⟩
      case measure => simp [intOf]; omega
    · obtain rfl : j = k := by omega
      go_wp2
      go_ret
      exact ⟨rfl, rfl⟩
theorem c_l2Choose (n : Int) (k : Nat) (w : World) (hn : -300 ≤ n ∧ n ≤ 300) (hk : k ≤ 7) :
    Calls Tryz.prog 91 #[.int .i64 n, .int .i64 k] w fun e w' => e = .returned (.int .i64 (chF n k)) ∧ w = w' := by
  obtain ⟨hn1, hn2⟩ := hn
  go_enter Tryz.func91, Tryz.ntmps91
  go_wp2
  go_loop [5, 6] (fun p i => ∃ j : Nat, j ≤ k ∧ i = .int .i64 j ∧ p = .int .i64 (chF n j)) (fun _ i => k - (intOf i).toNat)
  case atStart => exact ⟨0, Nat.zero_le _, rfl, rfl⟩
  case round =>
    obtain ⟨j, hj, rfl, rfl⟩ := hrel
    by_cases hlt : j < k
    · obtain ⟨b1, b2⟩ := ch_mul_bd (k := j) ⟨hn1, hn2⟩ (by omega)
      obtain ⟨b3, b4⟩ := ch_bd (k := j + 1) ⟨hn1, hn2⟩ (by omega)
      have HE : Hid (chF n (j + 1) = (chF n j * (n - j)).tdiv (j + 1)) := rfl
      have b3' : -46515922124400 ≤ (chF n j * (n - j)).tdiv (j + 1) := b3
      have b4' : (chF n j * (n - j)).tdiv (j + 1) ≤ 46515922124400 := b4
      clear b3 b4
      go_wp2
      go_round
      case rel => exact ⟨j + 1, by omega, by go_num, retI' HE.out.symm⟩
      case measure => simp [intOf]; omega
    · obtain rfl : j = k := by omega
      go_wp2
      go_ret
      exact ⟨rfl, rfl⟩
theorem c_choose (n : Int) (k : Nat) (w : World) (hn : -300 ≤ n ∧ n ≤ 300) (hk : k ≤ 7) :
    Calls Tryz.prog 44 #[.int .i64 n, .int .i64 k] w fun e w' => e = .returned (.int .i64 (chF n k)) ∧ w = w' := by
  obtain ⟨hn1, hn2⟩ := hn
  go_enter Tryz.func44, Tryz.ntmps44
  go_wp2
  go_loop [5, 8] (fun p i => ∃ j : Nat, j ≤ k ∧ i = .int .i64 j ∧ p = .int .i64 (chF n j)) (fun _ i => k - (intOf i).toNat)
  case atStart => exact ⟨0, Nat.zero_le _, rfl, rfl⟩
  case round =>
    obtain ⟨j, hj, rfl, rfl⟩ := hrel
    by_cases hlt : j < k
    · obtain ⟨b1, b2⟩ := ch_mul_bd (k := j) ⟨hn1, hn2⟩ (by omega)
      obtain ⟨b3, b4⟩ := ch_bd (k := j + 1) ⟨hn1, hn2⟩ (by omega)
      have HE : Hid (chF n (j + 1) = (chF n j * (n - j)).tdiv (j + 1)) := rfl
      have b3' : -46515922124400 ≤ (chF n j * (n - j)).tdiv (j + 1) := b3
      have b4' : (chF n j * (n - j)).tdiv (j + 1) ≤ 46515922124400 := b4
      clear b3 b4
      go_wp2
      go_round
      case rel => exact ⟨j + 1, by omega, by go_num, retI' HE.out.symm⟩
      case measure => simp [intOf]; omega
    · obtain rfl : j = k := by omega
      go_wp2
      go_ret
      exact ⟨rfl, rfl⟩
theorem c_degreeValid (n : Int) (w : World) :
    Calls Tryz.prog 67 #[.int .i64 n] w fun e w' => e = .returned (.bool (inB n 0 6)) ∧ w = w' := by
  have H : Hid (0 ≤ n ∧ n ≤ 6 → inB n 0 6 = true) := fun h => inB_yes h.1 h.2
  have H' : Hid (n < 0 ∨ 6 < n → inB n 0 6 = false) := inB_no
  by_cases h1 : 0 ≤ n
  · by_cases h2 : n ≤ 6
    · go_enter Tryz.func67, Tryz.ntmps67
      go_wp2
      go_ret
      exact ⟨retB (H.out ⟨h1, h2⟩).symm, rfl⟩
    · go_enter Tryz.func67, Tryz.ntmps67
      go_wp2
      go_ret
      exact ⟨retB (H'.out (by omega)).symm, rfl⟩
  · go_enter Tryz.func67, Tryz.ntmps67
    go_wp2
    go_ret
    exact ⟨retB (H'.out (by omega)).symm, rfl⟩
theorem c_countValid (n : Int) (w : World) :
    Calls Tryz.prog 35 #[.int .i64 n] w fun e w' => e = .returned (.bool (inB n 0 60)) ∧ w = w' := by
  have H : Hid (0 ≤ n ∧ n ≤ 60 → inB n 0 60 = true) := fun h => inB_yes h.1 h.2
  have H' : Hid (n < 0 ∨ 60 < n → inB n 0 60 = false) := inB_no
  by_cases h1 : 0 ≤ n
  · by_cases h2 : n ≤ 60
    · go_enter Tryz.func35, Tryz.ntmps35
      go_wp2
      go_ret
      exact ⟨retB (H.out ⟨h1, h2⟩).symm, rfl⟩
    · go_enter Tryz.func35, Tryz.ntmps35
      go_wp2
      go_ret
      exact ⟨retB (H'.out (by omega)).symm, rfl⟩
  · go_enter Tryz.func35, Tryz.ntmps35
    go_wp2
    go_ret
    exact ⟨retB (H'.out (by omega)).symm, rfl⟩
theorem c_slipValid (c t a : Int) (w : World) :
    Calls Tryz.prog 36 #[.int .i64 c, .int .i64 t, .int .i64 a] w fun e w' => e = .returned (.bool (slipB c t a)) ∧ w = w' := by
  by_cases h1 : inB c 0 6 = true
  · by_cases h2 : 0 ≤ t
    · by_cases h3 : t < 60
      · have H : Hid (slipB c t a = inB a (-100000) 100000) := by show slipB c t a = _; simp [slipB, h1, inB_yes h2 (show t ≤ 59 by omega)]
        go_enter Tryz.func36, Tryz.ntmps36
        go_wp2_with (first | (go_at_call 67; refine (c_degreeValid _ _).mono ?_; rintro e w' ⟨rfl, rfl⟩) | (go_at_call 32; refine (c_within _ _ _ (by omega) (by omega)).mono ?_; rintro e w' ⟨rfl, rfl⟩))
        go_ret
        exact ⟨retB H.out.symm, rfl⟩
      · have H : Hid (slipB c t a = false) := by show slipB c t a = _; simp [slipB, inB_no (n := t) (lo := 0) (hi := 59) (by omega)]
        go_enter Tryz.func36, Tryz.ntmps36
        go_wp2_with (go_at_call 67; refine (c_degreeValid _ _).mono ?_; rintro e w' ⟨rfl, rfl⟩)
        go_ret
        exact ⟨retB H.out.symm, rfl⟩
    · have H : Hid (slipB c t a = false) := by show slipB c t a = _; simp [slipB, inB_no (n := t) (lo := 0) (hi := 59) (by omega)]
      go_enter Tryz.func36, Tryz.ntmps36
      go_wp2_with (go_at_call 67; refine (c_degreeValid _ _).mono ?_; rintro e w' ⟨rfl, rfl⟩)
      go_ret
      exact ⟨retB H.out.symm, rfl⟩
  · have h1' : inB c 0 6 = false := by simpa using h1
    have H : Hid (slipB c t a = false) := by show slipB c t a = _; simp [slipB, h1']
    clear h1
    go_enter Tryz.func36, Tryz.ntmps36
    go_wp2_with (go_at_call 67; refine (c_degreeValid _ _).mono ?_; rintro e w' ⟨rfl, rfl⟩)
    go_ret
    exact ⟨retB H.out.symm, rfl⟩
theorem c_modulo (n m : Int) (w : World) (h0 : 0 < m) (h1 : m ≤ 1000000000000000000) :
    Calls Tryz.prog 40 #[.int .i64 n, .int .i64 m] w fun e w' => e = .returned (.int .i64 (md n m)) ∧ w = w' := by
  obtain ⟨b1, b2⟩ := tmod_bd n h0
  by_cases h : n.tmod m < 0
  · have H : Hid (md n m = n.tmod m + m) := md_neg h0 h
    go_enter Tryz.func40, Tryz.ntmps40
    go_wp2
    go_ret
    exact ⟨retI H.out.symm, rfl⟩
  · have H : Hid (md n m = n.tmod m) := md_pos h0 (by omega)
    go_enter Tryz.func40, Tryz.ntmps40
    go_wp2
    go_ret
    exact ⟨retI H.out.symm, rfl⟩
theorem c_allWithin (v : Value) (xs : List Int) (b : Int) (B : Nat) (w : World) (h0 : 0 ≤ b) (h1 : b ≤ 4611686018427387904) (hv : IsI w B v xs) :
    Calls Tryz.prog 45 #[v, .int .i64 b] w fun e w' => e = .returned (.bool (alw b xs)) ∧ w = w' := by
  obtain ⟨a, cap, rfl, hm, hr, hc⟩ := hv
  unfold maxLen at hm
  clear hr
  go_enter Tryz.func45, Tryz.ntmps45
  go_wp2
  go_loop [9] (fun i => ∃ j : Nat, j ≤ xs.length ∧ i = .int .i64 j ∧ ∀ k, k < j → inB (el xs k) (-b) b = true) (fun i => xs.length - (intOf i).toNat)
  case atStart => exact ⟨0, Nat.zero_le _, rfl, fun k hk => by omega⟩
  case round =>
    obtain ⟨j, hj, rfl, HA⟩ := hrel
    have HA' : Hid (∀ k, k < j → inB (el xs k) (-b) b = true) := HA
    clear HA
    by_cases hlt : j < xs.length
    · obtain ⟨bk, off, rfl, hb, hcell⟩ := hc j hlt
      have hce := hcell j hlt
      clear hc hcell
      by_cases he : inB (el xs j) (-b) b = true
      · go_wp2_with (go_at_call 32; refine (c_within _ _ _ h0 h1).mono ?_; rintro e w' ⟨rfl, rfl⟩)
        go_round
        case rel => exact ⟨j + 1, by omega, by go_num, fun k hk => if e : k = j then e ▸ he else HA'.out k (by omega)⟩
        case measure => simp [intOf]; omega
      · have he' : inB (el xs j) (-b) b = false := by simpa using he
        have HE : Hid (inB (el xs j) (-b) b = false) := he'
        clear he
        go_wp2_with (go_at_call 32; refine (c_within _ _ _ h0 h1).mono ?_; rintro e w' ⟨rfl, rfl⟩)
        go_ret
        exact ⟨retB (alw_no hlt HE.out).symm, rfl⟩
    · clear hc
      go_wp2
      go_ret
      exact ⟨retB (alw_yes (by omega) HA'.out).symm, rfl⟩
theorem c_iTableValid (v : Value) (xs : List Int) (B : Nat) (w : World) (hv : IsI w B v xs) :
    Calls Tryz.prog 13 #[v] w fun e w' => e = .returned (.bool (TB xs)) ∧ w = w' := by
  have hv' := hv
  obtain ⟨a, cap, rfl, hm, hr, hc⟩ := hv
  unfold maxLen at hm
  clear hr hc
  have H1 : Hid (xs.length < 1 ∨ 60 < xs.length → TB xs = false) := fun h => TB_len (inB_no (by omega))
  have H2 : Hid (1 ≤ xs.length ∧ xs.length ≤ 60 → TB xs = alw 1000000000 xs) := fun h => TB_len' (inB_yes (by omega) (by omega))
  by_cases g1 : 1 ≤ xs.length
  · by_cases g2 : xs.length ≤ 60
    · go_enter Tryz.func13, Tryz.ntmps13
      go_wp2_with (go_at_call 45; refine (c_allWithin _ xs _ B _ (by omega) (by omega) hv').mono ?_; rintro e w' ⟨rfl, rfl⟩)
      go_ret
      exact ⟨retB (H2.out ⟨g1, g2⟩).symm, rfl⟩
    · go_enter Tryz.func13, Tryz.ntmps13
      go_wp2
      go_ret
      exact ⟨retB (H1.out (by omega)).symm, rfl⟩
  · go_enter Tryz.func13, Tryz.ntmps13
    go_wp2
    go_ret
    exact ⟨retB (H1.out (by omega)).symm, rfl⟩
end Go.Proofs.YtlinkeemccnfmaaGreatDoor
