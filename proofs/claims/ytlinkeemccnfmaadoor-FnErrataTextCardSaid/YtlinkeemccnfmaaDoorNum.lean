/- What is proved here: contracts of the small arithmetic functions of impl and spec. -/
import Derived.Test.YtlinkeemccnfmaaDoorBase
import Derived.Test.YtlinkeemccnfmaaDoorChecked
set_option linter.unusedVariables false
set_option linter.unusedSimpArgs false
namespace Go.Proofs.YtlinkeemccnfmaaDoor
open Go.RowKit

theorem Tryd.infoInt : (Tryd.prog.info? 3).map (fun i => (i.zero, i.size, i.bytes)) = some (some (.int .i64 0), 1, 8) := by kernel_rfl

theorem c_l1In (n lo hi : Int) (w : World) :
    Calls Tryd.prog 34 #[.int .i64 n, .int .i64 lo, .int .i64 hi] w fun e w' => e = .returned (.bool (inB n lo hi)) ∧ w = w' := by
  have H : Hid (lo ≤ n ∧ n ≤ hi → inB n lo hi = true) := fun h => inB_yes h.1 h.2
  have H' : Hid (n < lo ∨ hi < n → inB n lo hi = false) := inB_no
  by_cases h1 : lo ≤ n
  · by_cases h2 : n ≤ hi
    · go_enter Tryd.func34, Tryd.ntmps34
      go_wp2
      go_ret
      exact ⟨retB (H.out ⟨h1, h2⟩).symm, rfl⟩
    · go_enter Tryd.func34, Tryd.ntmps34
      go_wp2
      go_ret
      exact ⟨retB (H'.out (by omega)).symm, rfl⟩
  · go_enter Tryd.func34, Tryd.ntmps34
    go_wp2
    go_ret
    exact ⟨retB (H'.out (by omega)).symm, rfl⟩

theorem c_within (n b : Int) (w : World) (h0 : 0 ≤ b) (h1 : b ≤ 4611686018427387904) :
    Calls Tryd.prog 36 #[.int .i64 n, .int .i64 b] w fun e w' => e = .returned (.bool (inB n (-b) b)) ∧ w = w' := by
  have H : Hid (-b ≤ n ∧ n ≤ b → inB n (-b) b = true) := fun h => inB_yes h.1 h.2
  have H' : Hid (n < -b ∨ b < n → inB n (-b) b = false) := inB_no
  by_cases h1 : -b ≤ n
  · by_cases h2 : n ≤ b
    · go_enter Tryd.func36, Tryd.ntmps36
      go_wp2
      go_ret
      exact ⟨retB (H.out ⟨h1, h2⟩).symm, rfl⟩
    · go_enter Tryd.func36, Tryd.ntmps36
      go_wp2
      go_ret
      exact ⟨retB (H'.out (by omega)).symm, rfl⟩
  · go_enter Tryd.func36, Tryd.ntmps36
    go_wp2
    go_ret
    exact ⟨retB (H'.out (by omega)).symm, rfl⟩



theorem ch_ret {n : Int} {k : Nat} : Value.int .i64 (chF n (k + 1)) = .int .i64 ((chF n k * (n - k)).tdiv (k + 1)) := rfl

theorem c_l2Choose (n : Int) (k : Nat) (w : World) (hn : -300 ≤ n ∧ n ≤ 300) (hk : k ≤ 7) :
    Calls Tryd.prog 89 #[.int .i64 n, .int .i64 k] w fun e w' => e = .returned (.int .i64 (chF n k)) ∧ w = w' := by
  obtain ⟨hn1, hn2⟩ := hn
  go_enter Tryd.func89, Tryd.ntmps89
  go_wp2
  go_loop [5, 6] (fun p i => ∃ j : Nat, j ≤ k ∧ i = .int .i64 j ∧ p = .int .i64 (chF n j)) (fun _ i => k - (intOf i).toNat)
  case atStart => exact ⟨0, Nat.zero_le _, rfl, rfl⟩
  case round =>
    obtain ⟨j, hj, rfl, rfl⟩ := hrel
    by_cases hlt : j < k
    · obtain ⟨b1, b2⟩ := ch_mul_bd (k := j) ⟨hn1, hn2⟩ (by omega)
      obtain ⟨b3, b4⟩ := ch_bd (k := j + 1) ⟨hn1, hn2⟩ (by omega)
      have HE : Hid (chF n (j + 1) = (chF n j * (n - j)).tdiv (j + 1)) := rfl
      have b3' : -46515922124400 ≤ (chF n j * (n - j)).tdiv (j + 1) := b3
      have b4' : (chF n j * (n - j)).tdiv (j + 1) ≤ 46515922124400 := b4
      clear b3 b4
      go_wp2
      go_round
      case rel => exact ⟨j + 1, by omega, by go_num, retI' HE.out.symm⟩
      case measure => simp [intOf]; omega
    · obtain rfl : j = k := by omega
      go_wp2
      go_ret
      exact ⟨rfl, rfl⟩


theorem c_l4Amount (n : Int) (w : World) :
    Calls Tryd.prog 35 #[.int .i64 n] w fun e w' => e = .returned (.bool (inB n (-1000000000) 1000000000)) ∧ w = w' := by
  go_enter Tryd.func35, Tryd.ntmps35
  go_wp2_with (go_at_call 34; refine (c_l1In _ _ _ _).mono ?_; rintro e w' ⟨rfl, rfl⟩)
  go_ret
  exact ⟨rfl, rfl⟩








theorem c_sTableValid (v : Value) (xs : List Int) (B : Nat) (w : World) (hv : IsI w B v xs) :
    Calls Tryd.prog 61 #[v] w fun e w' => e = .returned (.bool (TB xs)) ∧ w = w' := by
  obtain ⟨a, cap, rfl, hm, hr, hc⟩ := hv
  unfold maxLen at hm
  clear hr
  go_enter Tryd.func61, Tryd.ntmps61
  go_wp2
  go_loop [3] (fun i => ∃ j : Nat, j ≤ xs.length ∧ i = .int .i64 j ∧ ∀ k, k < j → inB (el xs k) (-1000000000) 1000000000 = true) (fun i => xs.length - (intOf i).toNat)
  case atStart => exact ⟨0, Nat.zero_le _, rfl, fun k hk => by omega⟩
  case round =>
    obtain ⟨j, hj, rfl, HA⟩ := hrel
    have HA' : Hid (∀ k, k < j → inB (el xs k) (-1000000000) 1000000000 = true) := HA
    clear HA
    by_cases hlt : j < xs.length
    · obtain ⟨bk, off, rfl, hb, hcell⟩ := hc j hlt
      have hce := hcell j hlt
      clear hc hcell
      by_cases he : inB (el xs j) (-1000000000) 1000000000 = true
      · go_wp2_with (go_at_call 34; refine (c_l1In _ _ _ _).mono ?_; rintro e w' ⟨rfl, rfl⟩)
        go_round
        case rel => exact ⟨j + 1, by omega, by go_num, fun k hk => if e : k = j then e ▸ he else HA'.out k (by omega)⟩
        case measure => simp [intOf]; omega
      · have he' : inB (el xs j) (-1000000000) 1000000000 = false := by simpa using he
        have HE : Hid (inB (el xs j) (-1000000000) 1000000000 = false) := he'
        clear he
        go_wp2_with (go_at_call 34; refine (c_l1In _ _ _ _).mono ?_; rintro e w' ⟨rfl, rfl⟩)
        go_ret
        exact ⟨retB (TB_no (alw_no hlt HE.out)).symm, rfl⟩
    · clear hc
      go_wp2_with (go_at_call 34; refine (c_l1In _ _ _ _).mono ?_; rintro e w' ⟨rfl, rfl⟩)
      go_ret
      exact ⟨retB (TB_alw (alw_yes (by omega) HA'.out)).symm, rfl⟩
end Go.Proofs.YtlinkeemccnfmaaDoor
