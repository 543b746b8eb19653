/- What is proved here: contracts of the small arithmetic functions of impl and spec. -/
import Derived.Test.YtkaanlldjkflaaaDoorBase
import Derived.Test.YtkaanlldjkflaaaDoorChecked
set_option linter.unusedVariables false
set_option linter.unusedSimpArgs false
namespace Go.Proofs.YtkaanlldjkflaaaDoor
open Go.RowKit

theorem Tryd.infoInt : (Tryd.prog.info? 3).map (fun i => (i.zero, i.size, i.bytes)) = some (some (.int .i64 0), 1, 8) := by kernel_rfl

theorem c_l1In (n lo hi : Int) (w : World) :
    Calls Tryd.prog 28 #[.int .i64 n, .int .i64 lo, .int .i64 hi] w fun e w' => e = .returned (.bool (inB n lo hi)) ∧ w = w' := by
  have H : Hid (lo ≤ n ∧ n ≤ hi → inB n lo hi = true) := fun h => inB_yes h.1 h.2
  have H' : Hid (n < lo ∨ hi < n → inB n lo hi = false) := inB_no
  by_cases h1 : lo ≤ n
  · by_cases h2 : n ≤ hi
    · go_enter Tryd.func28, Tryd.ntmps28
      go_wp2
      go_ret
      exact ⟨retB (H.out ⟨h1, h2⟩).symm, rfl⟩
    · go_enter Tryd.func28, Tryd.ntmps28
      go_wp2
      go_ret
      exact ⟨retB (H'.out (by omega)).symm, rfl⟩
  · go_enter Tryd.func28, Tryd.ntmps28
    go_wp2
    go_ret
    exact ⟨retB (H'.out (by omega)).symm, rfl⟩


theorem c_l1Ten (k : Nat) (w : World) (hk : k ≤ 18) :
    Calls Tryd.prog 44 #[.int .i64 k] w fun e w' => e = .returned (.int .i64 (ten k)) ∧ w = w' := by
  go_enter Tryd.func44, Tryd.ntmps44
  go_wp2
  go_loop [3, 4] (fun p i => ∃ j : Nat, j ≤ k ∧ i = .int .i64 j ∧ p = .int .i64 (ten j)) (fun _ i => k - (intOf i).toNat)
  case atStart => exact ⟨0, Nat.zero_le _, rfl, rfl⟩
  case round =>
    obtain ⟨j, hj, rfl, rfl⟩ := hrel
    by_cases hlt : j < k
    · have hb : ten j ≤ 100000000000000000 := ten_mono (show j ≤ 17 by omega)
      have hp := ten_pos j
      go_wp2
      go_round
      case rel => exact ⟨j + 1, by omega, by go_num, by rw [ten_succ]⟩
      case measure => simp [intOf]; omega
    · obtain rfl : j = k := by omega
      go_wp2
      go_ret
      exact ⟨rfl, rfl⟩


theorem ch_ret {n : Int} {k : Nat} : Value.int .i64 (chF n (k + 1)) = .int .i64 ((chF n k * (n - k)).tdiv (k + 1)) := rfl











end Go.Proofs.YtkaanlldjkflaaaDoor
