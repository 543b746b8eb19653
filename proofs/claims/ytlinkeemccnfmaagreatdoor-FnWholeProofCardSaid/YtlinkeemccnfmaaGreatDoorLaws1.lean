/- What is proved here: those statements of Laws1 that this claim needs. -/
import Derived.Test.YtlinkeemccnfmaaGreatDoorNum
set_option linter.unusedVariables false
set_option linter.unusedSimpArgs false
namespace Go.Proofs.YtlinkeemccnfmaaGreatDoor
open Go.RowKit
theorem drewN_chg (w : World) (n lo hi : Nat) : Chg lo hi w (w.drewN n) := (Chg.refl _ _ _).drewN n
theorem deIs (v u : Value) (xs ys : List Int) (B B' : Nat) (w : World) (hv : IsI w B v xs) (hu : IsI w B' u ys) :
    Calls Tryz.prog 19 #[v, u] w fun e w' => e = .returned (.bool (eqL xs ys)) ∧ ∃ n, w' = w.drewN n := by
  obtain ⟨a, cap, rfl, hm, hr, hc⟩ := hv
  obtain ⟨a', cap', rfl, hm', hr', hc'⟩ := hu
  unfold maxLen at hm hm'
  by_cases hl : xs.length = ys.length
  · have hl1 : ((xs.length : Int) != (ys.length : Int)) = false := by simp [hl]
    have HL : Hid (xs.length = ys.length) := hl
    clear hl hr hr'
    go_enter Tryz.func19, Tryz.ntmps19
    go_wp2
    go_loopw [5] (fun i wr => ∃ j : Nat, j ≤ xs.length ∧ i = .int .i64 j ∧ xs.take j = ys.take j ∧ ∃ n, wr = w.drewN n) (fun i wr => xs.length - (intOf i).toNat)
    case atStart => exact ⟨0, Nat.zero_le _, rfl, by simp, 0, rfl⟩
    case round =>
      obtain ⟨j, hj, rfl, HT, n, rfl⟩ := hrel
      have HT' : Hid (xs.take j = ys.take j) := HT
      clear HT
      by_cases hlt : j < xs.length
      · have hlt' : j < ys.length := by have := HL.out; omega
        obtain ⟨b, off, rfl, hb, hcell⟩ := hc j hlt
        obtain ⟨b', off', rfl, hb', hcell'⟩ := hc' j hlt'
        have hce := hcell j hlt
        have hce' := hcell' j hlt'
        clear hc hc' hcell hcell'
        by_cases he : el xs j = el ys j
        · have he1 : (el xs j != el ys j) = false := by simpa using he
          have HE : Hid (el xs j = el ys j) := he
          clear he
          go_wp2
          go_quiet (fail)
          go_wp2
          go_roundw
          case rel => exact ⟨j + 1, by omega, by go_num, take_eq_succ hlt hlt' HT'.out HE.out, n + nq, rfl⟩
          case measure => simp [intOf]; omega
        · have he1 : (el xs j != el ys j) = true := by simpa using he
          have HE : Hid (el xs j ≠ el ys j) := he
          clear he
          go_wp2
          go_quiet (fail)
          go_wp2
          go_ret
          exact ⟨retB (eqL_at HE.out).symm, n + nq, by simp⟩
      · clear hc hc'
        go_wp2
        go_ret
        exact ⟨retB (eqL_all HL.out (by omega) HT'.out).symm, _, rfl⟩
  · have hl1 : ((xs.length : Int) != (ys.length : Int)) = true := by simpa using (by omega : ¬ (xs.length : Int) = ys.length)
    have HL : Hid (xs.length ≠ ys.length) := hl
    clear hl hr hr' hc hc'
    go_enter Tryz.func19, Tryz.ntmps19
    go_wp2
    go_ret
    exact ⟨retB (eqL_len HL.out).symm, 0, rfl⟩

theorem deSm (v u : Value) (xs : List Int) (B B' : Nat) (w : World) (hv : IsI w B v xs) (hu : IsI w B' u xs) :
    Calls Tryz.prog 19 #[v, u] w fun e w' => e = .returned (.bool true) ∧ ∃ n, w' = w.drewN n :=
  (deIs v u xs xs B B' w hv hu).mono fun e w' ⟨he, hw⟩ => ⟨by rw [he, eqL_self], hw⟩

theorem deSmC (v u : Value) (xs : List Int) (B B' : Nat) (w : World) (hv : IsI w B v xs) (hu : IsI w B' u xs) :
    Calls Tryz.prog 19 #[v, u] w fun e w' => e = .returned (.bool true) ∧ Chg 0 0 w w' :=
  (deSm v u xs B B' w hv hu).mono fun e w' ⟨he, n, hn⟩ => ⟨he, hn ▸ drewN_chg _ _ _ _⟩

end Go.Proofs.YtlinkeemccnfmaaGreatDoor
