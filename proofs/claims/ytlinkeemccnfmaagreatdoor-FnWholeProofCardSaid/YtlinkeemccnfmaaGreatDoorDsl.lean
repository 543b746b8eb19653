/- What is proved here: those statements of Dsl that this claim needs. -/
import Derived.Test.YtlinkeemccnfmaaGreatDoorSlc
import Derived.Test.YtlinkeemccnfmaaGreatDoorErr2
import Derived.Test.YtlinkeemccnfmaaGreatDoorDsM
set_option linter.unusedVariables false
set_option linter.unusedSimpArgs false
namespace Go.Proofs.YtlinkeemccnfmaaGreatDoor
open Go.RowKit
theorem c_EqualI (v u : Value) (xs ys : List Int) (B B' : Nat) (w : World) (hv : IsI w B v xs) (hu : IsI w B' u ys) :
    Calls Tryz.prog 53 #[v, u] w fun e w' => e = .returned (.bool (eqL xs ys)) ∧ Chg 0 0 w w' := by
  obtain ⟨a, cap, rfl, hm, hr, hc⟩ := hv
  obtain ⟨a', cap', rfl, hm', hr', hc'⟩ := hu
  unfold maxLen at hm hm'
  by_cases hl : xs.length = ys.length
  · have hl1 : ((xs.length : Int) != (ys.length : Int)) = false := by simp [hl]
    have HL : Hid (xs.length = ys.length) := hl
    clear hl hr hr'
    go_enter Tryz.func53, Tryz.ntmps53
    go_wp2
    go_loopw [13] (fun i wr => ∃ j : Nat, j ≤ xs.length ∧ i = .int .i64 j ∧ xs.take j = ys.take j ∧ ∃ n, wr = w.drewN n) (fun i wr => xs.length - (intOf i).toNat)
    case atStart => exact ⟨0, Nat.zero_le _, rfl, by simp, 0, rfl⟩
    case round =>
      obtain ⟨j, hj, rfl, HT, n, rfl⟩ := hrel
      have HT' : Hid (xs.take j = ys.take j) := HT
      clear HT
      by_cases hlt : j < xs.length
      · have hlt' : j < ys.length := by have := HL.out; omega
        obtain ⟨b, off, rfl, hb, hcell⟩ := hc j hlt
        obtain ⟨b', off', rfl, hb', hcell'⟩ := hc' j hlt'
        have hce := hcell j hlt
        have hce' := hcell' j hlt'
        clear hc hc' hcell hcell'
        by_cases he : el xs j = el ys j
        · have he1 : (el xs j != el ys j) = false := by simpa using he
          have HE : Hid (el xs j = el ys j) := he
          clear he
          go_wp2
          go_quiet (fail)
          go_wp2
          go_roundw
          case rel => exact ⟨j + 1, by omega, by go_num, take_eq_succ hlt hlt' HT'.out HE.out, n + nq, rfl⟩
          case measure => simp [intOf]; omega
        · have he1 : (el xs j != el ys j) = true := by simpa using he
          have HE : Hid (el xs j ≠ el ys j) := he
          clear he
          go_wp2
          go_quiet (fail)
          go_wp2
          go_ret
          exact ⟨retB (eqL_at HE.out).symm, ((Chg.refl 0 0 w).drewN n).drewN nq⟩
      · clear hc hc'
        go_wp2
        go_ret
        exact ⟨retB (eqL_all HL.out (by omega) HT'.out).symm, (Chg.refl 0 0 w).drewN n⟩
  · have hl1 : ((xs.length : Int) != (ys.length : Int)) = true := by simpa using (by omega : ¬ (xs.length : Int) = ys.length)
    have HL : Hid (xs.length ≠ ys.length) := hl
    clear hl hr hr' hc hc'
    go_enter Tryz.func53, Tryz.ntmps53
    go_wp2
    go_ret
    exact ⟨retB (eqL_len HL.out).symm, Chg.refl _ _ _⟩
def alike2 (xs ys : List Int) : Bool := TB xs && (TB ys && decide (xs.length = ys.length))
theorem c_tablesAlike (v u : Value) (xs ys : List Int) (B B' : Nat) (w : World) (hv : IsI w B v xs) (hu : IsI w B' u ys) :
    Calls Tryz.prog 46 #[v, u] w fun e w' => e = .returned (.bool (alike2 xs ys)) ∧ w = w' := by
  obtain ⟨a, cap, hva⟩ : ∃ a cap, v = .slice a xs.length cap := ⟨_, _, hv.choose_spec.choose_spec.1⟩
  subst hva
  obtain ⟨a', cap', hua⟩ : ∃ a cap, u = .slice a ys.length cap := ⟨_, _, hu.choose_spec.choose_spec.1⟩
  subst hua
  by_cases hT : TB xs = true
  · by_cases hT' : TB ys = true
    · have h1 := (TB_iff.1 hT).2.1
      have h2 := (TB_iff.1 hT').2.1
      by_cases hl : xs.length = ys.length
      · have H : Hid (alike2 xs ys = true) := by show alike2 xs ys = true; simp [alike2, hT, hT', hl]
        have hl1 : ((xs.length : Int) == (ys.length : Int)) = true := by simp [hl]
        clear hl
        go_enter Tryz.func46, Tryz.ntmps46
        go_wp2_with fail
        refine (c_iTableValid _ xs _ _ hv).mono ?_
        rintro e w' ⟨rfl, rfl⟩
        go_wp2_with fail
        refine (c_iTableValid _ ys _ _ hu).mono ?_
        rintro e w' ⟨rfl, rfl⟩
        go_wp2_with fail
        go_ret
        exact ⟨retB H.out.symm, rfl⟩
      · have H : Hid (alike2 xs ys = false) := by show alike2 xs ys = false; simp [alike2, hl]
        have hl1 : ((xs.length : Int) == (ys.length : Int)) = false := by simp; omega
        clear hl
        go_enter Tryz.func46, Tryz.ntmps46
        go_wp2_with fail
        refine (c_iTableValid _ xs _ _ hv).mono ?_
        rintro e w' ⟨rfl, rfl⟩
        go_wp2_with fail
        refine (c_iTableValid _ ys _ _ hu).mono ?_
        rintro e w' ⟨rfl, rfl⟩
        go_wp2_with fail
        go_ret
        exact ⟨retB H.out.symm, rfl⟩
    · have hT2 : TB ys = false := by simpa using hT'
      have H : Hid (alike2 xs ys = false) := by show alike2 xs ys = false; simp [alike2, hT2]
      clear hT'
      go_enter Tryz.func46, Tryz.ntmps46
      go_wp2_with fail
      refine (c_iTableValid _ xs _ _ hv).mono ?_
      rintro e w' ⟨rfl, rfl⟩
      go_wp2_with fail
      refine (c_iTableValid _ ys _ _ hu).mono ?_
      rintro e w' ⟨rfl, rfl⟩
      go_wp2_with fail
      go_ret
      exact ⟨retB H.out.symm, rfl⟩
  · have hT2 : TB xs = false := by simpa using hT
    have H : Hid (alike2 xs ys = false) := by show alike2 xs ys = false; simp [alike2, hT2]
    clear hT
    go_enter Tryz.func46, Tryz.ntmps46
    go_wp2_with fail
    refine (c_iTableValid _ xs _ _ hv).mono ?_
    rintro e w' ⟨rfl, rfl⟩
    go_wp2_with fail
    go_ret
    exact ⟨retB H.out.symm, rfl⟩
end Go.Proofs.YtlinkeemccnfmaaGreatDoor
