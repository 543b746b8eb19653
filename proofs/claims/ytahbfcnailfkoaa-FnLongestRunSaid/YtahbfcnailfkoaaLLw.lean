/- What is proved here: the walk of laws.FnLongestRun, given what its draw draws. -/
import Derived.Test.YtahbfcnailfkoaaDer
import Derived.Test.YtahbfcnailfkoaaLrn
import Derived.Test.YtahbfcnailfkoaaDraw7
import Derived.Test.YtahbfcnailfkoaaLaws1
set_option linter.unusedVariables false
set_option linter.unusedSimpArgs false
namespace Go.Proofs.Ytahbfcnailfkoaa
open Go.RowKit

/-- A draw of a table and two numbers. -/
def TabI2 (w : World) (e : Ending) (w' : World) : Prop := ∃ (v : Value) (xs : List Int) (n m : Int), e = .returned (.tuple #[v, .int .i64 n, .int .i64 m]) ∧ IsI w' w'.heap.size v xs ∧ Below w.heap.size w w'
set_option maxRecDepth 100000 in
set_option maxHeartbeats 1600000 in
theorem w_FnLongestRunOf (w : World) (v : Value) (nb : Nat) (hv : IsBy w w.heap.size v nb) (hD : Calls Try.prog 49 #[v] w (TabI2 w)) :
    Calls Try.prog 14 #[v] w fun e w' => e = .returned (.bool true) ∧ Below w.heap.size w w' := by
  obtain ⟨a, cap, hva, hm, hc⟩ := id hv
  subst hva
  unfold maxLen at hm
  clear hc
  by_cases hbig : 1048576 < nb
  · clear hv hD
    go_enter Try.func14, Try.ntmps14
    go_wp2_with fail
    go_ret
    exact ⟨rfl, Below.refl _ _⟩
  · go_enter Try.func14, Try.ntmps14
    go_wp2_with fail
    refine hD.mono ?_
    rintro e w1 ⟨vx, xs, f, d, rfl, hx, b⟩
    have s1 := b.size
    clear hv hD
    go_wp2_with fail
    refine (c_iLongestRun _ _ xs hx f d).mono ?_
    rintro e w3 ⟨rfl, c⟩
    have s3 := c.size
    replace hx := hx.below c (by omega)
    replace b := b.trans (c.mono (by omega))
    clear c
    go_wp2_with fail
    refine (c_sLongestRun _ _ xs (hx.up (by omega)) f d).mono ?_
    rintro e w4 ⟨rfl, c⟩
    have s4 := c.size
    replace hx := hx.below c (by omega)
    replace b := b.trans (c.mono (by omega))
    clear c
    rcases lr_neg (xs := xs) (f := f) (d := d) with hr | ⟨hS, ⟨d0, d1⟩, ⟨f0, f1⟩⟩
    · have HR := hid hr
      rw [hr]
      clear hr
      go_wp2_with fail
      refine (c_sLongestRun _ _ xs (hx.up (by omega)) f d).mono ?_
      rintro e w5 ⟨rfl, c⟩
      have s5 := c.size
      replace hx := hx.below c (by omega)
      replace b := b.trans (c.mono (by omega))
      clear c
      rw [HR.out]
      go_wp2
      go_ret
      exact ⟨rfl, b⟩
    · obtain ⟨dn, rfl⟩ : ∃ n : Nat, d = n := ⟨d.toNat, by omega⟩
      obtain ⟨fn, rfl⟩ : ∃ n : Nat, f = n := ⟨f.toNat, by omega⟩
      obtain ⟨n, hn, hn2, hlaw⟩ := lr_law hS (show dn ≤ 6 by omega) (show fn ≤ xs.length by omega)
      have HLAW := hid hlaw
      have h60 := (TB_iff.1 (SM_TB hS)).2.1
      have h01 := (TB_iff.1 (SM_TB hS)).1
      rw [hn]
      clear hn hlaw hS
      obtain ⟨ax, capx, hvx, hmx, -, hcx⟩ := id hx
      subst hvx
      unfold maxLen at hmx
      obtain ⟨bx, ox, rfl, hbx, -⟩ := hcx 0 (by omega)
      clear hcx
      have k1 : ¬ (n : Int) < 0 := by omega
      have k2 : ((n : Int) != n) = false := by simp
      have k4 : IntKind.i64.wrap ((fn : Int) + n) = (fn : Int) + n := IntWalk.i64_in _ (by omega)
      have k5 : (fn : Int) + n ≤ xs.length := by omega
      have hi := hx
      obtain ⟨wS, hwS⟩ : ∃ x, x = w4 := ⟨_, rfl⟩
      go_wp2
      go_loopw [7] (fun i wr => ∃ k : Nat, 1 ≤ k ∧ fn + k ≤ xs.length + 1 ∧ i = .int .i64 k ∧ Below w4.heap.size w4 wr) (fun i _ => (xs.length + 1) - (intOf i).toNat)
      case atStart => exact ⟨1, Nat.le_refl _, by omega, rfl, Below.refl _ _⟩
      case round =>
        obtain ⟨k, hk1, hk2, rfl, hbel⟩ := hrel
        have hbs := hbel.size
        by_cases hlt : fn + k ≤ xs.length
        · have q1 : (fn : Int) + k ≤ xs.length := by omega
          have q2 : (fn : Int) + k ≤ capx := by omega
          have q3 : (fn : Int) < capx := by omega
          have q4 : ¬ capx = fn := by omega
          have hsub := (((hx.below hbel (by omega)).sub (lo := fn) (m := k) hlt)).up (show _ ≤ wr.heap.size by omega)
          have HV := hid (HLAW.out k hk1 hlt)
          go_wp2_with fail
          refine (c_deRun _ _ _ hsub dn).mono ?_
          rw [HV.out]
          rintro e w5 ⟨rfl, b5⟩
          by_cases hkn : k ≤ n
          · have q5 : (k : Int) ≤ n := by omega
            have q6 : decide (k ≤ n) = true := by simpa using hkn
            rw [q6]
            go_wp2
            go_roundw
            case rel => exact ⟨k + 1, by omega, by omega, by go_num, hbel.trans (b5.mono hbs)⟩
            case measure => simp [intOf]; omega
          · have q5 : ¬ (k : Int) ≤ n := by omega
            have q6 : decide (k ≤ n) = false := by simpa using hkn
            rw [q6]
            go_wp2
            go_roundw
            case rel => exact ⟨k + 1, by omega, by omega, by go_num, hbel.trans (b5.mono hbs)⟩
            case measure => simp [intOf]; omega
        · have q1 : ¬ (fn : Int) + k ≤ xs.length := by omega
          go_wp2
          go_ret
          exact ⟨rfl, b.trans (hbel.mono (by omega))⟩
theorem w_FnLongestRun (w : World) (v : Value) (nb : Nat) (hv : IsBy w w.heap.size v nb) :
    Calls Try.prog 14 #[v] w fun e w' => e = .returned (.bool true) ∧ Below w.heap.size w w' :=
  w_FnLongestRunOf w v nb hv (c_DrawLongestRun w v nb hv)
end Go.Proofs.Ytahbfcnailfkoaa
