/- What is proved here: the walk of laws.FnExactErrorPattern. -/
import Derived.Test.YthjcolddnbcniaaErr1
import Derived.Test.YthjcolddnbcniaaLaws1
set_option linter.unusedVariables false
set_option linter.unusedSimpArgs false
namespace Go.Proofs.Ythjcolddnbcniaa
open Go.RowKit

theorem epF_len (o a : Int) : (epF o a).length ≤ 8 := by
  unfold epF; split
  · rename_i h; rw [patF_len]; simp only [Bool.and_eq_true, inB_iff] at h; omega
  · simp

theorem w_FnExactErrorPattern (w : World) (o : Int) (ho : I64 o) (a : Int) (ha : I64 a) :
    Calls Try.prog 5 #[.int .i64 o, .int .i64 a] w fun e w' => e = .returned (.bool true) ∧ Below w.heap.size w w' := by
  clear ho ha
  have hl := epF_len o a
  generalize hL : epF o a = L at hl
  have HL : Hid (epF o a = L) := hL
  clear hL
  have cs := fun W => c_sErrorPattern o a W
  have ci := fun W => c_iErrorPattern o a W
  rw [HL.out] at cs ci
  have CS := hid cs
  have CI := hid ci
  clear cs ci
  go_enter Try.func5, Try.ntmps5
  go_wp2_with fail
  refine (CS.out _).mono ?_
  rintro e w1 ⟨v1, rfl, r1, b1⟩
  go_wp2_with fail
  refine (CI.out _).mono ?_
  rintro e w2 ⟨v2, rfl, r2, b2⟩
  have r1 := r1.below b2 (Nat.le_refl _)
  have b := b1.trans (b2.mono b1.size)
  have s1 := b1.size
  have s2 := b2.size
  clear b1 b2
  go_wp2_with fail
  refine (eqSameC _ _ _ _ _ _ r2.isI r1.isI).mono ?_
  rintro e w3 ⟨rfl, c3⟩
  have s3 := c3.size
  replace r1 := r1.keep c3 (by omega)
  replace r2 := r2.keep c3 (by omega)
  replace b := b.trans (c3.below (by omega) (by omega))
  go_wp2_with fail
  refine (markInts _ _ 1 _ _ _ (by omega) (by omega) r2).mono ?_
  clear r2
  rintro e w4 ⟨rfl, r2, c4⟩
  have s4 := c4.size
  replace r1 := r1.keep c4 (by omega)
  replace b := b.trans (c4.below (by omega) (by omega))
  go_wp2_with fail
  refine (heldRow _ _ (1 + (L.length : Int)) _ _ _ _ (by omega) (by omega) rfl r2).mono ?_
  rintro e w4 ⟨rfl, rfl⟩
  have ht : ((1 + (L.length : Int)) != (1 + (L.length : Int))) = false := by simp
  go_wp2_with fail
  refine (CI.out _).mono ?_
  rintro e w5 ⟨v3, rfl, r3, b5⟩
  have s5 := b5.size
  replace r1 := r1.below b5 (by omega)
  replace r2 := r2.below b5 (by omega)
  replace b := b.trans (b5.mono (by omega))
  clear b5
  go_wp2_with fail
  refine (eqSameC _ _ _ _ _ _ r3.isI r1.isI).mono ?_
  rintro e w6 ⟨rfl, c6⟩
  have s6 := c6.size
  replace r2 := r2.keep c6 (by omega)
  replace b := b.trans (c6.below (by omega) (by omega))
  go_wp2_with fail
  refine (heldRow _ _ (1 + (L.length : Int)) _ _ _ _ (by omega) (by omega) rfl r2).mono ?_
  rintro e w4 ⟨rfl, rfl⟩
  go_wp2_with fail
  go_ret
  exact ⟨rfl, b⟩
end Go.Proofs.Ythjcolddnbcniaa
