/- What is proved here: how an error of one entry changes the differences of a table. No program in sight. -/
import Derived.Test.YtkiebajggombiaaFeM
import Derived.Test.YtkiebajggombiaaPut
set_option linter.unusedVariables false
set_option linter.unusedSimpArgs false
namespace Go.Proofs.Ytkiebajggombiaa
open Go.RowKit

/-- The change by an error k places behind. -/
def cK (o k : Nat) : Int := if k ≤ o then sgn (o - k) * chF o k else 0
theorem cK_pascal : ∀ o, o < 7 → ∀ k, k < 9 → cK (o + 1) k = (if k = 0 then 0 else cK o (k - 1)) - cK o k := by decide
theorem co_cK {o a j : Nat} (h : j ≤ a) : co o a j = cK o (a - j) := by
  unfold co cK
  by_cases h2 : a ≤ j + o
  · rw [if_pos ⟨h, h2⟩, if_pos (by omega), show j + o - a = o - (a - j) by omega]
  · rw [if_neg (by omega), if_neg (by omega)]
theorem cK_big {o k : Nat} (h : o < k) : cK o k = 0 := by unfold cK; rw [if_neg (by omega)]
theorem co_pascal {o a j : Nat} (ho : o < 7) : co (o + 1) a j = co o a (j + 1) - co o a j := by
  by_cases h : j ≤ a
  · by_cases h9 : a - j < 9
    · rw [co_cK h, co_cK h, cK_pascal o ho _ h9]
      by_cases h0 : a - j = 0
      · rw [if_pos h0, co_out (o := o) (a := a) (j := j + 1) (by omega)]
      · rw [if_neg h0, co_cK (show j + 1 ≤ a by omega), show a - (j + 1) = a - j - 1 by omega]
    · rw [co_out (by omega), co_out (by omega), co_out (by omega)]; rfl
  · rw [co_out (by omega), co_out (by omega), co_out (by omega)]; rfl
theorem co_zero (a j : Nat) : co 0 a j = if j = a then 1 else 0 := by
  by_cases h : j = a
  · subst h; rw [if_pos rfl, co_in (Nat.le_refl _) (Nat.le_refl _)]; simp [sgn, chF]
  · rw [if_neg h, co_out (by omega)]
theorem dN_put {xs : List Int} {a : Nat} {m : Int} (ha : a < xs.length) : ∀ o, o ≤ 7 → ∀ j, j + o < xs.length → el (dN (xs.set a (el xs a + m)) o) j = el (dN xs o) j + m * co o a j := by
  intro o
  induction o with
  | zero =>
    intro _ j hj
    show el (xs.set a (el xs a + m)) j = el xs j + m * co 0 a j
    rw [co_zero]
    by_cases e : j = a
    · subst e; rw [el_set_same ha, if_pos rfl, Int.mul_one]
    · rw [el_set_other (Ne.symm e), if_neg e, Int.mul_zero, Int.add_zero]
  | succ o ih =>
    intro ho j hj
    have hl1 : (dN (xs.set a (el xs a + m)) o).length = xs.length - o := by rw [dN_len, List.length_set]
    have hl2 := dN_len xs o
    rw [dN, dN, dF_el (by omega), dF_el (by omega), ih (by omega) _ (by omega), ih (by omega) _ (by omega), co_pascal (by omega), Int.mul_sub]
    omega
theorem pat_co {o a j : Nat} {m : Int} (ho : o ≤ 7) (h1 : j ≤ a) (h2 : a ≤ j + o) : el (patF o m) (j + o - a) = m * co o a j := by
  rw [co_pat ho h1 h2, patF_el _ _ _ (by omega), patF_el _ _ _ (by omega), Int.mul_one, Int.mul_comm]
end Go.Proofs.Ytkiebajggombiaa
