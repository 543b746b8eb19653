/- What is proved here: the contract of spec.DrawExchangeDigits. -/
import Derived.Test.YthjcolddnbcniaaDraw0
set_option linter.unusedVariables false
set_option linter.unusedSimpArgs false
namespace Go.Proofs.Ythjcolddnbcniaa
open Go.RowKit

theorem c_DrawExchangeDigits (w : World) (v : Value) (k : Nat) (hv : IsBy w w.heap.size v k) :
    Calls Try.prog 11 #[v] w (TwoInts w fun x y => I64 x ∧ I64 y) := by
  go_enter Try.func11, Try.ntmps11
  go_wp2_with fail
  refine (c_l9Open _ _ _ hv).mono ?_
  rintro e w0 ⟨rfl, r, b, sz⟩
  clear hv
  go_wp2_with fail
  refine (c_pick _ _ _ _ _ (by omega) (by omega) r).mono ?_
  clear r
  rintro e w1 ⟨x1, rfl, q, r, c⟩
  have s1 := c.size
  obtain ⟨x10, x11⟩ := q.1 (by omega)
  clear q
  replace b := b.trans (c.below (by omega) (by omega))
  clear c
  go_wp2_with fail
  refine (c_pick _ _ _ _ _ (by omega) (by omega) r).mono ?_
  clear r
  rintro e w2 ⟨x2, rfl, q, r, c⟩
  have s2 := c.size
  obtain ⟨x20, x21⟩ := q.1 (by omega)
  clear q
  replace b := b.trans (c.below (by omega) (by omega))
  clear c
  have m12 := mul_bd (a := x1) (b := x2) (A := 256) (B := 256) (by omega) (by omega) (by omega) (by omega) (by omega)
  have m12n := Int.mul_nonneg x10 x20
  go_wp2_with fail
  refine (c_pick _ _ _ _ _ (by omega) (by omega) r).mono ?_
  clear r
  rintro e w3 ⟨x3, rfl, q, r, c⟩
  have s3 := c.size
  obtain ⟨x30, x31⟩ := q.1 (by omega)
  clear q
  replace b := b.trans (c.below (by omega) (by omega))
  clear c
  have m123 := mul_bd (a := x1 * x2) (b := x3) (A := 65536) (B := 256) (by omega) (by omega) (by omega) (by omega) (by omega)
  go_wp2_with fail
  refine (c_pick _ _ _ _ _ (by omega) (by omega) r).mono ?_
  clear r
  rintro e w4 ⟨x4, rfl, q, r, c⟩
  have s4 := c.size
  obtain ⟨x40, x41⟩ := q.1 (by omega)
  clear q
  replace b := b.trans (c.below (by omega) (by omega))
  clear c
  go_wp2_with fail
  refine (c_pick _ _ _ _ _ (by omega) (by omega) r).mono ?_
  clear r
  rintro e w5 ⟨x5, rfl, q, r, c⟩
  have s5 := c.size
  obtain ⟨x50, x51⟩ := q.1 (by omega)
  clear q
  replace b := b.trans (c.below (by omega) (by omega))
  clear c
  rcases (by omega : x5 = 0 ∨ x5 = 1 ∨ 2 ≤ x5) with h | h | h
  · subst h
    go_wp2_with fail
    refine (c_numLit _ _ _ _ _ [1000000000, 1000000001, (-1), 999999999] rfl (by intro x hx; simp at hx; omega) (by omega) (by simp) (by simp) _ rfl r).mono ?_
    clear r
    rintro e w6 ⟨y1, rfl, y1q, r, c⟩
    have s6 := c.size
    simp only [List.mem_cons, List.not_mem_nil, or_false] at y1q
    replace b := b.trans (c.below (by omega) (by omega))
    clear c
    go_wp2_with fail
    refine (c_pick _ _ _ _ _ (by omega) (by omega) r).mono ?_
    clear r
    rintro e w7 ⟨y2, rfl, q, r, c⟩
    have s7 := c.size
    obtain ⟨y20, y21⟩ := q.1 (by omega)
    clear q
    replace b := b.trans (c.below (by omega) (by omega))
    clear c
    go_wp2_with fail
    go_ret2
    exact ⟨_, _, rfl, ⟨by unfold I64; omega, by unfold I64; omega⟩, b⟩
  · subst h
    go_wp2_with fail
    refine (c_numLit _ _ _ _ _ [(-1), 8, 9, 9223372036854775807] rfl (by intro x hx; simp at hx; omega) (by omega) (by simp) (by simp) _ rfl r).mono ?_
    clear r
    rintro e w6 ⟨y1, rfl, y1q, r, c⟩
    have s6 := c.size
    simp only [List.mem_cons, List.not_mem_nil, or_false] at y1q
    replace b := b.trans (c.below (by omega) (by omega))
    clear c
    go_wp2_with fail
    go_ret2
    exact ⟨_, _, rfl, ⟨by unfold I64; omega, by unfold I64; omega⟩, b⟩
  · have t0 : (x5 == 0) = false := by simp; omega
    have t1 : (x5 == 1) = false := by simp; omega
    go_wp2_with fail
    refine (c_pick _ _ _ _ _ (by omega) (by omega) r).mono ?_
    clear r
    rintro e w6 ⟨y2, rfl, q, r, c⟩
    have s6 := c.size
    obtain ⟨y20, y21⟩ := q.1 (by omega)
    clear q
    replace b := b.trans (c.below (by omega) (by omega))
    clear c
    go_wp2_with fail
    go_ret2
    exact ⟨_, _, rfl, ⟨by unfold I64; omega, by unfold I64; omega⟩, b⟩
end Go.Proofs.Ythjcolddnbcniaa
