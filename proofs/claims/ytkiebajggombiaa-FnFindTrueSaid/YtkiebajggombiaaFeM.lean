/- What is proved here: plain facts on single errors of a table: how an error changes the differences, and the search for it. No program in sight. -/
import Derived.Test.YtkiebajggombiaaDif
import Derived.Test.YtkiebajggombiaaErr1
set_option linter.unusedVariables false
set_option linter.unusedSimpArgs false
namespace Go.Proofs.Ytkiebajggombiaa
open Go.RowKit

/-- How an error of the entry at changes the difference at place j of an order o. -/
def co (o at_ j : Nat) : Int := if j ≤ at_ ∧ at_ ≤ j + o then sgn (j + o - at_) * chF o (at_ - j) else 0
theorem ch_symm : ∀ o, o < 8 → ∀ k, k < 8 → k ≤ o → chF ((o : Nat) : Int) (o - k) = chF o k := by decide
theorem ch_pos : ∀ o, o < 8 → ∀ k, k < 8 → k ≤ o → 1 ≤ chF ((o : Nat) : Int) k := by decide
theorem sgn_cases (k : Nat) : sgn k = 1 ∨ sgn k = -1 := by unfold sgn; split <;> simp
theorem co_out {o a j : Nat} (h : a < j ∨ j + o < a) : co o a j = 0 := by unfold co; rw [if_neg (by omega)]
theorem co_in {o a j : Nat} (h1 : j ≤ a) (h2 : a ≤ j + o) : co o a j = sgn (j + o - a) * chF o (a - j) := by unfold co; rw [if_pos ⟨h1, h2⟩]
theorem co_pat {o a j : Nat} (ho : o ≤ 7) (h1 : j ≤ a) (h2 : a ≤ j + o) : co o a j = el (patF o 1) (j + o - a) := by
  rw [co_in h1 h2, patF_el _ _ _ (by omega), Int.mul_one, show a - j = o - (j + o - a) by omega, ch_symm o (by omega) (j + o - a) (by omega) (by omega)]
theorem co_ne {o a j : Nat} (ho : o ≤ 7) (h1 : j ≤ a) (h2 : a ≤ j + o) : co o a j ≠ 0 := by
  rw [co_in h1 h2]
  have := ch_pos o (by omega) (a - j) (by omega) (by omega)
  rcases sgn_cases (j + o - a) with e | e <;> rw [e] <;> omega
theorem co_bd {o a j : Nat} (ho : o ≤ 7) : -100 ≤ co o a j ∧ co o a j ≤ 100 := by
  unfold co
  split
  · rename_i h
    have := ch_small o (by omega) (a - j) (by omega)
    rcases sgn_cases (j + o - a) with e | e <;> rw [e] <;> omega
  · omega
/-- The amount that would explain the first difference that an error of the entry changes. -/
def gsF (row : List Int) (o a : Nat) : Int := (el row (a - o)).tdiv (co o a (a - o))
/-- Whether an error by an amount explains all differences. -/
def exA (row : List Int) (o a : Nat) (m : Int) : Bool := decide (∀ j, j < row.length → el row j = m * co o a j)
def exB (row : List Int) (o a : Nat) : Bool := exA row o a (gsF row o a)
theorem exA_iff {row : List Int} {o a : Nat} {m : Int} : exA row o a m = true ↔ ∀ j, j < row.length → el row j = m * co o a j := by simp [exA]
theorem exA_no {row : List Int} {o a j : Nat} {m : Int} (hj : j < row.length) (h : el row j ≠ m * co o a j) : exA row o a m = false := by
  rw [← Bool.not_eq_true, exA_iff]; intro h'; exact h (h' j hj)
theorem gs_bd {row : List Int} {o a : Nat} {b : Int} (hb : Bd b row) (hf : a - o < row.length) (ho : o ≤ 7) (h0 : 0 ≤ b) : -b ≤ gsF row o a ∧ gsF row o a ≤ b := by
  have h1 := hb (a - o) hf
  have h2 := co_ne (o := o) (a := a) (j := a - o) ho (by omega) (by omega)
  unfold gsF
  generalize el row (a - o) = x at *
  generalize co o a (a - o) = c at *
  have h3 : (x.tdiv c).natAbs ≤ x.natAbs := by rw [Int.natAbs_tdiv]; exact Nat.div_le_self _ _
  omega
/-- What the reference's guess is. -/
def gsS (row : List Int) (o a : Nat) : Int := if (el row (a - o)).tmod (co o a (a - o)) ≠ 0 then 0 else gsF row o a
theorem ex_same {row : List Int} {o a : Nat} (hz : az row = false) (hf : a - o < row.length) (ho : o ≤ 7) : (gsS row o a ≠ 0 ∧ exA row o a (gsS row o a) = true) ↔ exB row o a = true := by
  have hc := co_ne (o := o) (a := a) (j := a - o) ho (by omega) (by omega)
  constructor
  · rintro ⟨h1, h2⟩
    have : gsS row o a = gsF row o a := by
      unfold gsS at h1 ⊢; split
      · rename_i h; rw [if_pos h] at h1; exact absurd rfl h1
      · rfl
    rw [this] at h2; exact h2
  · intro h
    have h1 := exA_iff.1 h (a - o) hf
    have hm : (el row (a - o)).tmod (co o a (a - o)) = 0 := by rw [h1, Int.mul_tmod_left]
    have hg : gsS row o a = gsF row o a := by unfold gsS; rw [if_neg (by omega)]
    rw [hg]
    refine ⟨fun e => ?_, h⟩
    have : az row = true := by
      rw [az_iff]; intro k hk
      have := exA_iff.1 h k hk
      rw [e, Int.zero_mul] at this; exact this
    rw [this] at hz; cases hz
/-- The first entry from a on (n are left) whose error explains. -/
def feS (row : List Int) (o : Nat) : Nat → Nat → Option Nat
  | _, 0 => none
  | a, n + 1 => if exB row o a then some a else feS row o (a + 1) n
theorem feS_hit {row : List Int} {o a n : Nat} (h : exB row o a = true) : feS row o a (n + 1) = some a := by rw [feS, if_pos h]
theorem feS_miss {row : List Int} {o a n : Nat} (h : exB row o a = false) : feS row o a (n + 1) = feS row o (a + 1) n := by rw [feS, if_neg (by simp [h])]
theorem feS_some {row : List Int} {o : Nat} : ∀ {n a a'}, feS row o a n = some a' → a ≤ a' ∧ a' < a + n ∧ exB row o a' = true := by
  intro n
  induction n with
  | zero => intro a a' h; cases h
  | succ n ih =>
    intro a a' h
    by_cases e : exB row o a = true
    · rw [feS_hit e] at h; simp only [Option.some.injEq] at h; subst h; exact ⟨Nat.le_refl _, by omega, e⟩
    · rw [feS_miss (by simpa using e)] at h
      obtain ⟨h1, h2, h3⟩ := ih h
      exact ⟨by omega, by omega, h3⟩
/-- Whether an error may be looked for. -/
def feOk (xs : List Int) (d : Int) : Bool := TB xs && (inB d 0 6 && decide (d + 3 ≤ xs.length))
theorem feOk_iff {xs : List Int} {d : Int} : feOk xs d = true ↔ TB xs = true ∧ (0 ≤ d ∧ d ≤ 6) ∧ d + 3 ≤ xs.length := by
  simp [feOk, inB_iff, Bool.and_eq_true]
/-- What FindError answers. -/
def feF (xs : List Int) (d : Int) : Int × Int × Int :=
  if feOk xs d then (if az (dN xs (d.toNat + 1)) then (0, 0, 0) else
    (match feS (dN xs (d.toNat + 1)) (d.toNat + 1) 0 xs.length with
     | some a => ((a : Int), gsF (dN xs (d.toNat + 1)) (d.toNat + 1) a, 1)
     | none => (0, 0, 2)))
  else (0, 0, 3)
theorem feF_bad {xs : List Int} {d : Int} (h : feOk xs d = false) : feF xs d = (0, 0, 3) := by simp [feF, h]
theorem feF_none {xs : List Int} {k : Nat} (h : feOk xs k = true) (hz : az (dN xs (k + 1)) = true) : feF xs k = (0, 0, 0) := by
  unfold feF; rw [if_pos h, Int.toNat_natCast, if_pos hz]
theorem feF_one {xs : List Int} {k a : Nat} (h : feOk xs k = true) (hz : az (dN xs (k + 1)) = false) (hs : feS (dN xs (k + 1)) (k + 1) 0 xs.length = some a) : feF xs k = ((a : Int), gsF (dN xs (k + 1)) (k + 1) a, 1) := by
  unfold feF; rw [if_pos h, Int.toNat_natCast, if_neg (by simp [hz]), hs]
theorem feF_many {xs : List Int} {k : Nat} (h : feOk xs k = true) (hz : az (dN xs (k + 1)) = false) (hs : feS (dN xs (k + 1)) (k + 1) 0 xs.length = none) : feF xs k = (0, 0, 2) := by
  unfold feF; rw [if_pos h, Int.toNat_natCast, if_neg (by simp [hz]), hs]
end Go.Proofs.Ytkiebajggombiaa
