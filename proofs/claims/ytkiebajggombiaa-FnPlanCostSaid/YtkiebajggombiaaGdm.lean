/- What is proved here: with a greater degree no more runs are needed. No program in sight. -/
import Derived.Test.YtkiebajggombiaaBstM
set_option linter.unusedVariables false
set_option linter.unusedSimpArgs false
namespace Go.Proofs.Ytkiebajggombiaa
open Go.RowKit

theorem rn_up {ys : List Int} {d d' : Int} (hd : d ≤ d') (h : rnOk ys d = true) : rnOk ys d' = true := by
  unfold rnOk at h ⊢
  simp only [Bool.and_eq_true, decide_eq_true_eq] at h ⊢
  exact ⟨by omega, h.2⟩
theorem bIn_up {ys : List Int} {d d' : Int} {B B' : List Int} (hd : d ≤ d') (hB : ∀ j, el B' j ≤ el B j) (h0 : ∀ j, 0 ≤ el B' j) : ∀ m a a' n, a' ≤ a → 0 ≤ a' → bIn ys d' 1 0 B' a' n m ≤ bIn ys d 1 0 B a n m := by
  intro m
  induction m with
  | zero => intro a a' n h _; exact h
  | succ m ih =>
    intro a a' n h ha
    by_cases e : rnOk (ys.take n) d = true
    · rw [bIn_yes e, bIn_yes (rn_up hd e)]
      have h1 := hB (n - 1)
      have h2 := h0 (n - 1)
      simp only [Int.zero_mul, Int.add_zero]
      exact ih _ _ _ (by omega) (by omega)
    · rw [bIn_no (d := d) (s := 1) (c := 0) (B := B) (a := a) (m := m) (by simpa using e)]
      have := (bIn_bd (ys := ys) (d := d') (s := 1) (c := 0) (B := B') (by omega) (by omega) h0 (m + 1) a' n ha).2
      omega
theorem bst_up {xs : List Int} {d d' : Int} (hd : d ≤ d') : ∀ k j, el (bst xs d' 1 0 k) j ≤ el (bst xs d 1 0 k) j := by
  intro k
  induction k with
  | zero => intro j; exact Int.le_refl _
  | succ k ih =>
    intro j
    cases j with
    | zero => exact bIn_up hd ih (fun j => (bst_bd (by omega) (by omega) k j).1) _ _ _ _ (Int.le_refl _) (by omega)
    | succ j => exact ih j
theorem bIn_one {ys : List Int} {d : Int} {B : List Int} (h0 : ∀ j, 0 ≤ el B j) : ∀ m a n, 1 ≤ a → 1 ≤ bIn ys d 1 0 B a n m := by
  intro m
  induction m with
  | zero => intro a n h; exact h
  | succ m ih =>
    intro a n h
    by_cases e : rnOk (ys.take n) d = true
    · rw [bIn_yes e]
      have h1 := h0 (n - 1)
      simp only [Int.zero_mul, Int.add_zero]
      exact ih _ _ (by omega)
    · rw [bIn_no (by simpa using e)]; exact h
/-- The law of the degree. -/
theorem fs_law {xs : List Int} {d : Nat} (hS : SM xs = true) (hd : d < 6) : 1 ≤ fsF xs ((d : Int) + 1) ∧ fsF xs ((d : Int) + 1) ≤ fsF xs d ∧ fsF xs d ≤ xs.length := by
  have hl := (TB_iff.1 (SM_TB hS)).1
  have e1 := (fsF_yes hS (show d ≤ 6 by omega)).1
  have e2 := (fsF_yes hS (show d + 1 ≤ 6 by omega)).1
  rw [show ((d : Int) + 1) = ((d + 1 : Nat) : Int) by omega, e1, e2]
  refine ⟨?_, bst_up (by omega) _ _, (bst_same hS (by omega) xs.length (Nat.le_refl _)).2⟩
  obtain ⟨k, hk⟩ : ∃ k, xs.length = k + 1 := ⟨xs.length - 1, by omega⟩
  rw [hk]
  exact bIn_one (fun j => (bst_bd (by omega) (by omega) k j).1) _ _ _ (by omega)
theorem fsH_pos {xs : List Int} {d : Nat} (hS : SM xs = true) (hd : d ≤ 6) : 1 ≤ fsF xs d := by
  have hl := (TB_iff.1 (SM_TB hS)).1
  rw [(fsF_yes hS hd).1]
  obtain ⟨k, hk⟩ : ∃ k, xs.length = k + 1 := ⟨xs.length - 1, by omega⟩
  rw [hk]
  exact bIn_one (fun j => (bst_bd (by omega) (by omega) k j).1) _ _ _ (by omega)
end Go.Proofs.Ytkiebajggombiaa
