/- What is proved here: plain facts of the numbers that a column of so many wheels can hold, and of an engine that is set up for a polynomial. No program in sight. -/
import Derived.Test.YtlinkeemccnfmaaGreatDoorShf
import Derived.Test.YtlinkeemccnfmaaGreatDoorSlM
set_option linter.unusedVariables false
set_option linter.unusedSimpArgs false
namespace Go.Proofs.YtlinkeemccnfmaaGreatDoor
open Go.RowKit

/-- Whether a number fits in so many wheels. -/
def cofB (n wd : Int) : Bool := inB wd 1 12 && decide (-(ten wd.toNat / 2) ≤ n ∧ n < ten wd.toNat / 2)
/-- The column of a number. -/
def cofS (n wd : Int) : ByteArray := if cofB n wd then shB (md n (ten wd.toNat)) wd.toNat else ⟨#[]⟩
theorem cofB_iff {n : Int} {k : Nat} : cofB n k = true ↔ (1 ≤ k ∧ k ≤ 12) ∧ -(ten k / 2) ≤ n ∧ n < ten k / 2 := by
  unfold cofB
  rw [Bool.and_eq_true, inB_iff, decide_eq_true_eq, Int.toNat_natCast]
  omega
theorem cofB_wd {n wd : Int} (h : cofB n wd = true) : 1 ≤ wd ∧ wd ≤ 12 := by
  unfold cofB at h
  rw [Bool.and_eq_true, inB_iff] at h
  exact h.1
theorem cofB_bad {n wd : Int} (h : inB wd 1 12 = false) : cofB n wd = false := by unfold cofB; rw [h]; rfl
theorem cofS_yes {n wd : Int} (h : cofB n wd = true) : cofS n wd = shB (md n (ten wd.toNat)) wd.toNat := if_pos h
theorem cofS_no {n wd : Int} (h : cofB n wd = false) : cofS n wd = ⟨#[]⟩ := by unfold cofS; rw [h]; rfl
theorem cofS_size {n wd : Int} : (cofS n wd).size ≤ 12 := by
  by_cases h : cofB n wd = true
  · rw [cofS_yes h, shB_size]
    have := cofB_wd h
    omega
  · rw [cofS_no (by simpa using h)]; exact Nat.zero_le _
theorem ten_half {k : Nat} (h : 1 ≤ k) : ten k = 2 * (ten k / 2) := by
  obtain ⟨j, rfl⟩ : ∃ j, k = j + 1 := ⟨k - 1, by omega⟩
  rw [ten_succ]; omega
theorem cofB_mono {n : Int} {a b : Nat} (h : cofB n a = true) (hab : a ≤ b) (hb : b ≤ 12) : cofB n b = true := by
  rw [cofB_iff] at *
  have e : ten a ≤ ten b := by
    have := ten_mono hab
    exact this
  omega
/-- Whether an engine can be set up. -/
def suB (p : List Int) (n wd : Int) : Bool := shOk p n && decide (∀ k, k < p.length → cofB (el (shQ p n) k) wd = true)
/-- The engine's columns. -/
def suC (p : List Int) (n wd : Int) : List ByteArray := if suB p n wd then (shQ p n).map (fun d => cofS d wd) else []
theorem suB_iff {p : List Int} {n wd : Int} : suB p n wd = true ↔ shOk p n = true ∧ ∀ k, k < p.length → cofB (el (shQ p n) k) wd = true := by
  unfold suB; rw [Bool.and_eq_true, decide_eq_true_eq]
theorem suB_no {p : List Int} {n wd : Int} (h : shOk p n = false) : suB p n wd = false := by unfold suB; rw [h]; rfl
theorem suB_at {p : List Int} {n wd : Int} {k : Nat} (hk : k < p.length) (h : cofB (el (shQ p n) k) wd = false) : suB p n wd = false := by
  by_cases g : suB p n wd = true
  · have := (suB_iff.1 g).2 k hk; rw [h] at this; cases this
  · simpa using g
theorem suC_no {p : List Int} {n wd : Int} (h : suB p n wd = false) : suC p n wd = [] := by unfold suC; rw [h]; rfl
theorem suC_yes {p : List Int} {n wd : Int} (h : suB p n wd = true) : suC p n wd = (shQ p n).map (fun d => cofS d wd) := if_pos h
theorem suC_len {p : List Int} {n wd : Int} (h : suB p n wd = true) : (suC p n wd).length = p.length := by rw [suC_yes h, List.length_map, shQ_len]
theorem suC_at {p : List Int} {n wd : Int} (h : suB p n wd = true) {k : Nat} (hk : k < p.length) : tC (suC p n wd) k = cofS (el (shQ p n) k) wd := by
  have hk2 : k < (shQ p n).length := by rw [shQ_len]; exact hk
  rw [tC_lt (by rw [suC_len h]; exact hk), el_lt hk2]
  simp [suC_yes h]
end Go.Proofs.YtlinkeemccnfmaaGreatDoor
