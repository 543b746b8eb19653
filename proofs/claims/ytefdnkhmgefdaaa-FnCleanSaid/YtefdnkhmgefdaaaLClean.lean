/- What is proved here: the walk of laws.FnClean. -/
import Derived.Test.YtefdnkhmgefdaaaDraw3
import Derived.Test.YtefdnkhmgefdaaaLdg
import Derived.Test.YtefdnkhmgefdaaaLaws1
set_option linter.unusedVariables false
set_option linter.unusedSimpArgs false
namespace Go.Proofs.Ytefdnkhmgefdaaa
open Go.RowKit

theorem az_dF {xs : List Int} (h : az xs = true) : az (dF xs) = true := by
  rw [az_iff] at h ⊢
  intro k hk
  rw [dF_len] at hk
  rw [dF_el (by omega), h _ (by omega), h _ (by omega)]
  rfl
theorem az_up {xs : List Int} {i : Nat} (h : az (dN xs i) = true) : ∀ d, az (dN xs (i + d)) = true := by
  intro d
  induction d with
  | zero => exact h
  | succ d ih => exact az_dF ih
theorem ldG_spec (xs : List Int) : ∀ n i, (ldG xs i n = 7 ∧ ∀ j, i ≤ j → j < i + n → az (dN xs j) = false) ∨ (∃ j : Nat, i ≤ j ∧ j < i + n ∧ ldG xs i n = (j : Int) - 1 ∧ az (dN xs j) = true ∧ ∀ k, i ≤ k → k < j → az (dN xs k) = false) := by
  intro n
  induction n with
  | zero => intro i; exact .inl ⟨rfl, fun j h1 h2 => by omega⟩
  | succ n ih =>
    intro i
    by_cases h : az (dN xs i) = true
    · exact .inr ⟨i, Nat.le_refl _, by omega, ldG_hit h, h, fun k h1 h2 => by omega⟩
    · have h' : az (dN xs i) = false := by simpa using h
      rw [ldG_miss h']
      rcases ih (i + 1) with ⟨h1, h2⟩ | ⟨j, h1, h2, h3, h4, h5⟩
      · exact .inl ⟨h1, fun j a b => by by_cases e : j = i; subst e; exact h'; exact h2 j (by omega) (by omega)⟩
      · exact .inr ⟨j, by omega, by omega, h3, h4, fun k a b => by by_cases e : k = i; subst e; exact h'; exact h5 k (by omega) b⟩
/-- A table is clean for a degree from its least degree on. -/
theorem clean_ld (xs : List Int) (d : Int) : -2 ≤ ldF xs ∧ ldF xs ≤ 7 ∧ (cleanF xs d = true ↔ -1 ≤ ldF xs ∧ ldF xs ≤ d ∧ 0 ≤ d ∧ d ≤ 6) := by
  by_cases hT : TB xs = true
  · rw [ldF_yes hT]
    have hc : cleanF xs d = true ↔ (0 ≤ d ∧ d ≤ 6) ∧ az (dN xs (d.toNat + 1)) = true := by
      unfold cleanF; rw [hT, Bool.true_and, Bool.and_eq_true, inB_iff]
    rw [hc]
    rcases ldG_spec xs 8 0 with ⟨h1, h2⟩ | ⟨j, h1, h2, h3, h4, h5⟩
    · rw [h1]
      refine ⟨by omega, by omega, ⟨fun h => ?_, fun h => by omega⟩⟩
      have := h2 (d.toNat + 1) (by omega) (by omega)
      rw [this] at h; cases h.2
    · rw [h3]
      refine ⟨by omega, by omega, ⟨fun h => ?_, fun h => ?_⟩⟩
      · refine ⟨by omega, ?_, by omega, by omega⟩
        by_cases e : j ≤ d.toNat + 1
        · omega
        · have := h5 (d.toNat + 1) (by omega) (by omega)
          rw [this] at h; cases h.2
      · refine ⟨by omega, ?_⟩
        have := az_up h4 (d.toNat + 1 - j)
        rwa [show j + (d.toNat + 1 - j) = d.toNat + 1 by omega] at this
  · have hT' : TB xs = false := by simpa using hT
    rw [ldF_no hT']
    refine ⟨by omega, by omega, ⟨fun h => ?_, fun h => by omega⟩⟩
    unfold cleanF at h; rw [hT'] at h; cases h

set_option maxRecDepth 100000 in
set_option maxHeartbeats 800000 in
theorem w_FnClean (w : World) (v : Value) (nb : Nat) (hv : IsBy w w.heap.size v nb) :
    Calls Try.prog 10 #[v] w fun e w' => e = .returned (.bool true) ∧ Below w.heap.size w w' := by
  obtain ⟨a, cap, hva, hm, hc⟩ := id hv
  subst hva
  unfold maxLen at hm
  clear hc
  by_cases hbig : 1048576 < nb
  · clear hv
    go_enter Try.func10, Try.ntmps10
    go_wp2_with fail
    go_ret
    exact ⟨rfl, Below.refl _ _⟩
  · go_enter Try.func10, Try.ntmps10
    go_wp2_with fail
    refine (c_DrawCleanTable _ _ _ hv).mono ?_
    rintro e w1 ⟨vx, xs, d, rfl, hd, hx, b⟩
    have s1 := b.size
    clear hv
    go_wp2_with fail
    refine (c_iCleanTable _ _ xs hx d).mono ?_
    rintro e w3 ⟨rfl, c⟩
    have s3 := c.size
    replace hx := hx.below c (by omega)
    replace b := b.trans (c.mono (by omega))
    clear c
    go_wp2_with fail
    refine (c_sCleanTable _ _ xs (hx.up (by omega)) d).mono ?_
    rintro e w4 ⟨rfl, c⟩
    have s4 := c.size
    replace hx := hx.below c (by omega)
    replace b := b.trans (c.mono (by omega))
    clear c
    obtain ⟨l0, l1, h⟩ := clean_ld xs d
    have HC := hid h
    clear h hd
    by_cases hcl : cleanF xs d = true
    · have t1 : (true != true) = false := rfl
      obtain ⟨k1, k2, k3, k4⟩ := HC.out.1 hcl
      rw [hcl]
      clear hcl HC
      go_wp2_with fail
      refine (c_iLeastDegree _ _ xs (hx.up (by omega))).mono ?_
      rintro e w5 ⟨rfl, c⟩
      have s5 := c.size
      replace hx := hx.below c (by omega)
      replace b := b.trans (c.mono (by omega))
      clear c
      generalize ldF xs = K at *
      by_cases h0 : 0 ≤ K
      · have hm : max K 0 = K := by omega
        have k5 : K ≤ 6 := by omega
        go_wp2_with fail
        go_ret
        exact ⟨rfl, b⟩
      · have hm : max K 0 = 0 := by omega
        have k5 : K ≤ 6 := by omega
        go_wp2_with fail
        go_ret
        exact ⟨rfl, b⟩
    · have hcl' : cleanF xs d = false := by simpa using hcl
      have t1 : (false != false) = false := rfl
      have HN := hid (show ¬ (-1 ≤ ldF xs ∧ ldF xs ≤ d ∧ 0 ≤ d ∧ d ≤ 6) from fun h => hcl (HC.out.2 h))
      rw [hcl']
      clear hcl HC hcl'
      go_wp2_with fail
      refine (c_iLeastDegree _ _ xs (hx.up (by omega))).mono ?_
      rintro e w6 ⟨rfl, c⟩
      have s6 := c.size
      replace hx := hx.below c (by omega)
      replace b := b.trans (c.mono (by omega))
      clear c
      generalize ldF xs = K at *
      by_cases h1 : -1 ≤ K
      · by_cases h0 : 0 ≤ K
        · have hm : max K 0 = K := by omega
          by_cases h2 : K ≤ d
          · have h3 : ¬ d ≤ 6 := by have := HN.out; omega
            go_wp2_with fail
            go_ret
            exact ⟨rfl, b⟩
          · go_wp2_with fail
            go_ret
            exact ⟨rfl, b⟩
        · have hm : max K 0 = 0 := by omega
          by_cases h2 : 0 ≤ d
          · have h3 : ¬ d ≤ 6 := by have := HN.out; omega
            go_wp2_with fail
            go_ret
            exact ⟨rfl, b⟩
          · go_wp2_with fail
            go_ret
            exact ⟨rfl, b⟩
      · go_wp2_with fail
        go_ret
        exact ⟨rfl, b⟩
end Go.Proofs.Ytefdnkhmgefdaaa
