/- What is proved here: the laws' deRun asks what rnOk says. -/
import Derived.Test.YtahbfcnailfkoaaRun
set_option linter.unusedVariables false
set_option linter.unusedSimpArgs false
namespace Go.Proofs.Ytahbfcnailfkoaa
open Go.RowKit

theorem rnOk_three (xs : List Int) (d : Int) : rnOk xs d = (decide (-1 ≤ ldF xs) && (decide (ldF xs ≤ d) && ipOk xs)) := by
  by_cases hT : TB xs = true
  · rw [rnOk_ld, decide_eq_true (ld_bd hT).1, Bool.true_and]
  · have hT' : TB xs = false := by simpa using hT
    rw [(rn_m2 (ldF_no hT')).1, ldF_no hT']; rfl
theorem lgD_spec {ys : List Int} {d : Int} : ∀ m, lgD ys d m ≤ m ∧ (0 < lgD ys d m → rnOk (ys.take (lgD ys d m)) d = true) ∧ ∀ k, lgD ys d m < k → k ≤ m → rnOk (ys.take k) d = false := by
  intro m
  induction m with
  | zero => exact ⟨Nat.le_refl _, fun h => by simp [lgD] at h, fun k a b => by omega⟩
  | succ m ih =>
    obtain ⟨i1, i2, i3⟩ := ih
    by_cases e : rnOk (ys.take (m + 1)) d = true
    · rw [lgD_yes e]; exact ⟨Nat.le_refl _, fun _ => e, fun k a b => by omega⟩
    · have e' : rnOk (ys.take (m + 1)) d = false := by simpa using e
      rw [lgD_no e']
      refine ⟨by omega, i2, fun k a b => ?_⟩
      by_cases e2 : k = m + 1
      · subst e2; exact e'
      · exact i3 k a (by omega)
/-- The law of the longest run. -/
theorem lr_law {xs : List Int} {f d : Nat} (hS : SM xs = true) (hd : d ≤ 6) (hf : f ≤ xs.length) :
    ∃ n : Nat, lrF xs f d = n ∧ f + n ≤ xs.length ∧ ∀ k, 1 ≤ k → f + k ≤ xs.length → rnOk ((xs.drop f).take k) d = decide (k ≤ n) := by
  have h1 : lrF xs f d = (lgD (xs.drop f) d (xs.length - f) : Nat) := by
    unfold lrF; rw [hS, inB_yes (by omega) (by omega), inB_yes (by omega) (by omega)]; rfl
  obtain ⟨g1, g2, g3⟩ := lgD_spec (ys := xs.drop f) (d := d) (xs.length - f)
  refine ⟨_, h1, by omega, fun k a b => ?_⟩
  generalize hn : lgD (xs.drop f) d (xs.length - f) = n at *
  by_cases e : k ≤ n
  · rw [decide_eq_true e]
    have hT := TB_drop (SM_TB hS) (n := f) (by omega)
    have hB := Bd_drop (SM_Bd hS) f
    have hlen : (xs.drop f).length = xs.length - f := by simp
    have key : ∀ t, t < n → rnOk ((xs.drop f).take (n - t)) d = true := by
      intro t
      induction t with
      | zero => intro h; exact g2 h
      | succ t ih =>
        intro h
        have h2 := ih (by omega)
        rw [show n - t = (n - (t + 1)) + 1 by omega] at h2
        exact rn_mono hT hB hd (by omega) (by omega) h2
    have := key (n - k) (by omega)
    rwa [show n - (n - k) = k by omega] at this
  · rw [decide_eq_false e]; exact g3 k (by omega) (by omega)
theorem lr_neg {xs : List Int} {f d : Int} : lrF xs f d = -1 ∨ (SM xs = true ∧ (0 ≤ d ∧ d ≤ 6) ∧ (0 ≤ f ∧ f ≤ xs.length)) := by
  by_cases h : SM xs = true
  · by_cases h2 : inB d 0 6 = true
    · by_cases h3 : inB f 0 xs.length = true
      · exact .inr ⟨h, inB_iff.1 h2, inB_iff.1 h3⟩
      · refine .inl ?_; unfold lrF; rw [if_neg (by simp [h3])]
    · refine .inl ?_; unfold lrF; rw [if_neg (by simp [h2])]
  · refine .inl ?_; unfold lrF; rw [if_neg (by simp [h])]
theorem c_deRun (w : World) (v : Value) (xs : List Int) (hv : IsI w w.heap.size v xs) (d : Int) :
    Calls Try.prog 50 #[v, .int .i64 d] w fun e w' => e = .returned (.bool (rnOk xs d)) ∧ Below w.heap.size w w' := by
  have H3 := hid (rnOk_three xs d)
  obtain ⟨K, hK⟩ : ∃ K, ldF xs = K := ⟨_, rfl⟩
  have HK := hid hK
  clear hK
  have H4 := hid (show rnOk xs d = (decide (-1 ≤ K) && (decide (K ≤ d) && ipOk xs)) by rw [H3.out, HK.out])
  clear H3
  by_cases h1 : -1 ≤ K
  · by_cases h2 : K ≤ d
    · have HR := hid (show rnOk xs d = ipOk xs by rw [H4.out, decide_eq_true h1, decide_eq_true h2]; rfl)
      rw [HR.out]
      go_enter Try.func50, Try.ntmps50
      go_wp2_with fail
      refine (c_iLeastDegree _ _ xs hv).mono ?_
      rw [HK.out]
      rintro e w1 ⟨rfl, b1⟩
      have s1 := b1.size
      go_wp2_with fail
      refine (c_iInterpolate _ _ xs ((hv.below b1 (Nat.le_refl _)).up s1)).mono ?_
      rintro e w2 ⟨v2, rfl, r2, b2⟩
      go_wp2
      go_ret
      exact ⟨rfl, b1.trans (b2.mono s1)⟩
    · have HR := hid (show rnOk xs d = false by rw [H4.out, decide_eq_false h2, Bool.false_and, Bool.and_false])
      rw [HR.out]
      go_enter Try.func50, Try.ntmps50
      go_wp2_with fail
      refine (c_iLeastDegree _ _ xs hv).mono ?_
      rw [HK.out]
      rintro e w1 ⟨rfl, b1⟩
      have s1 := b1.size
      go_wp2_with fail
      refine (c_iInterpolate _ _ xs ((hv.below b1 (Nat.le_refl _)).up s1)).mono ?_
      rintro e w2 ⟨v2, rfl, r2, b2⟩
      go_wp2
      go_ret
      exact ⟨rfl, b1.trans (b2.mono s1)⟩
  · have HR := hid (show rnOk xs d = false by rw [H4.out, decide_eq_false h1, Bool.false_and])
    rw [HR.out]
    go_enter Try.func50, Try.ntmps50
    go_wp2_with fail
    refine (c_iLeastDegree _ _ xs hv).mono ?_
    rw [HK.out]
    rintro e w1 ⟨rfl, b1⟩
    have s1 := b1.size
    go_wp2_with fail
    refine (c_iInterpolate _ _ xs ((hv.below b1 (Nat.le_refl _)).up s1)).mono ?_
    rintro e w2 ⟨v2, rfl, r2, b2⟩
    go_wp2
    go_ret
    exact ⟨rfl, b1.trans (b2.mono s1)⟩
end Go.Proofs.Ytahbfcnailfkoaa
