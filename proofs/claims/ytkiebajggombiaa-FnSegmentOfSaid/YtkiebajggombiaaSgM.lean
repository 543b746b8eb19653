/- What is proved here: the polynomial of a run has the entries as values. No program in sight. -/
import Derived.Test.YtkiebajggombiaaCutM
set_option linter.unusedVariables false
set_option linter.unusedSimpArgs false
namespace Go.Proofs.Ytkiebajggombiaa
open Go.RowKit

theorem ch_pascal : ∀ i, i < 60 → ∀ k, k < 6 → chF ((i : Nat) + 1 : Int) (k + 1) = chF ((i : Nat) : Int) (k + 1) + chF ((i : Nat) : Int) k := by decide
theorem ch_none : ∀ k, k < 7 → chF 0 k = if k = 0 then 1 else 0 := by decide
theorem ch_first (n : Int) : chF n 0 = 1 := rfl
/-- The sum of the first n terms over the numbers A from o on. -/
def sT (A : Nat → Int) (i : Int) (o : Nat) : Nat → Int
  | 0 => 0
  | n + 1 => sT A i o n + A (o + n) * chF i n
theorem sT_zero (A : Nat → Int) (o : Nat) : ∀ n, n ≤ 7 → sT A 0 o n = if n = 0 then 0 else A o := by
  intro n
  induction n with
  | zero => intro _; rfl
  | succ n ih =>
    intro h
    rw [sT, ih (by omega), ch_none n (by omega)]
    by_cases e : n = 0
    · subst e; simp
    · simp [e]
theorem sT_next (A : Nat → Int) (o : Nat) {i : Nat} (hi : i < 60) : ∀ n, n ≤ 6 → sT A ((i : Int) + 1) o (n + 1) = sT A i o (n + 1) + sT A i (o + 1) n := by
  intro n
  induction n with
  | zero => intro _; simp [sT, ch_first]
  | succ n ih =>
    intro h
    rw [sT, ih (by omega), ch_pascal i hi n (by omega), Int.mul_add]
    rw [show sT A (i : Int) o (n + 1 + 1) = sT A i o (n + 1) + A (o + (n + 1)) * chF i (n + 1) from rfl, show sT A (i : Int) (o + 1) (n + 1) = sT A i (o + 1) n + A (o + 1 + n) * chF i n from rfl]
    rw [show o + (n + 1) = o + 1 + n by omega]
    omega
/-- Newton's formula, where the differences of order 7 are 0. -/
theorem newton {ys : List Int} (hl : ys.length ≤ 60) (hz : ∀ k, 7 ≤ k → el (dN ys k) 0 = 0) : ∀ i o, o + i < ys.length → el (dN ys o) i = sT (fun k => el (dN ys k) 0) i o 7 := by
  intro i
  induction i with
  | zero => intro o h; rw [show ((0 : Nat) : Int) = 0 from rfl, sT_zero _ _ 7 (Nat.le_refl _)]; rfl
  | succ i ih =>
    intro o h
    have h1 := ih o (by omega)
    have h2 := ih (o + 1) (by omega)
    have h3 := dF_el (xs := dN ys o) (k := i) (by rw [dN_len]; omega)
    have h4 := sT_next (fun k => el (dN ys k) 0) o (i := i) (by omega) 6 (Nat.le_refl _)
    rw [show ((i + 1 : Nat) : Int) = (i : Int) + 1 by omega, h4, ← h1]
    have h5 : sT (fun k => el (dN ys k) 0) i (o + 1) 7 = sT (fun k => el (dN ys k) 0) i (o + 1) 6 := by
      rw [show sT (fun k => el (dN ys k) 0) (i : Int) (o + 1) 7 = sT (fun k => el (dN ys k) 0) i (o + 1) 6 + el (dN ys (o + 1 + 6)) 0 * chF i 6 from rfl, hz _ (by omega), Int.zero_mul, Int.add_zero]
    rw [← h5, ← h2]
    rw [show dN ys (o + 1) = dF (dN ys o) from rfl, h3]; omega
theorem sT_cut {A : Nat → Int} {i : Int} {m : Nat} : ∀ n, m ≤ n → (∀ k, m ≤ k → A k = 0) → sT A i 0 n = sT A i 0 m := by
  intro n
  induction n with
  | zero => intro h _; rw [show m = 0 by omega]
  | succ n ih =>
    intro h hz
    by_cases e : m = n + 1
    · rw [e]
    · rw [sT, ih (by omega) hz, Nat.zero_add, hz n (by omega), Int.zero_mul, Int.add_zero]
theorem evT_sT {p : List Int} {i : Int} {A : Nat → Int} : ∀ n, (∀ k, k < n → el p k = A k) → evT p i n = sT A i 0 n := by
  intro n
  induction n with
  | zero => intro _; rfl
  | succ n ih => intro h; rw [evT, sT, ih (fun k hk => h k (by omega)), h n (by omega), Nat.zero_add]
/-- The law of a segment. -/
theorem seg_law {ys : List Int} (hS : SM ys = true) {d : Nat} (hd : d ≤ 6) (hr : rnOk ys d = true) :
    PV (rnL ys d) = true ∧ (rnL ys d).length ≤ ys.length ∧ degF (rnL ys d) ≤ d ∧ ∀ i, i < ys.length → evF (rnL ys d) i = el ys i := by
  have hT := SM_TB hS
  have hz := hr
  rw [rn_small hT (SM_Bd hS) hd] at hz
  have hr2 := hr
  unfold rnOk at hr2
  simp only [Bool.and_eq_true, decide_eq_true_eq] at hr2
  obtain ⟨hld, hip⟩ := hr2
  have hL : rnL ys d = fD (ys.take (ipN ys)) := by unfold rnL; rw [if_pos hr, ipL_yes hip]
  have hip2 := hip
  unfold ipOk at hip2
  simp only [Bool.and_eq_true, decide_eq_true_eq] at hip2
  obtain ⟨-, hl6, hPV⟩ := hip2
  obtain ⟨b1, b2, b3⟩ := ld_bd hT
  obtain ⟨m0, m1, m2⟩ := b3 hl6
  have hlen : (rnL ys d).length = ipN ys := by rw [hL, fD_len, List.length_take]; omega
  have hn : ipN ys = (max (ldF ys) 0).toNat + 1 := rfl
  have hPV2 : PV (rnL ys d) = true := by rw [hL]; exact hPV
  have hlow : az (dN ys (ipN ys)) = true := (ld_le hT (d := ipN ys) m2).1 (by omega)
  have hA : ∀ k, ipN ys ≤ k → el (dN ys k) 0 = 0 := by
    intro k hk
    have := az_up2 hlow (k - ipN ys)
    rw [show ipN ys + (k - ipN ys) = k by omega, az_iff] at this
    rcases Nat.lt_or_ge 0 (dN ys k).length with h | h
    · exact this 0 h
    · exact el_ge h
  refine ⟨hPV2, by omega, ?_, fun i hi => ?_⟩
  · rcases degF_bd (rnL ys d) with h | h
    · have := h.2; omega
    · rw [h.2]; omega
  · have h1 := newton (SM_iff.1 hS).2.1 (fun k hk => hA k (by omega)) i 0 (by omega)
    rw [show dN ys 0 = ys from rfl] at h1
    rw [h1, sT_cut 7 m2 hA]
    unfold evF
    rw [hlen]
    refine evT_sT _ fun k hk => ?_
    rw [hL, fD_el (by rw [List.length_take]; omega), dN_take, el_take (by omega)]
end Go.Proofs.Ytkiebajggombiaa
