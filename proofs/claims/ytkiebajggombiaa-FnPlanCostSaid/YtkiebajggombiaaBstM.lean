/- What is proved here: plain facts on the least cost of plans, place by place. No program in sight. -/
import Derived.Test.YtkiebajggombiaaLdM
set_option linter.unusedVariables false
set_option linter.unusedSimpArgs false
namespace Go.Proofs.Ytkiebajggombiaa
open Go.RowKit

/-- The least cost from a place on, while there is a run. -/
def bIn (ys : List Int) (d s c : Int) (B : List Int) : Int → Nat → Nat → Int
  | a, _, 0 => a
  | a, n, m + 1 => if rnOk (ys.take n) d then bIn ys d s c B (min a (s + c * ((rnL (ys.take n) d).length : Nat) + el B (n - 1))) (n + 1) m else a
theorem bIn_yes {ys : List Int} {d s c : Int} {B : List Int} {a : Int} {n m : Nat} (h : rnOk (ys.take n) d = true) : bIn ys d s c B a n (m + 1) = bIn ys d s c B (min a (s + c * ((rnL (ys.take n) d).length : Nat) + el B (n - 1))) (n + 1) m := by rw [bIn, if_pos h]
theorem bIn_no {ys : List Int} {d s c : Int} {B : List Int} {a : Int} {n m : Nat} (h : rnOk (ys.take n) d = false) : bIn ys d s c B a n (m + 1) = a := by rw [bIn, if_neg (by simp [h])]
/-- The least costs of the last places. -/
def bst (xs : List Int) (d s c : Int) : Nat → List Int
  | 0 => [0]
  | k + 1 => bIn (xs.drop (xs.length - (k + 1))) d s c (bst xs d s c k) 1099511627776 1 (k + 1) :: bst xs d s c k
theorem bst_len {xs : List Int} {d s c : Int} : ∀ k, (bst xs d s c k).length = k + 1 := by
  intro k; induction k with
  | zero => rfl
  | succ k ih => rw [bst, List.length_cons, ih]
theorem rnL_len {ys : List Int} {d : Int} : (rnL ys d).length ≤ 7 := by
  by_cases h : rnOk ys d = true
  · have h2 := h
    unfold rnOk at h2
    simp only [Bool.and_eq_true] at h2
    have h3 := h2.2
    have h4 := h3
    unfold ipOk at h4
    simp only [Bool.and_eq_true, decide_eq_true_eq] at h4
    unfold rnL
    rw [if_pos h, ipL_yes h3, fD_len, List.length_take]
    have : ipN ys ≤ 7 := by unfold ipN; omega
    omega
  · simp [rnL, h]
theorem bIn_bd {ys : List Int} {d s c : Int} {B : List Int} (hs : 0 ≤ s) (hc : 0 ≤ c) (hB : ∀ j, 0 ≤ el B j) : ∀ m a n, 0 ≤ a → 0 ≤ bIn ys d s c B a n m ∧ bIn ys d s c B a n m ≤ a := by
  intro m
  induction m with
  | zero => intro a n h; exact ⟨h, Int.le_refl _⟩
  | succ m ih =>
    intro a n h
    by_cases e : rnOk (ys.take n) d = true
    · rw [bIn_yes e]
      have h1 := hB (n - 1)
      have h2 : 0 ≤ c * ((rnL (ys.take n) d).length : Nat) := Int.mul_nonneg hc (by omega)
      have := ih (min a (s + c * ((rnL (ys.take n) d).length : Nat) + el B (n - 1))) (n + 1) (by omega)
      omega
    · rw [bIn_no (by simpa using e)]; omega
theorem bst_bd {xs : List Int} {d s c : Int} (hs : 0 ≤ s) (hc : 0 ≤ c) : ∀ k j, 0 ≤ el (bst xs d s c k) j ∧ el (bst xs d s c k) j ≤ 1099511627776 := by
  intro k
  induction k with
  | zero => intro j; cases j <;> simp [bst, el]
  | succ k ih =>
    intro j
    cases j with
    | zero => exact bIn_bd hs hc (fun j => (ih j).1) _ _ _ (by omega)
    | succ j => exact ih j
/-- The least number of runs from a place on, with no break. -/
def bNB (ys : List Int) (d : Int) (B : List Int) : Int → Nat → Nat → Int
  | a, _, 0 => a
  | a, n, m + 1 => bNB ys d B (if rnOk (ys.take n) d then min a (1 + el B (n - 1)) else a) (n + 1) m
theorem bNB_yes {ys : List Int} {d : Int} {B : List Int} {a : Int} {n m : Nat} (h : rnOk (ys.take n) d = true) : bNB ys d B a n (m + 1) = bNB ys d B (min a (1 + el B (n - 1))) (n + 1) m := by rw [bNB, if_pos h]
theorem bNB_no {ys : List Int} {d : Int} {B : List Int} {a : Int} {n m : Nat} (h : rnOk (ys.take n) d = false) : bNB ys d B a n (m + 1) = bNB ys d B a (n + 1) m := by rw [bNB, if_neg (by simp [h])]
def bsN (xs : List Int) (d : Int) : Nat → List Int
  | 0 => [0]
  | k + 1 => bNB (xs.drop (xs.length - (k + 1))) d (bsN xs d k) 61 1 (k + 1) :: bsN xs d k
theorem bNB_skip {ys : List Int} {d : Int} {B : List Int} : ∀ m a n, (∀ j, n ≤ j → j < n + m → rnOk (ys.take j) d = false) → bNB ys d B a n m = a := by
  intro m
  induction m with
  | zero => intro a n _; rfl
  | succ m ih => intro a n h; rw [bNB_no (h n (Nat.le_refl _) (by omega))]; exact ih a (n + 1) fun j a b => h j (by omega) (by omega)
theorem bNB_same {ys : List Int} {d : Nat} {B : List Int} (hm : ∀ n, 1 ≤ n → n < ys.length → rnOk (ys.take (n + 1)) d = true → rnOk (ys.take n) d = true) :
    ∀ m a n, 1 ≤ n → n + m ≤ ys.length + 1 → bNB ys d B a n m = bIn ys d 1 0 B a n m := by
  intro m
  induction m with
  | zero => intro a n _ _; rfl
  | succ m ih =>
    intro a n h1 h2
    by_cases e : rnOk (ys.take n) d = true
    · rw [bNB_yes e, bIn_yes e, Int.zero_mul, Int.add_zero]
      exact ih _ (n + 1) (by omega) (by omega)
    · have e' : rnOk (ys.take n) d = false := by simpa using e
      rw [bIn_no e']
      refine bNB_skip _ _ _ ?_
      have key : ∀ t, n + t ≤ ys.length → rnOk (ys.take (n + t)) d = false := by
        intro t
        induction t with
        | zero => intro _; exact e'
        | succ t ih2 =>
          intro h3
          rw [← Bool.not_eq_true]
          intro h4
          have := hm (n + t) (by omega) (by omega) h4
          rw [ih2 (by omega)] at this; cases this
      intro j a b
      have := key (j - n) (by omega)
      rwa [show n + (j - n) = j by omega] at this
theorem rn_one {ys : List Int} (hT : TB ys = true) (hb : Bd 1500 ys) {d : Nat} (hd : d ≤ 6) : rnOk (ys.take 1) d = true := by
  rw [rn_small (TB_take hT (by omega)) (Bd_take hb _) hd, az_iff]
  intro k hk
  rw [dN_len, List.length_take] at hk
  omega
theorem bst_same {xs : List Int} (h : SM xs = true) {d : Nat} (hd : d ≤ 6) : ∀ k, k ≤ xs.length → bsN xs d k = bst xs d 1 0 k ∧ el (bst xs d 1 0 k) 0 ≤ k := by
  have hT := SM_TB h
  have hl := (TB_iff.1 hT).2.1
  intro k
  induction k with
  | zero => intro _; exact ⟨rfl, by simp [bst, el]⟩
  | succ k ih =>
    intro hk
    obtain ⟨e1, e2⟩ := ih (by omega)
    have hT2 := TB_drop hT (n := xs.length - (k + 1)) (by omega)
    have hB2 := Bd_drop (SM_Bd h) (xs.length - (k + 1))
    have hlen : (xs.drop (xs.length - (k + 1))).length = k + 1 := by rw [List.length_drop]; omega
    rw [bsN, bst, e1]
    have h1 := rn_one hT2 hB2 hd
    generalize xs.drop (xs.length - (k + 1)) = ys at *
    have h0 := (bst_bd (xs := xs) (d := d) (s := 1) (c := 0) (by omega) (by omega) k 0).1
    rw [bNB_yes h1, bIn_yes h1, Int.zero_mul, Int.add_zero, Nat.sub_self]
    have m1 : min 61 (1 + el (bst xs d 1 0 k) 0) = 1 + el (bst xs d 1 0 k) 0 := by omega
    have m2 : min 1099511627776 (1 + el (bst xs d 1 0 k) 0) = 1 + el (bst xs d 1 0 k) 0 := by omega
    rw [m1, m2]
    refine ⟨by rw [bNB_same (fun n a b => rn_mono hT2 hB2 hd a b) _ _ _ (by omega) (by omega)], ?_⟩
    have h3 := (bIn_bd (ys := ys) (d := d) (s := 1) (c := 0) (B := bst xs d 1 0 k) (by omega) (by omega) (fun j => (bst_bd (by omega) (by omega) k j).1) k (1 + el (bst xs d 1 0 k) 0) 2 (by omega)).2
    show bIn ys d 1 0 (bst xs d 1 0 k) (1 + el (bst xs d 1 0 k) 0) 2 k ≤ _
    omega
/-- With how many runs a table can be planned. -/
def fsF (xs : List Int) (d : Int) : Int := if SM xs && inB d 0 6 then el (bst xs d 1 0 xs.length) 0 else -1
theorem fsF_no {xs : List Int} {d : Int} (h : SM xs = false ∨ inB d 0 6 = false) : fsF xs d = -1 := by
  unfold fsF; rw [if_neg]; rcases h with h | h <;> simp [h]
theorem fsF_yes {xs : List Int} {d : Nat} (h : SM xs = true) (hd : d ≤ 6) : fsF xs d = el (bst xs d 1 0 xs.length) 0 ∧ fsF xs d = el (bsN xs d xs.length) 0 := by
  have h1 : fsF xs d = el (bst xs d 1 0 xs.length) 0 := by
    unfold fsF; rw [h, inB_yes (by omega) (by omega)]; rfl
  exact ⟨h1, by rw [h1, (bst_same h hd xs.length (Nat.le_refl _)).1]⟩
end Go.Proofs.Ytkiebajggombiaa
