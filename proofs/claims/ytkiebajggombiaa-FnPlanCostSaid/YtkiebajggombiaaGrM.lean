/- What is proved here: plain facts on plans by longest runs. No program in sight. -/
import Derived.Test.YtkiebajggombiaaCutM
import Derived.Test.YtkiebajggombiaaPlnM
set_option linter.unusedVariables false
set_option linter.unusedSimpArgs false
namespace Go.Proofs.Ytkiebajggombiaa
open Go.RowKit

theorem lgD_spec {ys : List Int} {d : Int} : ∀ n, lgD ys d n ≤ n ∧ (1 ≤ lgD ys d n → rnOk (ys.take (lgD ys d n)) d = true) ∧ ∀ j, lgD ys d n < j → j ≤ n → rnOk (ys.take j) d = false := by
  intro n
  induction n with
  | zero => exact ⟨Nat.le_refl _, fun h => by simp [lgD] at h, fun j a b => by omega⟩
  | succ n ih =>
    obtain ⟨i1, i2, i3⟩ := ih
    by_cases e : rnOk (ys.take (n + 1)) d = true
    · rw [lgD_yes e]; exact ⟨Nat.le_refl _, fun _ => e, fun j a b => by omega⟩
    · have e' : rnOk (ys.take (n + 1)) d = false := by simpa using e
      rw [lgD_no e']
      refine ⟨by omega, i2, fun j a b => ?_⟩
      by_cases e2 : j = n + 1
      · subst e2; exact e'
      · exact i3 j a (by omega)
/-- How many entries the longest run at the head has. -/
def lgN (ys : List Int) (d : Int) : Nat := lgD ys d ys.length
theorem lgN_spec {ys : List Int} (hS : SM ys = true) {d : Nat} (hd : d ≤ 6) : 1 ≤ lgN ys d ∧ lgN ys d ≤ ys.length ∧ rnOk (ys.take (lgN ys d)) d = true ∧ ∀ j, lgN ys d < j → j ≤ ys.length → rnOk (ys.take j) d = false := by
  obtain ⟨h1, h2, h3⟩ := lgD_spec (ys := ys) (d := d) ys.length
  have h60 := (SM_iff.1 hS).1
  have hp : 1 ≤ lgD ys d ys.length := by
    rcases Nat.lt_or_ge (lgD ys d ys.length) 1 with h | h
    · have := h3 1 h h60
      rw [rn_one (SM_TB hS) (SM_Bd hS) hd] at this; cases this
    · exact h
  exact ⟨hp, h1, h2 hp, h3⟩
theorem lgN_U {ys : List Int} (hS : SM ys = true) {d : Nat} (hd : d ≤ 6) : lgU ys d 0 ys.length = lgN ys d :=
  lg_same fun n a b c => rn_mono (SM_TB hS) (SM_Bd hS) hd a b c
/-- The plan by longest runs. -/
def grF (d : Int) : Nat → List Int → List (Int × List Int)
  | 0, _ => []
  | f + 1, ys => if ys.length = 0 then [] else (((lgN ys d : Nat) : Int), rnL (ys.take (lgN ys d)) d) :: grF d f (ys.drop (lgN ys d))
theorem grF_step {d : Int} {f : Nat} {ys : List Int} (h : ys.length ≠ 0) : grF d (f + 1) ys = (((lgN ys d : Nat) : Int), rnL (ys.take (lgN ys d)) d) :: grF d f (ys.drop (lgN ys d)) := by rw [grF, if_neg h]
theorem grF_fuel {d : Nat} (hd : d ≤ 6) : ∀ m f (ys : List Int), f ≤ m → (ys = [] ∨ SM ys = true) → ys.length ≤ f → grF d f ys = grF d ys.length ys := by
  intro m
  induction m with
  | zero => intro f ys h1 _ h2; rw [show f = 0 by omega, show ys.length = 0 by omega]
  | succ m ih =>
    intro f ys h1 hS h2
    cases f with
    | zero => rw [show ys.length = 0 by omega]
    | succ f =>
      by_cases h0 : ys.length = 0
      · rw [List.eq_nil_of_length_eq_zero h0]; rfl
      · obtain ⟨k, hk⟩ : ∃ k, ys.length = k + 1 := ⟨ys.length - 1, by omega⟩
        rcases hS with rfl | hS
        · exact absurd rfl h0
        · obtain ⟨l1, l2, l3, l4⟩ := lgN_spec hS hd
          rw [hk, grF_step h0, grF_step h0]
          have hz : ys.drop (lgN ys d) = [] ∨ SM (ys.drop (lgN ys d)) = true := by
            by_cases e : lgN ys d < ys.length
            · exact .inr (SM_drop hS e)
            · exact .inl (List.drop_eq_nil_of_le (by omega))
          have e1 := ih f (ys.drop (lgN ys d)) (by omega) hz (by rw [List.length_drop]; omega)
          have e2 := ih k (ys.drop (lgN ys d)) (by omega) hz (by rw [List.length_drop]; omega)
          rw [e1, e2]
def gr (ys : List Int) (d : Int) : List (Int × List Int) := grF d ys.length ys
theorem gr_nil {d : Int} : gr [] d = [] := rfl
theorem gr_cons {ys : List Int} (hS : SM ys = true) {d : Nat} (hd : d ≤ 6) : gr ys d = (((lgN ys d : Nat) : Int), rnL (ys.take (lgN ys d)) d) :: gr (ys.drop (lgN ys d)) d := by
  obtain ⟨l1, l2, l3, l4⟩ := lgN_spec hS hd
  have h60 := (SM_iff.1 hS).1
  obtain ⟨k, hk⟩ : ∃ k, ys.length = k + 1 := ⟨ys.length - 1, by omega⟩
  have hz : ys.drop (lgN ys d) = [] ∨ SM (ys.drop (lgN ys d)) = true := by
    by_cases e : lgN ys d < ys.length
    · exact .inr (SM_drop hS e)
    · exact .inl (List.drop_eq_nil_of_le (by omega))
  unfold gr
  rw [hk, grF_step (by omega), grF_fuel hd k k _ (Nat.le_refl _) hz (by rw [List.length_drop]; omega)]
theorem gr_len {d : Nat} (hd : d ≤ 6) : ∀ m (ys : List Int), ys.length ≤ m → (ys = [] ∨ SM ys = true) → (gr ys d).length ≤ ys.length := by
  intro m
  induction m with
  | zero => intro ys h _; rw [List.eq_nil_of_length_eq_zero (show ys.length = 0 by omega)]; exact Nat.le_refl _
  | succ m ih =>
    intro ys h hS
    rcases hS with rfl | hS
    · exact Nat.le_refl _
    · obtain ⟨l1, l2, l3, l4⟩ := lgN_spec hS hd
      rw [gr_cons hS hd, List.length_cons]
      have hz : ys.drop (lgN ys d) = [] ∨ SM (ys.drop (lgN ys d)) = true := by
        by_cases e : lgN ys d < ys.length
        · exact .inr (SM_drop hS e)
        · exact .inl (List.drop_eq_nil_of_le (by omega))
      have := ih (ys.drop (lgN ys d)) (by rw [List.length_drop]; omega) hz
      rw [List.length_drop] at this
      omega
theorem grF_poly {d : Int} : ∀ f (ys : List Int) i, (pP (grF d f ys) i).length ≤ 7 := by
  intro f
  induction f with
  | zero => intro ys i; simp [grF, pP]
  | succ f ih =>
    intro ys i
    rw [grF]
    split
    · simp [pP]
    · cases i with
      | zero => exact rnL_len
      | succ i => exact ih (ys.drop (lgN ys d)) i
/-- The plan of a table, and whether there is one. -/
def grB (xs : List Int) (d : Int) : Bool := SM xs && inB d 0 6
def grL (xs : List Int) (d : Int) : List (Int × List Int) := if grB xs d then gr xs d else []
theorem grL_no {xs : List Int} {d : Int} (h : grB xs d = false) : grL xs d = [] := by simp [grL, h]
theorem grL_yes {xs : List Int} {d : Int} (h : grB xs d = true) : grL xs d = gr xs d := by simp [grL, h]
theorem grB_iff {xs : List Int} {d : Int} : grB xs d = true ↔ SM xs = true ∧ 0 ≤ d ∧ d ≤ 6 := by simp only [grB, Bool.and_eq_true, inB_iff]
theorem grL_facts (xs : List Int) (d : Int) : (grL xs d).length ≤ 60 ∧ ∀ i, (pP (grL xs d) i).length ≤ 7 := by
  by_cases h : grB xs d = true
  · obtain ⟨hS, h0, h1⟩ := grB_iff.1 h
    obtain ⟨dn, rfl⟩ : ∃ n : Nat, d = n := ⟨d.toNat, by omega⟩
    rw [grL_yes h]
    have := gr_len (d := dn) (by omega) _ xs (Nat.le_refl _) (.inr hS)
    have := (SM_iff.1 hS).2.1
    exact ⟨by omega, fun i => grF_poly _ _ i⟩
  · rw [grL_no (by simpa using h)]; exact ⟨by simp, fun i => by simp [pP]⟩
/-- Without its first entry a table needs no more. -/
theorem fsH_drop1 {ys : List Int} (hS : SM ys = true) {d : Nat} (hd : d ≤ 6) : fsH (ys.drop 1) d ≤ fsH ys d := by
  obtain ⟨n, h1, h2, h3, h4⟩ := fsH_eq hS hd
  rw [h4]
  by_cases e : n = 1
  · subst e; omega
  · have h5 := rn_drop (SM_take hS h1) hd (n := 1) (by rw [List.length_take]; omega) h3
    rw [List.drop_take] at h5
    have h6 := fsH_le (SM_drop hS (n := 1) (by omega)) hd (n := n - 1) (by omega) (by rw [List.length_drop]; omega) h5
    rw [List.drop_drop, show 1 + (n - 1) = n by omega] at h6
    exact h6
theorem fsH_drop {ys : List Int} (hS : SM ys = true) {d : Nat} (hd : d ≤ 6) : ∀ k, k ≤ ys.length → fsH (ys.drop k) d ≤ fsH ys d := by
  intro k
  induction k with
  | zero => intro _; exact Int.le_refl _
  | succ k ih =>
    intro h
    have h1 := ih (by omega)
    have h2 := fsH_drop1 (SM_drop hS (n := k) (by omega)) hd
    rw [List.drop_drop] at h2
    omega
/-- The plan by longest runs has the fewest segments. -/
theorem gr_few {d : Nat} (hd : d ≤ 6) : ∀ m (ys : List Int), ys.length ≤ m → (ys = [] ∨ SM ys = true) → ((gr ys d).length : Int) = fsH ys d := by
  intro m
  induction m with
  | zero => intro ys h _; rw [List.eq_nil_of_length_eq_zero (show ys.length = 0 by omega)]; rfl
  | succ m ih =>
    intro ys h hS
    rcases hS with rfl | hS
    · rfl
    · obtain ⟨l1, l2, l3, l4⟩ := lgN_spec hS hd
      have hz : ys.drop (lgN ys d) = [] ∨ SM (ys.drop (lgN ys d)) = true := by
        by_cases e : lgN ys d < ys.length
        · exact .inr (SM_drop hS e)
        · exact .inl (List.drop_eq_nil_of_le (by omega))
      have h1 := ih (ys.drop (lgN ys d)) (by rw [List.length_drop]; omega) hz
      have h2 := fsH_le hS hd l1 l2 l3
      obtain ⟨n, n1, n2, n3, n4⟩ := fsH_eq hS hd
      have hn : n ≤ lgN ys d := by
        rcases Nat.lt_or_ge (lgN ys d) n with e | e
        · have := l4 n e n2; rw [n3] at this; cases this
        · exact e
      have h3 : fsH (ys.drop (lgN ys d)) d ≤ fsH (ys.drop n) d := by
        by_cases e : n < ys.length
        · have := fsH_drop (SM_drop hS e) hd (lgN ys d - n) (by rw [List.length_drop]; omega)
          rwa [List.drop_drop, show n + (lgN ys d - n) = lgN ys d by omega] at this
        · rw [List.drop_eq_nil_of_le (show ys.length ≤ lgN ys d by omega), List.drop_eq_nil_of_le (show ys.length ≤ n by omega)]; exact Int.le_refl _
      rw [gr_cons hS hd, List.length_cons]
      omega
end Go.Proofs.Ytkiebajggombiaa
