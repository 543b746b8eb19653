/- What is proved here: plain facts on the least cost of planning a small table: it is reached, it is least, and how it stands to that of its parts. No program in sight. -/
import Derived.Test.YtkiebajggombiaaBstM
set_option linter.unusedVariables false
set_option linter.unusedSimpArgs false
namespace Go.Proofs.Ytkiebajggombiaa
open Go.RowKit

/-- The least cost of a table. -/
def ctH (xs : List Int) (d s c : Int) : Int := el (bst xs d s c xs.length) 0
/-- What a run of the first n entries costs. -/
def ctW (xs : List Int) (d s c : Int) (n : Nat) : Int := s + c * ((rnL (xs.take n) d).length : Nat)
theorem bst_drop {xs : List Int} {d s c : Int} {j : Nat} : ∀ k, k + j ≤ xs.length → bst (xs.drop j) d s c k = bst xs d s c k := by
  intro k
  induction k with
  | zero => intro _; rfl
  | succ k ih =>
    intro h
    rw [bst, bst, ih (by omega), List.drop_drop, List.length_drop]
    rw [show j + (xs.length - j - (k + 1)) = xs.length - (k + 1) by omega]
theorem bst_el {xs : List Int} {d s c : Int} : ∀ k j, j ≤ k → el (bst xs d s c k) j = el (bst xs d s c (k - j)) 0 := by
  intro k
  induction k with
  | zero => intro j h; rw [show j = 0 by omega]
  | succ k ih =>
    intro j h
    cases j with
    | zero => rfl
    | succ j =>
      rw [show k + 1 - (j + 1) = k - j by omega, ← ih j (by omega)]
      rfl
theorem ctH_el {xs : List Int} {d s c : Int} {j : Nat} (h : j ≤ xs.length) : el (bst xs d s c xs.length) j = ctH (xs.drop j) d s c := by
  rw [bst_el _ _ h, ctH, List.length_drop, bst_drop _ (by omega)]
theorem ctH_nil {d s c : Int} : ctH [] d s c = 0 := rfl
theorem ctH_bd {xs : List Int} {d s c : Int} (hs : 0 ≤ s) (hc : 0 ≤ c) : 0 ≤ ctH xs d s c := (bst_bd hs hc _ _).1
theorem bIn_le {ys : List Int} {d s c : Int} {B : List Int} : ∀ m a n, bIn ys d s c B a n m ≤ a := by
  intro m
  induction m with
  | zero => intro a n; exact Int.le_refl _
  | succ m ih =>
    intro a n
    by_cases e : rnOk (ys.take n) d = true
    · rw [bIn_yes e]
      have := ih (min a (s + c * ((rnL (ys.take n) d).length : Nat) + el B (n - 1))) (n + 1)
      omega
    · rw [bIn_no (by simpa using e)]; exact Int.le_refl _
theorem bIn_at {ys : List Int} {d s c : Int} {B : List Int} : ∀ m a n t, t < m → (∀ j, n ≤ j → j ≤ n + t → rnOk (ys.take j) d = true) → bIn ys d s c B a n m ≤ ctW ys d s c (n + t) + el B (n + t - 1) := by
  intro m
  induction m with
  | zero => intro a n t h; omega
  | succ m ih =>
    intro a n t h hr
    have e := hr n (Nat.le_refl _) (by omega)
    rw [bIn_yes e]
    cases t with
    | zero =>
      have := bIn_le (ys := ys) (d := d) (s := s) (c := c) (B := B) m (min a (s + c * ((rnL (ys.take n) d).length : Nat) + el B (n - 1))) (n + 1)
      unfold ctW
      simp only [Nat.add_zero]
      omega
    | succ t =>
      have := ih (min a (s + c * ((rnL (ys.take n) d).length : Nat) + el B (n - 1))) (n + 1) t (by omega) (fun j h1 h2 => hr j (by omega) (by omega))
      rwa [show n + 1 + t = n + (t + 1) by omega] at this
theorem bIn_eq {ys : List Int} {d s c : Int} {B : List Int} : ∀ m a n, bIn ys d s c B a n m = a ∨ ∃ t, t < m ∧ (∀ j, n ≤ j → j ≤ n + t → rnOk (ys.take j) d = true) ∧ bIn ys d s c B a n m = ctW ys d s c (n + t) + el B (n + t - 1) := by
  intro m
  induction m with
  | zero => intro a n; exact .inl rfl
  | succ m ih =>
    intro a n
    by_cases e : rnOk (ys.take n) d = true
    · rw [bIn_yes e]
      rcases ih (min a (s + c * ((rnL (ys.take n) d).length : Nat) + el B (n - 1))) (n + 1) with h | ⟨t, h1, h2, h3⟩
      · rw [h]
        rcases Int.le_total a (s + c * ((rnL (ys.take n) d).length : Nat) + el B (n - 1)) with h' | h'
        · left; omega
        · right
          refine ⟨0, by omega, fun j a b => ?_, ?_⟩
          · rw [show j = n by omega]; exact e
          · unfold ctW; simp only [Nat.add_zero]; omega
      · right
        refine ⟨t + 1, by omega, fun j a b => ?_, ?_⟩
        · by_cases e2 : j = n
          · rw [e2]; exact e
          · exact h2 j (by omega) (by omega)
        · rw [h3, show n + 1 + t = n + (t + 1) by omega]
    · left; rw [bIn_no (by simpa using e)]
theorem SM_iff {xs : List Int} : SM xs = true ↔ 1 ≤ xs.length ∧ xs.length ≤ 60 ∧ Bd 1500 xs := by
  constructor
  · intro h; exact ⟨(TB_iff.1 (SM_TB h)).1, (TB_iff.1 (SM_TB h)).2.1, SM_Bd h⟩
  · rintro ⟨h1, h2, h3⟩
    simp only [SM, Bool.and_eq_true]
    exact ⟨TB_iff.2 ⟨h1, h2, fun k hk => by have := h3 k hk; omega⟩, alw_iff.2 h3⟩
theorem SM_take {xs : List Int} (h : SM xs = true) {n : Nat} (hn : 1 ≤ n) : SM (xs.take n) = true := by
  have h := SM_iff.1 h
  exact SM_iff.2 ⟨by rw [List.length_take]; omega, by rw [List.length_take]; omega, Bd_take h.2.2 n⟩
theorem SM_drop {xs : List Int} (h : SM xs = true) {n : Nat} (hn : n < xs.length) : SM (xs.drop n) = true := by
  have h := SM_iff.1 h
  exact SM_iff.2 ⟨by rw [List.length_drop]; omega, by rw [List.length_drop]; omega, Bd_drop h.2.2 n⟩
/-- A part of a run is one. -/
theorem rn_take {ys : List Int} (hS : SM ys = true) {d : Nat} (hd : d ≤ 6) {n : Nat} (hn : 1 ≤ n) (h : rnOk ys d = true) : rnOk (ys.take n) d = true := by
  rw [rn_small (SM_TB hS) (SM_Bd hS) hd] at h
  rw [rn_small (SM_TB (SM_take hS hn)) (SM_Bd (SM_take hS hn)) hd, dN_take]
  exact az_take h _
theorem rn_drop {ys : List Int} (hS : SM ys = true) {d : Nat} (hd : d ≤ 6) {n : Nat} (hn : n < ys.length) (h : rnOk ys d = true) : rnOk (ys.drop n) d = true := by
  rw [rn_small (SM_TB hS) (SM_Bd hS) hd] at h
  rw [rn_small (SM_TB (SM_drop hS hn)) (SM_Bd (SM_drop hS hn)) hd, dN_drop]
  exact az_drop h _
/-- The runs at the head are those up to the longest. -/
theorem rn_head {ys : List Int} (hS : SM ys = true) {d : Nat} (hd : d ≤ 6) {n j : Nat} (hj : 1 ≤ j) (hjn : j ≤ n) (h : rnOk (ys.take n) d = true) : rnOk (ys.take j) d = true := by
  have := rn_take (SM_take hS (show 1 ≤ n by omega)) hd hj h
  rwa [List.take_take, show min j n = j by omega] at this
theorem ctH_cons {ys : List Int} {d s c : Int} (h : 1 ≤ ys.length) : ctH ys d s c = bIn ys d s c (bst ys d s c (ys.length - 1)) 1099511627776 1 ys.length := by
  obtain ⟨k, hk⟩ : ∃ k, ys.length = k + 1 := ⟨ys.length - 1, by omega⟩
  unfold ctH
  rw [hk, bst, hk, Nat.sub_self, Nat.add_sub_cancel]
  rfl
theorem ctB_el {ys : List Int} {d s c : Int} {n : Nat} (h1 : 1 ≤ n) (h2 : n ≤ ys.length) : el (bst ys d s c (ys.length - 1)) (n - 1) = ctH (ys.drop n) d s c := by
  rw [bst_el _ _ (by omega), ctH, List.length_drop, bst_drop _ (by omega)]
  rw [show ys.length - 1 - (n - 1) = ys.length - n by omega]
/-- No first run makes a table cheaper. -/
theorem ctH_le {ys : List Int} (hS : SM ys = true) {d : Nat} (hd : d ≤ 6) {s c : Int} {n : Nat} (h1 : 1 ≤ n) (h2 : n ≤ ys.length) (h : rnOk (ys.take n) d = true) : ctH ys d s c ≤ ctW ys d s c n + ctH (ys.drop n) d s c := by
  have h60 := (SM_iff.1 hS).1
  rw [ctH_cons h60]
  have := bIn_at (ys := ys) (d := d) (s := s) (c := c) (B := bst ys d s c (ys.length - 1)) ys.length 1099511627776 1 (n - 1) (by omega) (fun j a b => rn_head hS hd a (show j ≤ n by omega) h)
  rwa [show 1 + (n - 1) = n by omega, ctB_el h1 h2] at this
theorem mul_le7 {c x : Int} (hc : 0 ≤ c ∧ c ≤ 1000) (hx : 0 ≤ x ∧ x ≤ 7) : 0 ≤ c * x ∧ c * x ≤ 7000 := by
  have h1 := mul_bd (a := c) (b := x) (A := 1000) (B := 7) (by omega) (by omega) hc.2 (by omega) hx.2
  have h2 := Int.mul_nonneg hc.1 hx.1
  omega
theorem ctW_bd {xs : List Int} {d s c : Int} (hs : 0 ≤ s ∧ s ≤ 1000) (hc : 0 ≤ c ∧ c ≤ 1000) (n : Nat) : 0 ≤ ctW xs d s c n ∧ ctW xs d s c n ≤ 8000 := by
  have h7 := rnL_len (ys := xs.take n) (d := d)
  have := mul_le7 hc (show 0 ≤ (((rnL (xs.take n) d).length : Nat) : Int) ∧ (((rnL (xs.take n) d).length : Nat) : Int) ≤ 7 by omega)
  unfold ctW; omega
theorem ctH_ub {d : Nat} (hd : d ≤ 6) {s c : Int} (hs : 0 ≤ s ∧ s ≤ 1000) (hc : 0 ≤ c ∧ c ≤ 1000) : ∀ n (ys : List Int), ys.length = n → (ys = [] ∨ SM ys = true) → ctH ys d s c ≤ 8000 * n := by
  intro n
  induction n with
  | zero => intro ys h _; rw [List.eq_nil_of_length_eq_zero h, ctH_nil]; omega
  | succ n ih =>
    intro ys h hS
    rcases hS with rfl | hS
    · cases h
    · have h1 := ctH_le hS hd (s := s) (c := c) (n := 1) (by omega) (by omega) (rn_one (SM_TB hS) (SM_Bd hS) hd)
      have h2 := (ctW_bd (xs := ys) (d := d) hs hc 1).2
      have h3 := ih (ys.drop 1) (by rw [List.length_drop]; omega) (by
        by_cases e : 1 < ys.length
        · exact .inr (SM_drop hS e)
        · exact .inl (List.eq_nil_of_length_eq_zero (by rw [List.length_drop]; omega)))
      omega
/-- The least cost is reached. -/
theorem ctH_eq {ys : List Int} (hS : SM ys = true) {d : Nat} (hd : d ≤ 6) {s c : Int} (hs : 0 ≤ s ∧ s ≤ 1000) (hc : 0 ≤ c ∧ c ≤ 1000) : ∃ n, 1 ≤ n ∧ n ≤ ys.length ∧ rnOk (ys.take n) d = true ∧ ctH ys d s c = ctW ys d s c n + ctH (ys.drop n) d s c := by
  have h60 := SM_iff.1 hS
  have hub := ctH_ub hd hs hc ys.length ys rfl (.inr hS)
  rcases bIn_eq (ys := ys) (d := d) (s := s) (c := c) (B := bst ys d s c (ys.length - 1)) ys.length 1099511627776 1 with h | ⟨t, h1, h2, h3⟩
  · rw [← ctH_cons h60.1] at h; omega
  · rw [← ctH_cons h60.1] at h3
    refine ⟨1 + t, by omega, by omega, h2 _ (by omega) (Nat.le_refl _), ?_⟩
    rw [h3, ctB_el (by omega) (by omega)]
/-- The fewest runs of a table. -/
def fsH (xs : List Int) (d : Nat) : Int := ctH xs d 1 0
theorem fsH_nil {d : Nat} : fsH [] d = 0 := rfl
theorem fsH_nonneg {xs : List Int} {d : Nat} : 0 ≤ fsH xs d := ctH_bd (by omega) (by omega)
theorem ctW_one {xs : List Int} {d : Int} {n : Nat} : ctW xs d 1 0 n = 1 := by unfold ctW; omega
theorem fsH_le {ys : List Int} (hS : SM ys = true) {d : Nat} (hd : d ≤ 6) {n : Nat} (h1 : 1 ≤ n) (h2 : n ≤ ys.length) (h : rnOk (ys.take n) d = true) : fsH ys d ≤ 1 + fsH (ys.drop n) d := by
  have := ctH_le hS hd (s := 1) (c := 0) h1 h2 h
  rwa [ctW_one] at this
theorem fsH_eq {ys : List Int} (hS : SM ys = true) {d : Nat} (hd : d ≤ 6) : ∃ n, 1 ≤ n ∧ n ≤ ys.length ∧ rnOk (ys.take n) d = true ∧ fsH ys d = 1 + fsH (ys.drop n) d := by
  obtain ⟨n, h1, h2, h3, h4⟩ := ctH_eq hS hd (s := 1) (c := 0) (by omega) (by omega)
  rw [ctW_one] at h4
  exact ⟨n, h1, h2, h3, h4⟩
theorem SM_left {ys zs : List Int} (h : SM (ys ++ zs) = true) (hy : 1 ≤ ys.length) : SM ys = true := by
  have := SM_take h hy
  rwa [List.take_left' rfl] at this
theorem SM_right {ys zs : List Int} (h : SM (ys ++ zs) = true) (hz : 1 ≤ zs.length) : SM zs = true := by
  have := SM_drop h (n := ys.length) (by rw [List.length_append]; omega)
  rwa [List.drop_left' rfl] at this
theorem app_take {ys zs : List Int} {n : Nat} (h : n ≤ ys.length) : (ys ++ zs).take n = ys.take n := List.take_append_of_le_length h
theorem app_drop {ys zs : List Int} {n : Nat} (h : n ≤ ys.length) : (ys ++ zs).drop n = ys.drop n ++ zs := List.drop_append_of_le_length h
theorem app_drop2 {ys zs : List Int} {n : Nat} (h : ys.length ≤ n) : (ys ++ zs).drop n = zs.drop (n - ys.length) := by
  rw [List.drop_append, List.drop_eq_nil_of_le h, List.nil_append]
theorem fsH_sub {d : Nat} (hd : d ≤ 6) {zs : List Int} : ∀ k (ys : List Int), ys.length ≤ k → (ys ++ zs = [] ∨ SM (ys ++ zs) = true) → fsH (ys ++ zs) d ≤ fsH ys d + fsH zs d := by
  intro k
  induction k with
  | zero =>
    intro ys h _
    rw [List.eq_nil_of_length_eq_zero (show ys.length = 0 by omega), List.nil_append, fsH_nil]; omega
  | succ k ih =>
    intro ys h hS
    by_cases hy : ys.length = 0
    · rw [List.eq_nil_of_length_eq_zero hy, List.nil_append, fsH_nil]; omega
    · rcases hS with hS | hS
      · simp at hS; rw [hS.1] at hy; exact absurd rfl hy
      · obtain ⟨n, h1, h2, h3, h4⟩ := fsH_eq (SM_left hS (by omega)) hd
        have h5 := fsH_le hS hd h1 (by rw [List.length_append]; omega) (by rw [app_take h2]; exact h3)
        rw [app_drop h2] at h5
        have h6 := ih (ys.drop n) (by rw [List.length_drop]; omega) (by
          by_cases e : n < (ys ++ zs).length
          · right; rw [← app_drop h2]; exact SM_drop hS e
          · left; rw [← app_drop h2]; exact List.drop_eq_nil_of_le (by omega))
        omega
/-- Less than one part needs no more. -/
theorem fsH_pre {d : Nat} (hd : d ≤ 6) {zs : List Int} : ∀ k (ys : List Int), ys.length ≤ k → (ys ++ zs = [] ∨ SM (ys ++ zs) = true) → fsH ys d ≤ fsH (ys ++ zs) d := by
  intro k
  induction k with
  | zero =>
    intro ys h _
    rw [List.eq_nil_of_length_eq_zero (show ys.length = 0 by omega), fsH_nil]; exact fsH_nonneg
  | succ k ih =>
    intro ys h hS
    by_cases hy : ys.length = 0
    · rw [List.eq_nil_of_length_eq_zero hy, fsH_nil]; exact fsH_nonneg
    · rcases hS with hS | hS
      · simp at hS; rw [hS.1] at hy; exact absurd rfl hy
      · have hSy := SM_left hS (by omega)
        obtain ⟨n, h1, h2, h3, h4⟩ := fsH_eq hS hd
        rw [h4]
        by_cases e : n ≤ ys.length
        · rw [app_take e] at h3
          rw [app_drop e]
          have h5 := fsH_le hSy hd h1 e h3
          have h6 := ih (ys.drop n) (by rw [List.length_drop]; omega) (by
            by_cases e2 : n < (ys ++ zs).length
            · right; rw [← app_drop e]; exact SM_drop hS e2
            · left; rw [← app_drop e]; exact List.drop_eq_nil_of_le (by omega))
          omega
        · have h5 := rn_head hS hd (show 1 ≤ ys.length by omega) (show ys.length ≤ n by omega) h3
          rw [app_take (Nat.le_refl _)] at h5
          have h6 := fsH_le hSy hd (by omega) (Nat.le_refl _) h5
          rw [List.drop_length, fsH_nil] at h6
          have := fsH_nonneg (xs := (ys ++ zs).drop n) (d := d)
          omega
/-- Cut in two a table needs at most one more. -/
theorem fsH_cut {d : Nat} (hd : d ≤ 6) {zs : List Int} : ∀ k (ys : List Int), ys.length ≤ k → (ys ++ zs = [] ∨ SM (ys ++ zs) = true) → fsH ys d + fsH zs d ≤ 1 + fsH (ys ++ zs) d := by
  intro k
  induction k with
  | zero =>
    intro ys h _
    rw [List.eq_nil_of_length_eq_zero (show ys.length = 0 by omega), List.nil_append, fsH_nil]; omega
  | succ k ih =>
    intro ys h hS
    by_cases hy : ys.length = 0
    · rw [List.eq_nil_of_length_eq_zero hy, List.nil_append, fsH_nil]; omega
    · rcases hS with hS | hS
      · simp at hS; rw [hS.1] at hy; exact absurd rfl hy
      · have hSy := SM_left hS (by omega)
        obtain ⟨n, h1, h2, h3, h4⟩ := fsH_eq hS hd
        rw [h4]
        by_cases e : n ≤ ys.length
        · rw [app_take e] at h3
          rw [app_drop e]
          have h5 := fsH_le hSy hd h1 e h3
          have h6 := ih (ys.drop n) (by rw [List.length_drop]; omega) (by
            by_cases e2 : n < (ys ++ zs).length
            · right; rw [← app_drop e]; exact SM_drop hS e2
            · left; rw [← app_drop e]; exact List.drop_eq_nil_of_le (by omega))
          omega
        · have h5 := rn_head hS hd (show 1 ≤ ys.length by omega) (show ys.length ≤ n by omega) h3
          rw [app_take (Nat.le_refl _)] at h5
          have h6 := fsH_le hSy hd (by omega) (Nat.le_refl _) h5
          rw [List.drop_length, fsH_nil] at h6
          rw [app_drop2 (by omega)]
          rw [List.length_append] at h2
          have hz := SM_right hS (show 1 ≤ zs.length by omega)
          have h7 := rn_drop (SM_take hS h1) hd (n := ys.length) (by rw [List.length_take, List.length_append]; omega) h3
          rw [List.drop_take, List.drop_left' rfl] at h7
          have h8 := fsH_le hz hd (n := n - ys.length) (by omega) (by omega) h7
          omega
theorem fsF_H {xs : List Int} {d : Nat} (hS : SM xs = true) (hd : d ≤ 6) : fsF xs d = fsH xs d := (fsF_yes hS hd).1
/-- The law of the parts of a table. -/
theorem fp_law {xs : List Int} {d : Nat} (hS : SM xs = true) (hd : d ≤ 6) {k : Nat} (h1 : 1 ≤ k) (h2 : k < xs.length) :
    fsF xs d - 1 ≤ fsF (xs.take (xs.length - 1)) d ∧ fsF (xs.take (xs.length - 1)) d ≤ fsF xs d ∧ fsF xs d - 1 ≤ fsF (xs.drop 1) d ∧ fsF (xs.drop 1) d ≤ fsF xs d ∧
    fsF xs d ≤ fsF (xs.take k) d + fsF (xs.drop k) d ∧ fsF (xs.take k) d + fsF (xs.drop k) d ≤ fsF xs d + 1 := by
  have cut := fun j (hj : 1 ≤ j ∧ j < xs.length) => (show fsF xs d ≤ fsF (xs.take j) d + fsF (xs.drop j) d ∧ fsF (xs.take j) d + fsF (xs.drop j) d ≤ fsF xs d + 1 ∧ fsF (xs.take j) d ≤ fsF xs d by
    have e := List.take_append_drop j xs
    have hS' : SM (xs.take j ++ xs.drop j) = true := by rw [e]; exact hS
    have g1 := fsH_sub hd (zs := xs.drop j) _ (xs.take j) (Nat.le_refl _) (.inr hS')
    have g2 := fsH_cut hd (zs := xs.drop j) _ (xs.take j) (Nat.le_refl _) (.inr hS')
    have g3 := fsH_pre hd (zs := xs.drop j) _ (xs.take j) (Nat.le_refl _) (.inr hS')
    rw [e] at g1 g2 g3
    rw [fsF_H hS hd, fsF_H (SM_take hS hj.1) hd, fsF_H (SM_drop hS hj.2) hd]
    exact ⟨g1, by omega, g3⟩)
  have one := fun (ys : List Int) (hy : SM ys = true) (hl : ys.length = 1) => (show fsF ys d = 1 by
    rw [fsF_H hy hd]
    obtain ⟨n, a, b, _, e⟩ := fsH_eq hy hd
    rw [e, List.drop_eq_nil_of_le (by omega), fsH_nil]; rfl)
  have c1 := cut 1 (by omega)
  have c2 := cut (xs.length - 1) (by omega)
  have c3 := cut k ⟨h1, h2⟩
  have o1 := one (xs.take 1) (SM_take hS (by omega)) (by rw [List.length_take]; omega)
  have o2 := one (xs.drop (xs.length - 1)) (SM_drop hS (by omega)) (by rw [List.length_drop]; omega)
  omega
end Go.Proofs.Ytkiebajggombiaa
