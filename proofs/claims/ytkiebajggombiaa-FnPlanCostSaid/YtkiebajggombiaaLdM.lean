/- What is proved here: plain facts on the least degree of tables and of their parts. No program in sight. -/
import Derived.Test.YtkiebajggombiaaIpl
set_option linter.unusedVariables false
set_option linter.unusedSimpArgs false
namespace Go.Proofs.Ytkiebajggombiaa
open Go.RowKit

theorem az_dF2 {xs : List Int} (h : az xs = true) : az (dF xs) = true := by
  rw [az_iff] at h ⊢
  intro k hk
  rw [dF_len] at hk
  rw [dF_el (by omega), h _ (by omega), h _ (by omega)]
  rfl
theorem az_up2 {xs : List Int} {i : Nat} (h : az (dN xs i) = true) : ∀ d, az (dN xs (i + d)) = true := by
  intro d
  induction d with
  | zero => exact h
  | succ d ih => exact az_dF2 ih
/-- The least degree is at most d exactly if the differences taken d + 1 times are all 0. -/
theorem ld_le {xs : List Int} (hT : TB xs = true) {d : Nat} (hd : d ≤ 7) : ldF xs ≤ (d : Int) - 1 ↔ az (dN xs d) = true := by
  rw [ldF_yes hT]
  rcases ldG_cases xs 8 0 with h1 | ⟨j, h1, h2, h3, h4, h5⟩
  · rw [h1]
    refine ⟨fun h => by omega, fun h => ?_⟩
    have key : ∀ n i, ldG xs i n = 7 → ∀ j, i ≤ j → j < i + n → j ≤ 7 → az (dN xs j) = false := by
      intro n
      induction n with
      | zero => intro i _ j a b; omega
      | succ n ih =>
        intro i hh j a b c
        by_cases e : az (dN xs i) = true
        · rw [ldG_hit e] at hh
          by_cases e2 : i = j
          · omega
          · omega
        · have e' : az (dN xs i) = false := by simpa using e
          rw [ldG_miss e'] at hh
          by_cases e2 : i = j
          · subst e2; exact e'
          · exact ih (i + 1) hh j (by omega) (by omega) c
    rw [key 8 0 h1 d (Nat.zero_le _) (by omega) hd] at h; cases h
  · rw [h3]
    constructor
    · intro h
      have := az_up2 h4 (d - j)
      rwa [show j + (d - j) = d by omega] at this
    · intro h
      by_cases e : j ≤ d
      · omega
      · rw [h5 d (Nat.zero_le _) (by omega)] at h; cases h
theorem dF_take2 (xs : List Int) (n : Nat) : dF (xs.take n) = (dF xs).take (n - 1) := by
  refine list_ext ?_ fun k hk => ?_
  · rw [dF_len, List.length_take, List.length_take, dF_len]; omega
  · rw [dF_len, List.length_take] at hk
    rw [dF_el (by rw [List.length_take]; omega), el_take (by omega), el_take (by omega), el_take (by omega), dF_el (by omega)]
theorem dN_take (xs : List Int) (n : Nat) : ∀ i, dN (xs.take n) i = (dN xs i).take (n - i) := by
  intro i
  induction i with
  | zero => rfl
  | succ i ih => rw [dN, dN, ih, dF_take2, show n - i - 1 = n - (i + 1) by omega]
theorem dF_drop (xs : List Int) (n : Nat) : dF (xs.drop n) = (dF xs).drop n := by
  refine list_ext ?_ fun k hk => ?_
  · rw [dF_len, List.length_drop, List.length_drop, dF_len]; omega
  · rw [dF_len, List.length_drop] at hk
    rw [dF_el (by rw [List.length_drop]; omega), el_drop, el_drop, el_drop, dF_el (by omega)]
    rw [show n + (k + 1) = n + k + 1 by omega]
theorem dN_drop (xs : List Int) (n : Nat) : ∀ i, dN (xs.drop n) i = (dN xs i).drop n := by
  intro i
  induction i with
  | zero => rfl
  | succ i ih => rw [dN, dN, ih, dF_drop]
theorem az_take {xs : List Int} (h : az xs = true) (n : Nat) : az (xs.take n) = true := by
  rw [az_iff] at h ⊢
  intro k hk
  rw [List.length_take] at hk
  rw [el_take (by omega)]; exact h k (by omega)
theorem az_drop {xs : List Int} (h : az xs = true) (n : Nat) : az (xs.drop n) = true := by
  rw [az_iff] at h ⊢
  intro k hk
  rw [List.length_drop] at hk
  rw [el_drop]; exact h _ (by omega)
theorem TB_take {xs : List Int} (h : TB xs = true) {n : Nat} (hn : 1 ≤ n) : TB (xs.take n) = true := by
  obtain ⟨h1, h2, h3⟩ := TB_iff.1 h
  rw [TB_iff, List.length_take]
  refine ⟨by omega, by omega, fun k hk => ?_⟩
  rw [el_take (by omega)]; exact h3 k (by omega)
theorem TB_drop {xs : List Int} (h : TB xs = true) {n : Nat} (hn : n < xs.length) : TB (xs.drop n) = true := by
  obtain ⟨h1, h2, h3⟩ := TB_iff.1 h
  rw [TB_iff, List.length_drop]
  refine ⟨by omega, by omega, fun k hk => ?_⟩
  rw [el_drop]; exact h3 _ (by omega)
/-- Whether entries have a run of a degree, as both texts ask. -/
def rnOk (xs : List Int) (d : Int) : Bool := decide (ldF xs ≤ d) && ipOk xs
def rnL (xs : List Int) (d : Int) : List Int := if rnOk xs d then ipL xs else []
/-- A small table. -/
def SM (xs : List Int) : Bool := TB xs && alw 1500 xs
theorem SM_TB {xs : List Int} (h : SM xs = true) : TB xs = true := by simp only [SM, Bool.and_eq_true] at h; exact h.1
theorem SM_Bd {xs : List Int} (h : SM xs = true) : Bd 1500 xs := by simp only [SM, Bool.and_eq_true] at h; exact alw_iff.1 h.2
theorem Bd_take {b : Int} {xs : List Int} (h : Bd b xs) (n : Nat) : Bd b (xs.take n) := fun k hk => by
  rw [List.length_take] at hk; rw [el_take (by omega)]; exact h k (by omega)
theorem Bd_drop {b : Int} {xs : List Int} (h : Bd b xs) (n : Nat) : Bd b (xs.drop n) := fun k hk => by
  rw [List.length_drop] at hk; rw [el_drop]; exact h _ (by omega)
/-- Small entries of a degree have a polynomial that fits. -/
theorem ip_small {xs : List Int} (hT : TB xs = true) (hb : Bd 1500 xs) (hl : ldF xs ≤ 6) : ipOk xs = true := by
  obtain ⟨h1, h2, h3⟩ := ld_bd hT
  obtain ⟨g1, g2, g3⟩ := h3 hl
  have hlen : (xs.take (ipN xs)).length = ipN xs := by rw [List.length_take]; omega
  have hn1 : 1 ≤ ipN xs := by unfold ipN; omega
  unfold ipOk
  rw [hT, decide_eq_true hl, Bool.true_and, Bool.true_and, PV_iff, fD_len, hlen]
  refine ⟨hn1, g3, fun k hk => ?_⟩
  rw [fD_el (by rw [hlen]; exact hk)]
  have hb2 := dN_bd (Bd_take hb (ipN xs)) k 0 (by rw [dN_len, hlen]; omega)
  have h2 : (2 : Int) ^ k ≤ 2 ^ 6 := by
    have h1 : (2 : Nat) ^ k ≤ 2 ^ 6 := Nat.pow_le_pow_right (by omega) (by omega)
    exact_mod_cast h1
  omega
theorem rn_small {xs : List Int} (hT : TB xs = true) (hb : Bd 1500 xs) {d : Nat} (hd : d ≤ 6) : rnOk xs d = az (dN xs (d + 1)) := by
  have h := ld_le hT (d := d + 1) (by omega)
  rw [show (((d + 1 : Nat) : Int) - 1) = (d : Int) by omega] at h
  by_cases hz : az (dN xs (d + 1)) = true
  · have h1 := h.2 hz
    unfold rnOk
    rw [decide_eq_true h1, ip_small hT hb (by omega), hz]; rfl
  · have hz' : az (dN xs (d + 1)) = false := by simpa using hz
    unfold rnOk
    rw [decide_eq_false (fun h1 => hz (h.1 h1)), hz']; rfl
/-- Counting up while there is a run. -/
def lgU (ys : List Int) (d : Int) : Nat → Nat → Nat
  | n, 0 => n
  | n, m + 1 => if rnOk (ys.take (n + 1)) d then lgU ys d (n + 1) m else n
/-- Counting down until there is a run. -/
def lgD (ys : List Int) (d : Int) : Nat → Nat
  | 0 => 0
  | n + 1 => if rnOk (ys.take (n + 1)) d then n + 1 else lgD ys d n
theorem lgU_yes {ys : List Int} {d : Int} {n m : Nat} (h : rnOk (ys.take (n + 1)) d = true) : lgU ys d n (m + 1) = lgU ys d (n + 1) m := by rw [lgU, if_pos h]
theorem lgU_no {ys : List Int} {d : Int} {n m : Nat} (h : rnOk (ys.take (n + 1)) d = false) : lgU ys d n (m + 1) = n := by rw [lgU, if_neg (by simp [h])]
theorem lgD_yes {ys : List Int} {d : Int} {n : Nat} (h : rnOk (ys.take (n + 1)) d = true) : lgD ys d (n + 1) = n + 1 := by rw [lgD, if_pos h]
theorem lgD_no {ys : List Int} {d : Int} {n : Nat} (h : rnOk (ys.take (n + 1)) d = false) : lgD ys d (n + 1) = lgD ys d n := by rw [lgD, if_neg (by simp [h])]
theorem lg_same {ys : List Int} {d : Int} (hm : ∀ n, 1 ≤ n → n < ys.length → rnOk (ys.take (n + 1)) d = true → rnOk (ys.take n) d = true) : lgU ys d 0 ys.length = lgD ys d ys.length := by
  have hmono : ∀ k n, n + k ≤ ys.length → 1 ≤ n → rnOk (ys.take (n + k)) d = true → rnOk (ys.take n) d = true := by
    intro k
    induction k with
    | zero => intro n _ _ h; exact h
    | succ k ih =>
      intro n h1 h2 h3
      exact hm n h2 (by omega) (ih (n + 1) (by omega) (by omega) (by rw [show n + 1 + k = n + (k + 1) by omega]; exact h3))
  have hU : ∀ m n, n + m = ys.length → (∀ k, 1 ≤ k → k ≤ n → rnOk (ys.take k) d = true) → ∃ r, lgU ys d n m = r ∧ n ≤ r ∧ r ≤ ys.length ∧ (∀ k, 1 ≤ k → k ≤ r → rnOk (ys.take k) d = true) ∧ (r < ys.length → rnOk (ys.take (r + 1)) d = false) := by
    intro m
    induction m with
    | zero => intro n h1 h2; exact ⟨n, rfl, Nat.le_refl _, by omega, h2, fun h => by omega⟩
    | succ m ih =>
      intro n h1 h2
      by_cases e : rnOk (ys.take (n + 1)) d = true
      · rw [lgU_yes e]
        obtain ⟨r, g1, g2, g3, g4, g5⟩ := ih (n + 1) (by omega) (fun k a b => by by_cases e2 : k = n + 1; subst e2; exact e; exact h2 k a (by omega))
        exact ⟨r, g1, by omega, g3, g4, g5⟩
      · have e' : rnOk (ys.take (n + 1)) d = false := by simpa using e
        rw [lgU_no e']
        exact ⟨n, rfl, Nat.le_refl _, by omega, h2, fun _ => e'⟩
  obtain ⟨r, g1, g2, g3, g4, g5⟩ := hU ys.length 0 (by omega) (fun k a b => by omega)
  rw [g1]
  have hD : ∀ k, r + k ≤ ys.length → lgD ys d (r + k) = r := by
    intro k
    induction k with
    | zero =>
      intro _
      cases r with
      | zero => rfl
      | succ r => exact lgD_yes (g4 (r + 1) (by omega) (Nat.le_refl _))
    | succ k ih =>
      intro h
      have hf : rnOk (ys.take (r + k + 1)) d = false := by
        rw [← Bool.not_eq_true]
        intro h2
        have := hmono k (r + 1) (by omega) (by omega) (by rw [show r + 1 + k = r + k + 1 by omega]; exact h2)
        rw [g5 (by omega)] at this; cases this
      rw [show r + (k + 1) = (r + k) + 1 by omega, lgD_no hf, ih (by omega)]
  have := hD (ys.length - r) (by omega)
  rw [show r + (ys.length - r) = ys.length by omega] at this
  exact this.symm
theorem rn_mono {ys : List Int} (hT : TB ys = true) (hb : Bd 1500 ys) {d : Nat} (hd : d ≤ 6) {n : Nat} (h1 : 1 ≤ n) (h2 : n < ys.length) (h : rnOk (ys.take (n + 1)) d = true) : rnOk (ys.take n) d = true := by
  rw [rn_small (TB_take hT (by omega)) (Bd_take hb _) hd] at h ⊢
  have := az_take h (n - (d + 1))
  rw [dN_take] at this ⊢
  rw [List.take_take] at this
  rwa [show min (n - (d + 1)) (n + 1 - (d + 1)) = n - (d + 1) by omega] at this
/-- How many entries from a place on have a run. -/
def lrF (xs : List Int) (f d : Int) : Int := if SM xs && (inB d 0 6 && inB f 0 xs.length) then (lgD (xs.drop f.toNat) d (xs.length - f.toNat) : Nat) else -1
end Go.Proofs.Ytkiebajggombiaa
