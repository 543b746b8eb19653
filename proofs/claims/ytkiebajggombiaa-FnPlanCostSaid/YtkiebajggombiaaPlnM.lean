/- What is proved here: plain facts on plans, given as lists of counts with polynomials. No program in sight. -/
import Derived.Test.YtkiebajggombiaaPol2
set_option linter.unusedVariables false
set_option linter.unusedSimpArgs false
namespace Go.Proofs.Ytkiebajggombiaa
open Go.RowKit

/-- The count and the polynomial of the segment at a place. -/
def pC (L : List (Int × List Int)) (i : Nat) : Int := (L.getD i (0, [])).1
def pP (L : List (Int × List Int)) (i : Nat) : List Int := (L.getD i (0, [])).2
theorem p_lt {L : List (Int × List Int)} {i : Nat} (h : i < L.length) : L[i] = (pC L i, pP L i) := by
  unfold pC pP; rw [List.getD_eq_getElem?_getD, List.getElem?_eq_getElem h]; rfl
theorem p_ge {L : List (Int × List Int)} {i : Nat} (h : L.length ≤ i) : pC L i = 0 ∧ pP L i = [] := by
  unfold pC pP; rw [List.getD_eq_getElem?_getD, List.getElem?_eq_none h]; exact ⟨rfl, rfl⟩
theorem p_ext {L M : List (Int × List Int)} (hl : L.length = M.length) (h : ∀ i, i < L.length → pC L i = pC M i ∧ pP L i = pP M i) : L = M := by
  apply List.ext_getElem hl
  intro i h1 h2
  rw [p_lt h1, p_lt h2, (h i h1).1, (h i h1).2]
theorem p_appL {L M : List (Int × List Int)} {i : Nat} (h : i < L.length) : pC (L ++ M) i = pC L i ∧ pP (L ++ M) i = pP L i := by
  unfold pC pP
  rw [List.getD_eq_getElem?_getD, List.getElem?_append_left h, ← List.getD_eq_getElem?_getD]; exact ⟨rfl, rfl⟩
theorem p_appR {L M : List (Int × List Int)} {i : Nat} (h : L.length ≤ i) : pC (L ++ M) i = pC M (i - L.length) ∧ pP (L ++ M) i = pP M (i - L.length) := by
  unfold pC pP
  rw [List.getD_eq_getElem?_getD, List.getElem?_append_right h, ← List.getD_eq_getElem?_getD]; exact ⟨rfl, rfl⟩
theorem p_app1 (L : List (Int × List Int)) (c : Int) (p : List Int) : pC (L ++ [(c, p)]) L.length = c ∧ pP (L ++ [(c, p)]) L.length = p := by
  have := p_appR (L := L) (M := [(c, p)]) (Nat.le_refl _)
  rw [Nat.sub_self] at this; exact this
theorem p_take {L : List (Int × List Int)} {n i : Nat} (h : i < n) : pC (L.take n) i = pC L i ∧ pP (L.take n) i = pP L i := by
  unfold pC pP; simp [h]
theorem p_drop {L : List (Int × List Int)} {n i : Nat} : pC (L.drop n) i = pC L (n + i) ∧ pP (L.drop n) i = pP L (n + i) := by
  unfold pC pP; simp
theorem take_p {L : List (Int × List Int)} {k : Nat} (h : k < L.length) : L.take (k + 1) = L.take k ++ [(pC L k, pP L k)] := by
  rw [List.take_succ_eq_append_getElem h, p_lt h]
/-- The counts of the first places, summed up. -/
def pS (L : List (Int × List Int)) : Nat → Int
  | 0 => 0
  | k + 1 => pS L k + pC L k
/-- Whether a segment may stand in a plan. -/
def sgB (c : Int) (p : List Int) : Bool := inB c 1 60 && (PV p && TB (valF p 0 1 c.toNat))
theorem sgB_yes {c : Int} {p : List Int} (h : sgB c p = true) : (1 ≤ c ∧ c ≤ 60) ∧ PV p = true ∧ TB (valF p 0 1 c.toNat) = true := by
  simp only [sgB, Bool.and_eq_true, inB_iff] at h; exact h
/-- Whether segments are a plan. -/
def PLV (L : List (Int × List Int)) : Bool := decide (1 ≤ L.length ∧ (∀ i, i < L.length → sgB (pC L i) (pP L i) = true) ∧ pS L L.length ≤ 60)
theorem PLV_iff {L : List (Int × List Int)} : PLV L = true ↔ 1 ≤ L.length ∧ (∀ i, i < L.length → sgB (pC L i) (pP L i) = true) ∧ pS L L.length ≤ 60 := by
  simp only [PLV, decide_eq_true_eq]
theorem pS_mono {L : List (Int × List Int)} {n : Nat} (h : ∀ i, i < n → 1 ≤ pC L i) : ∀ k, k ≤ n → ∀ j, j ≤ k → pS L j + ((k : Int) - j) ≤ pS L k := by
  intro k
  induction k with
  | zero => intro _ j hj; rw [show j = 0 by omega]; omega
  | succ k ih =>
    intro hk j hj
    by_cases e : j = k + 1
    · subst e; omega
    · have h1 := ih (by omega) j (by omega)
      have h2 := h k (by omega)
      rw [pS]; omega
theorem PLV_facts {L : List (Int × List Int)} (h : PLV L = true) : (1 ≤ L.length ∧ L.length ≤ 60) ∧ (∀ i, i < L.length → sgB (pC L i) (pP L i) = true) ∧ (∀ k, k ≤ L.length → (k : Int) ≤ pS L k ∧ pS L k ≤ 60) := by
  obtain ⟨h1, h2, h3⟩ := PLV_iff.1 h
  have hm := pS_mono (L := L) (n := L.length) (fun i hi => (sgB_yes (h2 i hi)).1.1)
  have h0 := hm L.length (Nat.le_refl _) 0 (Nat.zero_le _)
  rw [show pS L 0 = 0 from rfl] at h0
  refine ⟨⟨h1, by omega⟩, h2, fun k hk => ?_⟩
  have g1 := hm k hk 0 (Nat.zero_le _)
  have g2 := hm L.length (Nat.le_refl _) k hk
  rw [show pS L 0 = 0 from rfl] at g1
  omega
theorem PLV_no {L : List (Int × List Int)} {i : Nat} (hi : i < L.length) (h : sgB (pC L i) (pP L i) = false) : PLV L = false := by
  rw [← Bool.not_eq_true, PLV_iff]
  rintro ⟨_, h2, _⟩
  rw [h2 i hi] at h; cases h
theorem PLV_sum {L : List (Int × List Int)} {k : Nat} (hk : k ≤ L.length) (h : 60 < pS L k) : PLV L = false := by
  rw [← Bool.not_eq_true]
  intro h2
  have := ((PLV_facts h2).2.2 k hk).2
  omega
theorem PLV_nil {L : List (Int × List Int)} (h : L.length = 0) : PLV L = false := by
  rw [← Bool.not_eq_true, PLV_iff]; rintro ⟨h1, _⟩; omega
theorem PLV_long {L : List (Int × List Int)} (h : 60 < L.length) : PLV L = false := by
  rw [← Bool.not_eq_true]; intro h2; have := (PLV_facts h2).1; omega
/-- The number of entries of segments as the reference reckons it. -/
def lnG (L : List (Int × List Int)) (n : Nat) : Bool := decide (∀ i, i < n → inB (pC L i) 1 60 = true)
def lnF (L : List (Int × List Int)) : Int := if lnG L L.length then pS L L.length else -1
theorem lnF_no {L : List (Int × List Int)} {i : Nat} (hi : i < L.length) (h : inB (pC L i) 1 60 = false) : lnF L = -1 := by
  unfold lnF lnG
  rw [if_neg]
  simp only [decide_eq_true_eq]
  intro h2; rw [h2 i hi] at h; cases h
theorem lnF_yes {L : List (Int × List Int)} (h : ∀ i, i < L.length → inB (pC L i) 1 60 = true) : lnF L = pS L L.length := by
  unfold lnF lnG; rw [if_pos (by simpa using h)]
theorem PLV_ln {L : List (Int × List Int)} (h : inB (lnF L) 1 60 = false) : PLV L = false := by
  rw [← Bool.not_eq_true]
  intro h2
  have hf := PLV_facts h2
  have e := lnF_yes (L := L) (fun i hi => by have := (sgB_yes (hf.2.1 i hi)).1; exact inB_yes this.1 this.2)
  have h3 := hf.2.2 L.length (Nat.le_refl _)
  rw [e, inB_yes (by omega) (by omega)] at h; cases h
theorem PLV_lnF {L : List (Int × List Int)} (h : PLV L = true) : lnF L = pS L L.length := by
  have hf := PLV_facts h
  exact lnF_yes (L := L) (fun i hi => by have := (sgB_yes (hf.2.1 i hi)).1; exact inB_yes this.1 this.2)
theorem ln_facts {L : List (Int × List Int)} (h : inB (lnF L) 1 60 = true) : 1 ≤ L.length ∧ (∀ i, i < L.length → 1 ≤ pC L i ∧ pC L i ≤ 60) ∧ pS L L.length ≤ 60 := by
  obtain ⟨a, b⟩ := inB_iff.1 h
  by_cases g : lnG L L.length = true
  · have g2 := g
    unfold lnG at g2
    simp only [decide_eq_true_eq] at g2
    unfold lnF at a b
    rw [if_pos g] at a b
    refine ⟨?_, fun i hi => inB_iff.1 (g2 i hi), b⟩
    by_cases e : L.length = 0
    · rw [e] at a; rw [show pS L 0 = 0 from rfl] at a; omega
    · omega
  · unfold lnF at a; rw [if_neg g] at a; omega
theorem PLV_all {L : List (Int × List Int)} (h : inB (lnF L) 1 60 = true) (h2 : ∀ i, i < L.length → sgB (pC L i) (pP L i) = true) : PLV L = true :=
  PLV_iff.2 ⟨(ln_facts h).1, h2, (ln_facts h).2.2⟩
theorem valF_z (p : List Int) (c : Int) : valF p 0 1 c.toNat = valF p 0 1 c.toNat := rfl
end Go.Proofs.Ytkiebajggombiaa
