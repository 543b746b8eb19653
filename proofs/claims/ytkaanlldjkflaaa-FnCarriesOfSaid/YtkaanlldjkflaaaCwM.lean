/- What is proved here: plain facts on how many wheels differ between two engines. -/
import Derived.Test.YtkaanlldjkflaaaCw
import Derived.Test.YtkaanlldjkflaaaTm
set_option linter.unusedVariables false
set_option linter.unusedSimpArgs false
namespace Go.Proofs.Ytkaanlldjkflaaa
open Go.RowKit

theorem cwR_sym (a b : ByteArray) : ∀ k, cwR a b k = cwR b a k := by
  intro k
  induction k with
  | zero => rfl
  | succ k ih =>
    rw [cwR, cwR, ih]
    by_cases h : bN a k = bN b k
    · rw [if_pos h, if_pos h.symm]
    · rw [if_neg h, if_neg (fun e => h e.symm)]
theorem cwT_sym {cs ds : List ByteArray} : ∀ k, (∀ i, i < k → (tC cs i).size = (tC ds i).size) → cwT cs ds k = cwT ds cs k := by
  intro k
  induction k with
  | zero => intro _; rfl
  | succ k ih => intro h; rw [cwT, cwT, ih (fun i hi => h i (by omega)), cwR_sym, h k (by omega)]
theorem cwR_tri (a b c : ByteArray) : ∀ k, cwR a c k ≤ cwR a b k + cwR b c k := by
  intro k
  induction k with
  | zero => simp [cwR]
  | succ k ih =>
    rw [cwR, cwR, cwR]
    by_cases h1 : bN a k = bN b k
    · by_cases h2 : bN b k = bN c k
      · rw [if_pos (h1.trans h2), if_pos h1, if_pos h2]; omega
      · rw [if_pos h1, if_neg h2]; split <;> omega
    · rw [if_neg h1]; split <;> split <;> omega
theorem cwT_tri {cs ds es : List ByteArray} : ∀ k, (∀ i, i < k → (tC cs i).size = (tC ds i).size) → cwT cs es k ≤ cwT cs ds k + cwT ds es k := by
  intro k
  induction k with
  | zero => intro _; simp [cwT]
  | succ k ih =>
    intro h
    have h1 := ih (fun i hi => h i (by omega))
    have h2 := cwR_tri (tC cs k) (tC ds k) (tC es k) (tC cs k).size
    rw [cwT, cwT, cwT, ← h k (by omega)]; omega
theorem cwR_zero {a b : ByteArray} : ∀ k, cwR a b k = 0 → ∀ i, i < k → bN a i = bN b i := by
  intro k
  induction k with
  | zero => intro _ i hi; omega
  | succ k ih =>
    intro h i hi
    rw [cwR] at h
    have hb := cwR_bd (a := a) (b := b) k
    by_cases e : bN a k = bN b k
    · rw [if_pos e] at h
      by_cases e2 : i = k
      · subst e2; exact e
      · exact ih (by omega) i (by omega)
    · rw [if_neg e] at h; omega
theorem cwR_self (a : ByteArray) : ∀ k, cwR a a k = 0 := by
  intro k
  induction k with
  | zero => rfl
  | succ k ih => rw [cwR, ih, if_pos rfl]; rfl
theorem cwT_self (cs : List ByteArray) : ∀ k, cwT cs cs k = 0 := by
  intro k
  induction k with
  | zero => rfl
  | succ k ih => rw [cwT, ih, cwR_self]; rfl
theorem cwT_nonneg (cs ds : List ByteArray) : ∀ k, 0 ≤ cwT cs ds k := by
  intro k
  induction k with
  | zero => simp [cwT]
  | succ k ih => have := cwR_bd (a := tC cs k) (b := tC ds k) (tC cs k).size; rw [cwT]; omega
theorem cwT_zero {cs ds : List ByteArray} : ∀ k, cwT cs ds k = 0 → ∀ i, i < k → cwR (tC cs i) (tC ds i) (tC cs i).size = 0 := by
  intro k
  induction k with
  | zero => intro _ i hi; omega
  | succ k ih =>
    intro h i hi
    rw [cwT] at h
    have h1 := cwT_nonneg cs ds k
    have h2 := (cwR_bd (a := tC cs k) (b := tC ds k) (tC cs k).size).1
    by_cases e : i = k
    · subst e; omega
    · exact ih (by omega) i (by omega)
theorem bytes_ext {a b : ByteArray} (hs : a.size = b.size) (h : ∀ i, i < a.size → bN a i = bN b i) : a = b := by
  cases a with
  | mk x =>
    cases b with
    | mk y =>
      congr 1
      apply Array.ext hs
      intro i h1 h2
      have e := h i h1
      rw [bN_eq h1, bN_eq h2] at e
      have e2 : (x[i]).toNat = (y[i]).toNat := by exact_mod_cast e
      exact UInt8.toNat_inj.1 e2
theorem cw_sizes {cs ds : List ByteArray} (h : cwB cs ds = true) : ∀ i, i < cs.length → (tC cs i).size = (tC ds i).size := by
  obtain ⟨h1, h2, h3, h4⟩ := cwB_iff.1 h
  intro i hi
  rw [((EGV_iff.1 h1).2 i hi).2, ((EGV_iff.1 h2).2 i (by omega)).2, h4]
theorem cwB_sym {cs ds : List ByteArray} (h : cwB cs ds = true) : cwB ds cs = true := by
  obtain ⟨h1, h2, h3, h4⟩ := cwB_iff.1 h
  exact cwB_iff.2 ⟨h2, h1, h3.symm, h4.symm⟩
theorem cwF_sym {cs ds : List ByteArray} (h : cwB cs ds = true) : cwF ds cs = cwF cs ds := by
  rw [cwF_yes h, cwF_yes (cwB_sym h), (cwB_iff.1 h).2.2.1]
  exact (cwT_sym _ (fun i hi => cw_sizes h i (by rw [(cwB_iff.1 h).2.2.1]; exact hi))).symm
theorem cwF_zero {cs ds : List ByteArray} (h : cwB cs ds = true) : (cwF cs ds = 0) ↔ cs = ds := by
  constructor
  · intro h0
    rw [cwF_yes h] at h0
    apply List.ext_getElem (cwB_iff.1 h).2.2.1
    intro i h1 h2
    rw [← tC_lt h1, ← tC_lt h2]
    exact bytes_ext (cw_sizes h i h1) (cwR_zero _ (cwT_zero _ h0 i h1))
  · rintro rfl
    rw [cwF_yes h]; exact cwT_self _ _
theorem cwF_tri {cs ds es : List ByteArray} (h : cwB cs ds = true) (h2 : cwB cs es = true) (h3 : cwB ds es = true) : cwF cs es ≤ cwF cs ds + cwF ds es := by
  rw [cwF_yes h, cwF_yes h2, cwF_yes h3, ← (cwB_iff.1 h).2.2.1]
  exact cwT_tri _ (cw_sizes h)
theorem cwF_cases (cs ds : List ByteArray) : (cwB cs ds = true ∧ 0 ≤ cwF cs ds) ∨ (cwB cs ds = false ∧ cwF cs ds = -1) := by
  cases h : cwB cs ds
  · exact .inr ⟨rfl, cwF_no h⟩
  · exact .inl ⟨rfl, by rw [cwF_yes h]; exact cwT_nonneg _ _ _⟩
theorem tuK_size0 {cs : List ByteArray} (h : EGV cs = true) : ∀ n, (tC (tuK cs n) 0).size = (tC cs 0).size := by
  intro n
  induction n with
  | zero => rfl
  | succ n ih =>
    rw [tuK, tuN_at (by rw [tuK_len]; exact (EGV_iff.1 h).1.1), ← ih]
    split
    · exact plC_size _ _
    · rfl
theorem cwB_tuK {cs ds : List ByteArray} (h : cwB cs ds = true) (n : Nat) : cwB cs (tuK cs n) = true ∧ cwB ds (tuK cs n) = true := by
  obtain ⟨h1, h2, h3, h4⟩ := cwB_iff.1 h
  exact ⟨cwB_iff.2 ⟨h1, EGV_tuK h1 n, (tuK_len cs n).symm, (tuK_size0 h1 n).symm⟩, cwB_iff.2 ⟨h2, EGV_tuK h1 n, by rw [tuK_len, h3], by rw [tuK_size0 h1 n, h4]⟩⟩
/-- How many wheels agree in the first columns. -/
def smT (cs ds : List ByteArray) : Nat → Int
  | 0 => 0
  | k + 1 => smT cs ds k + ((tC cs k).size - cwR (tC cs k) (tC ds k) (tC cs k).size)
theorem smT_all {cs ds : List ByteArray} {z : Nat} : ∀ k, (∀ i, i < k → (tC cs i).size = z) → cwT cs ds k + smT cs ds k = (k : Int) * z := by
  intro k
  induction k with
  | zero => intro _; simp [cwT, smT]
  | succ k ih =>
    intro h
    have h1 := ih (fun i hi => h i (by omega))
    have h2 := h k (by omega)
    rw [cwT, smT, h2]
    have e : ((k + 1 : Nat) : Int) * z = (k : Int) * z + z := by rw [Int.natCast_add, Int.add_mul]; simp
    rw [e]; omega
theorem smT_bd {cs ds : List ByteArray} : ∀ k : Nat, (∀ i, i < k → (tC cs i).size ≤ 12) → 0 ≤ smT cs ds k ∧ smT cs ds k ≤ 12 * (k : Int) := by
  intro k
  induction k with
  | zero => intro _; simp [smT]
  | succ k ih =>
    intro h
    have h1 := ih (fun i hi => h i (by omega))
    have h2 := h k (by omega)
    have h3 := cwR_bd (a := tC cs k) (b := tC ds k) (tC cs k).size
    rw [smT]; omega
end Go.Proofs.Ytkaanlldjkflaaa
