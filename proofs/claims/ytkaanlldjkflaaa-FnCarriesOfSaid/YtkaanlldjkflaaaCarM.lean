/- What is proved here: plain facts on turning wheels without carries, on warned wheels, and on carrying until no wheel is warned. No program in sight. -/
import Derived.Test.YtkaanlldjkflaaaCwM
import Derived.Lib.IndexAny
set_option linter.unusedVariables false
set_option linter.unusedSimpArgs false
namespace Go.Proofs.Ytkaanlldjkflaaa
open Go.RowKit

def twL (a b : ByteArray) : List Int := (List.range a.size).map fun i => 48 + (bN a i - 48 + (bN b i - 48)) % 10
/-- Each wheel of a turned by the digit of b. -/
def twB (a b : ByteArray) : ByteArray := strOfNums (twL a b)
def wwL (a b : ByteArray) : List Int := (List.range a.size).map fun i => 48 + (bN a i - 48 + (bN b i - 48)) / 10
/-- The wheels that pass from 9 to 0. -/
def wwB (a b : ByteArray) : ByteArray := strOfNums (wwL a b)
def upL (w : ByteArray) : List Int := (List.range w.size).map fun i => if i + 1 < w.size then bN w (i + 1) else 48
/-- Marks, each moved to the next higher wheel. -/
def upB (w : ByteArray) : ByteArray := strOfNums (upL w)
theorem twL_len (a b : ByteArray) : (twL a b).length = a.size := by simp [twL]
theorem wwL_len (a b : ByteArray) : (wwL a b).length = a.size := by simp [wwL]
theorem upL_len (w : ByteArray) : (upL w).length = w.size := by simp [upL]
theorem twL_el {a b : ByteArray} {i : Nat} (h : i < a.size) : el (twL a b) i = 48 + (bN a i - 48 + (bN b i - 48)) % 10 := by rw [el_lt (by rw [twL_len]; exact h)]; simp [twL]
theorem wwL_el {a b : ByteArray} {i : Nat} (h : i < a.size) : el (wwL a b) i = 48 + (bN a i - 48 + (bN b i - 48)) / 10 := by rw [el_lt (by rw [wwL_len]; exact h)]; simp [wwL]
theorem upL_el {w : ByteArray} {i : Nat} (h : i < w.size) : el (upL w) i = if i + 1 < w.size then bN w (i + 1) else 48 := by rw [el_lt (by rw [upL_len]; exact h)]; simp [upL]
theorem twB_size (a b : ByteArray) : (twB a b).size = a.size := by rw [twB, strOfNums_size, twL_len]
theorem wwB_size (a b : ByteArray) : (wwB a b).size = a.size := by rw [wwB, strOfNums_size, wwL_len]
theorem upB_size (w : ByteArray) : (upB w).size = w.size := by rw [upB, strOfNums_size, upL_len]
/-- All bytes are digits. -/
def Dg (s : ByteArray) : Prop := ∀ i, i < s.size → 48 ≤ bN s i ∧ bN s i ≤ 57
/-- All bytes are marks. -/
def Mk (s : ByteArray) : Prop := ∀ i, i < s.size → bN s i = 48 ∨ bN s i = 49
theorem Mk.dg {s : ByteArray} (h : Mk s) : Dg s := fun i hi => by have := h i hi; omega
theorem Dg.cv {s : ByteArray} (h : Dg s) (h0 : 1 ≤ s.size) (h1 : s.size ≤ 12) : CV s = true := CV_iff.2 ⟨⟨h0, h1⟩, h⟩
theorem CV_dg {s : ByteArray} (h : CV s = true) : Dg s := (CV_iff.1 h).2
theorem twB_bN {a b : ByteArray} {i : Nat} (h : i < a.size) : bN (twB a b) i = 48 + (bN a i - 48 + (bN b i - 48)) % 10 := by
  rw [twB, bN_nums (by rw [twL_len]; exact h) (by rw [twL_el h]; omega) (by rw [twL_el h]; omega), twL_el h]
theorem wwB_bN {a b : ByteArray} {i : Nat} (ha : Dg a) (hb : Dg b) (h : i < a.size) (h2 : i < b.size) : bN (wwB a b) i = 48 + (bN a i - 48 + (bN b i - 48)) / 10 := by
  have h3 := ha i h
  have h4 := hb i h2
  rw [wwB, bN_nums (by rw [wwL_len]; exact h) (by rw [wwL_el h]; omega) (by rw [wwL_el h]; omega), wwL_el h]
theorem upB_bN {w : ByteArray} {i : Nat} (hw : Dg w) (h : i < w.size) : bN (upB w) i = if i + 1 < w.size then bN w (i + 1) else 48 := by
  have e : 0 ≤ el (upL w) i ∧ el (upL w) i ≤ 255 := by
    rw [upL_el h]; split
    · have := hw (i + 1) (by assumption); omega
    · omega
  rw [upB, bN_nums (by rw [upL_len]; exact h) e.1 e.2, upL_el h]
theorem twB_dg (a b : ByteArray) : Dg (twB a b) := fun i hi => by rw [twB_size] at hi; rw [twB_bN hi]; omega
theorem wwB_mk {a b : ByteArray} (ha : Dg a) (hb : Dg b) (hs : a.size = b.size) : Mk (wwB a b) := fun i hi => by
  rw [wwB_size] at hi
  have h1 := ha i hi
  have h2 := hb i (by omega)
  rw [wwB_bN ha hb hi (by omega)]; omega
theorem upB_mk {w : ByteArray} (h : Mk w) : Mk (upB w) := fun i hi => by
  rw [upB_size] at hi
  rw [upB_bN h.dg hi]
  split
  · exact h _ (by assumption)
  · exact .inl rfl
/-- Marks moved up, as the reference writes it. -/
theorem bN_data {s : ByteArray} {i : Nat} (h : i < s.size) : bN s i = ((s.data.toList[i]'(by rw [Array.length_toList]; exact h)).toNat : Int) := by rw [bN_eq h]; rfl
theorem up_eq {w : ByteArray} (hw : Dg w) (h : 0 < w.size) : w.extract 1 w.size ++ ⟨#[48]⟩ = upB w := by
  have hs : (w.extract 1 w.size ++ ⟨#[48]⟩).size = w.size := by rw [ByteArray.size_append, ByteArray.size_extract]; show min w.size w.size - 1 + 1 = _; omega
  refine bytes_ext (by rw [hs, upB_size]) fun i hi => ?_
  rw [hs] at hi
  rw [upB_bN hw hi, bN_data (by rw [hs]; exact hi)]
  have e : (w.extract 1 w.size ++ ⟨#[48]⟩).data.toList = w.data.toList.drop 1 ++ [48] := by
    have hl : w.data.toList.length = w.size := Array.length_toList
    simp
    exact List.take_of_length_le (by rw [List.length_tail, hl]; exact Nat.le_refl _)
  have hl : w.data.toList.length = w.size := Array.length_toList
  split
  · rename_i hlt
    rw [bN_data hlt]
    congr 2
    rw [List.getElem_of_eq e, List.getElem_append_left (by rw [List.length_drop, hl]; omega), List.getElem_drop]
    congr 1
    omega
  · rename_i hge
    rw [List.getElem_of_eq e, List.getElem_append_right (by rw [List.length_drop, hl]; omega)]
    simp
/-- One time of carrying. -/
def coB (c w : ByteArray) : ByteArray := twB c (upB w)
def cmB (c w : ByteArray) : ByteArray := wwB c (upB w)
/-- No wheel is warned. -/
def zrB (w : ByteArray) : Bool := decide (∀ i, i < w.size → bN w i = 48)
theorem zrB_iff {w : ByteArray} : zrB w = true ↔ ∀ i, i < w.size → bN w i = 48 := by simp only [zrB, decide_eq_true_eq]
/-- How often is carried. -/
def crN : Nat → ByteArray → ByteArray → Nat
  | 0, _, _ => 0
  | f + 1, c, w => if zrB w then 0 else crN f (coB c w) (cmB c w) + 1
theorem crN_le : ∀ f c w, crN f c w ≤ f
  | 0, _, _ => Nat.le_refl _
  | f + 1, c, w => by
    rw [crN]; split
    · omega
    · have := crN_le f (coB c w) (cmB c w); omega
/-- How often carries follow each other in a sum. -/
def ctN (a b : ByteArray) : Nat := crN a.size (twB a b) (wwB a b)
theorem ctN_le (a b : ByteArray) : ctN a b ≤ a.size := crN_le _ _ _
/-- Where carrying stands after j times, T in all. -/
def CrS (n T j : Nat) (c w : ByteArray) : Prop := c.size = n ∧ w.size = n ∧ Dg c ∧ Mk w ∧ (∀ i, n ≤ i + j → i < n → bN w i = 48) ∧ j ≤ n ∧ T = j + crN (n - j) c w
theorem CrS.start {c w : ByteArray} (hs : c.size = w.size) (hc : Dg c) (hw : Mk w) : CrS c.size (crN c.size c w) 0 c w :=
  ⟨rfl, hs.symm, hc, hw, fun i h1 h2 => by omega, Nat.zero_le _, by simp⟩
theorem CrS.lt {n T j : Nat} {c w : ByteArray} (h : CrS n T j c w) (hz : zrB w = false) : j < n := by
  obtain ⟨h1, h2, h3, h4, h5, h6, h7⟩ := h
  refine Nat.lt_of_not_le fun hle => ?_
  have : zrB w = true := zrB_iff.2 fun i hi => h5 i (by omega) (by omega)
  rw [hz] at this; cases this
theorem CrS.step {n T j : Nat} {c w : ByteArray} (h : CrS n T j c w) (hz : zrB w = false) : CrS n T (j + 1) (coB c w) (cmB c w) := by
  have hlt := h.lt hz
  obtain ⟨h1, h2, h3, h4, h5, h6, h7⟩ := h
  have hu := upB_mk h4
  refine ⟨by rw [coB, twB_size, h1], by rw [cmB, wwB_size, h1], twB_dg _ _, wwB_mk h3 hu.dg (by rw [upB_size, h1, h2]), fun i hi hn => ?_, hlt, ?_⟩
  · have hd := h3 i (by omega)
    rw [cmB, wwB_bN h3 hu.dg (by omega) (by rw [upB_size]; omega), upB_bN h4.dg (by omega)]
    split
    · rw [h5 (i + 1) (by omega) (by omega)]; omega
    · omega
  · rw [h7, show n - j = (n - (j + 1)) + 1 by omega, crN, hz]
    simp only [Bool.false_eq_true, if_false]
    omega
theorem CrS.fin {n T j : Nat} {c w : ByteArray} (h : CrS n T j c w) (hz : zrB w = true) : T = j := by
  obtain ⟨h1, h2, h3, h4, h5, h6, h7⟩ := h
  rw [h7]
  cases hk : n - j with
  | zero => rfl
  | succ k => rw [crN, if_pos hz]; rfl
theorem vN_zero {s : ByteArray} (h : Dg s) : ∀ k, k ≤ s.size → (vN s k = 0 ↔ ∀ i, i < k → bN s i = 48)
  | 0, _ => ⟨fun _ i hi => by omega, fun _ => rfl⟩
  | k + 1, hk => by
    have ih := vN_zero h k (by omega)
    have hb := vN_bd (s := s) k fun i hi => h i (by omega)
    have hd := h k (by omega)
    rw [vN]
    constructor
    · intro e i hi
      by_cases h2 : i = k
      · subst h2; omega
      · exact ih.1 (by omega) i (by omega)
    · intro e
      have := ih.2 fun i hi => e i (by omega)
      have := e k (by omega)
      omega
theorem vl_zero {s : ByteArray} (h : Dg s) : vl s = 0 ↔ zrB s = true := by rw [vl, vN_zero h _ (Nat.le_refl _), zrB_iff]
theorem has_one {s : ByteArray} (h : Mk s) : decide (0 ≤ Lib.indexByte s.data.toList 49) = !zrB s := by
  rw [← Lib.contains_iff_indexByte]
  have hl : s.data.toList.length = s.size := Array.length_toList
  cases hz : zrB s with
  | true =>
    have h1 := zrB_iff.1 hz
    show _ = false
    rw [Bool.eq_false_iff]
    intro hc
    rw [List.contains_iff_mem] at hc
    obtain ⟨i, hi, e⟩ := List.getElem_of_mem hc
    have h2 := h1 i (by omega)
    rw [bN_data (by omega), e] at h2
    exact absurd h2 (by decide)
  | false =>
    show _ = true
    rw [List.contains_iff_mem]
    have : ¬ ∀ i, i < s.size → bN s i = 48 := fun hc => by rw [zrB_iff.2 hc] at hz; cases hz
    obtain ⟨i, hi⟩ := Classical.not_forall.1 this
    obtain ⟨hi, hb⟩ := Classical.not_imp.1 hi
    have h2 := h i hi
    have e : s.data.toList[i]'(by omega) = 49 := by
      apply UInt8.toNat_inj.1
      have := bN_data hi
      show _ = 49
      omega
    rw [← e]
    exact List.getElem_mem _
/-- The most carries of the first k pairs of columns. -/
def mxC (cs : List ByteArray) : Nat → Nat
  | 0 => 0
  | k + 1 => max (mxC cs k) (ctN (tC cs k) (tC cs (k + 1)))
theorem mxC_ge {cs : List ByteArray} : ∀ {k i}, i < k → ctN (tC cs i) (tC cs (i + 1)) ≤ mxC cs k
  | k + 1, i, h => by
    rw [mxC]
    by_cases e : i = k
    · subst e; omega
    · have := mxC_ge (cs := cs) (show i < k by omega); omega
theorem mxC_some {cs : List ByteArray} : ∀ k, mxC cs k = 0 ∨ ∃ i, i < k ∧ ctN (tC cs i) (tC cs (i + 1)) = mxC cs k
  | 0 => .inl rfl
  | k + 1 => by
    rw [mxC]
    rcases Nat.le_total (mxC cs k) (ctN (tC cs k) (tC cs (k + 1))) with h | h
    · exact .inr ⟨k, by omega, by omega⟩
    · rcases mxC_some (cs := cs) k with e | ⟨i, hi, e⟩
      · exact .inr ⟨k, by omega, by omega⟩
      · exact .inr ⟨i, by omega, by omega⟩
theorem mxC_le {cs : List ByteArray} {n : Nat} : ∀ k, (∀ i, i < k → (tC cs i).size ≤ n) → mxC cs k ≤ n
  | 0, _ => Nat.zero_le _
  | k + 1, h => by
    have h1 := mxC_le k fun i hi => h i (by omega)
    have h2 := h k (by omega)
    have h3 := ctN_le (tC cs k) (tC cs (k + 1))
    rw [mxC]; omega
/-- The carries of a turn; -1 if the columns are no engine's. -/
def crF (cs : List ByteArray) : Int := if EGV cs then (mxC cs (cs.length - 1) : Nat) else -1
theorem crF_yes {cs : List ByteArray} (h : EGV cs = true) : crF cs = (mxC cs (cs.length - 1) : Nat) := if_pos h
theorem crF_no {cs : List ByteArray} (h : EGV cs = false) : crF cs = -1 := by rw [crF, h]; rfl
end Go.Proofs.Ytkaanlldjkflaaa
