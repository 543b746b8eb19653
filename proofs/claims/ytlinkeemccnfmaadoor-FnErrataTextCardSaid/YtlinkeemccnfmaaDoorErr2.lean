/- What is proved here: contracts of the functions on slips, remainders and exchanged digits. -/
import Derived.Test.YtlinkeemccnfmaaDoorNum
set_option linter.unusedVariables false
set_option linter.unusedSimpArgs false
namespace Go.Proofs.YtlinkeemccnfmaaDoor
open Go.RowKit

theorem slipF_ok {c t a cnt : Int} (h : slipOk c t a cnt = true) : slipF c t a cnt = (List.range cnt.toNat).map fun i => effF c.toNat t a (i : Nat) := by
  have h' : (slipB c t a && inB cnt 0 60) = true := h
  simp [slipF, h']
theorem slipF_no {c t a cnt : Int} (h : slipOk c t a cnt = false) : slipF c t a cnt = [] := by
  have h' : (slipB c t a && inB cnt 0 60) = false := h
  simp [slipF, h']
theorem slipF_len {c t a cnt : Int} : (slipF c t a cnt).length ≤ 60 := by
  by_cases h : slipOk c t a cnt = true
  · rw [slipF_ok h]; simp only [slipOk, Bool.and_eq_true, inB_iff] at h; simp; omega
  · rw [slipF_no (by simpa using h)]; simp
theorem effF_bd {c : Nat} {t a n : Int} (hc : c ≤ 6) (ht : 0 ≤ t ∧ t ≤ 59) (ha : -100000 ≤ a ∧ a ≤ 100000) (hn : 0 ≤ n ∧ n ≤ 60) :
    -1000000000000000000 ≤ effF c t a n ∧ effF c t a n ≤ 1000000000000000000 := by
  unfold effF; split
  · omega
  · have h := ch_bd6 (n := n - t) (k := c) (by omega) hc
    have := mul_bd (a := a) (b := chF (n - t) c) (A := 100000) (B := 1064089721800) (by omega) ha.1 ha.2 h.1 h.2
    omega
theorem slipF_el {c t a cnt : Int} {j : Nat} (h : slipOk c t a cnt = true) (hj : (j : Int) < cnt) : el (slipF c t a cnt) j = effF c.toNat t a j := by
  rw [slipF_ok h, el_map _ _ _ (by simp; omega)]; simp
theorem slipF_R {c t a cnt : Int} : R64 (slipF c t a cnt) := by
  by_cases h : slipOk c t a cnt = true
  · apply R64.of_el
    intro k hk
    have hl : (slipF c t a cnt).length = cnt.toNat := by rw [slipF_ok h]; simp
    have h' := h
    simp only [slipOk, Bool.and_eq_true, inB_iff, slipB_iff] at h'
    rw [slipF_el h (by omega)]
    have := effF_bd (c := c.toNat) (t := t) (a := a) (n := k) (by omega) h'.1.2.1 h'.1.2.2 (by omega)
    omega
  · rw [slipF_no (by simpa using h)]; exact R64.nil



end Go.Proofs.YtlinkeemccnfmaaDoor
