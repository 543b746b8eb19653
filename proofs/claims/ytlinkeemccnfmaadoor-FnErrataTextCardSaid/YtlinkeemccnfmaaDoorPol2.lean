/- What is proved here: contracts of spec's PolyValid, l2Trim and DegreeOf. -/
import Derived.Test.YtlinkeemccnfmaaDoorPol
set_option linter.unusedVariables false
set_option linter.unusedSimpArgs false
namespace Go.Proofs.YtlinkeemccnfmaaDoor
open Go.RowKit

/-- Whether numbers are the differences of a polynomial. -/
def PV (xs : List Int) : Bool := inB xs.length 1 7 && alw 100000 xs
theorem PV_iff {xs : List Int} : PV xs = true ↔ 1 ≤ xs.length ∧ xs.length ≤ 7 ∧ ∀ k, k < xs.length → -100000 ≤ el xs k ∧ el xs k ≤ 100000 := by
  rw [PV, Bool.and_eq_true, inB_iff, alw_iff]
  exact ⟨fun h => ⟨by omega, by omega, h.2⟩, fun h => ⟨by omega, h.2.2⟩⟩
theorem PV_alw {xs : List Int} (h : alw 100000 xs = true) : PV xs = inB xs.length 1 7 := by simp [PV, h]
theorem PV_no {xs : List Int} (h : alw 100000 xs = false) : PV xs = false := by simp [PV, h]
theorem PV_len {xs : List Int} (h : inB xs.length 1 7 = false) : PV xs = false := by simp [PV, h]
theorem PV_len' {xs : List Int} (h : inB xs.length 1 7 = true) : PV xs = alw 100000 xs := by simp [PV, h]
theorem PV_Bd {xs : List Int} (h : PV xs = true) : Bd 100000 xs := (PV_iff.1 h).2.2
theorem IsI.take {w : World} {B cap n : Nat} {a : Option Addr} {xs : List Int} (h : IsI w B (.slice a n cap) xs) {k : Nat} (hk : k ≤ xs.length) : IsI w B (.slice a k cap) (xs.take k) := by
  obtain ⟨a', cap', he, hm, hr, hc⟩ := h
  simp only [Value.slice.injEq] at he
  obtain ⟨rfl, rfl, rfl⟩ := he
  have hl : (xs.take k).length = k := by rw [List.length_take]; omega
  refine ⟨a, cap, by rw [hl], ⟨by omega, hm.2.1, hm.2.2⟩, hr.take k, fun i hi => ?_⟩
  obtain ⟨b, off, ha, hb, hcell⟩ := hc i (by omega)
  exact ⟨b, off, ha, hb, fun j hj => by rw [el_take (by omega)]; exact hcell j (by omega)⟩
theorem IsI.alloc {w : World} {B : Nat} {v : Value} {xs : List Int} (h : IsI w B v xs) (o : Obj) (hB : B ≤ w.heap.size) : IsI (w.alloc o) B v xs :=
  h.below ((Below.refl w.heap.size w).alloc (Nat.le_refl _) o) hB


/-- How many of the first n numbers are left without the zeros at the end; one at least. -/
def trN (p : List Int) : Nat → Nat
  | 0 => 0
  | 1 => 1
  | n + 2 => if el p (n + 1) = 0 then trN p (n + 1) else n + 2
theorem trN_le (p : List Int) : ∀ n, trN p n ≤ n
  | 0 => Nat.le_refl _
  | 1 => Nat.le_refl _
  | n + 2 => by unfold trN; split; · have := trN_le p (n + 1); omega
                · omega
theorem trN_pos (p : List Int) : ∀ n, 1 ≤ n → 1 ≤ trN p n
  | 0, h => h
  | 1, _ => Nat.le_refl _
  | n + 2, _ => by unfold trN; split; · exact trN_pos p (n + 1) (by omega)
                   · omega
theorem trN_zero {p : List Int} {n : Nat} (h : 1 < n) (h0 : el p (n - 1) = 0) : trN p n = trN p (n - 1) := by
  obtain ⟨m, rfl⟩ : ∃ m, n = m + 2 := ⟨n - 2, by omega⟩
  show trN p (m + 2) = trN p (m + 1)
  rw [trN, if_pos (by simpa using h0)]
theorem trN_end {p : List Int} {n : Nat} (h : 1 < n → el p (n - 1) ≠ 0) : trN p n = n := by
  match n, h with
  | 0, _ => rfl
  | 1, _ => rfl
  | m + 2, h => rw [trN, if_neg (by simpa using h (by omega))]
def trimF (p : List Int) : List Int := p.take (trN p p.length)
theorem trimF_len (p : List Int) : (trimF p).length = trN p p.length := by
  unfold trimF; rw [List.length_take]; have := trN_le p p.length; omega
/-- The degree as both texts reckon it. -/
def degF (p : List Int) : Int := if PV p then (if trN p p.length = 1 ∧ el p 0 = 0 then -1 else (trN p p.length : Int) - 1) else -2
theorem degF_no {p : List Int} (h : PV p = false) : degF p = -2 := by simp [degF, h]
theorem degF_m1 {p : List Int} (h : PV p = true) (h1 : trN p p.length = 1) (h2 : el p 0 = 0) : degF p = -1 := by simp [degF, h, h1, h2]
theorem degF_yes {p : List Int} (h : PV p = true) (h1 : ¬ (trN p p.length = 1 ∧ el p 0 = 0)) : degF p = (trN p p.length : Int) - 1 := by
  unfold degF; rw [if_pos h, if_neg h1]
theorem degF_bd (p : List Int) : -2 ≤ degF p ∧ degF p ≤ (p.length : Int) - 1 ∨ (p.length = 0 ∧ degF p = -2) := by
  have h1 := trN_le p p.length
  have h2 := trN_pos p p.length
  unfold degF
  split
  · rename_i h; have := (PV_iff.1 h).1; split <;> omega
  · omega

end Go.Proofs.YtlinkeemccnfmaaDoor
