/- What is proved here: contracts of the functions on remainders of tables and on exchanged digits. -/
import Derived.Test.YtlinkeemccnfmaaDoorNum
set_option linter.unusedVariables false
set_option linter.unusedSimpArgs false
namespace Go.Proofs.YtlinkeemccnfmaaDoor
open Go.RowKit

/-- The remainders of a table. -/
def restF (xs : List Int) (m : Int) : List Int := if TB xs then xs.map (md · m) else []
theorem restF_ok {xs : List Int} {m : Int} (h : TB xs = true) : restF xs m = xs.map (md · m) := by simp [restF, h]
theorem restF_no {xs : List Int} {m : Int} (h : TB xs = false) : restF xs m = [] := by simp [restF, h]
theorem restF_len {xs : List Int} {m : Int} : (restF xs m).length ≤ 60 := by
  by_cases h : TB xs = true
  · rw [restF_ok h]; have := TB_iff.1 h; simp; omega
  · rw [restF_no (by simpa using h)]; simp
theorem rest_R {xs : List Int} {m : Int} (h0 : 0 < m) (h1 : m ≤ 1000) : R64 (xs.map (md · m)) := by
  intro x hx
  obtain ⟨y, _, rfl⟩ := List.mem_map.1 hx
  have a := md_nonneg y h0; have b := md_lt y h0; omega
theorem rest_take {xs : List Int} {m : Int} {j : Nat} (h : j < xs.length) : (xs.map (md · m)).take (j + 1) = (xs.map (md · m)).take j ++ [md (el xs j) m] := by
  rw [take_el (by simpa using h), el_map _ _ _ h, el_lt h]




/-- The places of the first j entries whose remainder by 9 is not the given one. -/
def wnT (xs ys : List Int) : Nat → List Int
  | 0 => []
  | j + 1 => if md (el xs j) 9 = el ys j then wnT xs ys j else wnT xs ys j ++ [(j : Int)]
def wnF (xs ys : List Int) : List Int := if TB xs && decide (xs.length = ys.length) then wnT xs ys xs.length else []
theorem wnT_len (xs ys : List Int) (j : Nat) : (wnT xs ys j).length ≤ j := by
  induction j with
  | zero => exact Nat.zero_le _
  | succ j ih =>
    unfold wnT; split
    · omega
    · simp; omega
theorem wnT_R (xs ys : List Int) (j : Nat) (h : j ≤ 1000) : R64 (wnT xs ys j) := by
  induction j with
  | zero => exact R64.nil
  | succ j ih =>
    unfold wnT; split
    · exact ih (by omega)
    · exact (ih (by omega)).append (R64.one (by omega))
theorem wnF_len {xs ys : List Int} : (wnF xs ys).length ≤ 60 := by
  unfold wnF; split
  · rename_i h; simp only [Bool.and_eq_true] at h; have := TB_iff.1 h.1; have := wnT_len xs ys xs.length; omega
  · simp



/-- A number with two neighboring digits exchanged. -/
def exF (n : Int) (p : Nat) : Int := n + (n / ten p % 10 - n / ten p / 10 % 10) * ten p * 10 + (n / ten p / 10 % 10 - n / ten p % 10) * ten p
def exOk (n p : Int) : Bool := inB n 0 1000000000 && inB p 0 8
def exV (n p : Int) : Int := if exOk n p then exF n p.toNat else 0
theorem exF_alt (n : Int) (p : Nat) : n + (n / (ten p * 10) % 10 - n / ten p % 10) * ten p + (n / ten p % 10 - n / (ten p * 10) % 10) * ten p * 10 = exF n p := by
  have h := ten_pos p
  have e : n / (ten p * 10) = n / ten p / 10 := by rw [Int.ediv_ediv_of_nonneg (by omega)]
  rw [e]; unfold exF; omega


end Go.Proofs.YtlinkeemccnfmaaDoor
