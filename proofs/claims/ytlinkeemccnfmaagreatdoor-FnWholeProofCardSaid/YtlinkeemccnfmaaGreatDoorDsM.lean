/- What is proved here: those statements of DsM that this claim needs. -/
import Derived.Test.YtlinkeemccnfmaaGreatDoorBase
set_option linter.unusedVariables false
set_option linter.unusedSimpArgs false
namespace Go.Proofs.YtlinkeemccnfmaaGreatDoor
open Go.RowKit
def wrF (xs ys : List Int) : List Int := (List.range xs.length).map fun i => el ys i - el xs i
theorem wrF_len (xs ys : List Int) : (wrF xs ys).length = xs.length := by simp [wrF]
theorem wrF_el {xs ys : List Int} {k : Nat} (h : k < xs.length) : el (wrF xs ys) k = el ys k - el xs k := by
  unfold wrF; rw [el_map _ _ _ (by simpa using h)]; simp
def fdF (xs ys : List Int) : Nat → Nat → Int
  | _, 0 => -1
  | j, n + 1 => if el xs j = el ys j then fdF xs ys (j + 1) n else j
def firstF (xs ys : List Int) : Int := fdF xs ys 0 xs.length
theorem fdF_spec (xs ys : List Int) : ∀ (n j : Nat), (fdF xs ys j n = -1 ∧ ∀ k, j ≤ k → k < j + n → el xs k = el ys k) ∨ (∃ f : Nat, fdF xs ys j n = f ∧ j ≤ f ∧ f < j + n ∧ el xs f ≠ el ys f ∧ ∀ k, j ≤ k → k < f → el xs k = el ys k) := by
  intro n
  induction n with
  | zero => intro j; exact .inl ⟨rfl, fun k h1 h2 => by omega⟩
  | succ n ih =>
    intro j
    unfold fdF
    by_cases h : el xs j = el ys j
    · rw [if_pos h]
      rcases ih (j + 1) with ⟨h1, h2⟩ | ⟨f, h1, h2, h3, h4, h5⟩
      · exact .inl ⟨h1, fun k a b => by by_cases e : k = j; subst e; exact h; exact h2 k (by omega) (by omega)⟩
      · exact .inr ⟨f, h1, by omega, by omega, h4, fun k a b => by by_cases e : k = j; subst e; exact h; exact h5 k (by omega) (by omega)⟩
    · rw [if_neg h]; exact .inr ⟨j, rfl, Nat.le_refl _, by omega, h, fun k a b => by omega⟩
def expl (w : List Int) (c : Nat) (t a : Int) : Bool := slipB c t a && eqL (slipF c t a w.length) w
def dgF (w : List Int) (f : Nat) : Nat → Nat → Option Nat
  | _, 0 => none
  | c, n + 1 => if expl w c ((f : Int) - c) (el w f) then some c else dgF w f (c + 1) n
def dgN (f : Nat) : Nat := min f 6 + 1
def diag (xs ys : List Int) : Int × Int × Int × Bool :=
  if TB xs && (TB ys && decide (xs.length = ys.length)) then
    (match firstF xs ys with
     | .ofNat f => (match dgF (wrF xs ys) f 0 (dgN f) with
        | some c => ((c : Int), (f : Int) - c, el (wrF xs ys) f, true)
        | none => (0, 0, 0, false))
     | .negSucc _ => (0, 0, 0, false))
  else (0, 0, 0, false)
def fj (xs ys : List Int) (j : Nat) : Int := fdF xs ys 0 j
theorem fj_bd (xs ys : List Int) (j : Nat) : -1 ≤ fj xs ys j ∧ fj xs ys j < j := by
  unfold fj
  rcases fdF_spec xs ys j 0 with ⟨h1, _⟩ | ⟨f, h1, _, h3, _⟩ <;> rw [h1] <;> omega
theorem fj_new {xs ys : List Int} {j : Nat} (h : fj xs ys j < 0) (hd : el xs j ≠ el ys j) : fj xs ys (j + 1) = j := by
  unfold fj at *
  rcases fdF_spec xs ys j 0 with ⟨h1, h2⟩ | ⟨f, h1, _, h3, _⟩
  · rcases fdF_spec xs ys (j + 1) 0 with ⟨g1, g2⟩ | ⟨f, g1, _, g3, g4, g5⟩
    · exact absurd (g2 j (Nat.zero_le _) (by omega)) hd
    · rw [g1]
      rcases Nat.lt_trichotomy f j with h' | h' | h'
      · exact absurd (h2 f (Nat.zero_le _) (by omega)) g4
      · rw [h']
      · omega
  · rw [h1] at h; omega
theorem fj_same {xs ys : List Int} {j : Nat} (h : el xs j = el ys j) : fj xs ys (j + 1) = fj xs ys j := by
  unfold fj
  rcases fdF_spec xs ys j 0 with ⟨h1, h2⟩ | ⟨f, h1, _, h3, h4, h5⟩
  · rw [h1]
    rcases fdF_spec xs ys (j + 1) 0 with ⟨g1, g2⟩ | ⟨f, g1, _, g3, g4, g5⟩
    · exact g1
    · by_cases e : f = j
      · rw [e] at g4; exact absurd h g4
      · exact absurd (h2 f (Nat.zero_le _) (by omega)) g4
  · rw [h1]
    rcases fdF_spec xs ys (j + 1) 0 with ⟨g1, g2⟩ | ⟨f', g1, _, g3, g4, g5⟩
    · exact absurd (g2 f (Nat.zero_le _) (by omega)) h4
    · rw [g1]
      rcases Nat.lt_trichotomy f f' with h' | h' | h'
      · exact absurd (g5 f (Nat.zero_le _) h') h4
      · rw [h']
      · exact absurd (h5 f' (Nat.zero_le _) h') g4
theorem fj_old {xs ys : List Int} {j : Nat} (h : 0 ≤ fj xs ys j) : fj xs ys (j + 1) = fj xs ys j := by
  unfold fj at *
  rcases fdF_spec xs ys j 0 with ⟨h1, h2⟩ | ⟨f, h1, _, h3, h4, h5⟩
  · rw [h1] at h; omega
  · rw [h1]
    rcases fdF_spec xs ys (j + 1) 0 with ⟨g1, g2⟩ | ⟨f', g1, _, g3, g4, g5⟩
    · exact absurd (g2 f (Nat.zero_le _) (by omega)) h4
    · rw [g1]
      rcases Nat.lt_trichotomy f f' with h' | h' | h'
      · exact absurd (g5 f (Nat.zero_le _) h') h4
      · rw [h']
      · exact absurd (h5 f' (Nat.zero_le _) h') g4
end Go.Proofs.YtlinkeemccnfmaaGreatDoor
