/- What is proved here: contracts of TurnWhole, RunEngine, and of the drawing of a run with a slip. -/
import Derived.Test.YtkaanlldjkflaaaDoorTm
import Derived.Test.YtkaanlldjkflaaaDoorDraw1
set_option linter.unusedVariables false
set_option linter.unusedSimpArgs false
set_option maxRecDepth 100000
namespace Go.Proofs.YtkaanlldjkflaaaDoor
open Go.RowKit

/-- A row of strings reads as before where a cell is written in a block that holds no string. -/
theorem IsT.setNS {w : World} {B g j : Nat} {v u : Value} {cs : List ByteArray} (h : IsT w B v cs) (hg : ∀ o s, w.cell? ⟨g, o, none⟩ ≠ some (.string s)) : IsT (w.setCell ⟨g, j, none⟩ u) B v cs := by
  obtain ⟨av, cap, rfl, hm, hc⟩ := h
  refine ⟨av, cap, rfl, hm, fun i hi => ?_⟩
  obtain ⟨b, off, rfl, hb, hcell, hs⟩ := hc i hi
  have hne : ¬ b = g := by rintro rfl; exact hg _ _ hcell
  exact ⟨b, off, rfl, hb, cell_other hne hcell, hs⟩
theorem Blk.ns {w : World} {g : Nat} {xs : List Int} (h : Blk w g xs) : ∀ o s, w.cell? ⟨g, o, none⟩ ≠ some (.string s) := by
  intro o s e
  rw [row_cell h, List.getElem?_toArray, List.getElem?_map] at e
  cases h2 : xs[o]? <;> rw [h2] at e <;> simp at e
theorem eng_ns {w : World} {g n c : Nat} {a : Option Addr} {t : TypeId} (h : w.heap[g]? = some (.cells #[.slice a n c] t (0, 0))) : ∀ o s, w.cell? ⟨g, o, none⟩ ≠ some (.string s) := by
  intro o s e
  rw [row_cell h] at e
  rcases Nat.eq_zero_or_pos o with h2 | h2
  · subst h2; simp at e
  · rw [Array.getElem?_eq_none (by simp; omega)] at e; cases e
/-- The results of an engine. -/
def plR (cs : List ByteArray) (i : Nat) : Int := sgN (tC (tuK cs i) 0)
theorem plR_bd {cs : List ByteArray} (h : EGV cs = true) (i : Nat) : -1000000000000 ≤ plR cs i ∧ plR cs i ≤ 1000000000000 := by
  have h1 := EGV_iff.1 (EGV_tuK h i)
  exact sgN_bd (h1.2 0 (by omega)).1
end Go.Proofs.YtkaanlldjkflaaaDoor
