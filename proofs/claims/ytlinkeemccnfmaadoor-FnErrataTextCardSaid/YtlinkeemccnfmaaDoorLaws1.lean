/- What is proved here: contracts of the helpers of the laws package on slices of ints (eqIntS, markIntS, heldIntS, toIntS). -/
import Derived.Test.YtlinkeemccnfmaaDoorNum
set_option linter.unusedVariables false
set_option linter.unusedSimpArgs false
namespace Go.Proofs.YtlinkeemccnfmaaDoor
open Go.RowKit


theorem drewN_chg (w : World) (n lo hi : Nat) : Chg lo hi w (w.drewN n) := (Chg.refl _ _ _).drewN n
theorem marks_end {w : World} {lo hi g n cap : Nat} {cur : Array Value} {k : Int} (hg : w.heap[g]? = some (.cells cur 3 (0, 0))) (hl : lo ≤ g) (hh : g < hi) (hn : n ≤ cap) (hm : cap ≤ maxLen)
    (hs : cur.size = cap) (h0 : 0 ≤ k) (hk : k + n ≤ 4611686018427387904) (h : ∀ i, i < n → cur[i]? = some (.int .i64 (k + i))) : Rw w lo hi (.slice (some ⟨g, 0, none⟩) n cap) (marks k n) := by
  refine ⟨?_, fun b hb => by simp [Value.ownBlock] at hb; omega, R64.marks (by omega) (by omega)⟩
  rw [marks_len]
  refine own_of_cells hg hl hn hm hs (by simp [marks_len]) fun i hi => ?_
  rw [h i hi, map_int_at _ _ (by rw [marks_len]; exact hi), marks_el _ _ _ hi]
theorem marks_step {j : Nat} {k : Int} {cur : Array Value} (hs : j < cur.size) (h : ∀ i, i < j → cur[i]? = some (.int .i64 (k + i))) :
    ∀ i, i < j + 1 → (cur.setIfInBounds j (.int .i64 (k + j)))[i]? = some (.int .i64 (k + i)) := by
  intro i hi
  rw [Array.getElem?_setIfInBounds]
  by_cases e : j = i
  · subst e; simp [hs]
  · rw [if_neg e]; exact h i (by omega)

end Go.Proofs.YtlinkeemccnfmaaDoor
