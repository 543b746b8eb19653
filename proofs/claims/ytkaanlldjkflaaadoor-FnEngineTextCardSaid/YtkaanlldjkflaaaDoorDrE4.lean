/- What is proved here: the contract of the drawing of two engines. -/
import Derived.Test.YtkaanlldjkflaaaDoorDrE3
set_option linter.unusedVariables false
set_option linter.unusedSimpArgs false
set_option maxRecDepth 100000
namespace Go.Proofs.YtkaanlldjkflaaaDoor
open Go.RowKit

theorem bodyPost_eng2 {fn : Func} {p q : Tmp} (h : fn.results = #[.cell p 25, .cell q 25]) {a : Act} {w' : World} {g k : Nat} {v u : Value} {Q : Ending → World → Prop}
    (hd : a.defers = []) (hp : a.tmps.getD p undef = .pointer (some ⟨g, 0, none⟩)) (hq' : a.tmps.getD q undef = .pointer (some ⟨k, 0, none⟩)) (hg : w'.heap[g]? = some (.cells #[v] 25 (0, 0))) (hk : w'.heap[k]? = some (.cells #[u] 25 (0, 0)))
    (hq : Q (.returned (.tuple #[.agg #[v], .agg #[u]])) w') : bodyPost Tryd.prog fn Q .ret a w' := by
  refine bodyPost_ret (v := .tuple #[.agg #[v], .agg #[u]]) ?_ hd hq
  have hp' : a.tmps[p]?.getD undef = .pointer (some ⟨g, 0, none⟩) := by rw [← Array.getD_eq_getD_getElem?]; exact hp
  have hq2 : a.tmps[q]?.getD undef = .pointer (some ⟨k, 0, none⟩) := by rw [← Array.getD_eq_getD_getElem?]; exact hq'
  simp [results, h, hp', hq2, asAddr, Result.andThen, run_loadVar_row (P := Tryd.prog) w' g 25 25 #[v] (0, 0) _ hg Tryd.underlying25 rfl Tryd.infoEng, run_loadVar_row (P := Tryd.prog) w' k 25 25 #[u] (0, 0) _ hk Tryd.underlying25 rfl Tryd.infoEng]
theorem IsBy.upE {w : World} {B B' : Nat} {v : Value} {n : Nat} (h : IsBy w B v n) (hB : B ≤ B') : IsBy w B' v n := by
  obtain ⟨a, cap, rfl, hm, hc⟩ := h
  exact ⟨a, cap, rfl, hm, fun i hi => by obtain ⟨b, off, h1, h2, h3⟩ := hc i hi; exact ⟨b, off, h1, by omega, h3⟩⟩
/-- What a call leaves that draws two engines. -/
def TwoEng (w : World) (e : Ending) (w' : World) : Prop :=
  ∃ (v u : Value) (cs ds : List ByteArray), e = .returned (.tuple #[.agg #[v], .agg #[u]]) ∧ IsT w' w'.heap.size v cs ∧ IsT w' w'.heap.size u ds ∧ (cs.length ≤ 8 ∧ ds.length ≤ 8) ∧ Below w.heap.size w w'
theorem RwT.c2 {w w' : World} {lo hi g b k n cap : Nat} {cs : List ByteArray} (h : RwT w lo hi (.slice (some ⟨k, 0, none⟩) n cap) cs) (c : C2 g b w w') (h1 : k ≠ g) (h2 : k ≠ b) : RwT w' lo hi (.slice (some ⟨k, 0, none⟩) n cap) cs :=
  h.cong (c.block k h.lt.2.2 h1 h2) (Nat.le_refl _)
end Go.Proofs.YtkaanlldjkflaaaDoor
