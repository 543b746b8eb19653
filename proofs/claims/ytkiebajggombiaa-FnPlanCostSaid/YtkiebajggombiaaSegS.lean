/- What is proved here: how the laws compare, mark and hold one segment. -/
import Derived.Test.YtkiebajggombiaaLaws1
import Derived.Test.YtkiebajggombiaaSgm
set_option linter.unusedVariables false
set_option linter.unusedSimpArgs false
namespace Go.Proofs.Ytkiebajggombiaa
open Go.RowKit

theorem seg_alloc_chg (w : World) (o : Obj) (lo hi : Nat) : Chg lo hi w (w.alloc o) := ⟨rfl, rfl, rfl, by simp, fun k hk _ => Below.heap_alloc _ _ _ hk⟩
theorem seg_alloc_cells (w : World) (c v : Value) (t : TypeId) : (w.alloc (.cells #[c, v] t)).heap[w.heap.size]? = some (.cells #[c, v] t (0, 0)) := heap_alloc_new w _
end Go.Proofs.Ytkiebajggombiaa
