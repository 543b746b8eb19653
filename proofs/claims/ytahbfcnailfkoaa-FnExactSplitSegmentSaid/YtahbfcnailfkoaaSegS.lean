/- What is proved here: how the laws compare, mark and hold one segment. -/
import Derived.Test.YtahbfcnailfkoaaLaws1
import Derived.Test.YtahbfcnailfkoaaSgm
set_option linter.unusedVariables false
set_option linter.unusedSimpArgs false
namespace Go.Proofs.Ytahbfcnailfkoaa
open Go.RowKit

theorem seg_alloc_chg (w : World) (o : Obj) (lo hi : Nat) : Chg lo hi w (w.alloc o) := ⟨rfl, rfl, rfl, by simp, fun k hk _ => Below.heap_alloc _ _ _ hk⟩
theorem seg_alloc_cells (w : World) (c v : Value) (t : TypeId) : (w.alloc (.cells #[c, v] t)).heap[w.heap.size]? = some (.cells #[c, v] t (0, 0)) := heap_alloc_new w _
theorem eqSeg1 (n : Int) (v u : Value) (xs : List Int) (w : World) (hv : IsI w w.heap.size v xs) (hu : IsI w w.heap.size u xs) :
    Calls Try.prog 32 #[.agg #[.int .i64 n, v], .agg #[.int .i64 n, u]] w fun e w' => e = .returned (.bool true) ∧ Chg 0 0 w w' := by
  obtain ⟨av, cv, hav⟩ : ∃ a cap, v = .slice a xs.length cap := ⟨_, _, hv.choose_spec.choose_spec.1⟩
  obtain ⟨au, cu, hau⟩ : ∃ a cap, u = .slice a xs.length cap := ⟨_, _, hu.choose_spec.choose_spec.1⟩
  subst hav hau
  have hne : (n != n) = false := by simp
  obtain ⟨e0, e1, -⟩ := seg_cells (seg_alloc_cells w (.int .i64 n) (.slice av xs.length cv) 40) (.int .i64 0)
  have hv1 := hv.alloc (.cells #[.int .i64 n, .slice av xs.length cv] 40) (Nat.le_refl _)
  have hu1 := hu.alloc (.cells #[.int .i64 n, .slice av xs.length cv] 40) (Nat.le_refl _)
  have c1 := seg_alloc_chg w (.cells #[.int .i64 n, .slice av xs.length cv] 40) 0 0
  have hs : (w.alloc (.cells #[.int .i64 n, .slice av xs.length cv] 40)).heap.size = w.heap.size + 1 := by simp
  obtain ⟨wA, hwA⟩ : ∃ x, x = w.alloc (.cells #[.int .i64 n, .slice av xs.length cv] 40) := ⟨_, rfl⟩
  rw [← hwA] at e0 e1 hv1 hu1 c1 hs
  obtain ⟨f0, f1, -⟩ := seg_cells (seg_alloc_cells wA (.int .i64 n) (.slice au xs.length cu) 40) (.int .i64 0)
  have hv2 := hv1.alloc (.cells #[.int .i64 n, .slice au xs.length cu] 40) (by omega)
  have hu2 := hu1.alloc (.cells #[.int .i64 n, .slice au xs.length cu] 40) (by omega)
  have c2 := c1.trans (seg_alloc_chg wA (.cells #[.int .i64 n, .slice au xs.length cu] 40) 0 0)
  have g0 := World.cell?_of_block (w := wA) (a := ⟨w.heap.size, 0, none⟩) (Below.heap_alloc wA (.cells #[.int .i64 n, .slice au xs.length cu] 40) w.heap.size (by omega))
  have g1 := World.cell?_of_block (w := wA) (a := ⟨w.heap.size, 1, none⟩) (Below.heap_alloc wA (.cells #[.int .i64 n, .slice au xs.length cu] 40) w.heap.size (by omega))
  rw [e0] at g0
  rw [e1] at g1
  rw [hs] at f0 f1
  obtain ⟨wB, hwB⟩ : ∃ x, x = wA.alloc (.cells #[.int .i64 n, .slice au xs.length cu] 40) := ⟨_, rfl⟩
  rw [← hwB] at f0 f1 g0 g1 hv2 hu2 c2
  subst hwA
  clear e0 e1 hv1 hu1 c1 hs hv hu
  subst hwB
  go_enter Try.func32, Try.ntmps32
  go_wp2_with fail
  refine (eqSameC _ _ _ _ _ _ hv2 hu2).mono ?_
  rintro e w1 ⟨rfl, c3⟩
  go_wp2
  go_ret
  exact ⟨rfl, c2.trans c3⟩
theorem markSeg1 (n : Int) (v : Value) (xs : List Int) (k : Int) (lo hi : Nat) (w : World) (h0 : 0 ≤ k) (hk : k + xs.length ≤ 4611686018427387904) (hv : Rw w lo hi v xs) (hh : hi ≤ w.heap.size) :
    Calls Try.prog 34 #[.agg #[.int .i64 n, v], .int .i64 k] w fun e w' => e = .returned (.int .i64 (k + xs.length)) ∧ Rw w' lo hi v (marks k xs.length) ∧ Chg lo hi w w' := by
  obtain ⟨av, cv, hav⟩ : ∃ a cap, v = .slice a xs.length cap := ⟨_, _, hv.isI.choose_spec.choose_spec.1⟩
  subst hav
  obtain ⟨e0, e1, -⟩ := seg_cells (seg_alloc_cells w (.int .i64 n) (.slice av xs.length cv) 40) (.int .i64 0)
  have hv1 := hv.keep (seg_alloc_chg w (.cells #[.int .i64 n, .slice av xs.length cv] 40) 0 0) (.inr (Nat.zero_le _))
  have c1 := seg_alloc_chg w (.cells #[.int .i64 n, .slice av xs.length cv] 40) lo hi
  clear hv
  go_enter Try.func34, Try.ntmps34
  go_wp2_with fail
  refine (markInts _ _ k _ _ _ h0 hk hv1).mono ?_
  rintro e w1 ⟨rfl, r1, c3⟩
  go_wp2
  go_ret
  exact ⟨rfl, r1, c1.trans c3⟩
theorem heldSeg1 (c : Int) (v : Value) (k m : Int) (n lo hi : Nat) (w : World) (h0 : 0 ≤ k) (hk : k + n ≤ 4611686018427387904) (hm : m = k + n) (hv : Rw w lo hi v (marks k n)) :
    Calls Try.prog 35 #[.agg #[.int .i64 c, v], .int .i64 k] w fun e w' => e = .returned (.int .i64 m) ∧ Chg 0 0 w w' := by
  obtain ⟨av, cv, hav⟩ : ∃ a cap, v = .slice a (marks k n).length cap := ⟨_, _, hv.isI.choose_spec.choose_spec.1⟩
  subst hav
  obtain ⟨e0, e1, -⟩ := seg_cells (seg_alloc_cells w (.int .i64 c) (.slice av (marks k n).length cv) 40) (.int .i64 0)
  have hv1 := hv.keep (seg_alloc_chg w (.cells #[.int .i64 c, .slice av (marks k n).length cv] 40) 0 0) (.inr (Nat.zero_le _))
  have c1 := seg_alloc_chg w (.cells #[.int .i64 c, .slice av (marks k n).length cv] 40) 0 0
  have hm0 : 0 ≤ m := by omega
  have hm1 : ¬ m < 0 := by omega
  clear hv
  go_enter Try.func35, Try.ntmps35
  go_wp2_with fail
  refine (heldRow _ k m _ _ _ _ h0 hk hm hv1).mono ?_
  rintro e wx ⟨rfl, rfl⟩
  go_wp2
  go_ret
  exact ⟨retI hm.symm, c1⟩
end Go.Proofs.Ytahbfcnailfkoaa
