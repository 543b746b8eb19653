/- What is proved here: those statements of Eng that this claim needs. -/
import Derived.Deep.RegionHeld3
import Derived.Test.YtlinkeemccnfmaaGreatDoorSlc
set_option linter.unusedVariables false
set_option linter.unusedSimpArgs false
namespace Go.Proofs.YtlinkeemccnfmaaGreatDoor
open Go.RowKit
def tC (cs : List ByteArray) (i : Nat) : ByteArray := cs.getD i ⟨#[]⟩
def IsT (w : World) (B : Nat) (v : Value) (cs : List ByteArray) : Prop :=
  ∃ a cap, v = .slice a cs.length cap ∧ (cs.length ≤ cap ∧ cap ≤ maxLen ∧ Hid (a = none → cap = 0)) ∧
   ∀ i, i < cs.length → ∃ b off, a = some ⟨b, off, none⟩ ∧ b < B ∧ w.cell? ⟨b, off + i, none⟩ = some (.string (tC cs i)) ∧ (tC cs i).size ≤ maxLen
theorem IsT.below {w w' : World} {B B' : Nat} {v : Value} {cs : List ByteArray} (h : IsT w B v cs) (hb : Below B' w w') (hB : B ≤ B') : IsT w' B v cs := by
  obtain ⟨a, cap, rfl, hm, hc⟩ := h
  refine ⟨a, cap, rfl, hm, fun i hi => ?_⟩
  obtain ⟨b, off, rfl, hbB, h1, h2⟩ := hc i hi
  exact ⟨b, off, rfl, hbB, (hb.cell (p := ⟨b, off + i, none⟩) (show b < B' by omega)).trans h1, h2⟩
theorem IsT.up {w : World} {B B' : Nat} {v : Value} {cs : List ByteArray} (h : IsT w B v cs) (hB : B ≤ B') : IsT w B' v cs := by
  obtain ⟨a, cap, rfl, hm, hc⟩ := h
  exact ⟨a, cap, rfl, hm, fun i hi => by obtain ⟨b, off, rfl, hbB, h1, h2⟩ := hc i hi; exact ⟨b, off, rfl, by omega, h1, h2⟩⟩
theorem IsT.drewN {w : World} {B : Nat} {v : Value} {cs : List ByteArray} (h : IsT w B v cs) (n : Nat) : IsT (w.drewN n) B v cs := h
theorem IsT.alloc {w : World} {B : Nat} {v : Value} {cs : List ByteArray} (h : IsT w B v cs) (o : Obj) (hB : B ≤ w.heap.size) : IsT (w.alloc o) B v cs :=
  h.below ((Below.refl w.heap.size w).alloc (Nat.le_refl _) o) hB
theorem mk_strs (n : Nat) (hn : n ≤ 1099511627776) (W : World) :
    (Instr.makeSlice 26 (.int .i64 n) (.int .i64 n)).run Tryz.prog W = .ok (.slice (some ⟨W.heap.size, 0, none⟩) n n) (W.alloc (.cells (madeCells #[.string ⟨#[]⟩] n) 9)) := by
  obtain ⟨i0, hi, hz0, hz1, hz2⟩ := info_parts (show (Tryz.prog.info? 9).map (fun i => (i.zero, i.size, i.bytes)) = some (some (.string ⟨#[]⟩), 1, 16) by kernel_rfl)
  have h := run_make (P := Tryz.prog) W 26 9 i0 _ Tryz.underlying26 hi hz0 .i64 .i64 n n (by omega) (by omega) (by rw [hz2]; omega) (by omega)
  simpa [hz1, Value.cells] using h
def RwT (w : World) (lo hi : Nat) (v : Value) (cs : List ByteArray) : Prop :=
  ∃ g cap cur, v = .slice (some ⟨g, 0, none⟩) cs.length cap ∧ (lo ≤ g ∧ g < hi) ∧ w.heap[g]? = some (.cells cur 9 (0, 0)) ∧ (cs.length ≤ cap ∧ cap ≤ maxLen) ∧ cur.size = cap ∧ ∀ i, i < cs.length → cur[i]? = some (.string (tC cs i)) ∧ (tC cs i).size ≤ maxLen
theorem RwT.isT {w : World} {lo hi : Nat} {v : Value} {cs : List ByteArray} (h : RwT w lo hi v cs) : IsT w hi v cs := by
  obtain ⟨g, cap, cur, rfl, hg, hgg, hm, hs, hc⟩ := h
  exact ⟨_, cap, rfl, ⟨hm.1, hm.2, fun h => by cases h⟩, fun i hi => ⟨g, 0, rfl, hg.2, by rw [row_cell hgg, Nat.zero_add]; exact (hc i hi).1, (hc i hi).2⟩⟩
theorem RwT.below {w w' : World} {lo hi B : Nat} {v : Value} {cs : List ByteArray} (h : RwT w lo hi v cs) (hb : Below B w w') (hB : hi ≤ B) : RwT w' lo hi v cs := by
  obtain ⟨g, cap, cur, rfl, hg, hgg, hm, hs, hc⟩ := h
  exact ⟨g, cap, cur, rfl, hg, (hb.block g (by omega)).trans hgg, hm, hs, hc⟩
theorem RwT.up {w : World} {lo hi hi' : Nat} {v : Value} {cs : List ByteArray} (h : RwT w lo hi v cs) (hh : hi ≤ hi') : RwT w lo hi' v cs := by
  obtain ⟨g, cap, cur, rfl, hg, rest⟩ := h
  exact ⟨g, cap, cur, rfl, by omega, rest⟩
theorem eng_alloc (w : World) (v : Value) (t : TypeId) : (w.alloc (.cells #[v] t)).heap[w.heap.size]? = some (.cells #[v] t (0, 0)) := heap_alloc_new _ _
theorem eng_cell (w : World) (v : Value) (t : TypeId) : (w.alloc (.cells #[v] t)).cell? ⟨w.heap.size, 0, none⟩ = some v := by rw [row_cell (eng_alloc w v t)]; rfl
theorem Tryz.infoEng : (Tryz.prog.info? 28).map (·.size) = some 1 := by kernel_rfl
theorem RwT.down {w : World} {lo lo' hi : Nat} {v : Value} {cs : List ByteArray} (h : RwT w lo hi v cs) (hh : lo' ≤ lo) : RwT w lo' hi v cs := by
  obtain ⟨g, cap, cur, rfl, hg, rest⟩ := h
  exact ⟨g, cap, cur, rfl, by omega, rest⟩
end Go.Proofs.YtlinkeemccnfmaaGreatDoor
