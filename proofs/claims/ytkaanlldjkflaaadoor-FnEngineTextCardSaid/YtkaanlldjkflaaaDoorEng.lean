/- What is proved here: slices of strings (columns of engines): how they are read, and the laws' helpers on them: their size, a copy, the comparison of two that are equal. -/
import Derived.Test.YtkaanlldjkflaaaDoorSlc
import Derived.Deep.RegionHeld3
set_option linter.unusedVariables false
set_option linter.unusedSimpArgs false
namespace Go.Proofs.YtkaanlldjkflaaaDoor
open Go.RowKit

/-- A string of a row, and how long it is. -/
def tC (cs : List ByteArray) (i : Nat) : ByteArray := cs.getD i ⟨#[]⟩
/-- The value v reads in w as a row of strings. -/
def IsT (w : World) (B : Nat) (v : Value) (cs : List ByteArray) : Prop :=
  ∃ a cap, v = .slice a cs.length cap ∧ (cs.length ≤ cap ∧ cap ≤ maxLen ∧ Hid (a = none → cap = 0)) ∧
   ∀ i, i < cs.length → ∃ b off, a = some ⟨b, off, none⟩ ∧ b < B ∧ w.cell? ⟨b, off + i, none⟩ = some (.string (tC cs i)) ∧ (tC cs i).size ≤ maxLen
theorem IsT.below {w w' : World} {B B' : Nat} {v : Value} {cs : List ByteArray} (h : IsT w B v cs) (hb : Below B' w w') (hB : B ≤ B') : IsT w' B v cs := by
  obtain ⟨a, cap, rfl, hm, hc⟩ := h
  refine ⟨a, cap, rfl, hm, fun i hi => ?_⟩
  obtain ⟨b, off, rfl, hbB, h1, h2⟩ := hc i hi
  exact ⟨b, off, rfl, hbB, (hb.cell (p := ⟨b, off + i, none⟩) (show b < B' by omega)).trans h1, h2⟩
theorem IsT.up {w : World} {B B' : Nat} {v : Value} {cs : List ByteArray} (h : IsT w B v cs) (hB : B ≤ B') : IsT w B' v cs := by
  obtain ⟨a, cap, rfl, hm, hc⟩ := h
  exact ⟨a, cap, rfl, hm, fun i hi => by obtain ⟨b, off, rfl, hbB, h1, h2⟩ := hc i hi; exact ⟨b, off, rfl, by omega, h1, h2⟩⟩
theorem IsT.drewN {w : World} {B : Nat} {v : Value} {cs : List ByteArray} (h : IsT w B v cs) (n : Nat) : IsT (w.drewN n) B v cs := h
theorem IsT.alloc {w : World} {B : Nat} {v : Value} {cs : List ByteArray} (h : IsT w B v cs) (o : Obj) (hB : B ≤ w.heap.size) : IsT (w.alloc o) B v cs :=
  h.below ((Below.refl w.heap.size w).alloc (Nat.le_refl _) o) hB
/-- The total of the first strings' lengths. -/
def tT (cs : List ByteArray) : Nat → Nat
  | 0 => 0
  | k + 1 => tT cs k + (tC cs k).size
theorem tT_mono {cs : List ByteArray} : ∀ k j, j ≤ k → tT cs j ≤ tT cs k := by
  intro k
  induction k with
  | zero => intro j h; rw [show j = 0 by omega]; exact Nat.le_refl _
  | succ k ih =>
    intro j h
    by_cases e : j = k + 1
    · subst e; exact Nat.le_refl _
    · have := ih j (by omega); rw [tT]; omega
def tZ (cs : List ByteArray) : Nat := cs.length + tT cs cs.length
def szT (cs : List ByteArray) (m : Int) : Int := if m < (tZ cs : Nat) then -1 else m - (tZ cs : Nat)
theorem mk_strs (n : Nat) (hn : n ≤ 1099511627776) (W : World) :
    (Instr.makeSlice 23 (.int .i64 n) (.int .i64 n)).run Tryd.prog W = .ok (.slice (some ⟨W.heap.size, 0, none⟩) n n) (W.alloc (.cells (madeCells #[.string ⟨#[]⟩] n) 9)) := by
  obtain ⟨i0, hi, hz0, hz1, hz2⟩ := info_parts (show (Tryd.prog.info? 9).map (fun i => (i.zero, i.size, i.bytes)) = some (some (.string ⟨#[]⟩), 1, 16) by kernel_rfl)
  have h := run_make (P := Tryd.prog) W 23 9 i0 _ Tryd.underlying23 hi hz0 .i64 .i64 n n (by omega) (by omega) (by rw [hz2]; omega) (by omega)
  simpa [hz1, Value.cells] using h
/-- A row of strings that a call has made: cells of a block of its own. -/
def RwT (w : World) (lo hi : Nat) (v : Value) (cs : List ByteArray) : Prop :=
  ∃ g cap cur, v = .slice (some ⟨g, 0, none⟩) cs.length cap ∧ (lo ≤ g ∧ g < hi) ∧ w.heap[g]? = some (.cells cur 9 (0, 0)) ∧ (cs.length ≤ cap ∧ cap ≤ maxLen) ∧ cur.size = cap ∧ ∀ i, i < cs.length → cur[i]? = some (.string (tC cs i)) ∧ (tC cs i).size ≤ maxLen
theorem RwT.isT {w : World} {lo hi : Nat} {v : Value} {cs : List ByteArray} (h : RwT w lo hi v cs) : IsT w hi v cs := by
  obtain ⟨g, cap, cur, rfl, hg, hgg, hm, hs, hc⟩ := h
  exact ⟨_, cap, rfl, ⟨hm.1, hm.2, fun h => by cases h⟩, fun i hi => ⟨g, 0, rfl, hg.2, by rw [row_cell hgg, Nat.zero_add]; exact (hc i hi).1, (hc i hi).2⟩⟩
theorem RwT.below {w w' : World} {lo hi B : Nat} {v : Value} {cs : List ByteArray} (h : RwT w lo hi v cs) (hb : Below B w w') (hB : hi ≤ B) : RwT w' lo hi v cs := by
  obtain ⟨g, cap, cur, rfl, hg, hgg, hm, hs, hc⟩ := h
  exact ⟨g, cap, cur, rfl, hg, (hb.block g (by omega)).trans hgg, hm, hs, hc⟩
theorem RwT.up {w : World} {lo hi hi' : Nat} {v : Value} {cs : List ByteArray} (h : RwT w lo hi v cs) (hh : hi ≤ hi') : RwT w lo hi' v cs := by
  obtain ⟨g, cap, cur, rfl, hg, rest⟩ := h
  exact ⟨g, cap, cur, rfl, by omega, rest⟩
theorem eng_alloc (w : World) (v : Value) (t : TypeId) : (w.alloc (.cells #[v] t)).heap[w.heap.size]? = some (.cells #[v] t (0, 0)) := heap_alloc_new _ _
theorem eng_cell (w : World) (v : Value) (t : TypeId) : (w.alloc (.cells #[v] t)).cell? ⟨w.heap.size, 0, none⟩ = some v := by rw [row_cell (eng_alloc w v t)]; rfl
theorem Tryd.infoEng : (Tryd.prog.info? 25).map (·.size) = some 1 := by kernel_rfl
theorem bodyPost_eng {fn : Func} {p : Tmp} (h : fn.results = #[.cell p 25]) {a : Act} {w' : World} {g : Nat} {v : Value} {Q : Ending → World → Prop}
    (hd : a.defers = []) (hp : a.tmps.getD p undef = .pointer (some ⟨g, 0, none⟩)) (hg : w'.heap[g]? = some (.cells #[v] 25 (0, 0)))
    (hq : Q (.returned (.agg #[v])) w') : bodyPost Tryd.prog fn Q .ret a w' := by
  refine bodyPost_ret (v := .agg #[v]) ?_ hd hq
  have hp' : a.tmps[p]?.getD undef = .pointer (some ⟨g, 0, none⟩) := by rw [← Array.getD_eq_getD_getElem?]; exact hp
  simp [results, h, hp', asAddr, run_loadVar_row (P := Tryd.prog) w' g 25 25 #[v] (0, 0) _ hg Tryd.underlying25 rfl Tryd.infoEng]
theorem eng_chg (w : World) (g o : Nat) (v : Value) : Chg g (g + 1) w (w.setCell ⟨g, o, none⟩ v) := (Chg.refl _ _ _).setCell (p := ⟨g, o, none⟩) (Nat.le_refl _) (Nat.lt_succ_self _) v
theorem RwT.keep {w w' : World} {lo hi g g' : Nat} {v : Value} {cs : List ByteArray} (h : RwT w lo hi v cs) (hb : Chg g g' w w') (hd : hi ≤ g ∨ g' ≤ lo) : RwT w' lo hi v cs := by
  obtain ⟨b, cap, cur, rfl, hg, hgg, hm, hs, hc⟩ := h
  exact ⟨b, cap, cur, rfl, hg, (hb.block b (Array.getElem?_eq_some_iff.1 hgg).1 (by omega)).trans hgg, hm, hs, hc⟩
theorem RwT.down {w : World} {lo lo' hi : Nat} {v : Value} {cs : List ByteArray} (h : RwT w lo hi v cs) (hh : lo' ≤ lo) : RwT w lo' hi v cs := by
  obtain ⟨g, cap, cur, rfl, hg, rest⟩ := h
  exact ⟨g, cap, cur, rfl, by omega, rest⟩
end Go.Proofs.YtkaanlldjkflaaaDoor
