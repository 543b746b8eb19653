/- What is proved here: the laws' helpers on slices of segments: their size, a copy, the comparison of two that are equal, marks, and marks that are held. -/
import Derived.Test.YtkiebajggombiaaPln
import Derived.Test.YtkiebajggombiaaSegS
import Derived.Deep.RegionHeld3
set_option linter.unusedVariables false
set_option linter.unusedSimpArgs false
namespace Go.Proofs.Ytkiebajggombiaa
open Go.RowKit

theorem Rw.len {w : World} {lo hi : Nat} {v : Value} {xs : List Int} (h : Rw w lo hi v xs) : ∃ a cap, v = .slice a xs.length cap := ⟨_, _, h.isI.choose_spec.choose_spec.1⟩
theorem pln_chg0 {w w' : World} {lo hi : Nat} (h : Below w.heap.size w w') : Chg lo hi w w' := ⟨h.os, h.tape, h.output, h.size, fun k hk _ => h.block k hk⟩
theorem chg_bel0' {w w' : World} {B : Nat} (h : Chg 0 0 w w') (hB : B ≤ w.heap.size) : Below B w w' := ⟨h.os, h.tape, h.output, h.size, fun k hk => h.block k (by omega) (by omega)⟩
/-- How many numbers stand ahead of a place: a count and a polynomial each. -/
def pO (L : List (Int × List Int)) : Nat → Nat
  | 0 => 0
  | k + 1 => pO L k + (1 + (pP L k).length)
theorem pO_mono {L : List (Int × List Int)} : ∀ k j, j ≤ k → pO L j + (k - j) ≤ pO L k := by
  intro k
  induction k with
  | zero => intro j h; rw [show j = 0 by omega]; exact Nat.le_refl _
  | succ k ih =>
    intro j h
    by_cases e : j = k + 1
    · subst e; omega
    · have := ih j (by omega); rw [pO]; omega
theorem pO_succ (L : List (Int × List Int)) (k : Nat) : pO L (k + 1) = pO L k + (1 + (pP L k).length) := rfl
/-- The total of what a plan holds: one for each segment, and its numbers. -/
def pT (L : List (Int × List Int)) : Nat → Nat
  | 0 => 0
  | k + 1 => pT L k + (pP L k).length
theorem pO_pT (L : List (Int × List Int)) : ∀ k, pO L k = k + pT L k := by
  intro k
  induction k with
  | zero => rfl
  | succ k ih => rw [pO, pT, ih]; omega
/-- Marked segments. -/
def mkL (L : List (Int × List Int)) (k : Int) : List (Int × List Int) := (List.range L.length).map fun (i : Nat) => (k + (pO L i : Int), marks (k + (pO L i : Int) + 1) (pP L i).length)
theorem mkL_len (L : List (Int × List Int)) (k : Int) : (mkL L k).length = L.length := by simp [mkL]
theorem mkL_at {L : List (Int × List Int)} {k : Int} {i : Nat} (h : i < L.length) : pC (mkL L k) i = k + (pO L i : Int) ∧ pP (mkL L k) i = marks (k + (pO L i : Int) + 1) (pP L i).length := by
  have e : (mkL L k)[i]? = some (k + (pO L i : Int), marks (k + (pO L i : Int) + 1) (pP L i).length) := by
    unfold mkL; rw [List.getElem?_map, List.getElem?_range h]; rfl
  unfold pC pP; rw [List.getD_eq_getElem?_getD, e]; exact ⟨rfl, rfl⟩
theorem pO_congr {L M : List (Int × List Int)} : ∀ k, (∀ i, i < k → (pP L i).length = (pP M i).length) → pO L k = pO M k := by
  intro k
  induction k with
  | zero => intro _; rfl
  | succ k ih => intro h; rw [pO, pO, ih (fun i hi => h i (by omega)), h k (by omega)]
/-- The same under an opaque name. -/
def pZ (L : List (Int × List Int)) : Nat := pO L L.length
theorem pO_small {L : List (Int × List Int)} (h : pO L L.length ≤ 1048576) : L.length ≤ 1048576 ∧ ∀ i, i < L.length → (pP L i).length ≤ 1048576 := by
  have h0 := pO_mono (L := L) L.length 0 (Nat.zero_le _)
  refine ⟨by omega, fun i hi => ?_⟩
  have h1 := pO_mono (L := L) L.length (i + 1) (by omega)
  rw [pO_succ] at h1
  omega
theorem bodyPost_seg1 {fn : Func} {p : Tmp} (h : fn.results = #[.cell p 36]) {a : Act} {w' : World} {g : Nat} {c v : Value} {Q : Ending → World → Prop}
    (hd : a.defers = []) (hp : a.tmps.getD p undef = .pointer (some ⟨g, 0, none⟩)) (hg : w'.heap[g]? = some (.cells #[c, v] 36 (0, 0)))
    (hq : Q (.returned (.agg #[c, v])) w') : bodyPost Try.prog fn Q .ret a w' := by
  refine bodyPost_ret (v := .agg #[c, v]) ?_ hd hq
  have hp' : a.tmps[p]?.getD undef = .pointer (some ⟨g, 0, none⟩) := by rw [← Array.getD_eq_getD_getElem?]; exact hp
  simp [results, h, hp', asAddr, run_loadVar_row (P := Try.prog) w' g 36 36 #[c, v] (0, 0) _ hg Try.underlying36 rfl Try.infoSeg]
/-- What is left by a call that hands back one segment. -/
def RetG (w : World) (c : Int) (xs : List Int) (e : Ending) (w' : World) : Prop := ∃ a cap, e = .returned (.agg #[.int .i64 c, .slice a xs.length cap]) ∧ Rw w' w.heap.size w'.heap.size (.slice a xs.length cap) xs ∧ Below w.heap.size w w'
theorem mk_segs (n : Nat) (hn : n ≤ 1099511627776) (W : World) :
    (Instr.makeSlice 29 (.int .i64 n) (.int .i64 n)).run Try.prog W = .ok (.slice (some ⟨W.heap.size, 0, none⟩) n n) (W.alloc (.cells (madeCells #[.int .i64 0, .slice none 0 0] (n * 2)) 36)) := by
  obtain ⟨i0, hi, hz0, hz1, hz2⟩ := info_parts Try.infoSeg3
  have h := run_make (P := Try.prog) W 29 36 i0 _ Try.underlying29 hi hz0 .i64 .i64 n n (by omega) (by omega) (by rw [hz2]; omega) (by omega)
  simpa [hz1, Value.cells] using h
theorem getSet {cur : Array Value} {a i : Nat} {x : Value} (h : i ≠ a) : (cur.setIfInBounds a x)[i]? = cur[i]? := by
  rw [Array.getElem?_setIfInBounds, if_neg (by omega)]
theorem getSetS {cur : Array Value} {a : Nat} {x : Value} (h : a < cur.size) : (cur.setIfInBounds a x)[a]? = some x := by
  rw [Array.getElem?_setIfInBounds, if_pos rfl, if_pos h]
theorem sgr_chg {lo hi : Nat} {w w' : World} {g : Nat} (h : Chg g (g + 1) w w') (h1 : lo ≤ g) (h2 : g < hi) : Chg lo hi w w' := ⟨h.os, h.tape, h.output, h.size, fun k hk hn => h.block k hk (by omega)⟩
def upd {α : Type} (f : Nat → α) (j : Nat) (x : α) : Nat → α := fun i => if i = j then x else f i
theorem SgR.pick {w : World} {lo hi n g : Nat} {cur : Array Value} {C : Nat → Int} {P : Nat → List Int} {e : TypeId} (h : SgR w lo hi n cur C P) (hg : w.heap[g]? = some (.cells cur e (0, 0))) (he : e ≠ 3) {j : Nat} (hj : j < n) :
    ∃ u, cur[j * 2 + 1]? = some u ∧ cur[j * 2]? = some (.int .i64 (C j)) ∧ Rw w lo hi u (P j) ∧ u.ownBlock ≠ some g ∧ ∀ gg gg', ((gg' = gg ∧ u.ownBlock = none) ∨ (gg' = gg + 1 ∧ u.ownBlock = some gg)) → ∀ x ys w1 w2, Chg g (g + 1) w w1 → Chg gg gg' w1 w2 → Rw w2 lo hi u ys → I64 x →
      SgR w2 lo hi n (cur.setIfInBounds (j * 2) (.int .i64 x)) (upd C j x) (upd P j ys) := by
  obtain ⟨U, h1, h2⟩ := h
  obtain ⟨a0, a1, a2, a3⟩ := h1 j hj
  refine ⟨U j, a1, a0, a2, a2.ne hg he, fun gg gg' ht x ys w1 w2 c1 c2 hr hx => ⟨U, fun i hi => ?_, h2⟩⟩
  by_cases e1 : i = j
  · subst e1
    have hs : i * 2 < cur.size := by
      rcases Nat.lt_or_ge (i * 2) cur.size with h | h
      · exact h
      · rw [Array.getElem?_eq_none h] at a0; cases a0
    simp only [upd, if_true]
    exact ⟨getSetS hs, by rw [getSet (by omega)]; exact a1, hr, hx⟩
  · obtain ⟨b0, b1, b2, b3⟩ := h1 i hi
    simp only [upd, if_neg e1]
    refine ⟨by rw [getSet (by omega)]; exact b0, by rw [getSet (by omega)]; exact b1, (b2.keepB c1 fun k hk hkk => ?_).keepB c2 fun k hk hkk => ?_, b3⟩
    · have : k = g := by omega
      subst this; exact b2.ne hg he hk
    · rcases ht with ⟨t1, t2⟩ | ⟨t1, t2⟩
      · omega
      · have : k = gg := by omega
        subst this
        exact h2 i j hi hj e1 k hk t2
end Go.Proofs.Ytkiebajggombiaa
