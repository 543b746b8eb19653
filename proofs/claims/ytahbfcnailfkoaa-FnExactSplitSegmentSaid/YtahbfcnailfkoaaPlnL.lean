/- What is proved here: the laws' helpers on slices of segments: their size, a copy, the comparison of two that are equal, marks, and marks that are held. -/
import Derived.Test.YtahbfcnailfkoaaPln
import Derived.Test.YtahbfcnailfkoaaSegS
import Derived.Deep.RegionHeld3
set_option linter.unusedVariables false
set_option linter.unusedSimpArgs false
namespace Go.Proofs.Ytahbfcnailfkoaa
open Go.RowKit

theorem Rw.len {w : World} {lo hi : Nat} {v : Value} {xs : List Int} (h : Rw w lo hi v xs) : ∃ a cap, v = .slice a xs.length cap := ⟨_, _, h.isI.choose_spec.choose_spec.1⟩
theorem pln_chg0 {w w' : World} {lo hi : Nat} (h : Below w.heap.size w w') : Chg lo hi w w' := ⟨h.os, h.tape, h.output, h.size, fun k hk _ => h.block k hk⟩
theorem chg_bel0' {w w' : World} {B : Nat} (h : Chg 0 0 w w') (hB : B ≤ w.heap.size) : Below B w w' := ⟨h.os, h.tape, h.output, h.size, fun k hk => h.block k (by omega) (by omega)⟩
/-- How many numbers stand ahead of a place: a count and a polynomial each. -/
def pO (L : List (Int × List Int)) : Nat → Nat
  | 0 => 0
  | k + 1 => pO L k + (1 + (pP L k).length)
theorem pO_mono {L : List (Int × List Int)} : ∀ k j, j ≤ k → pO L j + (k - j) ≤ pO L k := by
  intro k
  induction k with
  | zero => intro j h; rw [show j = 0 by omega]; exact Nat.le_refl _
  | succ k ih =>
    intro j h
    by_cases e : j = k + 1
    · subst e; omega
    · have := ih j (by omega); rw [pO]; omega
theorem pO_succ (L : List (Int × List Int)) (k : Nat) : pO L (k + 1) = pO L k + (1 + (pP L k).length) := rfl
/-- The total of what a plan holds: one for each segment, and its numbers. -/
def pT (L : List (Int × List Int)) : Nat → Nat
  | 0 => 0
  | k + 1 => pT L k + (pP L k).length
theorem pO_pT (L : List (Int × List Int)) : ∀ k, pO L k = k + pT L k := by
  intro k
  induction k with
  | zero => rfl
  | succ k ih => rw [pO, pT, ih]; omega
/-- Marked segments. -/
def mkL (L : List (Int × List Int)) (k : Int) : List (Int × List Int) := (List.range L.length).map fun (i : Nat) => (k + (pO L i : Int), marks (k + (pO L i : Int) + 1) (pP L i).length)
theorem mkL_len (L : List (Int × List Int)) (k : Int) : (mkL L k).length = L.length := by simp [mkL]
theorem mkL_at {L : List (Int × List Int)} {k : Int} {i : Nat} (h : i < L.length) : pC (mkL L k) i = k + (pO L i : Int) ∧ pP (mkL L k) i = marks (k + (pO L i : Int) + 1) (pP L i).length := by
  have e : (mkL L k)[i]? = some (k + (pO L i : Int), marks (k + (pO L i : Int) + 1) (pP L i).length) := by
    unfold mkL; rw [List.getElem?_map, List.getElem?_range h]; rfl
  unfold pC pP; rw [List.getD_eq_getElem?_getD, e]; exact ⟨rfl, rfl⟩
theorem pO_congr {L M : List (Int × List Int)} : ∀ k, (∀ i, i < k → (pP L i).length = (pP M i).length) → pO L k = pO M k := by
  intro k
  induction k with
  | zero => intro _; rfl
  | succ k ih => intro h; rw [pO, pO, ih (fun i hi => h i (by omega)), h k (by omega)]
/-- The same under an opaque name. -/
def pZ (L : List (Int × List Int)) : Nat := pO L L.length
theorem pO_small {L : List (Int × List Int)} (h : pO L L.length ≤ 1048576) : L.length ≤ 1048576 ∧ ∀ i, i < L.length → (pP L i).length ≤ 1048576 := by
  have h0 := pO_mono (L := L) L.length 0 (Nat.zero_le _)
  refine ⟨by omega, fun i hi => ?_⟩
  have h1 := pO_mono (L := L) L.length (i + 1) (by omega)
  rw [pO_succ] at h1
  omega
/-- What is left of a size after a slice of segments. -/
def szL (L : List (Int × List Int)) (m : Int) : Int := if m < (pO L L.length : Nat) then -1 else m - (pO L L.length : Nat)
theorem szL_yes {L : List (Int × List Int)} {m : Int} (h : ((pO L L.length : Nat) : Int) ≤ m) : szL L m = m - (pZ L : Nat) := if_neg (by omega)
theorem szI1 (v : Value) (xs : List Int) (B : Nat) (m : Int) (h0 : 0 ≤ m) (h1 : m ≤ 1048576) (w : World) (hv : IsI w B v xs) (hlt : m < (xs.length : Int)) :
    Calls Try.prog 85 #[v, .int .i64 m] w fun e w' => e = .returned (.int .i64 (-1)) ∧ w = w' := by
  obtain ⟨a, cap, rfl, hm, hr, hc⟩ := hv
  unfold maxLen at hm
  clear hr hc
  go_enter Try.func85, Try.ntmps85
  go_wp2
  go_ret
  exact ⟨rfl, rfl⟩
theorem szI2 (v : Value) (xs : List Int) (B : Nat) (m : Int) (h0 : 0 ≤ m) (h1 : m ≤ 1048576) (w : World) (hv : IsI w B v xs) (hlt : (xs.length : Int) ≤ m) :
    Calls Try.prog 85 #[v, .int .i64 m] w fun e w' => e = .returned (.int .i64 (m - xs.length)) ∧ w = w' := by
  obtain ⟨a, cap, rfl, hm, hr, hc⟩ := hv
  unfold maxLen at hm
  have q : ¬ (m - (xs.length : Int)) < 0 := by omega
  clear hr hc
  go_enter Try.func85, Try.ntmps85
  go_wp2
  go_ret
  exact ⟨rfl, rfl⟩
theorem szG1 (c : Int) (v : Value) (xs : List Int) (m : Int) (h0 : 0 ≤ m) (h1 : m ≤ 1048576) (w : World) (hv : IsI w w.heap.size v xs) (hlt : m < (xs.length : Int)) :
    Calls Try.prog 51 #[.agg #[.int .i64 c, v], .int .i64 m] w fun e w' => e = .returned (.int .i64 (-1)) ∧ Below w.heap.size w w' := by
  obtain ⟨av, cv, hav⟩ : ∃ a cap, v = .slice a xs.length cap := ⟨_, _, hv.choose_spec.choose_spec.1⟩
  subst hav
  obtain ⟨e0, e1, -⟩ := seg_cells (seg_alloc_cells w (.int .i64 c) (.slice av xs.length cv) 58) (.int .i64 0)
  have hv1 := hv.alloc (.cells #[.int .i64 c, .slice av xs.length cv] 58) (Nat.le_refl _)
  have c1 := RetRow.e1 w (.cells #[.int .i64 c, .slice av xs.length cv] 58)
  clear hv
  go_enter Try.func51, Try.ntmps51
  go_wp2_with fail
  refine (szI1 _ xs _ m h0 h1 _ hv1 hlt).mono ?_
  rintro e wx ⟨rfl, rfl⟩
  go_wp2
  go_ret
  exact ⟨rfl, c1⟩
theorem szG2 (c : Int) (v : Value) (xs : List Int) (m : Int) (h0 : 0 ≤ m) (h1 : m ≤ 1048576) (w : World) (hv : IsI w w.heap.size v xs) (hlt : (xs.length : Int) ≤ m) :
    Calls Try.prog 51 #[.agg #[.int .i64 c, v], .int .i64 m] w fun e w' => e = .returned (.int .i64 (m - xs.length)) ∧ Below w.heap.size w w' := by
  obtain ⟨av, cv, hav⟩ : ∃ a cap, v = .slice a xs.length cap := ⟨_, _, hv.choose_spec.choose_spec.1⟩
  subst hav
  obtain ⟨e0, e1, -⟩ := seg_cells (seg_alloc_cells w (.int .i64 c) (.slice av xs.length cv) 58) (.int .i64 0)
  have hv1 := hv.alloc (.cells #[.int .i64 c, .slice av xs.length cv] 58) (Nat.le_refl _)
  have c1 := RetRow.e1 w (.cells #[.int .i64 c, .slice av xs.length cv] 58)
  clear hv
  go_enter Try.func51, Try.ntmps51
  go_wp2_with fail
  refine (szI2 _ xs _ m h0 h1 _ hv1 hlt).mono ?_
  rintro e wx ⟨rfl, rfl⟩
  have q : ¬ (m - (xs.length : Int)) < 0 := by omega
  go_wp2
  go_ret
  exact ⟨rfl, c1⟩
theorem szSeg (v : Value) (L : List (Int × List Int)) (m : Int) (h0 : 0 ≤ m) (h1 : m ≤ 1048576) (w : World) (hv : IsS w w.heap.size v L) :
    Calls Try.prog 15 #[v, .int .i64 m] w fun e w' => e = .returned (.int .i64 (szL L m)) ∧ Below w.heap.size w w' := by
  obtain ⟨a, cap, rfl, hm, hc⟩ := hv
  unfold maxLen at hm
  have HNO := hid (show m < (pO L L.length : Nat) → szL L m = -1 from fun h => if_pos h)
  have HY := hid (show ¬ m < (pO L L.length : Nat) → szL L m = m - (pO L L.length : Nat) from fun h => if_neg h)
  have HPT := hid (pO_pT L)
  by_cases hlt : m < (L.length : Int)
  · have HR := hid (HNO.out (by have := HPT.out L.length; omega))
    rw [HR.out]
    clear hc
    go_enter Try.func15, Try.ntmps15
    go_wp2
    go_ret
    exact ⟨rfl, Below.refl _ _⟩
  · go_enter Try.func15, Try.ntmps15
    go_wp2
    go_loopw [1, 5] (fun l i wr => ∃ (j : Nat) (y : Int), j ≤ L.length ∧ i = .int .i64 j ∧ l = .int .i64 y ∧ Hid (y = m - L.length - (pT L j : Nat)) ∧ 0 ≤ y ∧ Below w.heap.size w wr) (fun _ i _ => L.length - (intOf i).toNat)
    case atStart => exact ⟨0, m - L.length, Nat.zero_le _, rfl, rfl, by show _ = _; simp [pT], by omega, Below.refl _ _⟩
    case round =>
      obtain ⟨j, y, hj, rfl, rfl, HYY, hy0, hbel⟩ := hrel
      have hbs := hbel.size
      have hy1 : y ≤ 1048576 := by have := HYY.out; omega
      by_cases hl2 : j < L.length
      · obtain ⟨b, off, u, rfl, hb, g0, g1, hu, h64⟩ := hc j hl2
        have g0' := (hbel.cell (p := ⟨b, off + j * 2, none⟩) hb).trans g0
        have g1' := (hbel.cell (p := ⟨b, off + j * 2 + 1, none⟩) hb).trans g1
        have hu' := (hu.below hbel (Nat.le_refl _)).up hbs
        obtain ⟨au, cu, hau⟩ : ∃ a cap, u = .slice a (pP L j).length cap := ⟨_, _, hu.choose_spec.choose_spec.1⟩
        subst hau
        have q0 : 0 ≤ (j : Int) := by omega
        have q1 : (j : Int) < L.length := by omega
        have HS := hid (show pT L (j + 1) = pT L j + (pP L j).length from rfl)
        have HM := hid (pO_mono (L := L) L.length (j + 1) (by omega))
        clear hc g0 g1 hu
        by_cases hl3 : y < ((pP L j).length : Int)
        · have HR := hid (HNO.out (by have h1 := HPT.out (j + 1); have h2 := HM.out; have h3 := HYY.out; have h4 := HS.out; omega))
          go_wp2_with fail
          refine (szG1 _ _ (pP L j) y hy0 hy1 _ hu' hl3).mono ?_
          rintro e w2 ⟨rfl, b2⟩
          go_wp2
          go_ret
          exact ⟨retI HR.out.symm, hbel.trans (b2.mono hbs)⟩
        · have hl4 : ((pP L j).length : Int) ≤ y := by omega
          clear hl3
          go_wp2_with fail
          refine (szG2 _ _ (pP L j) y hy0 hy1 _ hu' hl4).mono ?_
          rintro e w2 ⟨rfl, b2⟩
          have q2 : ¬ y - ((pP L j).length : Int) < 0 := by omega
          go_wp2
          go_roundw
          case rel => exact ⟨j + 1, _, by omega, by go_num, rfl, by show _ = _; rw [HYY.out, HS.out]; omega, by omega, hbel.trans (b2.mono hbs)⟩
          case measure => simp [intOf]; omega
      · obtain rfl : j = L.length := by omega
        have HR := hid (HY.out (by have h1 := HPT.out L.length; have h3 := HYY.out; omega))
        have HE := hid (show y = szL L m by have h1 := HPT.out L.length; have h3 := HYY.out; rw [HR.out]; omega)
        clear hc
        go_wp2
        go_ret
        exact ⟨retI HE.out, hbel⟩
theorem bodyPost_seg1 {fn : Func} {p : Tmp} (h : fn.results = #[.cell p 40]) {a : Act} {w' : World} {g : Nat} {c v : Value} {Q : Ending → World → Prop}
    (hd : a.defers = []) (hp : a.tmps.getD p undef = .pointer (some ⟨g, 0, none⟩)) (hg : w'.heap[g]? = some (.cells #[c, v] 40 (0, 0)))
    (hq : Q (.returned (.agg #[c, v])) w') : bodyPost Try.prog fn Q .ret a w' := by
  refine bodyPost_ret (v := .agg #[c, v]) ?_ hd hq
  have hp' : a.tmps[p]?.getD undef = .pointer (some ⟨g, 0, none⟩) := by rw [← Array.getD_eq_getD_getElem?]; exact hp
  simp [results, h, hp', asAddr, run_loadVar_row (P := Try.prog) w' g 40 40 #[c, v] (0, 0) _ hg Try.underlying40 rfl Try.infoSeg]
/-- What is left by a call that hands back one segment. -/
def RetG (w : World) (c : Int) (xs : List Int) (e : Ending) (w' : World) : Prop := ∃ a cap, e = .returned (.agg #[.int .i64 c, .slice a xs.length cap]) ∧ Rw w' w.heap.size w'.heap.size (.slice a xs.length cap) xs ∧ Below w.heap.size w w'
theorem toSeg1 (c : Int) (v : Value) (xs : List Int) (hl : xs.length ≤ 1048576) (w : World) (hv : IsI w w.heap.size v xs) :
    Calls Try.prog 57 #[.agg #[.int .i64 c, v]] w (RetG w c xs) := by
  obtain ⟨av, cv, hav⟩ : ∃ a cap, v = .slice a xs.length cap := ⟨_, _, hv.choose_spec.choose_spec.1⟩
  subst hav
  obtain ⟨e0, e1, -⟩ := seg_cells (seg_alloc_cells w (.int .i64 c) (.slice av xs.length cv) 58) (.int .i64 0)
  have hv1 := hv.alloc (.cells #[.int .i64 c, .slice av xs.length cv] 58) (Nat.le_refl _)
  have b1 := RetRow.e1 w (.cells #[.int .i64 c, .slice av xs.length cv] 58)
  obtain ⟨wA, hwA⟩ : ∃ x, x = ((w.alloc (.cells #[.int .i64 c, .slice av xs.length cv] 58)).alloc (.cells #[.int .i64 0, .slice none 0 0] 40)).alloc (.cells #[.int .i64 c, .slice none 0 0] 40) := ⟨_, rfl⟩
  have hsA : wA.heap.size = w.heap.size + 1 + 1 + 1 := by rw [hwA]; simp
  have bA : Below w.heap.size w wA := by rw [hwA]; exact (b1.alloc (by simp) _).alloc (by simp; omega) _
  have hvA : IsI wA wA.heap.size (.slice av xs.length cv) xs := (hv.below bA (Nat.le_refl _)).up (by omega)
  have g1 : wA.heap[w.heap.size + 1]? = some (.cells #[.int .i64 0, .slice none 0 0] 40 (0, 0)) := by
    rw [hwA, Below.heap_alloc _ _ _ (by simp), ← show (w.alloc (.cells #[.int .i64 c, .slice av xs.length cv] 58)).heap.size = w.heap.size + 1 by simp]
    exact heap_alloc_new _ _
  have g2 : wA.heap[w.heap.size + 1 + 1]? = some (.cells #[.int .i64 c, .slice none 0 0] 40 (0, 0)) := by
    rw [hwA, ← show ((w.alloc (.cells #[.int .i64 c, .slice av xs.length cv] 58)).alloc (.cells #[.int .i64 0, .slice none 0 0] 40)).heap.size = w.heap.size + 1 + 1 by simp]
    exact heap_alloc_new _ _
  clear b1 hv
  go_enter Try.func57, Try.ntmps57
  go_wp2_with fail
  rw [← hwA]
  refine (toInts _ xs _ hl hvA).mono ?_
  rintro e w2 ⟨v2, rfl, r2, b2⟩
  clear hwA hvA
  have hs2 := b2.size
  replace g1 := (b2.block _ (by omega)).trans g1
  replace g2 := (b2.block _ (by omega)).trans g2
  obtain ⟨a2, c2, hv2⟩ := r2.len
  subst hv2
  have hr := row_set g2 1 (.slice a2 xs.length c2)
  have hr1 : (w2.setCell ⟨w.heap.size + 1 + 1, 1, none⟩ (.slice a2 xs.length c2)).heap[w.heap.size + 1]? = _ := (Below.heap_setCell _ _ _ _ (by simp)).trans g1
  obtain ⟨p0, p1, p2, p3, -, -⟩ := seg_cells (c := .int .i64 c) (v := .slice a2 xs.length c2) (by simpa using hr) (.int .i64 0)
  obtain ⟨q0, q1, q2, q3, q4, q5⟩ := seg_cells hr1 (.int .i64 c)
  have HF := hid (seg_set hr1 (.int .i64 c) (.slice a2 xs.length c2))
  have f2 := row_free g2 1
  have z2 : w2.cell? ⟨w.heap.size + 1 + 1, 1, none⟩ = some (.slice none 0 0) := by rw [row_cell g2]; rfl
  have b3 := bA.trans (b2.mono (by omega))
  have r3 := ((r2.keep (seg_chg w2 (w.heap.size + 1 + 1) 1 (.slice a2 xs.length c2)) (.inr (by omega))).keep (seg_chg _ (w.heap.size + 1) 0 (.int .i64 c)) (.inr (by omega))).keep (seg_chg _ (w.heap.size + 1) 1 (.slice a2 xs.length c2)) (.inr (by omega))
  clear hr hr1 g1 g2 r2 b2 bA
  go_wp2
  (try simp only [Exit.inBlock, Exit.then])
  refine bodyPost_seg1 rfl rfl (by rfl) HF.out ?_
  exact ⟨a2, c2, rfl, (r3.down (by omega)).up (by simp), ((b3.setCell (p := ⟨w.heap.size + 1 + 1, 1, none⟩) (by show w.heap.size ≤ w.heap.size + 1 + 1; omega) _).setCell (p := ⟨w.heap.size + 1, 0, none⟩) (by show w.heap.size ≤ w.heap.size + 1; omega) _).setCell (p := ⟨w.heap.size + 1, 1, none⟩) (by show w.heap.size ≤ w.heap.size + 1; omega) _⟩
theorem mk_segs (n : Nat) (hn : n ≤ 1099511627776) (W : World) :
    (Instr.makeSlice 25 (.int .i64 n) (.int .i64 n)).run Try.prog W = .ok (.slice (some ⟨W.heap.size, 0, none⟩) n n) (W.alloc (.cells (madeCells #[.int .i64 0, .slice none 0 0] (n * 2)) 40)) := by
  obtain ⟨i0, hi, hz0, hz1, hz2⟩ := info_parts Try.infoSeg3
  have h := run_make (P := Try.prog) W 25 40 i0 _ Try.underlying25 hi hz0 .i64 .i64 n n (by omega) (by omega) (by rw [hz2]; omega) (by omega)
  simpa [hz1, Value.cells] using h
theorem getSet {cur : Array Value} {a i : Nat} {x : Value} (h : i ≠ a) : (cur.setIfInBounds a x)[i]? = cur[i]? := by
  rw [Array.getElem?_setIfInBounds, if_neg (by omega)]
theorem getSetS {cur : Array Value} {a : Nat} {x : Value} (h : a < cur.size) : (cur.setIfInBounds a x)[a]? = some x := by
  rw [Array.getElem?_setIfInBounds, if_pos rfl, if_pos h]
theorem toSeg (v : Value) (L : List (Int × List Int)) (w : World) (hl : L.length ≤ 1048576) (hp : ∀ i, i < L.length → (pP L i).length ≤ 1048576) (hv : IsS w w.heap.size v L) :
    Calls Try.prog 17 #[v] w (RetS w L) := by
  obtain ⟨a, cap, rfl, hm, hc⟩ := hv
  unfold maxLen at hm
  have HP := hid hp
  obtain ⟨n, hn⟩ : ∃ n, L.length = n := ⟨_, rfl⟩
  have HN := hid hn
  rw [hn] at hc hm hl ⊢
  have hmk := mk_segs n (by omega)
  have HMS := hid (show (madeCells #[Value.int .i64 0, .slice none 0 0] (n * 2)).size = n * 2 from size_madeCells _ _)
  generalize madeCells #[Value.int .i64 0, .slice none 0 0] (n * 2) = mc at *
  clear hn hp
  go_enter Try.func17, Try.ntmps17
  go_wp2
  go_loopw [4] (fun i wr => ∃ (j : Nat) (cur : Array Value), j ≤ n ∧ i = .int .i64 j ∧ Hid (wr.heap[w.heap.size]? = some (.cells cur 40 (0, 0))) ∧ Hid (cur.size = n * 2) ∧ SgR wr (w.heap.size + 1) wr.heap.size j cur (pC L) (pP L) ∧ Below w.heap.size w wr) (fun i _ => n - (intOf i).toNat)
  case atStart => exact ⟨0, mc, Nat.zero_le _, rfl, heap_alloc_new w _, HMS, SgR.zero _ _ _ _ _ _, RetRow.e1 _ _⟩
  case round =>
    obtain ⟨j, cur, hj, rfl, HG, HS, hr, hbel⟩ := hrel
    clear hmk
    by_cases hlt : j < n
    · obtain ⟨b, off, u, rfl, hb, g0, g1, hu, h64⟩ := hc j hlt
      replace g0 := (hbel.cell (p := ⟨b, off + j * 2, none⟩) hb).trans g0
      replace g1 := (hbel.cell (p := ⟨b, off + j * 2 + 1, none⟩) hb).trans g1
      have hgl := (Array.getElem?_eq_some_iff.1 HG.out).1
      have hs := hbel.size
      replace hu := (hu.below hbel (Nat.le_refl _)).up hs
      have hpl := HP.out j (by rw [HN.out]; exact hlt)
      obtain ⟨au, cu, hau⟩ : ∃ a cap, u = .slice a (pP L j).length cap := ⟨_, _, hu.choose_spec.choose_spec.1⟩
      subst hau
      have H64 := hid h64
      clear hc h64
      go_wp2_with fail
      refine (toSeg1 _ _ (pP L j) hpl _ hu).mono ?_
      clear hu g0 g1
      rintro e w9 ⟨a9, c9, rfl, r9, b9⟩
      have s9 := b9.size
      have HG9 := hid ((b9.block _ (by omega)).trans HG.out)
      have hs3 : j * 2 + 1 < cur.size := by rw [HS.out]; omega
      have c0 : w9.cell? ⟨w.heap.size, j * 2, none⟩ = some (cur[j * 2]'(by omega)) := by rw [row_cell HG9.out, Array.getElem?_eq_getElem (by omega)]
      have c1 : w9.cell? ⟨w.heap.size, j * 2 + 1, none⟩ = some (cur[j * 2 + 1]'(by omega)) := by rw [row_cell HG9.out, Array.getElem?_eq_getElem (by omega)]
      have f0 := row_free HG9.out (j * 2)
      have f1 := row_free HG9.out (j * 2 + 1)
      have b10 := hbel.trans (b9.mono hs)
      have hr9 := hr.below b9 (Nat.le_refl _)
      clear b9 hbel hr
      go_wp2
      go_roundw
      case rel =>
        refine ⟨j + 1, _, by omega, by go_num, row_set (row_set HG9.out _ _) _ _, by show _ = _; simpa using HS.out, ?_, (b10.setCell (p := ⟨w.heap.size, j * 2, none⟩) (Nat.le_refl _) _).setCell (p := ⟨w.heap.size, j * 2 + 1, none⟩) (Nat.le_refl _) _⟩
        have k1 := seg_chg w9 w.heap.size (j * 2) (.int .i64 (pC L j))
        have k2 := seg_chg (w9.setCell ⟨w.heap.size, j * 2, none⟩ (.int .i64 (pC L j))) w.heap.size (j * 2 + 1) (.slice a9 (pP L j).length c9)
        refine SgR.snoc (w := w9) (u := .slice a9 (pP L j).length c9) ((hr9.keep k1 (.inr (Nat.le_refl _))).keep k2 (.inr (Nat.le_refl _))) (fun i hi => ?_) ?_ ?_ (((r9.keep k1 (.inr (by omega))).keep k2 (.inr (by omega))).up (by simp)) H64.out (by omega) (by simpa using s9)
        · rw [getSet (by omega), getSet (by omega)]
        · rw [getSet (by omega), getSetS (by omega)]
        · rw [getSetS (by simp; omega)]
      case measure => simp [intOf]; omega
    · obtain rfl : j = n := by omega
      clear hc
      go_wp2
      go_ret
      refine ⟨_, rfl, ?_, hbel⟩
      exact .inr ⟨w.heap.size, j, cur, congrArg (fun q => Value.slice (some ⟨w.heap.size, 0, none⟩) q j) HN.out.symm, ⟨Nat.le_refl _, (Array.getElem?_eq_some_iff.1 HG.out).1⟩, HG.out, ⟨by rw [HN.out]; exact Nat.le_refl _, by unfold maxLen; omega⟩, HS.out, by rw [HN.out]; exact hr.down (Nat.le_succ _)⟩
theorem sgr_chg {lo hi : Nat} {w w' : World} {g : Nat} (h : Chg g (g + 1) w w') (h1 : lo ≤ g) (h2 : g < hi) : Chg lo hi w w' := ⟨h.os, h.tape, h.output, h.size, fun k hk hn => h.block k hk (by omega)⟩
def upd {α : Type} (f : Nat → α) (j : Nat) (x : α) : Nat → α := fun i => if i = j then x else f i
theorem SgR.pick {w : World} {lo hi n g : Nat} {cur : Array Value} {C : Nat → Int} {P : Nat → List Int} {e : TypeId} (h : SgR w lo hi n cur C P) (hg : w.heap[g]? = some (.cells cur e (0, 0))) (he : e ≠ 3) {j : Nat} (hj : j < n) :
    ∃ u, cur[j * 2 + 1]? = some u ∧ cur[j * 2]? = some (.int .i64 (C j)) ∧ Rw w lo hi u (P j) ∧ u.ownBlock ≠ some g ∧ ∀ gg gg', ((gg' = gg ∧ u.ownBlock = none) ∨ (gg' = gg + 1 ∧ u.ownBlock = some gg)) → ∀ x ys w1 w2, Chg g (g + 1) w w1 → Chg gg gg' w1 w2 → Rw w2 lo hi u ys → I64 x →
      SgR w2 lo hi n (cur.setIfInBounds (j * 2) (.int .i64 x)) (upd C j x) (upd P j ys) := by
  obtain ⟨U, h1, h2⟩ := h
  obtain ⟨a0, a1, a2, a3⟩ := h1 j hj
  refine ⟨U j, a1, a0, a2, a2.ne hg he, fun gg gg' ht x ys w1 w2 c1 c2 hr hx => ⟨U, fun i hi => ?_, h2⟩⟩
  by_cases e1 : i = j
  · subst e1
    have hs : i * 2 < cur.size := by
      rcases Nat.lt_or_ge (i * 2) cur.size with h | h
      · exact h
      · rw [Array.getElem?_eq_none h] at a0; cases a0
    simp only [upd, if_true]
    exact ⟨getSetS hs, by rw [getSet (by omega)]; exact a1, hr, hx⟩
  · obtain ⟨b0, b1, b2, b3⟩ := h1 i hi
    simp only [upd, if_neg e1]
    refine ⟨by rw [getSet (by omega)]; exact b0, by rw [getSet (by omega)]; exact b1, (b2.keepB c1 fun k hk hkk => ?_).keepB c2 fun k hk hkk => ?_, b3⟩
    · have : k = g := by omega
      subst this; exact b2.ne hg he hk
    · rcases ht with ⟨t1, t2⟩ | ⟨t1, t2⟩
      · omega
      · have : k = gg := by omega
        subst this
        exact h2 i j hi hj e1 k hk t2
theorem markSeg (v : Value) (L : List (Int × List Int)) (k : Int) (lo hi : Nat) (w : World) (h0 : 0 ≤ k) (hk : k + (pO L L.length : Nat) ≤ 4611686018427387904) (hv : RwS w lo hi v L) :
    Calls Try.prog 38 #[v, .int .i64 k] w fun e w' => e = .returned (.int .i64 (k + (pO L L.length : Nat))) ∧ RwS w' lo hi v (mkL L k) ∧ Chg lo hi w w' := by
  rcases hv with ⟨rfl, rfl⟩ | ⟨g, cap, cur, rfl, hg, hgg, hm, hs, hr⟩
  · clear hk
    go_enter Try.func38, Try.ntmps38
    go_wp2
    refine wp_loop_rounds 1 ?_
    rw [rounds_succ]
    go_wp2
    go_ret
    exact ⟨retI (by simp [pO]), RwS.nil _ _ _, Chg.refl _ _ _⟩
  · obtain ⟨n, hn⟩ : ∃ n, L.length = n := ⟨_, rfl⟩
    have HN := hid hn
    have HM := hid (fun j (hj : j ≤ n) => pO_mono (L := L) n j hj)
    have HAT := hid (fun i (hi : i < n) => mkL_at (L := L) (k := k) (i := i) (by omega))
    rw [hn] at hk hm hr ⊢
    have HS0 := hid hs
    have hg0 := hg.1
    have hg1 := hg.2
    unfold maxLen at hm
    clear hn hs hg
    go_enter Try.func38, Try.ntmps38
    go_wp2
    go_loopw [1, 5] (fun m i wr => ∃ (j : Nat) (cur' : Array Value), j ≤ n ∧ i = .int .i64 j ∧ m = .int .i64 (k + (pO L j : Nat)) ∧ Hid (wr.heap[g]? = some (.cells cur' 40 (0, 0))) ∧ Hid (cur'.size = cap * 2) ∧
      SgR wr lo hi n cur' (fun i => if i < j then pC (mkL L k) i else pC L i) (fun i => if i < j then pP (mkL L k) i else pP L i) ∧ Chg lo hi w wr) (fun _ i _ => n - (intOf i).toNat)
    case atStart => exact ⟨0, cur, Nat.zero_le _, rfl, retI' (by simp [pO]), hgg, HS0, by simpa using hr, Chg.refl _ _ _⟩
    case round =>
      clear hr hgg
      obtain ⟨j, cur', hj, rfl, rfl, HG, HS, hr, hchg⟩ := hrel
      by_cases hlt : j < n
      · obtain ⟨u, a1, a0, hu, hug, hstep⟩ := hr.pick HG.out (by decide) hlt
        have HST := hid hstep
        simp only [Nat.lt_irrefl, if_false] at a0 hu
        obtain ⟨gg, gg', ht, hor⟩ := hu.tight
        have HOR := hid hor
        have HUG := hid hug
        have HU := hid hu
        obtain ⟨au, cu, hau⟩ := hu.len
        subst hau
        have c0 : wr.cell? ⟨g, j * 2, none⟩ = some (.int .i64 (pC L j)) := by rw [row_cell HG.out]; exact a0
        have c1 : (wr.setCell ⟨g, j * 2, none⟩ (.int .i64 (k + (pO L j : Nat)))).cell? ⟨g, j * 2 + 1, none⟩ = some (.slice au (pP L j).length cu) := by rw [row_cell (row_set HG.out _ _), getSet (by omega)]; exact a1
        have f0 := row_free HG.out (j * 2)
        have hm1 := HM.out (j + 1) (by omega)
        rw [pO_succ] at hm1
        have q0 : 0 ≤ k + (pO L j : Int) := by omega
        have q1 : k + (pO L j : Int) + 1 + ((pP L j).length : Int) ≤ 4611686018427387904 := by omega
        have htk := ht.keepB (seg_chg wr g (j * 2) (.int .i64 (k + (pO L j : Nat)))) (fun b hb hbb => HUG.out (by rw [hb, show b = g by omega]))
        have HC := hid hr
        have HSUC := hid (pO_succ L j)
        clear hstep hor hug hu a0 a1 ht hr
        go_wp2_with fail
        refine (markInts _ (pP L j) _ gg gg' _ (by omega) (by omega) htk).mono ?_
        rintro e w2 ⟨rfl, r2, b2⟩
        have HG2 := hid (show w2.heap[g]? = _ from (b2.block g (by simpa using (Array.getElem?_eq_some_iff.1 HG.out).1) (by
          intro hin
          rcases HOR.out with ⟨t1, _⟩ | ⟨t1, t2, _⟩
          · omega
          · exact HUG.out (by rw [t2, show gg = g by omega]))).trans (row_set HG.out (j * 2) (.int .i64 (k + (pO L j : Nat)))))
        have b3 : Chg lo hi w w2 := (hchg.trans (sgr_chg (seg_chg wr g (j * 2) _) hg0 hg1)).trans (by
          rcases HOR.out with ⟨t1, _⟩ | ⟨t1, t2, t3, t4, _⟩
          · exact ⟨b2.os, b2.tape, b2.output, b2.size, fun i hi hn => b2.block i hi (by omega)⟩
          · exact ⟨b2.os, b2.tape, b2.output, b2.size, fun i hi hn => b2.block i hi (by omega)⟩)
        have r3 : Rw w2 lo hi (.slice au (pP L j).length cu) (marks (k + (pO L j : Nat) + 1) (pP L j).length) := by
          rcases HOR.out with ⟨t1, t2⟩ | ⟨t1, t2, t3, t4, _⟩
          · have hl := r2.len
            refine ⟨⟨r2.1.1, ?_⟩, ⟨fun k hk => (by rw [t2] at hk; cases hk), r2.2.2⟩⟩
            rcases r2.1.2 with h | ⟨g5, cap5, cur5, h5, _⟩
            · exact .inl h
            · rw [h5] at t2; simp [Value.ownBlock] at t2
          · exact (r2.down t3).up (by omega)
        have HR4 := hid (HST.out gg gg' (by rcases HOR.out with ⟨t1, t2⟩ | ⟨t1, t2, _⟩; exact .inl ⟨t1, t2⟩; exact .inr ⟨t1, t2⟩) (k + (pO L j : Nat)) _ _ _ (seg_chg wr g (j * 2) _) b2 r3 (by constructor <;> omega))
        clear b2 r2 r3 htk c0 c1 f0 hchg hm1
        have hz : k + ((pO L (j + 1) : Nat) : Int) = k + (pO L j : Nat) + 1 + ((pP L j).length : Nat) := by rw [HSUC.out]; omega
        have HZ := hid hz
        clear hz
        go_wp2
        go_roundw
        case rel =>
          refine ⟨j + 1, _, by omega, by go_num, retI' HZ.out.symm, HG2.out, by show _ = _; simpa using HS.out, HR4.out.congr fun i hi => ?_, b3⟩
          have hat := HAT.out j hlt
          by_cases e : i = j
          · subst e; simp only [upd, if_true, Nat.lt_succ_self]; rw [hat.1, hat.2]; exact ⟨rfl, rfl⟩
          · simp only [upd, if_neg e]
            by_cases e2 : i < j
            · rw [if_pos e2, if_pos e2, if_pos (by omega), if_pos (by omega)]; exact ⟨rfl, rfl⟩
            · rw [if_neg e2, if_neg e2, if_neg (by omega), if_neg (by omega)]; exact ⟨rfl, rfl⟩
        case measure => simp [intOf]; omega
      · obtain rfl : j = n := by omega
        go_wp2
        go_ret
        refine ⟨rfl, .inr ⟨g, cap, cur', by rw [mkL_len, HN.out], ⟨hg0, hg1⟩, HG.out, ⟨by rw [mkL_len, HN.out]; exact hm.1, by unfold maxLen; omega⟩, HS.out, ?_⟩, hchg⟩
        rw [mkL_len, HN.out]
        exact hr.congr fun i hi => by rw [if_pos hi, if_pos hi]; exact ⟨rfl, rfl⟩
theorem heldSeg (v : Value) (k m : Int) (L : List (Int × List Int)) (lo hi : Nat) (w : World) (h0 : 0 ≤ k) (hk : k + (pO L L.length : Nat) ≤ 4611686018427387904) (hm : m = k + (pO L L.length : Nat)) (hv : RwS w lo hi v (mkL L k)) :
    Calls Try.prog 44 #[v, .int .i64 k] w fun e w' => e = .returned (.int .i64 m) ∧ w = w' := by
  subst hm
  obtain ⟨a, cap, rfl, hmm, hc⟩ := hv.isS
  rw [mkL_len] at hc hmm ⊢
  obtain ⟨n, hn⟩ : ∃ n, L.length = n := ⟨_, rfl⟩
  have HN := hid hn
  have HM := hid (fun j (hj : j ≤ n) => pO_mono (L := L) n j hj)
  have HAT := hid (fun i (hi : i < n) => mkL_at (L := L) (k := k) (i := i) (by omega))
  rw [hn] at hk hmm hc ⊢
  unfold maxLen at hmm
  clear hn hv
  go_enter Try.func44, Try.ntmps44
  go_wp2
  go_loop [1, 5] (fun m i => ∃ j : Nat, j ≤ n ∧ i = .int .i64 j ∧ m = .int .i64 (k + (pO L j : Nat))) (fun _ i => n - (intOf i).toNat)
  case atStart => exact ⟨0, Nat.zero_le _, rfl, retI' (by simp [pO])⟩
  case round =>
    obtain ⟨j, hj, rfl, rfl⟩ := hrel
    by_cases hlt : j < n
    · obtain ⟨b, off, u, rfl, hb, g0, g1, hu, h64⟩ := hc j hlt
      have hat := HAT.out j hlt
      rw [hat.1] at g0
      rw [hat.2] at hu
      obtain ⟨au, cu, hau⟩ : ∃ a cap, u = .slice a (marks (k + (pO L j : Int) + 1) (pP L j).length).length cap := ⟨_, _, hu.choose_spec.choose_spec.1⟩
      subst hau
      have hm1 := HM.out (j + 1) (by omega)
      rw [pO_succ] at hm1
      have q0 : 0 ≤ k + (pO L j : Int) := by omega
      have q1 : k + (pO L j : Int) + 1 + ((pP L j).length : Int) ≤ 4611686018427387904 := by omega
      have hz : k + ((pO L (j + 1) : Nat) : Int) = k + (pO L j : Nat) + 1 + ((pP L j).length : Nat) := by rw [pO_succ]; omega
      have HZ := hid hz
      have ht : ((k + (pO L j : Int)) != (k + (pO L j : Int))) = false := by simp
      clear hc hat h64 hz hm1
      go_wp2_with fail
      refine (heldInts _ _ _ _ _ (by omega) (by omega) hu).mono ?_
      rintro e wx ⟨rfl, rfl⟩
      go_wp2
      go_round
      case rel => exact ⟨j + 1, by omega, by go_num, retI' HZ.out.symm⟩
      case measure => simp [intOf]; omega
    · clear hc
      obtain rfl : j = n := by omega
      go_wp2
      go_ret
      exact ⟨rfl, rfl⟩
theorem markSegZ (v : Value) (L : List (Int × List Int)) (k : Int) (lo hi : Nat) (w : World) (h0 : 0 ≤ k) (hk : k + (pZ L : Nat) ≤ 4611686018427387904) (hv : RwS w lo hi v L) :
    Calls Try.prog 38 #[v, .int .i64 k] w fun e w' => e = .returned (.int .i64 (k + (pZ L : Nat))) ∧ RwS w' lo hi v (mkL L k) ∧ Chg lo hi w w' := markSeg v L k lo hi w h0 hk hv
theorem heldSegZ (v : Value) (k m : Int) (L : List (Int × List Int)) (lo hi : Nat) (w : World) (h0 : 0 ≤ k) (hk : k + (pZ L : Nat) ≤ 4611686018427387904) (hm : m = k + (pZ L : Nat)) (hv : RwS w lo hi v (mkL L k)) :
    Calls Try.prog 44 #[v, .int .i64 k] w fun e w' => e = .returned (.int .i64 m) ∧ w = w' := heldSeg v k m L lo hi w h0 hk hm hv
theorem pln_cells {w w' : World} {b o b' o' : Nat} {v0 v1 u0 u1 : Value} (hb : Chg 0 0 w.drew w') (h0 : w.cell? ⟨b, o, none⟩ = some v0) (h1 : w.cell? ⟨b, o + 1, none⟩ = some v1)
    (k0 : w.cell? ⟨b', o', none⟩ = some u0) (k1 : w.cell? ⟨b', o' + 1, none⟩ = some u1) :
    w'.cell? ⟨b, o, none⟩ = some v0 ∧ w'.cell? ⟨b, o + 1, none⟩ = some v1 ∧ w'.cell? ⟨b', o', none⟩ = some u0 ∧ w'.cell? ⟨b', o' + 1, none⟩ = some u1 := by
  have hb2 : Below w.drew.heap.size w.drew w' := chg_bel0' hb (Nat.le_refl _)
  have f : ∀ {b o : Nat} {v : Value}, w.cell? ⟨b, o, none⟩ = some v → w'.cell? ⟨b, o, none⟩ = some v := fun h => (hb2.cell (p := ⟨_, _, none⟩) (World.block_lt_of_cell? _ _ h)).trans h
  exact ⟨f h0, f h1, f k0, f k1⟩
theorem eqSameSeg (v u : Value) (L : List (Int × List Int)) (B B' : Nat) (w : World) (hB : B ≤ w.heap.size) (hB' : B' ≤ w.heap.size) (hv : IsS w B v L) (hu : IsS w B' u L) :
    Calls Try.prog 19 #[v, u] w fun e w' => e = .returned (.bool true) ∧ Chg 0 0 w w' := by
  obtain ⟨a, cap, rfl, hm, hc⟩ := hv
  obtain ⟨a', cap', rfl, hm', hc'⟩ := hu
  unfold maxLen at hm hm'
  obtain ⟨n, hn⟩ : ∃ n, L.length = n := ⟨_, rfl⟩
  have HN := hid hn
  rw [hn] at hm hc hm' hc' ⊢
  have hl1 : ((n : Int) != (n : Int)) = false := by simp
  clear hn
  go_enter Try.func19, Try.ntmps19
  go_wp2
  go_loopw [5] (fun i wr => ∃ j : Nat, j ≤ n ∧ i = .int .i64 j ∧ Below w.heap.size w wr) (fun i wr => n - (intOf i).toNat)
  case atStart => exact ⟨0, Nat.zero_le _, rfl, Below.refl _ _⟩
  case round =>
    obtain ⟨j, hj, rfl, hbel⟩ := hrel
    have hbs := hbel.size
    by_cases hlt : j < n
    · obtain ⟨b, off, x, rfl, hb, g0, g1, hx, h64⟩ := hc j hlt
      obtain ⟨b', off', y, rfl, hb', d0, d1, hy, -⟩ := hc' j hlt
      replace g0 := (hbel.cell (p := ⟨b, off + j * 2, none⟩) (show b < w.heap.size by omega)).trans g0
      replace g1 := (hbel.cell (p := ⟨b, off + j * 2 + 1, none⟩) (show b < w.heap.size by omega)).trans g1
      replace d0 := (hbel.cell (p := ⟨b', off' + j * 2, none⟩) (show b' < w.heap.size by omega)).trans d0
      replace d1 := (hbel.cell (p := ⟨b', off' + j * 2 + 1, none⟩) (show b' < w.heap.size by omega)).trans d1
      replace hx := (hx.below hbel hB).up (show B ≤ wr.heap.size by omega)
      replace hy := (hy.below hbel hB').up (show B' ≤ wr.heap.size by omega)
      obtain ⟨ax, cx, hax⟩ : ∃ a cap, x = .slice a (pP L j).length cap := ⟨_, _, hx.choose_spec.choose_spec.1⟩
      obtain ⟨ay, cy, hay⟩ : ∃ a cap, y = .slice a (pP L j).length cap := ⟨_, _, hy.choose_spec.choose_spec.1⟩
      subst hax hay
      have q0 : 0 ≤ (j : Int) := by omega
      have q1 : (j : Int) < n := by omega
      clear hc hc' h64
      go_wp2_with fail
      go_region_held3 (fun w' => w'.cell? ⟨b, off + j * 2, none⟩ = some (.int .i64 (pC L j)) ∧ w'.cell? ⟨b, off + j * 2 + 1, none⟩ = some (.slice ax (pP L j).length cx) ∧ w'.cell? ⟨b', off' + j * 2, none⟩ = some (.int .i64 (pC L j)) ∧ w'.cell? ⟨b', off' + j * 2 + 1, none⟩ = some (.slice ay (pP L j).length cy))
        (first | exact ⟨g0, g1, d0, d1⟩ | exact HK.out | go_keep)
        ((go_at_call 32; refine (eqSeg1 _ _ _ (pP L j) wr.drew (show IsI wr.drew wr.drew.heap.size _ _ from hx) (show IsI wr.drew wr.drew.heap.size _ _ from hy)).mono ?_; rintro e w9 ⟨rfl, b9⟩; have HK := hid (pln_cells b9 g0 g1 d0 d1)))
      have b10 : Below w.heap.size w w9 := hbel.drew.trans (chg_bel0' b9 (by show w.heap.size ≤ wr.heap.size; omega))
      clear HK b9
      go_wp2
      go_roundw
      case rel => exact ⟨j + 1, by omega, by go_num, b10⟩
      case measure => simp [intOf]; omega
    · obtain rfl : j = n := by omega
      clear hc hc'
      go_wp2
      go_ret
      exact ⟨rfl, pln_chg0 hbel⟩
end Go.Proofs.Ytahbfcnailfkoaa
