/- What is proved here: an argument that is a slice of segments reads as segments. -/
import Derived.Test.YtahbfcnailfkoaaPlnL
import Derived.Deep.SlicePairs
import Derived.Deep.Fields
set_option linter.unusedVariables false
set_option linter.unusedSimpArgs false
namespace Go.Proofs.Ytahbfcnailfkoaa
open Go.RowKit Go.ChangeShapes Go.WideShapes Go.Deep

theorem isS_of_trod {H : Type} {enc : TypeId × Value → H} {P : Program} {w : World} {held : Bool} {base : Nat} {t e q : TypeId} {f0 f1 : Field} {fuel : Nat} {a : Option Addr} {len cap : Nat} {x : DataW H × List MemPlace}
    (ht : P.underlying t = some (.slice e)) (he : P.underlying e = some (.struct #[f0, f1])) (ce : P.cellsOf e = 2) (o0 : f0.offset = 0) (o1 : f1.offset = 1) (t0 : f0.type = 3) (t1 : f1.type = q) (h3 : P.underlying 3 = some (.int .i64)) (hq : P.underlying q = some (.slice 3)) (hc3 : P.cellsOf 3 = 1) (hcq : P.cellsOf q = 1)
    (h : DataW.trod enc P w base (fun _ => true) held fuel t [.slice a len cap] = some x) : ∃ L : List (Int × List Int), L.length = len ∧ IsS w w.heap.size (.slice a len cap) L := by
  rcases open_slice_pairs ht he ce o0 o1 (by rw [t0]; exact hc3) (by rw [t1]; exact hcq) h with ⟨hcs, _⟩ | ⟨ad, len', cap', m, n, V0, V1, D0, D1, P0, P1, hcs, hb, hl, hm, hmm, hx, hi⟩
  · simp only [List.cons.injEq, Value.slice.injEq, and_true] at hcs
    obtain ⟨rfl, rfl, rfl⟩ := hcs
    exact ⟨[], rfl, IsS.nil _ _⟩
  · simp only [List.cons.injEq, Value.slice.injEq, and_true] at hcs
    obtain ⟨rfl, rfl, rfl⟩ := hcs
    have hlm : len ≤ m := by rw [hmm]; split <;> omega
    have each : ∀ i, i < len → ∃ y : Int × List Int, V0 i = .int .i64 y.1 ∧ I64 y.1 ∧ IsI w w.heap.size (V1 i) y.2 := by
      intro i hlt
      obtain ⟨_, _, g0, g1⟩ := hi i (by omega)
      rw [t0] at g0
      rw [t1] at g1
      obtain ⟨k, hk, _, hwf⟩ := DataW.trod_int h3 g0
      simp only [List.cons.injEq, and_true] at hk
      rcases open_ints hq h3 hc3 g1 with ⟨hcs, _⟩ | ⟨y, l, c, zs, hcs, _, hl2, hm2, hz, _, hcell, hwz⟩
      · simp only [List.cons.injEq, and_true] at hcs
        obtain ⟨xs, _, hxs⟩ := isI_nil w
        exact ⟨(k, xs), hk, bounds_i64 hwf, by rw [hcs]; exact hxs⟩
      · simp only [List.cons.injEq, and_true] at hcs
        obtain ⟨xs, _, hxs⟩ := isI_of_in hl2 hm2 (by simpa using hz) hcell hwz
        exact ⟨(k, xs), hk, bounds_i64 hwf, by rw [hcs]; exact hxs⟩
    obtain ⟨y, hy⟩ := choose_lt each
    have hL : ((List.range len).map y).length = len := by simp
    have hat : ∀ i, i < len → pC ((List.range len).map y) i = (y i).1 ∧ pP ((List.range len).map y) i = (y i).2 := by
      intro i hlt
      have e : ((List.range len).map y)[i]? = some (y i) := by rw [List.getElem?_map, List.getElem?_range hlt]; rfl
      unfold pC pP; rw [List.getD_eq_getElem?_getD, e]; exact ⟨rfl, rfl⟩
    refine ⟨(List.range len).map y, hL, some ad, cap, by rw [hL], ⟨by omega, hm, fun h => by cases h⟩, fun i hi0 => ?_⟩
    rw [hL] at hi0
    have hcc : ∀ q, q < len * 2 → w.cell? (ad.add q) = some (if q % 2 = 0 then V0 (q / 2) else V1 (q / 2)) := by
      intro q hq
      obtain ⟨a0, a1, _, _⟩ := hi (q / 2) (by omega)
      by_cases e : q % 2 = 0
      · rw [if_pos e, ← a0]; congr 2; omega
      · rw [if_neg e, ← a1]; congr 2; omega
    obtain ⟨b, off, rfl, hbl, hc2⟩ := addr_of_cells (c := fun q => if q % 2 = 0 then V0 (q / 2) else V1 (q / 2)) hcc (by omega)
    obtain ⟨e1, e2, e3⟩ := hy i hi0
    have k0 := hc2 (i * 2) (by omega)
    have k1 := hc2 (i * 2 + 1) (by omega)
    simp only [show i * 2 % 2 = 0 by omega, show i * 2 / 2 = i by omega, if_true] at k0
    simp only [show (i * 2 + 1) % 2 = 1 by omega, show (i * 2 + 1) / 2 = i by omega, Nat.one_ne_zero, if_false] at k1
    obtain ⟨p0, p1⟩ := hat i hi0
    refine ⟨b, off, V1 i, rfl, hbl, by rw [k0, e1, p0], by rw [← k1]; congr 2, by rw [p1]; exact e3, by rw [p0]; exact e2⟩
end Go.Proofs.Ytahbfcnailfkoaa
