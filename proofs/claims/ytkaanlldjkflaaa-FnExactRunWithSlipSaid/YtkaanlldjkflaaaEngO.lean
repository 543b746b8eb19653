/- What is proved here: an argument that is an engine reads as columns. -/
import Derived.Test.YtkaanlldjkflaaaEng
import Derived.Deep.Strs
import Derived.Deep.Fields
set_option linter.unusedVariables false
set_option linter.unusedSimpArgs false
namespace Go.Proofs.Ytkaanlldjkflaaa
open Go.RowKit Go.ChangeShapes Go.WideShapes Go.Deep

theorem isT_of_trod {H : Type} {enc : TypeId × Value → H} {P : Program} {w : World} {held : Bool} {base r0 : Nat} {rr : Reach} {t e q : TypeId} {f0 : Field} {v : Value} {d : DataW H} {p : List MemPlace}
    (hs : P.underlying t = some (.struct #[f0])) (hC : P.cellsOf t = 1) (o0 : f0.offset = 0) (t0 : f0.type = q) (hq : P.underlying q = some (.slice e)) (hcq : P.cellsOf q = 1) (he : P.underlying e = some .string) (hce : P.cellsOf e = 1)
    (hv : Value.okWide P w rr r0 t v) (h : DataW.Trod enc P w base (fun _ => true) held t v d p) : ∃ (u : Value) (cs : List ByteArray), v = .agg #[u] ∧ IsT w w.heap.size u cs := by
  obtain ⟨vs, rfl, hsz⟩ := okWide_struct hs hv
  rw [hC] at hsz
  obtain ⟨u, rfl⟩ : ∃ u, vs = #[u] := by
    obtain ⟨l⟩ := vs
    match l, hsz with
    | [u], _ => exact ⟨u, rfl⟩
  obtain ⟨fuel, hf⟩ := h
  obtain ⟨y0, n, -, -, h0⟩ := trod_struct1 hs hf
  rw [o0, t0, hcq] at h0
  have h1 : DataW.trod enc P w base (fun _ => true) held n q [u] = some y0 := by simpa [Value.cells] using h0
  rcases open_strs hq he hce h1 with ⟨hcs, _⟩ | ⟨ad, len, cap, m, Sx, hcs, hb, hl, hm, hmm, -, hi⟩
  · simp only [List.cons.injEq, and_true] at hcs
    subst hcs
    exact ⟨_, [], rfl, none, 0, rfl, ⟨Nat.le_refl _, by unfold maxLen; omega, fun _ => rfl⟩, fun i hi => by simp at hi⟩
  · simp only [List.cons.injEq, and_true] at hcs
    subst hcs
    have hlm : len ≤ m := by rw [hmm]; simp; exact hl
    have hL : ((List.range len).map Sx).length = len := by simp
    have hat : ∀ i, i < len → tC ((List.range len).map Sx) i = Sx i := by
      intro i hlt
      have e : ((List.range len).map Sx)[i]? = some (Sx i) := by rw [List.getElem?_map, List.getElem?_range hlt]; rfl
      unfold tC; rw [List.getD_eq_getElem?_getD, e]; rfl
    refine ⟨_, (List.range len).map Sx, rfl, some ad, cap, by rw [hL], ⟨by rw [hL]; exact hl, hm, fun h => by cases h⟩, fun i hi0 => ?_⟩
    rw [hL] at hi0
    obtain ⟨b, off, rfl, hbl, hc2⟩ := addr_of_cells (c := fun q => .string (Sx q)) (fun q (hq : q < len) => (hi q (by omega)).1) (by omega)
    exact ⟨b, off, rfl, hbl, by rw [hat i hi0]; exact hc2 i hi0, by rw [hat i hi0]; exact (hi i (by omega)).2⟩
end Go.Proofs.Ytkaanlldjkflaaa
