/- What is proved here: an argument that is a slice of structs of three ints reads as one flat list of ints. -/
import Derived.Test.YtlinkeemccnfmaaDoorErrS
import Derived.Deep.Slices
import Derived.Deep.Fields
import Derived.ChangeSame
set_option linter.unusedVariables false
set_option linter.unusedSimpArgs false
namespace Go.Proofs.YtlinkeemccnfmaaDoor
open Go.RowKit Go.ChangeShapes Go.WideShapes Go.Deep

/-- The int in a cell. -/
def cellInt (w : World) (a : Addr) : Int := match w.cell? a with | some (.int .i64 n) => n | _ => 0
theorem add_zero' (a : Addr) : a.add 0 = a := by simp [Addr.add]
theorem isE_of_trod {H : Type} {enc : TypeId × Value → H} {P : Program} {w : World} {spare : Nat → Bool} {held : Bool} {base : Nat} {t e : TypeId} {fs : Array Field} {fuel : Nat} {a : Option Addr} {len cap : Nat} {x : DataW H × List MemPlace}
    (ht : P.underlying t = some (.slice e)) (he : P.underlying e = some (.struct fs)) (hsz : fs.size = 3) (hfs : ∀ j, j < 3 → (fs[j]?).map (fun f => (f.offset, f.type)) = some (j, 3)) (h3 : P.underlying 3 = some (.int .i64)) (hc3 : P.cellsOf 3 = 1) (hC : P.cellsOf e = 3)
    (h : DataW.trod enc P w base spare held fuel t [.slice a len cap] = some x) : ∃ zs, IsE w w.heap.size (.slice a len cap) zs := by
  rcases open_slice ht h with ⟨hcs, _⟩ | ⟨ad, len', cap', m, n, D, Pl, hcs, hb, hl, hm, hmm, hx, hi⟩
  · simp only [List.cons.injEq, Value.slice.injEq, and_true] at hcs
    obtain ⟨rfl, rfl, rfl⟩ := hcs
    exact ⟨[], 0, none, 0, rfl, rfl, ⟨Nat.zero_le _, Nat.zero_le _, fun _ => rfl⟩, R64.nil, fun i hi => by omega⟩
  · simp only [List.cons.injEq, Value.slice.injEq, and_true] at hcs
    obtain ⟨rfl, rfl, rfl⟩ := hcs
    have hlm : len ≤ m := by rw [hmm]; split <;> omega
    have key : ∀ q, q < len * 3 → ∃ k : Int, w.cell? (ad.add q) = some (.int .i64 k) ∧ (Lit.int .i64 k).wf = true := by
      intro q hq
      obtain ⟨cs', hcl, htr⟩ := hi (q / 3) (by omega)
      rw [hC] at hcl
      obtain ⟨ys, n', _, _, _, hyl, hf⟩ := DataW.trod_struct he htr
      obtain ⟨_, hlen, hat⟩ := World.cells?_some hcl
      have hj3 : q % 3 < 3 := Nat.mod_lt _ (by omega)
      have hcell := hat (q % 3) hj3
      have hfj := hfs (q % 3) hj3
      cases hff : fs[q % 3]? with
      | none => rw [hff] at hfj; cases hfj
      | some f =>
        rw [hff] at hfj
        simp only [Option.map_some, Option.some.injEq, Prod.mk.injEq] at hfj
        have h1 := hf (q % 3) f hff
        rw [hfj.1, hfj.2, hc3] at h1
        have hys : ys[q % 3]? = some (ys[q % 3]'(by omega)) := List.getElem?_eq_getElem (by omega)
        rw [hys] at h1
        have hone : (cs'.drop (q % 3)).take 1 = [cs'[q % 3]'(by omega)] := by
          rw [List.drop_eq_getElem_cons (by omega)]; rfl
        rw [hone] at h1
        obtain ⟨k, hk, _, hwf⟩ := DataW.trod_int h3 h1
        simp only [List.cons.injEq, and_true] at hk
        refine ⟨k, ?_, hwf⟩
        have hadd : (ad.add (q / 3 * 3)).add (q % 3) = ad.add q := by
          rw [Go.Deep.add_add]; congr 1; omega
        rw [hadd] at hcell
        rw [hcell, List.getElem?_eq_getElem (by omega), hk]
    have hz : ∀ q, q < len * 3 → w.cell? (ad.add q) = some (.int .i64 (cellInt w (ad.add q))) := by
      intro q hq
      obtain ⟨k, hk, _⟩ := key q hq
      rw [hk, cellInt, hk]
    have hwf : ∀ q, q < len * 3 → -9223372036854775808 ≤ cellInt w (ad.add q) ∧ cellInt w (ad.add q) ≤ 9223372036854775807 := by
      intro q hq
      obtain ⟨k, hk, h1⟩ := key q hq
      rw [cellInt, hk]; exact bounds_i64 h1
    have hel : ∀ q, q < len * 3 → el ((List.range (len * 3)).map fun q => cellInt w (ad.add q)) q = cellInt w (ad.add q) := by
      intro q hq; rw [el_map _ _ _ (by simpa using hq)]; simp
    refine ⟨(List.range (len * 3)).map fun q => cellInt w (ad.add q), len, some ad, cap, rfl, by show _ = _; simp, ⟨hl, hm, fun h => by cases h⟩, R64.of_el fun q hq => ?_, fun i hi0 => ?_⟩
    · simp at hq; rw [hel q hq]; exact hwf q hq
    · obtain ⟨b, off, rfl, hbl, hcc⟩ := addr_of_cells (c := fun q => .int .i64 (cellInt w (ad.add q))) hz (by omega)
      exact ⟨b, off, rfl, hbl, fun q hq => by rw [hcc q hq, hel q hq]⟩
end Go.Proofs.YtlinkeemccnfmaaDoor
