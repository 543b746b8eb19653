/- What is proved here: those statements of ErrS that this claim needs. -/
import Derived.Deep.RegionHeld3
import Derived.Deep.AppendLies
import Derived.Laws.StructEq
import Derived.Test.YtlinkeemccnfmaaGreatDoorLaws1
set_option linter.unusedVariables false
set_option linter.unusedSimpArgs false
namespace Go.Proofs.YtlinkeemccnfmaaGreatDoor
open Go.RowKit
theorem Tryz.infoErr : (Tryz.prog.info? 67).map (fun i => (i.zero, i.size, i.bytes)) = some (some (.agg #[.int .i64 0, .int .i64 0, .int .i64 0]), 3, 24) := by kernel_rfl

def IsE (w : World) (B : Nat) (v : Value) (zs : List Int) : Prop :=
  ∃ n a cap, v = .slice a n cap ∧ Hid (zs.length = n * 3) ∧ (n ≤ cap ∧ cap ≤ maxLen ∧ Hid (a = none → cap = 0)) ∧ R64 zs ∧
   ∀ i, i < n → ∃ b off, a = some ⟨b, off, none⟩ ∧ b < B ∧ ∀ j, j < n * 3 → w.cell? ⟨b, off + j, none⟩ = some (.int .i64 (el zs j))
theorem IsE.below {w w' : World} {B B' : Nat} {v : Value} {zs : List Int} (h : IsE w B v zs) (hb : Below B' w w') (hB : B ≤ B') : IsE w' B v zs := by
  obtain ⟨n, a, cap, rfl, hl, hm, hr, hc⟩ := h
  refine ⟨n, a, cap, rfl, hl, hm, hr, fun i hi => ?_⟩
  obtain ⟨b, off, rfl, hbB, hcell⟩ := hc i hi
  exact ⟨b, off, rfl, hbB, fun j hj => (hb.cell (p := ⟨b, off + j, none⟩) (show b < B' by omega)).trans (hcell j hj)⟩
theorem IsE.chg {w w' : World} {B lo hi : Nat} {v : Value} {zs : List Int} (h : IsE w B v zs) (hb : Chg lo hi w w') (hB : B ≤ lo ∨ hi ≤ lo) (hs : B ≤ w.heap.size) : IsE w' B v zs :=
  h.below (hb.below hB hs) (Nat.le_refl _)
theorem IsE.up {w : World} {B B' : Nat} {v : Value} {zs : List Int} (h : IsE w B v zs) (hB : B ≤ B') : IsE w B' v zs := by
  obtain ⟨n, a, cap, rfl, hl, hm, hr, hc⟩ := h
  exact ⟨n, a, cap, rfl, hl, hm, hr, fun i hi => by obtain ⟨b, off, rfl, hbB, hcell⟩ := hc i hi; exact ⟨b, off, rfl, by omega, hcell⟩⟩
theorem IsE.drewN {w : World} {B : Nat} {v : Value} {zs : List Int} (h : IsE w B v zs) (n : Nat) : IsE (w.drewN n) B v zs := h
theorem IsE.range {w : World} {B : Nat} {v : Value} {zs : List Int} (h : IsE w B v zs) : R64 zs := by
  obtain ⟨n, a, cap, rfl, hl, hm, hr, hc⟩ := h; exact hr
def RwE (w : World) (lo hi : Nat) (v : Value) (zs : List Int) : Prop :=
  ∃ n, Hid (zs.length = n * 3) ∧ w.ownsRow lo 67 3 v n (zs.map (Value.int .i64)) ∧ (∀ k, v.ownBlock = some k → k < hi) ∧ R64 zs
def OwnE (w : World) (lo : Nat) (v : Value) (n : Nat) (zs : List Int) : Prop := w.ownsRow lo 67 3 v n (zs.map (Value.int .i64))
theorem OwnE.nil (w : World) (B : Nat) : OwnE w B (.slice none 0 0) 0 [] := World.ownsRow_nil _ _ _ _
theorem OwnE.empty (w : World) {B : Nat} {c : Array Value} (hB : B ≤ w.heap.size) (hc : c = #[]) : OwnE (w.alloc (.cells c 67)) B (.slice (some ⟨w.heap.size, 0, none⟩) 0 0) 0 [] := by
  subst hc; exact World.ownsRow_made w #[] 0 hB (by unfold maxLen; omega) (by simp)
theorem OwnE.rw {w : World} {B hi n : Nat} {v : Value} {zs : List Int} (h : OwnE w B v n zs) (hl : zs.length = n * 3) (hr : R64 zs) (hh : w.heap.size ≤ hi) : RwE w B hi v zs :=
  ⟨n, hl, h, fun k hk => Nat.lt_of_lt_of_le (h.lt k hk).2 hh, hr⟩
theorem OwnE.below {w w' : World} {B B' n : Nat} {v : Value} {zs : List Int} (h : OwnE w B v n zs) (hb : Below B' w w') (hs : w.heap.size ≤ B') : OwnE w' B v n zs :=
  ownsRow_of_block h fun k hk => hb.block k (by have := (h.lt k hk).2; omega)
theorem RwE.below {w w' : World} {lo hi B : Nat} {v : Value} {zs : List Int} (h : RwE w lo hi v zs) (hc : Below B w w') (hd : hi ≤ B) : RwE w' lo hi v zs := by
  obtain ⟨n, hl, ho, hk, hr⟩ := h
  refine ⟨n, hl, ownsRow_of_block ho fun k hk' => ?_, hk, hr⟩
  have h2 := hk k hk'
  exact hc.block k (by omega)
theorem RwE.range {w : World} {lo hi : Nat} {v : Value} {zs : List Int} (h : RwE w lo hi v zs) : R64 zs := by
  obtain ⟨n, hl, ho, hk, hr⟩ := h; exact hr
theorem RwE.isI {w : World} {lo hi : Nat} {v : Value} {zs : List Int} (h : RwE w lo hi v zs) : IsE w hi v zs := by
  obtain ⟨n, hl, ho, hk, hr⟩ := h
  rcases ho.2 with ⟨rfl, hn⟩ | ⟨g, cap, cur, rfl, hbg, hgg, hnc, hcm, hcs, hct⟩
  · exact ⟨0, none, 0, rfl, by have := hl.out; show _ = _; omega, ⟨Nat.zero_le _, Nat.zero_le _, fun _ => rfl⟩, hr, fun i hi => by omega⟩
  · refine ⟨n, _, cap, rfl, hl, ⟨hnc, hcm, fun h => by cases h⟩, hr, fun i hi => ⟨g, 0, rfl, hk g rfl, fun j hj => ?_⟩⟩
    rw [Nat.zero_add, row_cell hgg, ← map_int_at zs j (by rw [hl.out]; omega), ← hct, List.getElem?_take, if_pos (by omega), Array.getElem?_toList]
end Go.Proofs.YtlinkeemccnfmaaGreatDoor
