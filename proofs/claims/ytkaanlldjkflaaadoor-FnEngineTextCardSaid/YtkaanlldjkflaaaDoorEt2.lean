/- What is proved here: an engine parsed from its text (spec and impl). -/
import Derived.Test.YtkaanlldjkflaaaDoorEt1
set_option linter.unusedVariables false
set_option linter.unusedSimpArgs false
set_option maxRecDepth 100000
namespace Go.Proofs.YtkaanlldjkflaaaDoor
open Go.RowKit

/-- A new row of the pieces of a text. -/
theorem isT_new (w : World) (s : ByteArray) (hs : s.size ≤ 1000) {c : Array Value} (hc : c = ((cB s).map Value.string).toArray) :
    IsT (w.alloc (.cells c 9)) (w.alloc (.cells c 9)).heap.size (.slice (some ⟨w.heap.size, 0, none⟩) (cB s).length (cB s).length) (cB s) := by
  have hl := cB_len s
  refine ⟨_, _, rfl, ⟨Nat.le_refl _, by unfold maxLen; omega, fun h => by cases h⟩, fun i hi => ⟨w.heap.size, 0, rfl, by simp, ?_, ?_⟩⟩
  · rw [row_cell (heap_alloc_new w _), hc, Nat.zero_add]
    rw [List.getElem?_toArray]
    exact map_str_at _ _ hi
  · have := cB_size s hi; unfold maxLen; omega
theorem countB_cB (s : ByteArray) : Lib.countB s ⟨#[32]⟩ + 1 = (cB s).length := by
  rw [← splitB_cB, Lib.splitB_all ⟨#[32]⟩ (by decide) 0 _ s rfl]
theorem engNS {w : World} {g n c : Nat} {a : Option Addr} {t : TypeId} (hg : w.heap[g]? = some (.cells #[.slice a n c] t (0, 0))) : ∀ o s, w.cell? ⟨g, o, none⟩ ≠ some (.string s) := by
  intro o s h
  rw [row_cell hg] at h
  cases o with
  | zero => simp at h
  | succ o => simp at h
theorem isT_none (w : World) (B : Nat) : IsT w B (.slice none ([] : List ByteArray).length 0) [] := ⟨none, 0, rfl, ⟨Nat.le_refl _, Nat.zero_le _, fun _ => rfl⟩, fun i hi => absurd hi (Nat.not_lt_zero _)⟩
/-- What is left by a call that parses an engine. -/
def RetP (w : World) (s : ByteArray) (e : Ending) (w' : World) : Prop :=
  ∃ a cap, e = .returned (.tuple #[.agg #[.slice a (PE s).length cap], .bool (EGV (cB s))]) ∧ IsT w' w'.heap.size (.slice a (PE s).length cap) (PE s) ∧ Below w.heap.size w w'
theorem c_iParseEngine (s : ByteArray) (m : Int) (w : World) (hs : s.size ≤ 1000) (h0 : 0 < w.heap.size) (hm : w.cell? ⟨0, 0, none⟩ = some (.int .i64 m)) :
    Calls Tryd.prog 8 #[.string s] w (RetP w s) := by
  have b1 := RetRow.e1 w (.cells #[.slice none 0 0] 25)
  have HM := hid hm
  have g1 := eng_alloc w (.slice none 0 0) 25
  have hs1 : (w.alloc (.cells #[.slice none 0 0] 25)).heap.size = w.heap.size + 1 := by simp
  clear hm
  go_enter Tryd.func8, Tryd.ntmps8
  go_wp2_with fail
  refine (c_Clone s _ (by omega)).mono ?_
  rintro e w2 ⟨rfl, b2⟩
  have HB2 := hid (b1.trans (b2.mono b1.size))
  have HG2 := hid ((b2.block w.heap.size (by omega)).trans g1)
  have HM2 := hid ((HB2.out.cell (p := ⟨0, 0, none⟩) h0).trans HM.out)
  have hs2 := b2.size
  clear b1 b2 g1
  go_wp2_with fail
  refine (Tryd.strings_Split s ⟨#[32]⟩ m w2 (by omega) HM2.out (by decide)).mono ?_
  rw [splitB_cB, countB_cB]
  rintro e w3 ⟨rfl, hw3⟩
  have HI := hid (isT_new w2 s hs rfl)
  rw [← hw3] at HI
  have b3 := (RetRow.e1 w2 (.cells ((cB s).map Value.string).toArray 9))
  rw [← hw3] at b3
  have HB3 := hid (HB2.out.trans (b3.mono HB2.out.size))
  have HG3 := hid ((b3.block w.heap.size (by omega)).trans HG2.out)
  have hs3 := b3.size
  clear b3 hw3
  have b4 := RetRow.e1 w3 (.cells #[.slice (some ⟨w2.heap.size, 0, none⟩) (cB s).length (cB s).length] 25)
  have g4 := eng_cell w3 (.slice (some ⟨w2.heap.size, 0, none⟩) (cB s).length (cB s).length) 25
  have HI4 := hid ((HI.out.below b4 (Nat.le_refl _)).up (B' := (w3.alloc (.cells #[.slice (some ⟨w2.heap.size, 0, none⟩) (cB s).length (cB s).length] 25)).heap.size) b4.size)
  have HB4 := hid (HB3.out.trans (b4.mono HB3.out.size))
  have HG4 := hid ((b4.block w.heap.size (by omega)).trans HG3.out)
  clear b4 HG3 HG2
  go_wp2_with fail
  refine (c_iEngineValid _ (cB s) _ HI4.out).mono ?_
  rintro e w5 ⟨rfl, b5⟩
  have g5 := (b5.cell (p := ⟨w3.heap.size, 0, none⟩) (by simp)).trans g4
  have HI5 := hid ((HI4.out.below b5 (Nat.le_refl _)).up b5.size)
  have HB5 := hid (HB4.out.trans (b5.mono HB4.out.size))
  have HG5 := hid ((b5.block w.heap.size (by simp; omega)).trans HG4.out)
  have c5 := row_cell HG5.out 0
  have f5 := row_free HG5.out 0
  clear b5 g4
  cases he : EGV (cB s) with
  | true =>
    have HP := hid (show PE s = cB s by rw [PE, if_pos he])
    have HE := hid he
    clear he
    have HF := hid (row_set HG5.out 0 (.slice (some ⟨w2.heap.size, 0, none⟩) (cB s).length (cB s).length))
    go_wp2
    (try simp only [Exit.inBlock, Exit.then])
    refine bodyPost_engB rfl rfl (by rfl) (by rfl) HF.out ?_
    refine ⟨some ⟨w2.heap.size, 0, none⟩, (cB s).length, by rw [HP.out, HE.out]; rfl, ?_, HB5.out.setCell (p := ⟨w.heap.size, 0, none⟩) (Nat.le_refl _) _⟩
    rw [HP.out]
    exact (HI5.out.setNS (engNS HG5.out)).up (by simp)
  | false =>
    have HP := hid (show PE s = [] by rw [PE, he]; rfl)
    have HE := hid he
    clear he
    have HF := hid (row_set HG5.out 0 (.slice none 0 0))
    go_wp2
    (try simp only [Exit.inBlock, Exit.then])
    refine bodyPost_engB rfl rfl (by rfl) (by rfl) HF.out ?_
    refine ⟨none, 0, by rw [HP.out, HE.out]; rfl, ?_, HB5.out.setCell (p := ⟨w.heap.size, 0, none⟩) (Nat.le_refl _) _⟩
    rw [HP.out]
    exact isT_none _ _
end Go.Proofs.YtkaanlldjkflaaaDoor
