/- What is proved here: those statements of RwsM that this claim needs. -/
import Derived.Test.YtlinkeemccnfmaaGreatDoorTur
set_option linter.unusedVariables false
set_option linter.unusedSimpArgs false
namespace Go.Proofs.YtlinkeemccnfmaaGreatDoor
open Go.RowKit
def slC (s : ByteArray) (a : Int) : ByteArray := shB (md (vl s + a) (ten s.size)) s.size
def rsS (cs : List ByteArray) (t c a : Int) (n : Nat) : List ByteArray := if (n : Int) = t then cs.set c.toNat (slC (tC cs c.toNat) a) else cs
def rsC (cs : List ByteArray) (t c a : Int) : Nat → List ByteArray
  | 0 => cs
  | n + 1 => tuN (rsS (rsC cs t c a n) t c a n)
theorem rsS_len (cs : List ByteArray) (t c a : Int) (n : Nat) : (rsS cs t c a n).length = cs.length := by unfold rsS; split <;> simp
theorem rsC_len (cs : List ByteArray) (t c a : Int) : ∀ n, (rsC cs t c a n).length = cs.length := by
  intro n
  induction n with
  | zero => rfl
  | succ n ih => rw [rsC, tuN_len, rsS_len, ih]
theorem EGV_rsS {cs : List ByteArray} {t c a : Int} {n : Nat} (h : EGV cs = true) (hc : c.toNat < cs.length) : EGV (rsS cs t c a n) = true := by
  unfold rsS; split
  · have h1 := (EGV_iff.1 h).2 c.toNat hc
    have h2 := (CV_iff.1 h1.1).1
    exact EGV_set h hc (shB_CV h2.1 h2.2) (by rw [slC, shB_size, h1.2])
  · exact h
theorem EGV_rsC {cs : List ByteArray} {t c a : Int} (h : EGV cs = true) (hc : c.toNat < cs.length) : ∀ n, EGV (rsC cs t c a n) = true := by
  intro n
  induction n with
  | zero => exact h
  | succ n ih => rw [rsC]; exact EGV_tuN (EGV_rsS ih (by rw [rsC_len]; exact hc))
def rsOk (cs : List ByteArray) (cnt t c a : Int) : Bool := EGV cs && (inB cnt 0 60 && (slipB c t a && decide (c < cs.length)))
def rsR (cs : List ByteArray) (t c a : Int) (n : Nat) : Int := sgN (tC (rsS (rsC cs t c a n) t c a n) 0)
def rsF (cs : List ByteArray) (cnt t c a : Int) : List Int := if rsOk cs cnt t c a then (List.range cnt.toNat).map (rsR cs t c a) else []
theorem rsF_yes {cs : List ByteArray} {cnt t c a : Int} (h : rsOk cs cnt t c a = true) : rsF cs cnt t c a = (List.range cnt.toNat).map (rsR cs t c a) := if_pos h
theorem rsF_no {cs : List ByteArray} {cnt t c a : Int} (h : rsOk cs cnt t c a = false) : rsF cs cnt t c a = [] := by simp [rsF, h]
theorem rsR_bd {cs : List ByteArray} {t c a : Int} (h : EGV cs = true) (hc : c.toNat < cs.length) (n : Nat) : -1000000000000 ≤ rsR cs t c a n ∧ rsR cs t c a n ≤ 1000000000000 := by
  have h1 := EGV_rsS (t := t) (a := a) (n := n) (EGV_rsC (t := t) (a := a) h hc n) (by rw [rsC_len]; exact hc)
  have h2 := EGV_iff.1 h1
  exact sgN_bd (h2.2 0 (by omega)).1

theorem RwT.cong {w w' : World} {lo hi hi' g n cap : Nat} {cs : List ByteArray} (h : RwT w lo hi (.slice (some ⟨g, 0, none⟩) n cap) cs) (hb : w'.heap[g]? = w.heap[g]?) (hh : hi ≤ hi') : RwT w' lo hi' (.slice (some ⟨g, 0, none⟩) n cap) cs := by
  obtain ⟨g', cap', cur, hv, hg, hgg, rest⟩ := h
  simp only [Value.slice.injEq, Option.some.injEq, Addr.mk.injEq, and_true] at hv
  obtain ⟨rfl, rfl, rfl⟩ := hv
  exact ⟨g, cap, cur, rfl, ⟨hg.1, by omega⟩, hb.trans hgg, rest⟩
theorem RwT.at {w : World} {lo hi g n cap : Nat} {cs : List ByteArray} (h : RwT w lo hi (.slice (some ⟨g, 0, none⟩) n cap) cs) {i : Nat} (hi : i < cs.length) :
    w.cell? ⟨g, i, none⟩ = some (.string (tC cs i)) ∧ w.frozen? ⟨g, i, none⟩ = false := by
  obtain ⟨g', cap', cur, hv, hg, hgg, hm, hs, hc⟩ := h
  simp only [Value.slice.injEq, Option.some.injEq, Addr.mk.injEq, and_true] at hv
  obtain ⟨rfl, rfl, rfl⟩ := hv
  exact ⟨by rw [row_cell hgg]; exact (hc i hi).1, row_free hgg i⟩
theorem RwT.lt {w : World} {lo hi g n cap : Nat} {cs : List ByteArray} (h : RwT w lo hi (.slice (some ⟨g, 0, none⟩) n cap) cs) : lo ≤ g ∧ g < hi ∧ g < w.heap.size := by
  obtain ⟨g', cap', cur, hv, hg, hgg, hm, hs, hc⟩ := h
  simp only [Value.slice.injEq, Option.some.injEq, Addr.mk.injEq, and_true] at hv
  obtain ⟨rfl, rfl, rfl⟩ := hv
  exact ⟨hg.1, hg.2, (Array.getElem?_eq_some_iff.1 hgg).1⟩
theorem RwT.set {w : World} {lo hi g n cap : Nat} {cs : List ByteArray} (h : RwT w lo hi (.slice (some ⟨g, 0, none⟩) n cap) cs) {j : Nat} (hj : j < cs.length) {s : ByteArray} (hs : s.size ≤ maxLen) :
    RwT (w.setCell ⟨g, j, none⟩ (.string s)) lo hi (.slice (some ⟨g, 0, none⟩) n cap) (cs.set j s) := by
  obtain ⟨g', cap', cur, hv, hg, hgg, hm, hsz, hc⟩ := h
  simp only [Value.slice.injEq, Option.some.injEq, Addr.mk.injEq, and_true] at hv
  obtain ⟨rfl, rfl, rfl⟩ := hv
  refine ⟨g, cap, _, by rw [List.length_set], hg, row_set hgg _ _, by rw [List.length_set]; exact hm, by simpa using hsz, fun i hi => ?_⟩
  have hi' : i < cs.length := by simpa using hi
  rw [tC_set hj]
  by_cases e : j = i
  · subst e; rw [Array.getElem?_setIfInBounds, if_pos rfl, if_pos (by omega), if_pos rfl]; exact ⟨rfl, hs⟩
  · rw [Array.getElem?_setIfInBounds, if_neg e, if_neg e]; exact hc i hi'
end Go.Proofs.YtlinkeemccnfmaaGreatDoor
