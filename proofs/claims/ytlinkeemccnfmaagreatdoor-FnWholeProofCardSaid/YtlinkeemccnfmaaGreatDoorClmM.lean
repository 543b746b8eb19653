/- What is proved here: those statements of ClmM that this claim needs. -/
import Derived.Laws.BytesArg
import Derived.Test.YtlinkeemccnfmaaGreatDoorEgv
set_option linter.unusedVariables false
set_option linter.unusedSimpArgs false
namespace Go.Proofs.YtlinkeemccnfmaaGreatDoor
open Go.RowKit
theorem bN_nums {xs : List Int} {i : Nat} (h : i < xs.length) (h0 : 0 ≤ el xs i) (h1 : el xs i ≤ 255) : bN (strOfNums xs) i = el xs i := by
  have hs : i < (strOfNums xs).size := by rw [strOfNums_size]; exact h
  rw [bN_eq hs]
  have e : (strOfNums xs)[i]'hs = UInt8.ofNat (el xs i).toNat := by
    show (strOfNums xs).data[i] = _
    simp only [strOfNums, List.getElem_toArray, List.getElem_map]
    rw [el_lt h]
  rw [e]
  simp only [UInt8.toNat_ofNat']
  omega
def dgE (v : Int) (wd i : Nat) : Int := 48 + v / ten (wd - 1 - i) % 10
theorem dgE_bd (v : Int) (wd i : Nat) : 48 ≤ dgE v wd i ∧ dgE v wd i ≤ 57 := by unfold dgE; omega
def shL (v : Int) (wd : Nat) : List Int := (List.range wd).map (dgE v wd)
theorem shL_len (v : Int) (wd : Nat) : (shL v wd).length = wd := by simp [shL]
theorem shL_el {v : Int} {wd i : Nat} (h : i < wd) : el (shL v wd) i = dgE v wd i := by
  rw [el_lt (by rw [shL_len]; exact h)]; simp [shL]
def shB (v : Int) (wd : Nat) : ByteArray := strOfNums (shL v wd)
theorem shB_size (v : Int) (wd : Nat) : (shB v wd).size = wd := by rw [shB, strOfNums_size, shL_len]
theorem shB_bN {v : Int} {wd i : Nat} (h : i < wd) : bN (shB v wd) i = dgE v wd i := by
  have hb := dgE_bd v wd i
  rw [shB, bN_nums (by rw [shL_len]; exact h) (by rw [shL_el h]; omega) (by rw [shL_el h]; omega), shL_el h]
theorem shB_CV {v : Int} {wd : Nat} (h0 : 1 ≤ wd) (h1 : wd ≤ 12) : CV (shB v wd) = true :=
  CV_iff.2 ⟨by rw [shB_size]; exact ⟨h0, h1⟩, fun i hi => by rw [shB_size] at hi; rw [shB_bN hi]; exact dgE_bd v wd i⟩
def vN (s : ByteArray) : Nat → Int
  | 0 => 0
  | k + 1 => vN s k * 10 + (bN s k - 48)
def vl (s : ByteArray) : Int := vN s s.size
theorem vN_bd {s : ByteArray} : ∀ k : Nat, (∀ i, i < k → 48 ≤ bN s i ∧ bN s i ≤ 57) → 0 ≤ vN s k ∧ vN s k < ten k := by
  intro k
  induction k with
  | zero => intro _; simp [vN, ten]
  | succ k ih =>
    intro h
    have h1 := ih (fun i hi => h i (by omega))
    have h2 := h k (by omega)
    rw [vN, ten_succ]; omega
theorem vl_bd {s : ByteArray} (h : CV s = true) : 0 ≤ vl s ∧ vl s < ten s.size := vN_bd _ (CV_iff.1 h).2
theorem ten12 {k : Nat} (h : k ≤ 12) : ten k ≤ 1000000000000 := ten_mono h
theorem vN_shB {v : Int} {wd : Nat} (h0 : 0 ≤ v) (h1 : v < ten wd) : ∀ k, k ≤ wd → vN (shB v wd) k = v / ten (wd - k) := by
  intro k
  induction k with
  | zero => intro _; rw [vN, Nat.sub_zero, Int.ediv_eq_zero_of_lt h0 h1]
  | succ k ih =>
    intro hk
    have e : ten (wd - k) = ten (wd - 1 - k) * 10 := by rw [show wd - k = (wd - 1 - k) + 1 by omega, ten_succ]
    have hp := ten_pos (wd - 1 - k)
    rw [vN, ih (by omega), shB_bN (by omega), e, dgE, ← Int.ediv_ediv_of_nonneg (by omega), show wd - (k + 1) = wd - 1 - k by omega]
    omega
theorem vl_shB {v : Int} {wd : Nat} (h0 : 0 ≤ v) (h1 : v < ten wd) : vl (shB v wd) = v := by
  rw [vl, shB_size, vN_shB h0 h1 wd (Nat.le_refl _), Nat.sub_self]; simp [ten]
def plC (a b : ByteArray) : ByteArray := shB (md (vl a + vl b) (ten a.size)) a.size
theorem plC_size (a b : ByteArray) : (plC a b).size = a.size := shB_size _ _
theorem plC_CV {a b : ByteArray} (h : CV a = true) : CV (plC a b) = true := shB_CV (CV_iff.1 h).1.1 (CV_iff.1 h).1.2
def sgN (s : ByteArray) : Int := if ten s.size / 2 ≤ vl s then vl s - ten s.size else vl s
theorem sgN_hi {s : ByteArray} (h : ten s.size / 2 ≤ vl s) : sgN s = vl s - ten s.size := if_pos h
theorem sgN_lo {s : ByteArray} (h : ¬ ten s.size / 2 ≤ vl s) : sgN s = vl s := if_neg h
theorem sgN_bd {s : ByteArray} (h : CV s = true) : -1000000000000 ≤ sgN s ∧ sgN s ≤ 1000000000000 := by
  have h1 := vl_bd h
  have h2 := ten12 (CV_iff.1 h).1.2
  unfold sgN; split <;> omega
def tuN (cs : List ByteArray) : List ByteArray := (List.range cs.length).map fun i => if i + 1 < cs.length then plC (tC cs i) (tC cs (i + 1)) else tC cs i
theorem tuN_len (cs : List ByteArray) : (tuN cs).length = cs.length := by simp [tuN]
theorem tC_lt {cs : List ByteArray} {i : Nat} (h : i < cs.length) : tC cs i = cs[i] := by
  unfold tC; rw [List.getD_eq_getElem?_getD, List.getElem?_eq_getElem h]; rfl
theorem tuN_at {cs : List ByteArray} {i : Nat} (h : i < cs.length) : tC (tuN cs) i = if i + 1 < cs.length then plC (tC cs i) (tC cs (i + 1)) else tC cs i := by
  rw [tC_lt (by rw [tuN_len]; exact h)]; simp [tuN]
theorem tC_set {cs : List ByteArray} {i j : Nat} {x : ByteArray} (h : i < cs.length) : tC (cs.set i x) j = if i = j then x else tC cs j := by
  unfold tC
  rw [List.getD_eq_getElem?_getD, List.getD_eq_getElem?_getD, List.getElem?_set]
  split
  · rfl
  · rfl
theorem EGV_tuN {cs : List ByteArray} (h : EGV cs = true) : EGV (tuN cs) = true := by
  obtain ⟨hl, hc⟩ := EGV_iff.1 h
  refine EGV_iff.2 ⟨by rw [tuN_len]; exact hl, fun i hi => ?_⟩
  rw [tuN_len] at hi
  rw [tuN_at hi, tuN_at (show 0 < cs.length by omega)]
  have h0 := hc 0 (by omega)
  have h1 := hc i hi
  constructor
  · split
    · exact plC_CV h1.1
    · exact h1.1
  · have e1 : (if i + 1 < cs.length then plC (tC cs i) (tC cs (i + 1)) else tC cs i).size = (tC cs i).size := by split <;> simp [plC_size]
    have e2 : (if 0 + 1 < cs.length then plC (tC cs 0) (tC cs (0 + 1)) else tC cs 0).size = (tC cs 0).size := by split <;> simp [plC_size]
    rw [e1, e2]; exact h1.2
theorem EGV_set {cs : List ByteArray} {i : Nat} {x : ByteArray} (h : EGV cs = true) (hi : i < cs.length) (hx : CV x = true) (hs : x.size = (tC cs 0).size) : EGV (cs.set i x) = true := by
  obtain ⟨hl, hc⟩ := EGV_iff.1 h
  refine EGV_iff.2 ⟨by simpa using hl, fun j hj => ?_⟩
  have hj' : j < cs.length := by simpa using hj
  have e0 : (tC (cs.set i x) 0).size = (tC cs 0).size := by
    rw [tC_set hi]; split
    · exact hs
    · rfl
  rw [e0, tC_set hi]
  split
  · exact ⟨hx, hs⟩
  · exact hc j hj'
end Go.Proofs.YtlinkeemccnfmaaGreatDoor
