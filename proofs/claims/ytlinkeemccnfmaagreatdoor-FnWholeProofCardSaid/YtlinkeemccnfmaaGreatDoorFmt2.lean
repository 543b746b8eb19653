/- What is proved here: those statements of Fmt1, Tk, Fmt2 that this claim needs. -/
import Derived.Laws.BytesArg
import Derived.Lib.ItoaNum
import Derived.Lib.ItoaLen
import Derived.Lib.Join
import Derived.Test.YtlinkeemccnfmaaGreatDoorShl
import Derived.Test.YtlinkeemccnfmaaGreatDoorApl
import Derived.Deep.RegionHeld3
import Derived.Test.YtlinkeemccnfmaaGreatDoorBase
set_option linter.unusedVariables false
set_option linter.unusedSimpArgs false
set_option maxRecDepth 100000
namespace Go.Proofs.YtlinkeemccnfmaaGreatDoor
open Go.RowKit
def IT (n : Int) : ByteArray := ⟨(Lib.itoa n).toArray⟩
theorem IT_data (n : Int) : (IT n).data.toList = Lib.itoa n := by simp [IT]
theorem IT_size (n : Int) (h0 : -9223372036854775808 ≤ n) (h1 : n ≤ 9223372036854775807) : (IT n).size ≤ 21 := by
  have := Lib.itoa_length_le n h0 h1
  simpa [IT, ByteArray.size] using this
theorem by_data {a b : ByteArray} (h : a.data.toList = b.data.toList) : a = b := by
  cases a; cases b
  simp only [ByteArray.mk.injEq] at h ⊢
  exact Array.toList_inj.1 h
theorem app_data (a b : ByteArray) : (a ++ b).data.toList = a.data.toList ++ b.data.toList := by simp
end Go.Proofs.YtlinkeemccnfmaaGreatDoor

set_option linter.unusedVariables false
namespace Go.Proofs.YtlinkeemccnfmaaGreatDoor
open Go.RowKit
theorem take_at {P : Program} {ops : Array Oper} {Q : Exit → Act → World → Prop} {md : Region.Mode} {S : World → Prop} {i : Nat} {oi : Oper} {d : Option Tmp} {v : Value} {fuel : Nat} {listed : Array Bool} {a : Act} {w : World} (hi : ops[i]? = some oi) (hd : oi.dst = d)
    (hs : Region.noSelect ops = true) (hf : Region.free md ops listed i = true) (hr : (Region.ready md ops listed).contains i = true)
    (hQ : ∀ c a w, Q (.panic c) (a.put d v) w → Q (.panic c) a w) (hy : YieldsIf P ops S oi v a) (hS : S w)
    (h : wpAnyH P md ops Q S fuel (listed.setIfInBounds i true) (a.put d v) w) : wpAnyH P md ops Q S (fuel + 1) listed a w := by
  subst hd
  exact wpAnyH_take hi hs hf hr hQ hy hS h
end Go.Proofs.YtlinkeemccnfmaaGreatDoor

set_option linter.unusedVariables false
set_option linter.unusedSimpArgs false
set_option maxRecDepth 100000
namespace Go.Proofs.YtlinkeemccnfmaaGreatDoor
open Go.RowKit
def eB (zs : List Int) (i : Nat) : ByteArray := IT (el zs (i * 3)) ++ ⟨#[58]⟩ ++ IT (el zs (i * 3 + 1)) ++ ⟨#[62]⟩ ++ IT (el zs (i * 3 + 2))
def fB (zs : List Int) : Nat → ByteArray
  | 0 => ⟨#[]⟩
  | k + 1 => (if k = 0 then fB zs k else fB zs k ++ ⟨#[59]⟩) ++ eB zs k
def FT (zs : List Int) : ByteArray := if EV zs then (if zs.length = 0 then ⟨#[45]⟩ else fB zs (zs.length / 3)) else ⟨#[]⟩
theorem IT_pos (n : Int) : 0 < (IT n).size := by
  have : (IT n).size = (Lib.itoa n).length := by simp [IT, ByteArray.size]
  rw [this, Lib.itoa]
  split
  · simp
  · rw [Lib.decDigits_length]; have := Lib.nDigits_pos n.toNat; omega
theorem eB_size {zs : List Int} (h : R64 zs) (i : Nat) : 0 < (eB zs i).size ∧ (eB zs i).size ≤ 65 := by
  have h0 := IT_size _ (h.at (i * 3)).1 (h.at (i * 3)).2
  have h1 := IT_size _ (h.at (i * 3 + 1)).1 (h.at (i * 3 + 1)).2
  have h2 := IT_size _ (h.at (i * 3 + 2)).1 (h.at (i * 3 + 2)).2
  have p0 := IT_pos (el zs (i * 3))
  have e58 : (⟨#[58]⟩ : ByteArray).size = 1 := rfl
  have e62 : (⟨#[62]⟩ : ByteArray).size = 1 := rfl
  simp only [eB, ByteArray.size_append, e58, e62]
  omega
theorem fB_size {zs : List Int} (h : R64 zs) (k : Nat) : (fB zs k).size ≤ 66 * k ∧ (0 < k → 0 < (fB zs k).size) := by
  have e59 : (⟨#[59]⟩ : ByteArray).size = 1 := rfl
  induction k with
  | zero => exact ⟨Nat.le_refl _, fun h => absurd h (by omega)⟩
  | succ k ih =>
    have he := eB_size h k
    rw [fB]
    split
    · rw [ByteArray.size_append]; omega
    · rw [ByteArray.size_append, ByteArray.size_append, e59]; omega
theorem ev_at {zs : List Int} {n j : Nat} (hl : zs.length = n * 3) (h : EV zs = true) (hj : j < n) : (-1000000000000 ≤ el zs (j * 3) ∧ el zs (j * 3) ≤ 1000000000000) ∧ (-1000000000000 ≤ el zs (j * 3 + 1) ∧ el zs (j * 3 + 1) ≤ 1000000000000) ∧ (-1000000000000 ≤ el zs (j * 3 + 2) ∧ el zs (j * 3 + 2) ≤ 1000000000000) := by
  unfold EV at h
  rw [hl, Nat.mul_div_cancel _ (by omega)] at h
  have := e1B_iff.1 (evB_at h hj)
  omega
theorem FT_no {zs : List Int} (h : EV zs = false) : FT zs = ⟨#[]⟩ := by rw [FT, h]; rfl
theorem FT_yes {zs : List Int} {n : Nat} (hl : zs.length = n * 3) (h : EV zs = true) (hn : n ≠ 0) : FT zs = fB zs n := by
  rw [FT, h, if_pos rfl, if_neg (by omega), hl, Nat.mul_div_cancel _ (by omega)]
theorem FT_none {zs : List Int} (hl : zs.length = 0) : FT zs = ⟨#[45]⟩ := by
  have h : EV zs = true := by unfold EV; rw [hl]; rfl
  rw [FT, h, if_pos rfl, if_pos hl]

end Go.Proofs.YtlinkeemccnfmaaGreatDoor

