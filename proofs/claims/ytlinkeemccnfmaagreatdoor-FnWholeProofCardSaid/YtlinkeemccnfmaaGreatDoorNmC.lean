/- What is proved here: those statements of NmC that this claim needs. -/
import Derived.Lib.ConvBytes
import Derived.Test.YtlinkeemccnfmaaGreatDoorNmM
import Derived.Test.YtlinkeemccnfmaaGreatDoorFmt3
import Derived.Test.YtlinkeemccnfmaaGreatDoorShm
set_option linter.unusedVariables false
set_option linter.unusedSimpArgs false
set_option maxRecDepth 100000
namespace Go.Proofs.YtlinkeemccnfmaaGreatDoor
open Go.RowKit
def LibV (B : Nat) (w : World) : Prop :=
  Lib.TabBelow Tryz.prog B w "internal/strconv.uint64pow10" .u64 Lib.pow10Tab ∧ ((∃ m, w.cell? ⟨2, 0, none⟩ = some (.int .i64 m)) ∧ 2 < B) ∧
   (∃ ev, w.cell? ⟨4, 0, none⟩ = some ev ∧ (ev = .nilIface ∨ ∃ te pe, ev = .iface te pe)) ∧ 4 < B
theorem LibV.on {B : Nat} {w w1 : World} (h : LibV B w) (hb : Below B w w1) : LibV B w1 := by
  obtain ⟨h1, ⟨⟨m, h2⟩, h3⟩, ⟨ev, h4, h5⟩, h6⟩ := h
  exact ⟨h1.on hb, ⟨⟨m, (hb.cell (p := ⟨2, 0, none⟩) h3).trans h2⟩, h3⟩, ⟨ev, (hb.cell (p := ⟨4, 0, none⟩) h6).trans h4, h5⟩, h6⟩
theorem LibV.to {B B' : Nat} {w w1 : World} (h : LibV B w) (hb : Below B' w w1) (hB : B ≤ B') : LibV B w1 := h.on (hb.mono hB)
theorem trim_unS (l : List UInt8) : Lib.trimPrefix l [45] = unS l := by
  cases l with
  | nil => rfl
  | cons x t =>
    unfold Lib.trimPrefix Lib.hasPrefix unS
    by_cases h : x = 45
    · subst h; simp [List.isPrefixOf]
    · have h2 : (45 : UInt8) ≠ x := fun e => h e.symm
      simp [List.isPrefixOf, h, h2]
theorem bytes_below (w : World) (e : TypeId) (s : ByteArray) : Below w.heap.size w (Lib.bytesWorld w e s) :=
  ⟨rfl, rfl, rfl, by rw [Lib.bytesWorld_size]; omega, fun j hj => Lib.bytesWorld_at_old w e s j hj⟩
theorem mk_size (l : List UInt8) : (⟨l.toArray⟩ : ByteArray).size = l.length := by show l.toArray.size = _; simp
theorem dt_len (a : ByteArray) : a.data.toList.length = a.size := Array.length_toList
theorem unS_le (l : List UInt8) : (unS l).length ≤ l.length ∧ l.length ≤ (unS l).length + 1 := by
  unfold unS; split
  · rw [List.length_drop]; omega
  · omega
def RetN (w : World) (o : Option Int) (e : Ending) (w' : World) : Prop := e = .returned (.tuple #[.int .i64 (o.getD 0), .bool o.isSome]) ∧ Below w.heap.size w w'
theorem same_bytes {n : Int} {s : ByteArray} : ((IT n).toList == s.toList) = decide (Lib.itoa n = s.data.toList) := by
  rw [ByteArray.toList_eq, ByteArray.toList_eq, IT_data]
  by_cases h : Lib.itoa n = s.data.toList <;> simp [h]
set_option maxHeartbeats 1600000 in
theorem c_parseNumber (s : ByteArray) (w : World) (B : Nat) (hs : s.size ≤ 281474976710656) (hB : B ≤ w.heap.size) (hL : LibV B w) :
    Calls Tryz.prog 73 #[.string s] w (RetN w (pN s.data.toList)) := by
  have HL := hid hL
  obtain ⟨l, hl⟩ : ∃ l, s.data.toList = l := ⟨_, rfl⟩
  have HD := hid hl
  have hlen := dt_len s
  rw [hl] at hlen ⊢
  have hu := unS_le l
  have HT := hid (fun W => Tryz.strings_TrimPrefix s ⟨#[45]⟩ W)
  have HTV := hid (show (⟨(Lib.trimPrefix s.data.toList (⟨#[45]⟩ : ByteArray).data.toList).toArray⟩ : ByteArray).size = (unS l).length by rw [mk_size]; rw [hl]; exact congrArg List.length (trim_unS l))
  obtain ⟨T, hT⟩ : ∃ T, (⟨(Lib.trimPrefix s.data.toList (⟨#[45]⟩ : ByteArray).data.toList).toArray⟩ : ByteArray) = T := ⟨_, rfl⟩
  rw [hT] at HT HTV
  clear hT hl
  by_cases h17 : 17 < (unS l).length
  · have hTs : ((T.size : Nat) : Int) > 17 := by have := HTV.out; omega
    have hTn : 17 < T.size := by have := HTV.out; omega
    have HR := hid (pN_long h17)
    clear hL
    go_enter Tryz.func73, Tryz.ntmps73
    go_wp2_with fail
    refine (HT.out _).mono ?_
    rintro e wx ⟨rfl, rfl⟩
    go_wp2
    go_ret2
    exact ⟨by rw [HR.out]; rfl, Below.refl _ _⟩
  · have hTs : ¬ ((T.size : Nat) : Int) > 17 := by have := HTV.out; omega
    have hTn : ¬ 17 < T.size := by have := HTV.out; omega
    have hs18 : s.size ≤ 18 := by omega
    cases ha : Lib.atoi l with
    | none =>
      have HR := hid (pN_none ha)
      have HA := hid (show Lib.atoi s.data.toList = none by rw [HD.out]; exact ha)
      obtain ⟨-, -, ⟨ev, he1, he2⟩, -⟩ := hL
      have HE1 := hid he1
      have HE2 := hid he2
      clear he1 he2 ha
      go_enter Tryz.func73, Tryz.ntmps73
      go_wp2_with fail
      refine (HT.out _).mono ?_
      rintro e wx ⟨rfl, rfl⟩
      go_wp2_with fail
      refine (Tryz.strconv_Atoi_err s hs18 HA.out ev _ HE1.out HE2.out).mono ?_
      rintro e w1 ⟨N, rfl, -, -, b⟩
      go_wp2
      go_ret2
      exact ⟨by rw [HR.out]; rfl, b⟩
    | some n =>
      have HA := hid (show Lib.atoi s.data.toList = some n by rw [HD.out]; exact ha)
      have HB := hid (fun (h : Lib.itoa n = l) => pN_bd (pN_yes h17 ha h))
      have HSB := hid (same_bytes (n := n) (s := s))
      have HNO := hid (fun h => pN_other ha h)
      have HYES := hid (fun h => pN_yes h17 ha h)
      have HRG := hid (atoi_rg (l := l) (by omega) ha)
      clear ha hL
      go_enter Tryz.func73, Tryz.ntmps73
      go_wp2_with fail
      refine (HT.out _).mono ?_
      rintro e wx ⟨rfl, rfl⟩
      go_wp2_with fail
      refine (Tryz.strconv_Atoi s n hs18 HA.out _).mono ?_
      rintro e w1 ⟨rfl, t, hw1⟩
      have b1 := bytes_below wx 5 t
      rw [← hw1] at b1
      have HB1 := hid b1
      have HT1 := hid (HL.out.to b1 hB).1.here
      clear b1 hw1
      go_wp2_with fail
      refine (Tryz.strconv_Itoa n HRG.out.1 HRG.out.2 w1 HT1.out).mono ?_
      rintro e w2 ⟨he, k, os, hw2⟩
      have b2 : Below w1.heap.size w1 w2 := by rw [hw2]; exact Lib.below_grow _ w1 (Nat.le_refl _) k os
      have HB2 := hid b2
      replace he : e = .returned (.string (IT n)) := he
      subst he
      clear hw2 b2
      by_cases h : Lib.itoa n = l
      · have HR := hid (HYES.out h)
        have t2 : ((IT n).toList == s.toList) = true := by rw [HSB.out, HD.out]; simp [h]
        have hse : IT n = s := by_data (by rw [IT_data, HD.out, h])
        clear h
        go_wp2
        go_ret2
        exact ⟨by rw [HR.out]; rfl, HB1.out.trans (HB2.out.mono HB1.out.size)⟩
      · have HR := hid (HNO.out h)
        have t2 : ((IT n).toList == s.toList) = false := by rw [HSB.out, HD.out]; simp [h]
        clear h
        go_wp2
        go_ret2
        exact ⟨by rw [HR.out]; rfl, HB1.out.trans (HB2.out.mono HB1.out.size)⟩
end Go.Proofs.YtlinkeemccnfmaaGreatDoor
