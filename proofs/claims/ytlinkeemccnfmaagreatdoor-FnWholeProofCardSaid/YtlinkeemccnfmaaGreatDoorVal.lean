/- What is proved here: those statements of Val that this claim needs. -/
import Derived.Test.YtlinkeemccnfmaaGreatDoorShw
set_option linter.unusedVariables false
set_option linter.unusedSimpArgs false
namespace Go.Proofs.YtlinkeemccnfmaaGreatDoor
open Go.RowKit
theorem vN_step {s : ByteArray} {j : Nat} (hj : j < s.size) : vN s (j + 1) = vN s j * 10 + (((s[j]'hj).toNat : Int) - 48) := by rw [vN, bN_eq hj]
theorem c_iValueOf (s : ByteArray) (hcv : CV s = true) (w : World) :
    Calls Tryz.prog 38 #[.string s] w fun e w' => e = .returned (.int .i64 (vl s)) ∧ w = w' := by
  obtain ⟨⟨z1, z2⟩, hd⟩ := CV_iff.1 hcv
  have HD := hid hd
  have HCV := hid hcv
  clear hd hcv
  go_enter Tryz.func38, Tryz.ntmps38
  go_wp2_with fail
  refine (c_iColumnValid s (by unfold maxLen; omega) _).mono ?_
  rw [HCV.out]
  rintro e wx ⟨rfl, rfl⟩
  go_wp2
  go_loopw [3, 10] (fun x i wr => ∃ (j : Nat) (X : Int), j ≤ s.size ∧ i = .int .i64 j ∧ x = .int .i64 X ∧ Hid (X = vN s j) ∧ w = wr) (fun _ i _ => s.size - (intOf i).toNat)
  case atStart => exact ⟨0, 0, Nat.zero_le _, rfl, rfl, rfl, rfl⟩
  case round =>
    obtain ⟨j, X, hj, rfl, rfl, HX, rfl⟩ := hrel
    have hXb := vN_bd (s := s) j (fun i hi => HD.out i (by omega))
    have ht := ten12 (show j ≤ 12 by omega)
    rw [← HX.out] at hXb
    obtain ⟨X0, X1⟩ := hXb
    by_cases hlt : j < s.size
    · have HB := hid (bN_eq hlt)
      have hb := HD.out j hlt
      rw [HB.out] at hb
      obtain ⟨b0, b1⟩ := hb
      have k0 : (0 : Int) ≤ (j : Int) := by omega
      have k1 : (j : Int) < s.size := by omega
      have HN := hid (vN_step hlt)
      have k5 : IntKind.u8.wrap (((s[j]'hlt).toNat : Int) - 48) = ((s[j]'hlt).toNat : Int) - 48 := IntWalk.u8_in _ (by omega)
      go_wp2
      go_roundw
      case rel => exact ⟨j + 1, X * 10 + (((s[j]'hlt).toNat : Int) - 48), by omega, by go_num, by first | rfl | go_num, by show _ = _; rw [HN.out, HX.out], trivial⟩
      case measure => simp [intOf]; omega
    · obtain rfl : j = s.size := by omega
      have HV := hid (show X = vl s from HX.out)
      go_wp2
      go_ret
      exact ⟨by rw [← HV.out]; rfl, rfl⟩
theorem c_iSignedOf (s : ByteArray) (hcv : CV s = true) (w : World) :
    Calls Tryz.prog 69 #[.string s] w fun e w' => e = .returned (.tuple #[.int .i64 (sgN s), .bool true]) ∧ w = w' := by
  have hb := vl_bd hcv
  have hz := (CV_iff.1 hcv).1.2
  have ht := ten12 hz
  have HCV := hid hcv
  obtain ⟨hb0, hb1⟩ := hb
  clear hcv
  by_cases h : ten s.size / 2 ≤ vl s
  · have HR := hid (sgN_hi h)
    go_enter Tryz.func69, Tryz.ntmps69
    go_wp2_with fail
    refine (c_iColumnValid s (by unfold maxLen; omega) _).mono ?_
    rw [HCV.out]
    rintro e wx ⟨rfl, rfl⟩
    go_wp2_with fail
    refine (c_powerOfTen s.size _ (by omega)).mono ?_
    rintro e wx ⟨rfl, rfl⟩
    go_wp2_with fail
    refine (c_iValueOf s HCV.out _).mono ?_
    rintro e wx ⟨rfl, rfl⟩
    go_wp2
    go_ret2
    exact ⟨by rw [HR.out]; rfl, rfl⟩
  · have HR := hid (sgN_lo h)
    go_enter Tryz.func69, Tryz.ntmps69
    go_wp2_with fail
    refine (c_iColumnValid s (by unfold maxLen; omega) _).mono ?_
    rw [HCV.out]
    rintro e wx ⟨rfl, rfl⟩
    go_wp2_with fail
    refine (c_powerOfTen s.size _ (by omega)).mono ?_
    rintro e wx ⟨rfl, rfl⟩
    go_wp2_with fail
    refine (c_iValueOf s HCV.out _).mono ?_
    rintro e wx ⟨rfl, rfl⟩
    go_wp2
    go_ret2
    exact ⟨by rw [HR.out]; rfl, rfl⟩
theorem c_signed (s : ByteArray) (hcv : CV s = true) (w : World) :
    Calls Tryz.prog 42 #[.string s] w fun e w' => e = .returned (.int .i64 (sgN s)) ∧ w = w' := by
  go_enter Tryz.func42, Tryz.ntmps42
  go_wp2_with fail
  refine (c_iSignedOf s hcv _).mono ?_
  rintro e wx ⟨rfl, rfl⟩
  go_wp2
  go_ret
  exact ⟨rfl, rfl⟩
theorem c_iAddColumns (a b : ByteArray) (ha : CV a = true) (hb : CV b = true) (hs : a.size = b.size) (w : World) :
    Calls Tryz.prog 70 #[.string a, .string b] w fun e w' => e = .returned (.tuple #[.string (plC a b), .bool true]) ∧ Below w.heap.size w w' := by
  have h1 := vl_bd ha
  have h2 := vl_bd hb
  have hz := (CV_iff.1 ha).1.2
  have hz2 := (CV_iff.1 hb).1.2
  have ht := ten12 hz
  have ht2 := ten12 hz2
  have hp := ten_pos a.size
  have HA := hid ha
  have HB := hid hb
  have HAL := hid (alk_iff.2 ⟨ha, hb, hs⟩)
  have m0 := md_nonneg (vl a + vl b) (show 0 < ten a.size by omega)
  have m1 := md_lt (vl a + vl b) (show 0 < ten a.size by omega)
  obtain ⟨h10, h11⟩ := h1
  obtain ⟨h20, h21⟩ := h2
  clear ha hb hs
  go_enter Tryz.func70, Tryz.ntmps70
  go_wp2_with fail
  refine (c_alike a b (by unfold maxLen; omega) (by unfold maxLen; omega) _).mono ?_
  rw [HAL.out]
  rintro e wx ⟨rfl, rfl⟩
  go_wp2_with fail
  refine (c_iValueOf a HA.out _).mono ?_
  rintro e wx ⟨rfl, rfl⟩
  go_wp2_with fail
  refine (c_iValueOf b HB.out _).mono ?_
  rintro e wx ⟨rfl, rfl⟩
  go_wp2_with fail
  refine (c_powerOfTen a.size _ (by omega)).mono ?_
  rintro e wx ⟨rfl, rfl⟩
  go_wp2_with fail
  refine (c_modulo (vl a + vl b) (ten a.size) _ (by omega) (by omega)).mono ?_
  rintro e wx ⟨rfl, rfl⟩
  go_wp2_with fail
  refine (c_showNumber (md (vl a + vl b) (ten a.size)) a.size _ m0 (by omega) (by omega)).mono ?_
  rintro e wx ⟨rfl, c⟩
  go_wp2
  go_ret2
  exact ⟨rfl, c⟩
end Go.Proofs.YtlinkeemccnfmaaGreatDoor
