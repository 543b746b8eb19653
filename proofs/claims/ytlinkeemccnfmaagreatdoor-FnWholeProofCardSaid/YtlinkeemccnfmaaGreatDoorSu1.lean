/- What is proved here: contracts of impl.ColumnOf, spec.ColumnOf and impl.WidthFor. -/
import Derived.Test.YtlinkeemccnfmaaGreatDoorSuM
import Derived.Test.YtlinkeemccnfmaaGreatDoorShw
set_option linter.unusedVariables false
set_option linter.unusedSimpArgs false
namespace Go.Proofs.YtlinkeemccnfmaaGreatDoor
open Go.RowKit

theorem half_neg {h : Int} : (-(2 * h)).tdiv 2 = -h := by rw [Int.neg_tdiv, Int.mul_tdiv_cancel_left _ (by omega)]
theorem half_pos {h : Int} : (2 * h).tdiv 2 = h := by rw [Int.mul_tdiv_cancel_left _ (by omega)]
theorem c_iColumnOf (n wd : Int) (w : World) :
    Calls Tryz.prog 26 #[.int .i64 n, .int .i64 wd] w fun e w' => e = .returned (.tuple #[.string (cofS n wd), .bool (cofB n wd)]) ∧ Below w.heap.size w w' := by
  by_cases hw : inB wd 1 12 = true
  · obtain ⟨h0, h1⟩ := inB_iff.1 hw
    obtain ⟨k, rfl⟩ : ∃ k : Nat, wd = k := ⟨wd.toNat, by omega⟩
    have ht := ten_half (k := k) (by omega)
    have htb := ten12 (k := k) (by omega)
    have htp := ten_pos k
    have HB := hid (show cofB n k = true ↔ -(ten k / 2) ≤ n ∧ n < ten k / 2 by rw [cofB_iff]; omega)
    have HT := hid (fun w' => c_powerOfTen k w' (by omega))
    have HS := hid (fun (h : cofB n k = true) => cofS_yes h)
    have HM := hid (fun w' => c_modulo n (ten k) w' (by omega) (by omega))
    have hmn := md_nonneg n (show 0 < ten k by omega)
    have hml := md_lt n (show 0 < ten k by omega)
    have HSN := hid (fun w' => c_showNumber (md n (ten k)) k w' hmn (by omega) (by omega))
    clear hmn hml
    obtain ⟨tn, htn⟩ : ∃ t, ten k = t := ⟨_, rfl⟩
    have HTT := hid htn
    rw [htn] at ht htb htp HB HT HM HSN
    clear htn
    have k1 : (-tn).tdiv 2 = -(tn / 2) := by obtain ⟨h, hh⟩ : ∃ h, tn / 2 = h := ⟨_, rfl⟩; rw [hh] at ht ⊢; rw [ht]; exact half_neg
    have k3 : IntKind.i64.wrap (-tn) = -tn := IntWalk.i64_in _ (by omega)
    have HH := hid ht
    clear ht
    go_enter Tryz.func26, Tryz.ntmps26
    go_wp2_with fail
    refine (c_widthValid _ _).mono ?_
    rw [hw]
    rintro e wx ⟨rfl, rfl⟩
    go_wp2_with fail
    refine (HT.out _).mono ?_
    rintro e wx ⟨rfl, rfl⟩
    by_cases g1 : n < -(tn / 2)
    · have HB1 := hid (show cofB n k = false by by_cases g : cofB n k = true; have := (HB.out).1 g; omega; simpa using g)
      go_wp2
      go_ret2
      exact ⟨by rw [HB1.out, cofS_no HB1.out]; rfl, Below.refl _ _⟩
    · by_cases g2 : tn / 2 ≤ n
      · have HB1 := hid (show cofB n k = false by by_cases g : cofB n k = true; have := (HB.out).1 g; omega; simpa using g)
        go_wp2
        go_ret2
        exact ⟨by rw [HB1.out, cofS_no HB1.out]; rfl, Below.refl _ _⟩
      · have HB1 := hid (show cofB n k = true from (HB.out).2 (by omega))
        go_wp2_with fail
        refine (HM.out _).mono ?_
        rintro e wx ⟨rfl, rfl⟩
        go_wp2_with fail
        refine (HSN.out _).mono ?_
        rintro e w2 ⟨rfl, b2⟩
        go_wp2
        go_ret2
        exact ⟨by rw [HB1.out, HS.out HB1.out, Int.toNat_natCast, HTT.out]; rfl, b2⟩
  · have hw' : inB wd 1 12 = false := by simpa using hw
    have HB1 := hid (cofB_bad (n := n) hw')
    clear hw
    go_enter Tryz.func26, Tryz.ntmps26
    go_wp2_with fail
    refine (c_widthValid _ _).mono ?_
    rw [hw']
    rintro e wx ⟨rfl, rfl⟩
    go_wp2
    go_ret2
    exact ⟨by rw [HB1.out, cofS_no HB1.out]; rfl, Below.refl _ _⟩

theorem c_l1Fits (n : Int) (k : Nat) (w : World) (hk : 1 ≤ k ∧ k ≤ 12) :
    Calls Tryz.prog 64 #[.int .i64 n, .int .i64 k] w fun e w' => e = .returned (.bool (cofB n k)) ∧ w = w' := by
  obtain ⟨hk0, hk1⟩ := hk
  have htb := ten12 (k := k) (by omega)
  have htp := ten_pos k
  have HB := hid (show cofB n k = true ↔ -(ten k / 2) ≤ n ∧ n < ten k / 2 by rw [cofB_iff]; omega)
  have HT := hid (fun w' => c_l1Ten k w' (by omega))
  obtain ⟨tn, htn⟩ : ∃ t, ten k = t := ⟨_, rfl⟩
  rw [htn] at htb htp HB HT
  clear htn
  have k3 : IntKind.i64.wrap (-(tn / 2)) = -(tn / 2) := IntWalk.i64_in _ (by omega)
  go_enter Tryz.func64, Tryz.ntmps64
  go_wp2_with fail
  refine (HT.out _).mono ?_
  rintro e wx ⟨rfl, rfl⟩
  by_cases g1 : -(tn / 2) ≤ n
  · by_cases g2 : n < tn / 2
    · have HB1 := hid (show cofB n k = true from (HB.out).2 (by omega))
      go_wp2
      go_ret
      exact ⟨by rw [HB1.out]; simp [g1, g2], rfl⟩
    · have HB1 := hid (show cofB n k = false by by_cases g : cofB n k = true; have := (HB.out).1 g; omega; simpa using g)
      go_wp2
      go_ret
      exact ⟨by rw [HB1.out]; simp [g1, g2], rfl⟩
  · have HB1 := hid (show cofB n k = false by by_cases g : cofB n k = true; have := (HB.out).1 g; omega; simpa using g)
    go_wp2
    go_ret
    exact ⟨by rw [HB1.out]; simp [g1], rfl⟩

theorem c_sColumnOf (n wd : Int) (w : World) :
    Calls Tryz.prog 29 #[.int .i64 n, .int .i64 wd] w fun e w' => e = .returned (.tuple #[.string (cofS n wd), .bool (cofB n wd)]) ∧ Below w.heap.size w w' := by
  by_cases hw : inB wd 1 12 = true
  · obtain ⟨h0, h1⟩ := inB_iff.1 hw
    obtain ⟨k, rfl⟩ : ∃ k : Nat, wd = k := ⟨wd.toNat, by omega⟩
    have HF := hid (fun w' => c_l1Fits n k w' (by omega))
    by_cases hb : cofB n k = true
    · have HS := hid (cofS_yes hb)
      have htb := ten12 (k := k) (by omega)
      have hbb := cofB_iff.1 hb
      have hw18 := hid (fun w' => c_l1Show n k w' (by omega) (by omega) (by omega))
      clear hbb
      go_enter Tryz.func29, Tryz.ntmps29
      go_wp2_with fail
      refine (c_l1Width _ _).mono ?_
      rw [hw]
      rintro e wx ⟨rfl, rfl⟩
      go_wp2_with fail
      refine (HF.out _).mono ?_
      rw [hb]
      rintro e wx ⟨rfl, rfl⟩
      go_wp2_with fail
      refine (hw18.out _).mono ?_
      rintro e w2 ⟨rfl, b2⟩
      go_wp2
      go_ret2
      exact ⟨by rw [HS.out, hb, Int.toNat_natCast]; rfl, b2⟩
    · have hb' : cofB n k = false := by simpa using hb
      have HS := hid (cofS_no hb')
      clear hb
      go_enter Tryz.func29, Tryz.ntmps29
      go_wp2_with fail
      refine (c_l1Width _ _).mono ?_
      rw [hw]
      rintro e wx ⟨rfl, rfl⟩
      go_wp2_with fail
      refine (HF.out _).mono ?_
      rw [hb']
      rintro e wx ⟨rfl, rfl⟩
      go_wp2
      go_ret2
      exact ⟨by rw [HS.out, hb']; rfl, Below.refl _ _⟩
  · have hw' : inB wd 1 12 = false := by simpa using hw
    have HB1 := hid (cofB_bad (n := n) hw')
    clear hw
    go_enter Tryz.func29, Tryz.ntmps29
    go_wp2_with fail
    refine (c_l1Width _ _).mono ?_
    rw [hw']
    rintro e wx ⟨rfl, rfl⟩
    go_wp2
    go_ret2
    exact ⟨by rw [HB1.out, cofS_no HB1.out]; rfl, Below.refl _ _⟩

/-- The width that is found, if it is not 0, is one in which the number fits. -/
theorem c_iWidthFor (n : Int) (w : World) :
    Calls Tryz.prog 12 #[.int .i64 n] w fun e w' => ∃ r : Nat, e = .returned (.int .i64 r) ∧ r ≤ 12 ∧ (0 < r → cofB n r = true) ∧ Below w.heap.size w w' := by
  go_enter Tryz.func12, Tryz.ntmps12
  go_wp2
  go_loopw [3] (fun i wr => ∃ k : Nat, (1 ≤ k ∧ k ≤ 13) ∧ i = .int .i64 k ∧ Below w.heap.size w wr) (fun i _ => 13 - (intOf i).toNat)
  case atStart => exact ⟨1, by omega, rfl, Below.refl _ _⟩
  case round =>
    obtain ⟨k, ⟨k0, k1⟩, rfl, hb⟩ := hrel
    have hbs := hb.size
    by_cases hlt : k ≤ 12
    · go_wp2_with fail
      refine (c_iColumnOf _ _ _).mono ?_
      rintro e w2 ⟨rfl, b2⟩
      replace hb := hb.trans (b2.mono hbs)
      by_cases hc : cofB n k = true
      · have HC := hid hc
        rw [hc]
        clear hc
        go_wp2
        go_ret
        exact ⟨k, rfl, hlt, fun _ => HC.out, hb⟩
      · have hc' : cofB n k = false := by simpa using hc
        rw [hc']
        clear hc
        go_wp2
        go_roundw
        case rel => exact ⟨k + 1, by omega, by go_num, hb⟩
        case measure => simp [intOf]; omega
    · go_wp2
      go_ret
      exact ⟨0, rfl, by omega, fun h => absurd h (by omega), hb⟩
end Go.Proofs.YtlinkeemccnfmaaGreatDoor
