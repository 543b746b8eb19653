/- What is proved here: those statements of Col that this claim needs. -/
import Derived.Test.YtlinkeemccnfmaaGreatDoorNum
import Derived.Test.YtlinkeemccnfmaaGreatDoorSlc
set_option linter.unusedVariables false
set_option linter.unusedSimpArgs false
namespace Go.Proofs.YtlinkeemccnfmaaGreatDoor
open Go.RowKit
def bN (s : ByteArray) (i : Nat) : Int := if h : i < s.size then ((s[i]'h).toNat : Int) else 0
theorem bN_eq {s : ByteArray} {i : Nat} (h : i < s.size) : bN s i = ((s[i]'h).toNat : Int) := dif_pos h
def CV (s : ByteArray) : Bool := decide ((1 ≤ s.size ∧ s.size ≤ 12) ∧ ∀ i, i < s.size → 48 ≤ bN s i ∧ bN s i ≤ 57)
theorem CV_iff {s : ByteArray} : CV s = true ↔ (1 ≤ s.size ∧ s.size ≤ 12) ∧ ∀ i, i < s.size → 48 ≤ bN s i ∧ bN s i ≤ 57 := by simp only [CV, decide_eq_true_eq]
theorem c_widthValid (n : Int) (w : World) :
    Calls Tryz.prog 30 #[.int .i64 n] w fun e w' => e = .returned (.bool (inB n 1 12)) ∧ w = w' := by
  have HD := hid (show inB n 1 12 = (decide (1 ≤ n) && decide (n ≤ 12)) by unfold inB; by_cases h1 : 1 ≤ n <;> by_cases h2 : n ≤ 12 <;> simp [h1, h2] <;> omega)
  rw [HD.out]
  by_cases h1 : 1 ≤ n
  · by_cases h2 : n ≤ 12
    · go_enter Tryz.func30, Tryz.ntmps30
      go_wp2
      go_ret
      exact ⟨by simp [h1, h2], rfl⟩
    · go_enter Tryz.func30, Tryz.ntmps30
      go_wp2
      go_ret
      exact ⟨by simp [h1, h2], rfl⟩
  · go_enter Tryz.func30, Tryz.ntmps30
    go_wp2
    go_ret
    exact ⟨by simp [h1] <;> intros <;> omega, rfl⟩
theorem c_iColumnValid (s : ByteArray) (hs : s.size ≤ maxLen) (w : World) :
    Calls Tryz.prog 68 #[.string s] w fun e w' => e = .returned (.bool (CV s)) ∧ w = w' := by
  unfold maxLen at hs
  by_cases h1 : 1 ≤ s.size
  · by_cases h2 : s.size ≤ 12
    · have HW := hid (show inB (s.size : Int) 1 12 = true from inB_yes (by omega) (by omega))
      go_enter Tryz.func68, Tryz.ntmps68
      go_wp2_with fail
      refine (c_widthValid _ _).mono ?_
      rw [HW.out]
      rintro e wx ⟨rfl, rfl⟩
      go_wp2
      go_loopw [10] (fun i wr => ∃ j : Nat, j ≤ s.size ∧ i = .int .i64 j ∧ Hid (∀ k, k < j → 48 ≤ bN s k ∧ bN s k ≤ 57) ∧ w = wr) (fun i _ => s.size - (intOf i).toNat)
      case atStart => exact ⟨0, Nat.zero_le _, rfl, fun k hk => by omega, rfl⟩
      case round =>
        obtain ⟨j, hj, rfl, HA, rfl⟩ := hrel
        by_cases hlt : j < s.size
        · have HB := hid (bN_eq hlt)
          by_cases ha : ((s[j]'hlt).toNat : Int) < 48
          · have HR := hid (show CV s = false from by
              cases h : CV s
              · rfl
              · have := (CV_iff.1 h).2 j hlt; rw [HB.out] at this; omega)
            go_wp2
            go_ret
            exact ⟨by rw [HR.out]; rfl, rfl⟩
          · by_cases hb : (57 : Int) < ((s[j]'hlt).toNat : Int)
            · have HR := hid (show CV s = false from by
                cases h : CV s
                · rfl
                · have := (CV_iff.1 h).2 j hlt; rw [HB.out] at this; omega)
              go_wp2
              go_ret
              exact ⟨by rw [HR.out]; rfl, rfl⟩
            · go_wp2
              go_roundw
              case rel =>
                refine ⟨j + 1, by omega, by go_num, fun k hk => ?_, trivial⟩
                by_cases e : k = j
                · subst e; rw [HB.out]; omega
                · exact HA.out k (by omega)
              case measure => simp [intOf]; omega
        · obtain rfl : j = s.size := by omega
          have HR := hid (CV_iff.2 ⟨⟨h1, h2⟩, HA.out⟩)
          go_wp2
          go_ret
          exact ⟨by rw [HR.out]; rfl, rfl⟩
    · have HW := hid (show inB (s.size : Int) 1 12 = false from inB_no (by omega))
      have HR := hid (show CV s = false from by
        cases h : CV s
        · rfl
        · have := (CV_iff.1 h).1; omega)
      go_enter Tryz.func68, Tryz.ntmps68
      go_wp2_with fail
      refine (c_widthValid _ _).mono ?_
      rw [HW.out]
      rintro e wx ⟨rfl, rfl⟩
      go_wp2
      go_ret
      exact ⟨by rw [HR.out]; rfl, rfl⟩
  · have HW := hid (show inB (s.size : Int) 1 12 = false from inB_no (by omega))
    have HR := hid (show CV s = false from by
      cases h : CV s
      · rfl
      · have := (CV_iff.1 h).1; omega)
    go_enter Tryz.func68, Tryz.ntmps68
    go_wp2_with fail
    refine (c_widthValid _ _).mono ?_
    rw [HW.out]
    rintro e wx ⟨rfl, rfl⟩
    go_wp2
    go_ret
    exact ⟨by rw [HR.out]; rfl, rfl⟩
theorem c_l1Width (n : Int) (w : World) :
    Calls Tryz.prog 28 #[.int .i64 n] w fun e w' => e = .returned (.bool (inB n 1 12)) ∧ w = w' := by
  go_enter Tryz.func28, Tryz.ntmps28
  go_wp2_with fail
  refine (c_l1In _ _ _ _).mono ?_
  rintro e wx ⟨rfl, rfl⟩
  go_wp2
  go_ret
  exact ⟨rfl, rfl⟩
def alk (a b : ByteArray) : Bool := CV a && (CV b && decide (a.size = b.size))
theorem c_alike (a b : ByteArray) (ha : a.size ≤ maxLen) (hb : b.size ≤ maxLen) (w : World) :
    Calls Tryz.prog 66 #[.string a, .string b] w fun e w' => e = .returned (.bool (alk a b)) ∧ w = w' := by
  have ha0 := ha
  have hb0 := hb
  unfold maxLen at ha hb
  have HD := hid (show alk a b = (CV a && (CV b && decide (a.size = b.size))) from rfl)
  by_cases h1 : CV a = true
  · by_cases h2 : CV b = true
    · have HR : Hid (alk a b = decide (a.size = b.size)) := by show _ = _; rw [HD.out, h1, h2]; rfl
      have H1 := hid h1
      have H2 := hid h2
      have t1 : ((a.size : Int) == (b.size : Int)) = decide (a.size = b.size) := by by_cases e : a.size = b.size <;> simp [e]; omega
      clear h1 h2
      go_enter Tryz.func66, Tryz.ntmps66
      go_wp2_with fail
      refine (c_iColumnValid a ha0 _).mono ?_
      rw [H1.out]
      rintro e wx ⟨rfl, rfl⟩
      go_wp2_with fail
      refine (c_iColumnValid b hb0 _).mono ?_
      rw [H2.out]
      rintro e wx ⟨rfl, rfl⟩
      go_wp2
      go_ret
      exact ⟨by rw [HR.out]; simp [t1], rfl⟩
    · have h2' : CV b = false := by simpa using h2
      have HR : Hid (alk a b = false) := by show _ = _; rw [HD.out, h1, h2']; rfl
      have H1 := hid h1
      have H2 := hid h2'
      clear h1 h2 h2'
      go_enter Tryz.func66, Tryz.ntmps66
      go_wp2_with fail
      refine (c_iColumnValid a ha0 _).mono ?_
      rw [H1.out]
      rintro e wx ⟨rfl, rfl⟩
      go_wp2_with fail
      refine (c_iColumnValid b hb0 _).mono ?_
      rw [H2.out]
      rintro e wx ⟨rfl, rfl⟩
      go_wp2
      go_ret
      exact ⟨by rw [HR.out]; rfl, rfl⟩
  · have h1' : CV a = false := by simpa using h1
    have HR : Hid (alk a b = false) := by show _ = _; rw [HD.out, h1']; rfl
    have H1 := hid h1'
    clear h1 h1'
    go_enter Tryz.func66, Tryz.ntmps66
    go_wp2_with fail
    refine (c_iColumnValid a ha0 _).mono ?_
    rw [H1.out]
    rintro e wx ⟨rfl, rfl⟩
    go_wp2
    go_ret
    exact ⟨by rw [HR.out]; rfl, rfl⟩
end Go.Proofs.YtlinkeemccnfmaaGreatDoor
