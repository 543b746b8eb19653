/- What is proved here: those statements of Apl that this claim needs. -/
import Derived.Test.YtlinkeemccnfmaaGreatDoorErrS
import Derived.Test.YtlinkeemccnfmaaGreatDoorSlc
set_option linter.unusedVariables false
set_option linter.unusedSimpArgs false
namespace Go.Proofs.YtlinkeemccnfmaaGreatDoor
open Go.RowKit
def e1B (zs : List Int) (i : Nat) : Bool :=
  inB (el zs (i * 3)) 0 59 && ((i == 0 || decide (el zs (i * 3 - 3) < el zs (i * 3))) && (inB (el zs (i * 3 + 1)) (-1000000000) 1000000000 && (inB (el zs (i * 3 + 2)) (-1000000000) 1000000000 && !(el zs (i * 3 + 1) == el zs (i * 3 + 2)))))
def evB (zs : List Int) : Nat → Bool
  | 0 => true
  | n + 1 => evB zs n && e1B zs n
def EV (zs : List Int) : Bool := evB zs (zs.length / 3)
theorem evB_no {zs : List Int} {i n : Nat} (h : i < n) (he : e1B zs i = false) : evB zs n = false := by
  induction n with
  | zero => omega
  | succ n ih =>
    rw [evB]
    by_cases e : i = n
    · subst e; rw [he, Bool.and_false]
    · rw [ih (by omega), Bool.false_and]
theorem evB_yes {zs : List Int} {n : Nat} (h : ∀ i, i < n → e1B zs i = true) : evB zs n = true := by
  induction n with
  | zero => rfl
  | succ n ih => rw [evB, ih (fun i hi => h i (by omega)), h n (by omega)]; rfl
theorem evB_at {zs : List Int} {i n : Nat} (h : evB zs n = true) (hi : i < n) : e1B zs i = true := by
  by_cases he : e1B zs i = true
  · exact he
  · rw [evB_no hi (by simpa using he)] at h; cases h
theorem e1B_iff {zs : List Int} {i : Nat} : e1B zs i = true ↔ (0 ≤ el zs (i * 3) ∧ el zs (i * 3) ≤ 59) ∧ (i = 0 ∨ el zs (i * 3 - 3) < el zs (i * 3)) ∧ (-1000000000 ≤ el zs (i * 3 + 1) ∧ el zs (i * 3 + 1) ≤ 1000000000) ∧ (-1000000000 ≤ el zs (i * 3 + 2) ∧ el zs (i * 3 + 2) ≤ 1000000000) ∧ el zs (i * 3 + 1) ≠ el zs (i * 3 + 2) := by
  simp only [e1B, Bool.and_eq_true, inB_iff, Bool.or_eq_true, beq_iff_eq, decide_eq_true_eq, Bool.not_eq_true', beq_eq_false_iff_ne]
def lastF (zs : List Int) (i : Nat) : Int := if i = 0 then -1 else el zs (i * 3 - 3)

set_option maxHeartbeats 800000 in
theorem c_errataValid (v : Value) (zs : List Int) (B : Nat) (w : World) (hB : B ≤ w.heap.size) (hv : IsE w B v zs) :
    Calls Tryz.prog 49 #[v] w fun e w' => e = .returned (.bool (EV zs)) ∧ Below w.heap.size w w' := by
  obtain ⟨n, a, cap, rfl, HL, hm, hr, hc⟩ := hv
  have HE : Hid (EV zs = evB zs n) := by show EV zs = evB zs n; unfold EV; rw [HL.out, Nat.mul_div_cancel _ (by omega)]
  have HR := hid hr
  unfold maxLen at hm
  clear hr
  go_enter Tryz.func49, Tryz.ntmps49
  go_wp2
  go_loopw [3, 8] (fun l i wr => ∃ j : Nat, j ≤ n ∧ i = .int .i64 j ∧ l = .int .i64 (lastF zs j) ∧ Hid (∀ k, k < j → e1B zs k = true) ∧ Below w.heap.size w wr) (fun _ i _ => n - (intOf i).toNat)
  case atStart => exact ⟨0, Nat.zero_le _, rfl, rfl, fun k hk => by omega, Below.refl _ _⟩
  case round =>
    obtain ⟨j, hj, rfl, rfl, HA, hbel⟩ := hrel
    by_cases hlt : j < n
    · obtain ⟨b, off, rfl, hb, hcell⟩ := hc j hlt
      have g0 := (hbel.cell (p := ⟨b, off + j * 3, none⟩) (show b < w.heap.size by omega)).trans (hcell (j * 3) (by omega))
      have g1 := (hbel.cell (p := ⟨b, off + j * 3 + 1, none⟩) (show b < w.heap.size by omega)).trans (hcell (j * 3 + 1) (by omega))
      have g2 := (hbel.cell (p := ⟨b, off + j * 3 + 2, none⟩) (show b < w.heap.size by omega)).trans (hcell (j * 3 + 2) (by omega))
      have hba := hbel.alloc hbel.size (.cells #[.int .i64 (el zs (j * 3)), .int .i64 (el zs (j * 3 + 1)), .int .i64 (el zs (j * 3 + 2))] 67)
      have HN := hid (fun h : e1B zs j = false => evB_no hlt h)
      have HI := hid (e1B_iff (zs := zs) (i := j))
      have hls : (j = 0 ∧ lastF zs j = -1) ∨ (j ≠ 0 ∧ lastF zs j = el zs (j * 3 - 3)) := by unfold lastF; split <;> simp_all
      have HLS := hid hls
      clear hc hcell hls
      by_cases h1 : el zs (j * 3) ≤ lastF zs j
      · have HF := hid (show e1B zs j = false by
          rw [← Bool.not_eq_true, HI.out]; intro h; have := HLS.out; omega)
        go_wp2
        go_ret
        exact ⟨retB (by rw [HE.out]; exact (HN.out HF.out).symm), hba⟩
      · by_cases h2 : 60 ≤ el zs (j * 3)
        · have HF := hid (show e1B zs j = false by
            rw [← Bool.not_eq_true, HI.out]; intro h; have := HLS.out; omega)
          go_wp2
          go_ret
          exact ⟨retB (by rw [HE.out]; exact (HN.out HF.out).symm), hba⟩
        · by_cases h3 : inB (el zs (j * 3 + 1)) (-1000000000) 1000000000 = true
          · by_cases h4 : inB (el zs (j * 3 + 2)) (-1000000000) 1000000000 = true
            · by_cases h5 : el zs (j * 3 + 1) = el zs (j * 3 + 2)
              · have HF := hid (show e1B zs j = false by
                  rw [← Bool.not_eq_true, HI.out]; intro h; omega)
                have k5 : (el zs (j * 3 + 1) == el zs (j * 3 + 2)) = true := by simpa using h5
                clear h5
                go_wp2_with (go_at_call 32; refine (c_within _ _ _ (by omega) (by omega)).mono ?_; rintro e w' ⟨rfl, rfl⟩)
                go_ret
                exact ⟨retB (by rw [HE.out]; exact (HN.out HF.out).symm), hba⟩
              · have HF := hid (show ∀ k, k < j + 1 → e1B zs k = true from fun k hk => if e : k = j then by
                    subst e
                    rw [HI.out]
                    rw [inB_iff] at h3 h4
                    have h0 : 0 ≤ el zs (k * 3) := by
                      rcases HLS.out with ⟨e1, e2⟩ | ⟨e1, e2⟩
                      · omega
                      · have := e1B_iff.1 (HA.out (k - 1) (by omega)); rw [show (k - 1) * 3 = k * 3 - 3 by omega] at this; omega
                    have := HLS.out
                    omega
                  else HA.out k (by omega))
                have HL2 := hid (show lastF zs (j + 1) = el zs (j * 3) by unfold lastF; rw [if_neg (by omega), show (j + 1) * 3 - 3 = j * 3 by omega])
                have k5 : (el zs (j * 3 + 1) == el zs (j * 3 + 2)) = false := by simpa using h5
                clear h5
                go_wp2_with (go_at_call 32; refine (c_within _ _ _ (by omega) (by omega)).mono ?_; rintro e w' ⟨rfl, rfl⟩)
                go_roundw
                case rel => exact ⟨j + 1, by omega, by go_num, by rw [HL2.out], HF, hba⟩
                case measure => simp [intOf]; omega
            · have h4' : inB (el zs (j * 3 + 2)) (-1000000000) 1000000000 = false := by simpa using h4
              have HF := hid (show e1B zs j = false by
                  rw [← Bool.not_eq_true, HI.out]; intro h; rw [inB_iff'] at h4'; omega)
              clear h4
              go_wp2_with (go_at_call 32; refine (c_within _ _ _ (by omega) (by omega)).mono ?_; rintro e w' ⟨rfl, rfl⟩)
              go_ret
              exact ⟨retB (by rw [HE.out]; exact (HN.out HF.out).symm), hba⟩
          · have h3' : inB (el zs (j * 3 + 1)) (-1000000000) 1000000000 = false := by simpa using h3
            have HF := hid (show e1B zs j = false by
                rw [← Bool.not_eq_true, HI.out]; intro h; rw [inB_iff'] at h3'; omega)
            clear h3
            go_wp2_with (go_at_call 32; refine (c_within _ _ _ (by omega) (by omega)).mono ?_; rintro e w' ⟨rfl, rfl⟩)
            go_ret
            exact ⟨retB (by rw [HE.out]; exact (HN.out HF.out).symm), hba⟩
    · obtain rfl : j = n := by omega
      clear hc
      go_wp2
      go_ret
      exact ⟨retB (by rw [HE.out]; exact (evB_yes HA.out).symm), hbel⟩
end Go.Proofs.YtlinkeemccnfmaaGreatDoor
