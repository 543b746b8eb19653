/- What is proved here: those statements of Pol2 that this claim needs. -/
import Derived.Test.YtlinkeemccnfmaaGreatDoorPol
set_option linter.unusedVariables false
set_option linter.unusedSimpArgs false
namespace Go.Proofs.YtlinkeemccnfmaaGreatDoor
open Go.RowKit
def PV (xs : List Int) : Bool := inB xs.length 1 7 && alw 100000 xs
theorem PV_iff {xs : List Int} : PV xs = true ↔ 1 ≤ xs.length ∧ xs.length ≤ 7 ∧ ∀ k, k < xs.length → -100000 ≤ el xs k ∧ el xs k ≤ 100000 := by
  rw [PV, Bool.and_eq_true, inB_iff, alw_iff]
  exact ⟨fun h => ⟨by omega, by omega, h.2⟩, fun h => ⟨by omega, h.2.2⟩⟩
theorem PV_alw {xs : List Int} (h : alw 100000 xs = true) : PV xs = inB xs.length 1 7 := by simp [PV, h]
theorem PV_no {xs : List Int} (h : alw 100000 xs = false) : PV xs = false := by simp [PV, h]
theorem PV_len {xs : List Int} (h : inB xs.length 1 7 = false) : PV xs = false := by simp [PV, h]
theorem PV_len' {xs : List Int} (h : inB xs.length 1 7 = true) : PV xs = alw 100000 xs := by simp [PV, h]
theorem PV_Bd {xs : List Int} (h : PV xs = true) : Bd 100000 xs := (PV_iff.1 h).2.2
theorem IsI.take {w : World} {B cap n : Nat} {a : Option Addr} {xs : List Int} (h : IsI w B (.slice a n cap) xs) {k : Nat} (hk : k ≤ xs.length) : IsI w B (.slice a k cap) (xs.take k) := by
  obtain ⟨a', cap', he, hm, hr, hc⟩ := h
  simp only [Value.slice.injEq] at he
  obtain ⟨rfl, rfl, rfl⟩ := he
  have hl : (xs.take k).length = k := by rw [List.length_take]; omega
  refine ⟨a, cap, by rw [hl], ⟨by omega, hm.2.1, hm.2.2⟩, hr.take k, fun i hi => ?_⟩
  obtain ⟨b, off, ha, hb, hcell⟩ := hc i (by omega)
  exact ⟨b, off, ha, hb, fun j hj => by rw [el_take (by omega)]; exact hcell j (by omega)⟩
theorem IsI.alloc {w : World} {B : Nat} {v : Value} {xs : List Int} (h : IsI w B v xs) (o : Obj) (hB : B ≤ w.heap.size) : IsI (w.alloc o) B v xs :=
  h.below ((Below.refl w.heap.size w).alloc (Nat.le_refl _) o) hB

theorem c_sPolyValid (v : Value) (xs : List Int) (B : Nat) (w : World) (hv : IsI w B v xs) :
    Calls Tryz.prog 59 #[v] w fun e w' => e = .returned (.bool (PV xs)) ∧ w = w' := by
  obtain ⟨a, cap, rfl, hm, hr, hc⟩ := hv
  unfold maxLen at hm
  clear hr
  go_enter Tryz.func59, Tryz.ntmps59
  go_wp2
  go_loop [3] (fun i => ∃ j : Nat, j ≤ xs.length ∧ i = .int .i64 j ∧ ∀ k, k < j → inB (el xs k) (-100000) 100000 = true) (fun i => xs.length - (intOf i).toNat)
  case atStart => exact ⟨0, Nat.zero_le _, rfl, fun k hk => by omega⟩
  case round =>
    obtain ⟨j, hj, rfl, HA⟩ := hrel
    have HA' : Hid (∀ k, k < j → inB (el xs k) (-100000) 100000 = true) := HA
    clear HA
    by_cases hlt : j < xs.length
    · obtain ⟨bk, off, rfl, hb, hcell⟩ := hc j hlt
      have hce := hcell j hlt
      clear hc hcell
      by_cases he : inB (el xs j) (-100000) 100000 = true
      · go_wp2_with (go_at_call 63; refine (c_l1In _ _ _ _).mono ?_; rintro e w' ⟨rfl, rfl⟩)
        go_round
        case rel => exact ⟨j + 1, by omega, by go_num, fun k hk => if e : k = j then e ▸ he else HA'.out k (by omega)⟩
        case measure => simp [intOf]; omega
      · have he' : inB (el xs j) (-100000) 100000 = false := by simpa using he
        have HE : Hid (inB (el xs j) (-100000) 100000 = false) := he'
        clear he
        go_wp2_with (go_at_call 63; refine (c_l1In _ _ _ _).mono ?_; rintro e w' ⟨rfl, rfl⟩)
        go_ret
        exact ⟨retB (PV_no (alw_no hlt HE.out)).symm, rfl⟩
    · clear hc
      go_wp2_with (go_at_call 63; refine (c_l1In _ _ _ _).mono ?_; rintro e w' ⟨rfl, rfl⟩)
      go_ret
      exact ⟨retB (PV_alw (alw_yes (by omega) HA'.out)).symm, rfl⟩
end Go.Proofs.YtlinkeemccnfmaaGreatDoor
