/- What is proved here: those statements of Egv that this claim needs. -/
import Derived.Test.YtlinkeemccnfmaaGreatDoorEng
import Derived.Test.YtlinkeemccnfmaaGreatDoorCol
set_option linter.unusedVariables false
set_option linter.unusedSimpArgs false
namespace Go.Proofs.YtlinkeemccnfmaaGreatDoor
open Go.RowKit
def EGV (cs : List ByteArray) : Bool := decide ((1 ≤ cs.length ∧ cs.length ≤ 7) ∧ ∀ i, i < cs.length → CV (tC cs i) = true ∧ (tC cs i).size = (tC cs 0).size)
theorem EGV_iff {cs : List ByteArray} : EGV cs = true ↔ (1 ≤ cs.length ∧ cs.length ≤ 7) ∧ ∀ i, i < cs.length → CV (tC cs i) = true ∧ (tC cs i).size = (tC cs 0).size := by simp only [EGV, decide_eq_true_eq]
theorem EGV_no {cs : List ByteArray} (h : ¬ ((1 ≤ cs.length ∧ cs.length ≤ 7) ∧ ∀ i, i < cs.length → CV (tC cs i) = true ∧ (tC cs i).size = (tC cs 0).size)) : EGV cs = false := by
  cases h2 : EGV cs
  · rfl
  · exact absurd (EGV_iff.1 h2) h
theorem alk_iff {a b : ByteArray} : alk a b = true ↔ CV a = true ∧ CV b = true ∧ a.size = b.size := by simp only [alk, Bool.and_eq_true, decide_eq_true_eq]
theorem c_iEngineValid (v : Value) (cs : List ByteArray) (w : World) (hv : IsT w w.heap.size v cs) :
    Calls Tryz.prog 34 #[.agg #[v]] w fun e w' => e = .returned (.bool (EGV cs)) ∧ Below w.heap.size w w' := by
  obtain ⟨av, cv, hav, hm, hc⟩ := hv
  subst hav
  unfold maxLen at hm
  have e0 := eng_cell w (.slice av cs.length cv) 28
  have c1 := RetRow.e1 w (.cells #[.slice av cs.length cv] 28)
  have HC := hid (fun i (hi : i < cs.length) => (show ∃ b off, av = some ⟨b, off, none⟩ ∧ (w.alloc (.cells #[.slice av cs.length cv] 28)).cell? ⟨b, off + i, none⟩ = some (.string (tC cs i)) ∧ (tC cs i).size ≤ maxLen by
    obtain ⟨b, off, h1, h2, h3, h4⟩ := hc i hi
    exact ⟨b, off, h1, (c1.cell (p := ⟨b, off + i, none⟩) h2).trans h3, h4⟩))
  clear hc
  obtain ⟨wA, hwA⟩ : ∃ x, w.alloc (.cells #[.slice av cs.length cv] 28) = x := ⟨_, rfl⟩
  rw [hwA] at e0 c1 HC
  by_cases h1 : 1 ≤ cs.length
  · by_cases h7 : cs.length ≤ 7
    · obtain ⟨b, off, hav, g0, s0⟩ := HC.out 0 (by omega)
      subst hav
      rw [Nat.add_zero] at g0
      go_enter Tryz.func34, Tryz.ntmps34
      go_wp2_with fail
      go_loopw [18] (fun i wr => ∃ j : Nat, j ≤ cs.length ∧ i = .int .i64 j ∧ Hid (∀ k, k < j → alk (tC cs 0) (tC cs k) = true) ∧ wA = wr) (fun i _ => cs.length - (intOf i).toNat)
      case atStart => exact ⟨0, Nat.zero_le _, rfl, fun k hk => by omega, rfl⟩
      case round =>
        obtain ⟨j, hj, rfl, HA, rfl⟩ := hrel
        by_cases hlt : j < cs.length
        · obtain ⟨b', off', hav', gj, sj⟩ := HC.out j hlt
          simp only [Option.some.injEq, Addr.mk.injEq, and_true] at hav'
          obtain ⟨rfl, rfl⟩ := hav'
          have q0 : (0 : Int) ≤ (j : Int) := by omega
          have q1 : (j : Int) < cs.length := by omega
          go_wp2_with fail
          refine (c_alike _ _ s0 sj _).mono ?_
          by_cases hal : alk (tC cs 0) (tC cs j) = true
          · rw [hal]
            rintro e wx ⟨rfl, rfl⟩
            go_wp2
            go_roundw
            case rel =>
              refine ⟨j + 1, by omega, by go_num, fun k hk => ?_, trivial⟩
              by_cases e : k = j
              · subst e; exact hal
              · exact HA.out k (by omega)
            case measure => simp [intOf]; omega
          · have hal' : alk (tC cs 0) (tC cs j) = false := by simpa using hal
            have HR := hid (EGV_no (cs := cs) (fun h => hal (alk_iff.2 ⟨(h.2 0 (by omega)).1, (h.2 j hlt).1, (h.2 j hlt).2.symm⟩)))
            rw [hal']
            rintro e wx ⟨rfl, rfl⟩
            go_wp2
            go_ret
            exact ⟨by rw [HR.out]; rfl, c1⟩
        · obtain rfl : j = cs.length := by omega
          have HR := hid (EGV_iff.2 ⟨⟨h1, h7⟩, fun i hi => by have := alk_iff.1 (HA.out i hi); exact ⟨this.2.1, this.2.2.symm⟩⟩)
          go_wp2
          go_ret
          exact ⟨by rw [HR.out]; rfl, c1⟩
    · have HR := hid (EGV_no (cs := cs) (fun h => h7 h.1.2))
      go_enter Tryz.func34, Tryz.ntmps34
      go_wp2
      go_ret
      exact ⟨by rw [HR.out]; rfl, c1⟩
  · have HR := hid (EGV_no (cs := cs) (fun h => h1 h.1.1))
    go_enter Tryz.func34, Tryz.ntmps34
    go_wp2
    go_ret
    exact ⟨by rw [HR.out]; rfl, c1⟩
end Go.Proofs.YtlinkeemccnfmaaGreatDoor
