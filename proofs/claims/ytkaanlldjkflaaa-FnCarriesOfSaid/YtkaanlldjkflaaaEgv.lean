/- What is proved here: contracts of EngineValid (impl and spec). -/
import Derived.Test.YtkaanlldjkflaaaEng
import Derived.Test.YtkaanlldjkflaaaCol
set_option linter.unusedVariables false
set_option linter.unusedSimpArgs false
namespace Go.Proofs.Ytkaanlldjkflaaa
open Go.RowKit

/-- Whether columns are an engine's. -/
def EGV (cs : List ByteArray) : Bool := decide ((1 ≤ cs.length ∧ cs.length ≤ 7) ∧ ∀ i, i < cs.length → CV (tC cs i) = true ∧ (tC cs i).size = (tC cs 0).size)
theorem EGV_iff {cs : List ByteArray} : EGV cs = true ↔ (1 ≤ cs.length ∧ cs.length ≤ 7) ∧ ∀ i, i < cs.length → CV (tC cs i) = true ∧ (tC cs i).size = (tC cs 0).size := by simp only [EGV, decide_eq_true_eq]
theorem EGV_no {cs : List ByteArray} (h : ¬ ((1 ≤ cs.length ∧ cs.length ≤ 7) ∧ ∀ i, i < cs.length → CV (tC cs i) = true ∧ (tC cs i).size = (tC cs 0).size)) : EGV cs = false := by
  cases h2 : EGV cs
  · rfl
  · exact absurd (EGV_iff.1 h2) h
theorem alk_iff {a b : ByteArray} : alk a b = true ↔ CV a = true ∧ CV b = true ∧ a.size = b.size := by simp only [alk, Bool.and_eq_true, decide_eq_true_eq]
theorem c_iEngineValid (v : Value) (cs : List ByteArray) (w : World) (hv : IsT w w.heap.size v cs) :
    Calls Try.prog 29 #[.agg #[v]] w fun e w' => e = .returned (.bool (EGV cs)) ∧ Below w.heap.size w w' := by
  obtain ⟨av, cv, hav, hm, hc⟩ := hv
  subst hav
  unfold maxLen at hm
  have e0 := eng_cell w (.slice av cs.length cv) 27
  have c1 := RetRow.e1 w (.cells #[.slice av cs.length cv] 27)
  have HC := hid (fun i (hi : i < cs.length) => (show ∃ b off, av = some ⟨b, off, none⟩ ∧ (w.alloc (.cells #[.slice av cs.length cv] 27)).cell? ⟨b, off + i, none⟩ = some (.string (tC cs i)) ∧ (tC cs i).size ≤ maxLen by
    obtain ⟨b, off, h1, h2, h3, h4⟩ := hc i hi
    exact ⟨b, off, h1, (c1.cell (p := ⟨b, off + i, none⟩) h2).trans h3, h4⟩))
  clear hc
  obtain ⟨wA, hwA⟩ : ∃ x, w.alloc (.cells #[.slice av cs.length cv] 27) = x := ⟨_, rfl⟩
  rw [hwA] at e0 c1 HC
  by_cases h1 : 1 ≤ cs.length
  · by_cases h7 : cs.length ≤ 7
    · obtain ⟨b, off, hav, g0, s0⟩ := HC.out 0 (by omega)
      subst hav
      rw [Nat.add_zero] at g0
      go_enter Try.func29, Try.ntmps29
      go_wp2_with fail
      go_loopw [18] (fun i wr => ∃ j : Nat, j ≤ cs.length ∧ i = .int .i64 j ∧ Hid (∀ k, k < j → alk (tC cs 0) (tC cs k) = true) ∧ wA = wr) (fun i _ => cs.length - (intOf i).toNat)
      case atStart => exact ⟨0, Nat.zero_le _, rfl, fun k hk => by omega, rfl⟩
      case round =>
        obtain ⟨j, hj, rfl, HA, rfl⟩ := hrel
        by_cases hlt : j < cs.length
        · obtain ⟨b', off', hav', gj, sj⟩ := HC.out j hlt
          simp only [Option.some.injEq, Addr.mk.injEq, and_true] at hav'
          obtain ⟨rfl, rfl⟩ := hav'
          have q0 : (0 : Int) ≤ (j : Int) := by omega
          have q1 : (j : Int) < cs.length := by omega
          go_wp2_with fail
          refine (c_alike _ _ s0 sj _).mono ?_
          by_cases hal : alk (tC cs 0) (tC cs j) = true
          · rw [hal]
            rintro e wx ⟨rfl, rfl⟩
            go_wp2
            go_roundw
            case rel =>
              refine ⟨j + 1, by omega, by go_num, fun k hk => ?_, trivial⟩
              by_cases e : k = j
              · subst e; exact hal
              · exact HA.out k (by omega)
            case measure => simp [intOf]; omega
          · have hal' : alk (tC cs 0) (tC cs j) = false := by simpa using hal
            have HR := hid (EGV_no (cs := cs) (fun h => hal (alk_iff.2 ⟨(h.2 0 (by omega)).1, (h.2 j hlt).1, (h.2 j hlt).2.symm⟩)))
            rw [hal']
            rintro e wx ⟨rfl, rfl⟩
            go_wp2
            go_ret
            exact ⟨by rw [HR.out]; rfl, c1⟩
        · obtain rfl : j = cs.length := by omega
          have HR := hid (EGV_iff.2 ⟨⟨h1, h7⟩, fun i hi => by have := alk_iff.1 (HA.out i hi); exact ⟨this.2.1, this.2.2.symm⟩⟩)
          go_wp2
          go_ret
          exact ⟨by rw [HR.out]; rfl, c1⟩
    · have HR := hid (EGV_no (cs := cs) (fun h => h7 h.1.2))
      go_enter Try.func29, Try.ntmps29
      go_wp2
      go_ret
      exact ⟨by rw [HR.out]; rfl, c1⟩
  · have HR := hid (EGV_no (cs := cs) (fun h => h1 h.1.1))
    go_enter Try.func29, Try.ntmps29
    go_wp2
    go_ret
    exact ⟨by rw [HR.out]; rfl, c1⟩
theorem c_sEngineValid (v : Value) (cs : List ByteArray) (w : World) (hv : IsT w w.heap.size v cs) (hl : cs.length ≤ 1048576) :
    Calls Try.prog 32 #[.agg #[v]] w fun e w' => e = .returned (.bool (EGV cs)) ∧ Below w.heap.size w w' := by
  obtain ⟨av, cv, hav, hm, hc⟩ := hv
  subst hav
  unfold maxLen at hm
  have e0 := eng_cell w (.slice av cs.length cv) 27
  have c1 := RetRow.e1 w (.cells #[.slice av cs.length cv] 27)
  have HC := hid (fun i (hi : i < cs.length) => (show ∃ b off, av = some ⟨b, off, none⟩ ∧ (w.alloc (.cells #[.slice av cs.length cv] 27)).cell? ⟨b, off + i, none⟩ = some (.string (tC cs i)) ∧ (tC cs i).size ≤ maxLen by
    obtain ⟨b, off, h1, h2, h3, h4⟩ := hc i hi
    exact ⟨b, off, h1, (c1.cell (p := ⟨b, off + i, none⟩) h2).trans h3, h4⟩))
  clear hc
  obtain ⟨wA, hwA⟩ : ∃ x, w.alloc (.cells #[.slice av cs.length cv] 27) = x := ⟨_, rfl⟩
  rw [hwA] at e0 c1 HC
  go_enter Try.func32, Try.ntmps32
  go_wp2_with fail
  go_loopw [3] (fun i wr => ∃ j : Nat, j ≤ cs.length ∧ i = .int .i64 j ∧ Hid (∀ k, k < j → CV (tC cs k) = true ∧ (tC cs k).size = (tC cs 0).size) ∧ Chg 0 0 wA wr) (fun i _ => cs.length - (intOf i).toNat)
  case atStart => exact ⟨0, Nat.zero_le _, rfl, fun k hk => by omega, Chg.refl _ _ _⟩
  case round =>
    obtain ⟨j, hj, rfl, HA, cr⟩ := hrel
    have cb := cr.below (B := wA.heap.size) (by omega) (Nat.le_refl _)
    have e1 := (cb.cell (p := ⟨w.heap.size, 0, none⟩) (World.block_lt_of_cell? _ _ e0)).trans e0
    have c2 := c1.trans (cb.mono c1.size)
    by_cases hlt : j < cs.length
    · obtain ⟨b, off, hav, g0, s0⟩ := HC.out 0 (by omega)
      subst hav
      rw [Nat.add_zero] at g0
      obtain ⟨b', off', hav', gj, sj⟩ := HC.out j hlt
      simp only [Option.some.injEq, Addr.mk.injEq, and_true] at hav'
      obtain ⟨rfl, rfl⟩ := hav'
      have g0' := (cb.cell (p := ⟨b, off, none⟩) (World.block_lt_of_cell? _ _ g0)).trans g0
      have gj' := (cb.cell (p := ⟨b, off + j, none⟩) (World.block_lt_of_cell? _ _ gj)).trans gj
      clear g0 gj cb
      have q0 : (0 : Int) ≤ (j : Int) := by omega
      have q1 : (j : Int) < cs.length := by omega
      have q2 : (0 : Int) < cs.length := by omega
      by_cases hC : CV (tC cs j) = true
      · have HCV := hid (fun w => (show Calls Try.prog 66 #[.string (tC cs j)] w fun e w' => e = .returned (.bool true) ∧ w = w' by
          have := c_sColumnValid (tC cs j) sj w; rw [hC] at this; exact this))
        by_cases hs : (tC cs j).size = (tC cs 0).size
        · have t1 : (((tC cs j).size : Int) != ((tC cs 0).size : Int)) = false := by rw [hs]; simp
          go_wp2_with fail
          go_quiet ((go_at_call 66; exact cq (HCV.out _)))
          go_wp2
          go_roundw
          case rel =>
            refine ⟨j + 1, by omega, by go_num, fun k hk => ?_, cr.drewN _⟩
            by_cases e : k = j
            · subst e; exact ⟨hC, hs⟩
            · exact HA.out k (by omega)
          case measure => simp [intOf]; omega
        · have t1 : (((tC cs j).size : Int) != ((tC cs 0).size : Int)) = true := by simp; omega
          have HR := hid (EGV_no (cs := cs) (fun h => hs (h.2 j hlt).2))
          go_wp2_with fail
          go_quiet ((go_at_call 66; exact cq (HCV.out _)))
          go_wp2
          go_ret
          exact ⟨by rw [HR.out]; rfl, bel_drewN c2 _⟩
      · have hC' : CV (tC cs j) = false := by simpa using hC
        have HCV := hid (fun w => (show Calls Try.prog 66 #[.string (tC cs j)] w fun e w' => e = .returned (.bool false) ∧ w = w' by
          have := c_sColumnValid (tC cs j) sj w; rw [hC'] at this; exact this))
        have HR := hid (EGV_no (cs := cs) (fun h => hC (h.2 j hlt).1))
        go_wp2_with fail
        go_quiet ((go_at_call 66; exact cq (HCV.out _)))
        go_wp2
        go_ret
        exact ⟨by rw [HR.out]; rfl, bel_drewN c2 _⟩
    · obtain rfl : j = cs.length := by omega
      have HR := hid (show inB (cs.length : Int) 1 7 = EGV cs from by
        by_cases h : 1 ≤ cs.length ∧ cs.length ≤ 7
        · rw [EGV_iff.2 ⟨h, HA.out⟩]; exact inB_yes (by omega) (by omega)
        · rw [EGV_no (fun h2 => h h2.1)]; exact inB_no (by omega))
      go_wp2_with fail
      refine (c_l1In _ _ _ _).mono ?_
      rw [HR.out]
      rintro e wx ⟨rfl, rfl⟩
      go_wp2
      go_ret
      exact ⟨rfl, c2⟩
end Go.Proofs.Ytkaanlldjkflaaa
