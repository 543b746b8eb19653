/- What is proved here: the contract of impl.CapacityOf. -/
import Derived.Test.YtlinkeemccnfmaaGreatDoorSu1
set_option linter.unusedVariables false
set_option linter.unusedSimpArgs false
namespace Go.Proofs.YtlinkeemccnfmaaGreatDoor
open Go.RowKit

theorem c_ValuesOfF (v : Value) (p : List Int) (n : Int) (w : World) (hv : IsI w w.heap.size v p) (hP : PV p = true) (hn : -200 ≤ n ∧ n ≤ 200) (h : ¬ n + 11 ≤ 200) :
    Calls Tryz.prog 9 #[v, .int .i64 n, .int .i64 12] w (RetRowB w [] false) := by
  have hin : inB n (-200) 200 = true := inB_yes hn.1 hn.2
  obtain ⟨av, capv, hva⟩ : ∃ a cap, v = .slice a p.length cap := ⟨_, _, hv.choose_spec.choose_spec.1⟩
  subst hva
  have k1 : IntKind.i64.wrap (n + 12) = n + 12 := IntWalk.i64_in _ (by omega)
  have k2 : IntKind.i64.wrap (n + 12 - 1) = n + 12 - 1 := IntWalk.i64_in _ (by omega)
  have k3 : 200 < n + 12 - 1 := by omega
  have k4 : n + 12 - 1 > 200 := by omega
  go_enter Tryz.func9, Tryz.ntmps9
  go_wp2_with fail
  refine (c_iPolyValid _ p _ _ hv).mono ?_
  rw [hP]
  rintro e wx ⟨rfl, rfl⟩
  go_wp2_with fail
  refine (c_within _ _ _ (by omega) (by omega)).mono ?_
  rw [hin]
  rintro e wx ⟨rfl, rfl⟩
  go_wp2
  go_ret2
  exact ⟨_, rfl, Rw.nil _ _ _, Below.refl _ _⟩

theorem c_CapacityOf (w : World) (v : Value) (p : List Int) (hv : IsI w w.heap.size v p) (n wd : Int) (hP : PV p = true) (hn : -200 ≤ n ∧ n ≤ 200) (hw : inB wd 1 12 = true) :
    Calls Tryz.prog 8 #[v, .int .i64 n, .int .i64 wd, .int .i64 12] w fun e w' => ∃ r : Int, e = .returned (.int .i64 r) ∧ (-1 ≤ r ∧ r ≤ 12) ∧ Hid (12 ≤ r → n + 11 ≤ 200 ∧ ∀ k : Nat, k < 12 → cofB (el (valF p n 1 12) k) wd = true) ∧ Below w.heap.size w w' := by
  have hw' := hid hw
  clear hw
  by_cases h : n + 11 ≤ 200
  · have HV := hid (show ∀ w', IsI w' w'.heap.size v p → Calls Tryz.prog 9 #[v, .int .i64 n, .int .i64 12] w' (RetRowB w' (valF p n 1 12) true) from fun w' h' => c_ValuesOfY v p n 12 w' h' hP hn (by omega) (by omega))
    go_enter Tryz.func8, Tryz.ntmps8
    go_wp2_with fail
    refine (HV.out _ hv).mono ?_
    rintro e w2 ⟨v2, rfl, r2, b⟩
    have hI := r2.isI
    clear r2
    have hL := valF_len p n 1 12
    obtain ⟨a2, cap2, rfl, hmm, -, hc⟩ := hI
    rw [hL] at hmm hc
    rw [hL]
    unfold maxLen at hmm
    obtain ⟨hmm1, hmm2, -⟩ := hmm
    clear hL hv
    have hh : ((12 : Nat) : Int) = 12 := rfl
    go_wp2_with fail
    refine (c_widthValid _ _).mono ?_
    rw [hw'.out]
    rintro e wx ⟨rfl, rfl⟩
    go_wp2
    go_loopw [31] (fun i wr => ∃ (j : Nat), j ≤ 12 ∧ i = .int .i64 j ∧ Hid (∀ k, k < j → cofB (el (valF p n 1 12) k) wd = true) ∧ Below w2.heap.size w2 wr) (fun i _ => 12 - (intOf i).toNat)
    case atStart => exact ⟨0, Nat.zero_le _, rfl, fun k hk => by omega, Below.refl _ _⟩
    case round =>
      obtain ⟨j, hj, rfl, HR, hbel⟩ := hrel
      have hbs := hbel.size
      have hb3 := b.trans (hbel.mono b.size)
      by_cases hlt : j < 12
      · obtain ⟨bb, off, rfl, hb, hcell⟩ := hc j hlt
        have g0 := hcell j hlt
        replace g0 := (hbel.cell (p := ⟨bb, off + j, none⟩) hb).trans g0
        clear hc hcell
        go_wp2_with fail
        refine (c_iColumnOf _ _ _).mono ?_
        rintro e w5 ⟨rfl, b5⟩
        by_cases hf : cofB (el (valF p n 1 12) j) wd = true
        · have HF := hid hf
          rw [hf]
          clear hf
          have hb5 := hid (hbel.trans (b5.mono hbs))
          clear hbel b5 g0
          go_wp2
          go_roundw
          case rel =>
            refine ⟨j + 1, by omega, by go_num, fun k hk => ?_, hb5.out⟩
            by_cases e : k = j
            · subst e; exact HF.out
            · exact HR.out k (by omega)
          case measure => simp [intOf]; omega
        · have hf' : cofB (el (valF p n 1 12) j) wd = false := by simpa using hf
          rw [hf']
          have hb5 := hid (hb3.trans (b5.mono hb3.size))
          clear hf hbel b5 g0
          go_wp2
          go_ret
          exact ⟨j, rfl, by omega, fun h => by omega, hb5.out⟩
      · obtain rfl : j = 12 := by omega
        clear hc
        go_wp2
        go_ret
        exact ⟨12, rfl, by omega, fun _ => ⟨h, HR.out⟩, hb3⟩
  · have HV := hid (fun w' h' => c_ValuesOfF v p n w' h' hP hn h)
    go_enter Tryz.func8, Tryz.ntmps8
    go_wp2_with fail
    refine (HV.out _ hv).mono ?_
    rintro e w2 ⟨v2, rfl, r2, b⟩
    clear r2
    go_wp2
    go_ret
    exact ⟨-1, rfl, by omega, fun h => by omega, b⟩
end Go.Proofs.YtlinkeemccnfmaaGreatDoor
