/- What is proved here: contracts of l5Longest and LongestRun (spec and impl). -/
import Derived.Test.YtkiebajggombiaaRun
set_option linter.unusedVariables false
set_option linter.unusedSimpArgs false
namespace Go.Proofs.Ytkiebajggombiaa
open Go.RowKit

set_option maxHeartbeats 800000 in
theorem c_l5Longest (w : World) (v : Value) (ys : List Int) (hv : IsI w w.heap.size v ys) (d : Int) (hl : ys.length ≤ 60) :
    Calls Try.prog 92 #[v, .int .i64 d] w fun e w' => e = .returned (.int .i64 (lgU ys d 0 ys.length : Nat)) ∧ Below w.heap.size w w' := by
  obtain ⟨av, capv, hva⟩ : ∃ a cap, v = .slice a ys.length cap := ⟨_, _, hv.choose_spec.choose_spec.1⟩
  subst hva
  have hcap : ys.length ≤ capv ∧ capv ≤ maxLen := by
    obtain ⟨aa, cc, he, hx, -⟩ := hv
    simp only [Value.slice.injEq] at he; omega
  obtain ⟨hc0, hc1⟩ := hcap
  unfold maxLen at hc1
  obtain ⟨R, hR⟩ : ∃ R, lgU ys d 0 ys.length = R := ⟨_, rfl⟩
  have HR := hid hR
  rw [hR]
  clear hR
  go_enter Try.func92, Try.ntmps92
  go_wp2
  go_loopw [5] (fun i wr => ∃ j : Nat, j ≤ ys.length ∧ i = .int .i64 j ∧ Hid (lgU ys d j (ys.length - j) = R) ∧ Below w.heap.size w wr) (fun i _ => ys.length - (intOf i).toNat)
  case atStart => exact ⟨0, Nat.zero_le _, rfl, HR, Below.refl _ _⟩
  case round =>
    obtain ⟨j, hj, rfl, HL, hbel⟩ := hrel
    have hbs := hbel.size
    by_cases hlt : j < ys.length
    · have htk := ((hv.below hbel (Nat.le_refl _)).take (k := j + 1) (by omega)).up hbs
      have HM := hid (show ys.length - j = (ys.length - (j + 1)) + 1 by omega)
      have k1 : ((j : Int) + 1).toNat = j + 1 := by omega
      have k2 : (j : Int) + 1 ≤ capv := by omega
      have k3 : (j : Int) < ys.length := by omega
      have k4 : 0 ≤ (j : Int) + 1 := by omega
      go_wp2_with fail
      refine (c_l5Run _ _ (ys.take (j + 1)) htk d).mono ?_
      by_cases hr : rnOk (ys.take (j + 1)) d = true
      · have HU := hid (lgU_yes (m := ys.length - (j + 1)) hr)
        rw [hr]
        rintro e w1 ⟨v1, rfl, r1, b1⟩
        clear hr htk
        go_wp2
        go_roundw
        case rel => exact ⟨j + 1, by omega, by go_num, by show _ = _; rw [← HL.out, HM.out, HU.out], hbel.trans (b1.mono hbs)⟩
        case measure => simp [intOf]; omega
      · have hr' : rnOk (ys.take (j + 1)) d = false := by simpa using hr
        have HU := hid (lgU_no (m := ys.length - (j + 1)) hr')
        rw [hr']
        rintro e w1 ⟨v1, rfl, r1, b1⟩
        clear hr hr' htk
        go_wp2
        go_ret
        exact ⟨retI (by rw [← HL.out, HM.out, HU.out]), hbel.trans (b1.mono hbs)⟩
    · obtain rfl : j = ys.length := by omega
      go_wp2
      go_ret
      exact ⟨retI (by rw [← HL.out, Nat.sub_self]; rfl), hbel⟩
theorem lrF_no {xs : List Int} {f d : Int} (h : SM xs = false ∨ inB d 0 6 = false ∨ inB f 0 xs.length = false) : lrF xs f d = -1 := by
  unfold lrF; rw [if_neg]; rcases h with h | h | h <;> simp [h]
theorem lrF_yes {xs : List Int} {f d : Nat} (h : SM xs = true) (hd : d ≤ 6) (hf : f ≤ xs.length) : lrF xs f d = (lgD (xs.drop f) d (xs.length - f) : Nat) ∧ lrF xs f d = (lgU (xs.drop f) d 0 (xs.drop f).length : Nat) := by
  have h1 : lrF xs f d = (lgD (xs.drop f) d (xs.length - f) : Nat) := by
    unfold lrF; rw [h, inB_yes (by omega) (by omega), inB_yes (by omega) (by omega)]; rfl
  refine ⟨h1, ?_⟩
  rw [h1, ← List.length_drop]
  by_cases e : f = xs.length
  · subst e; simp [lgD, lgU]
  · rw [lg_same fun n a b c => rn_mono (TB_drop (SM_TB h) (by omega)) (Bd_drop (SM_Bd h) f) hd a b c]
set_option maxHeartbeats 800000 in
theorem c_sLongestRun (w : World) (v : Value) (xs : List Int) (hv : IsI w w.heap.size v xs) (f d : Int) :
    Calls Try.prog 56 #[v, .int .i64 f, .int .i64 d] w fun e w' => e = .returned (.int .i64 (lrF xs f d)) ∧ Below w.heap.size w w' := by
  have hv0 := hv
  obtain ⟨a, cap, rfl, hm, -, hc⟩ := hv
  unfold maxLen at hm
  by_cases hS : SM xs = true
  · have hT := SM_TB hS
    have h60 := (TB_iff.1 hT).2.1
    have h01 := (TB_iff.1 hT).1
    by_cases hd : inB d 0 6 = true
    · by_cases hf : inB f 0 xs.length = true
      · obtain ⟨d0, d1⟩ := inB_iff.1 hd
        obtain ⟨f0, f1⟩ := inB_iff.1 hf
        obtain ⟨dn, rfl⟩ : ∃ dn : Nat, d = dn := ⟨d.toNat, by omega⟩
        obtain ⟨fn, rfl⟩ : ∃ fn : Nat, f = fn := ⟨f.toNat, by omega⟩
        have HV := hid (lrF_yes hS (show dn ≤ 6 by omega) (show fn ≤ xs.length by omega)).2
        have HS := hid hS
        have hlen : (xs.drop fn).length = xs.length - fn := by simp
        have HLEN := hid hlen
        rw [HV.out]
        have hq : (xs.length : Int) - fn = ((xs.length - fn : Nat) : Int) := by omega
        have k1 : (fn : Int) ≤ xs.length := by omega
        have k2 : (fn : Int) ≤ cap := by omega
        obtain ⟨b, off, rfl, hb, -⟩ := hc 0 (by omega)
        clear hc hS hT hlen hq
        by_cases he : fn < xs.length
        · have hsub := hv0.sub (lo := fn) (m := xs.length - fn) (by omega)
          rw [List.take_of_length_le (by rw [HLEN.out]; omega)] at hsub
          have k3 : ¬ cap = fn := by omega
          have k4 : ¬ fn = cap := by omega
          have k5 : (fn : Int) < xs.length := by omega
          go_enter Try.func56, Try.ntmps56
          go_wp2_with fail
          refine (c_l5Small _ xs _ _ hv0).mono ?_
          rw [HS.out]
          rintro e wx ⟨rfl, rfl⟩
          go_wp2_with fail
          refine (c_l4Degree _ _).mono ?_
          rw [hd]
          rintro e wx ⟨rfl, rfl⟩
          go_wp2_with fail
          refine (c_l1In _ _ _ _).mono ?_
          rw [hf]
          rintro e wx ⟨rfl, rfl⟩
          go_wp2_with fail
          refine (c_l5Longest _ _ (xs.drop fn) hsub _ (by rw [HLEN.out]; omega)).mono ?_
          rintro e w1 ⟨rfl, b1⟩
          go_wp2
          go_ret
          exact ⟨by rw [HLEN.out]; rfl, b1⟩
        · have hfe : fn = xs.length := by omega
          subst hfe
          have hnil : xs.drop xs.length = [] := by simp
          have HNIL := hid hnil
          clear hnil
          clear k1 f0 f1 he HLEN
          by_cases hcc : cap = xs.length
          all_goals
            (try subst hcc)
            go_enter Try.func56, Try.ntmps56
            go_wp2_with fail
            refine (c_l5Small _ xs _ _ hv0).mono ?_
            rw [HS.out]
            rintro e wx ⟨rfl, rfl⟩
            go_wp2_with fail
            refine (c_l4Degree _ _).mono ?_
            rw [hd]
            rintro e wx ⟨rfl, rfl⟩
            go_wp2_with fail
            refine (c_l1In _ _ _ _).mono ?_
            rw [hf]
            rintro e wx ⟨rfl, rfl⟩
            go_wp2_with fail
            refine (c_l5Longest _ _ [] ⟨_, _, rfl, ⟨Nat.zero_le _, by unfold maxLen; omega, fun h => by cases h⟩, R64.nil, fun i hi => by simp at hi⟩ _ (by simp)).mono ?_
            rintro e w1 ⟨rfl, b1⟩
            go_wp2
            go_ret
            exact ⟨by rw [HNIL.out]; rfl, b1⟩
      · have hf' : inB f 0 xs.length = false := by simpa using hf
        rw [lrF_no (.inr (.inr hf'))]
        clear hf hc
        go_enter Try.func56, Try.ntmps56
        go_wp2_with fail
        refine (c_l5Small _ xs _ _ hv0).mono ?_
        rw [hS]
        rintro e wx ⟨rfl, rfl⟩
        go_wp2_with fail
        refine (c_l4Degree _ _).mono ?_
        rw [hd]
        rintro e wx ⟨rfl, rfl⟩
        go_wp2_with fail
        refine (c_l1In _ _ _ _).mono ?_
        rw [hf']
        rintro e wx ⟨rfl, rfl⟩
        go_wp2
        go_ret
        exact ⟨rfl, Below.refl _ _⟩
    · have hd' : inB d 0 6 = false := by simpa using hd
      rw [lrF_no (.inr (.inl hd'))]
      clear hd hc
      go_enter Try.func56, Try.ntmps56
      go_wp2_with fail
      refine (c_l5Small _ xs _ _ hv0).mono ?_
      rw [hS]
      rintro e wx ⟨rfl, rfl⟩
      go_wp2_with fail
      refine (c_l4Degree _ _).mono ?_
      rw [hd']
      rintro e wx ⟨rfl, rfl⟩
      go_wp2
      go_ret
      exact ⟨rfl, Below.refl _ _⟩
  · have hS' : SM xs = false := by simpa using hS
    rw [lrF_no (.inl hS')]
    clear hS hc
    go_enter Try.func56, Try.ntmps56
    go_wp2_with fail
    refine (c_l5Small _ xs _ _ hv0).mono ?_
    rw [hS']
    rintro e wx ⟨rfl, rfl⟩
    go_wp2
    go_ret
    exact ⟨rfl, Below.refl _ _⟩
set_option maxHeartbeats 800000 in
theorem c_iLongestRun (w : World) (v : Value) (xs : List Int) (hv : IsI w w.heap.size v xs) (f d : Int) :
    Calls Try.prog 67 #[v, .int .i64 f, .int .i64 d] w fun e w' => e = .returned (.int .i64 (lrF xs f d)) ∧ Below w.heap.size w w' := by
  have hv0 := hv
  obtain ⟨a, cap, rfl, hm, -, hc⟩ := hv
  unfold maxLen at hm
  by_cases hS : SM xs = true
  · have hT := SM_TB hS
    have h60 := (TB_iff.1 hT).2.1
    have h01 := (TB_iff.1 hT).1
    by_cases hd : inB d 0 6 = true
    · by_cases hf : inB f 0 xs.length = true
      · obtain ⟨d0, d1⟩ := inB_iff.1 hd
        obtain ⟨f0, f1⟩ := inB_iff.1 hf
        obtain ⟨dn, rfl⟩ : ∃ dn : Nat, d = dn := ⟨d.toNat, by omega⟩
        obtain ⟨fn, rfl⟩ : ∃ fn : Nat, f = fn := ⟨f.toNat, by omega⟩
        have HV := hid (lrF_yes hS (show dn ≤ 6 by omega) (show fn ≤ xs.length by omega)).1
        have HS := hid hS
        rw [HV.out]
        obtain ⟨R, hR⟩ : ∃ R, lgD (xs.drop fn) dn (xs.length - fn) = R := ⟨_, rfl⟩
        have HR := hid hR
        rw [hR]
        have k1 : (fn : Int) ≤ xs.length := by omega
        obtain ⟨b, off, rfl, hb, -⟩ := hc 0 (by omega)
        have k7 : ¬ xs.length < fn := by omega
        have k8 : ¬ (fn : Int) < 0 := by omega
        clear hc hS hT hR
        go_enter Try.func67, Try.ntmps67
        go_wp2_with fail
        refine (c_smallTable _ xs _ _ hv0).mono ?_
        rw [HS.out]
        rintro e wx ⟨rfl, rfl⟩
        go_wp2_with fail
        refine (c_degreeValid _ _).mono ?_
        rw [hd]
        rintro e wx ⟨rfl, rfl⟩
        go_wp2
        go_loopw [7] (fun i wr => ∃ j : Nat, fn + j ≤ xs.length ∧ i = .int .i64 j ∧ Hid (lgD (xs.drop fn) dn j = R) ∧ Below w.heap.size w wr) (fun i _ => (intOf i).toNat)
        case atStart => exact ⟨xs.length - fn, by omega, by go_num, HR, Below.refl _ _⟩
        case round =>
          obtain ⟨j, hj, rfl, HL, hbel⟩ := hrel
          have hbs := hbel.size
          by_cases hp : 0 < j
          · obtain ⟨i, rfl⟩ : ∃ i, j = i + 1 := ⟨j - 1, by omega⟩
            have hsub := (((hv0.below hbel (Nat.le_refl _)).sub (lo := fn) (m := i + 1) hj)).up hbs
            have k2 : (fn : Int) + ((i + 1 : Nat) : Int) ≤ cap := by omega
            have k3 : (fn : Int) < cap := by omega
            have k4 : ¬ cap = fn := by omega
            have k5 : ¬ fn = cap := by omega
            have k6 : (0 : Int) < ((i + 1 : Nat) : Int) := by omega
            go_wp2_with fail
            refine (c_runOf _ _ _ hsub dn).mono ?_
            by_cases hr : rnOk ((xs.drop fn).take (i + 1)) dn = true
            · have HU := hid (lgD_yes hr)
              rw [hr]
              rintro e w1 ⟨v1, rfl, r1, b1⟩
              clear hr
              go_wp2
              go_ret
              exact ⟨retI (by rw [← HL.out, HU.out]; omega), hbel.trans (b1.mono hbs)⟩
            · have hr' : rnOk ((xs.drop fn).take (i + 1)) dn = false := by simpa using hr
              have HU := hid (lgD_no hr')
              rw [hr']
              rintro e w1 ⟨v1, rfl, r1, b1⟩
              clear hr hr'
              go_wp2
              go_roundw
              case rel => exact ⟨i, by omega, by go_num, by show _ = _; rw [← HL.out, HU.out], hbel.trans (b1.mono hbs)⟩
              case measure => simp [intOf]
          · obtain rfl : j = 0 := by omega
            go_wp2
            go_ret
            exact ⟨retI (by rw [← HL.out]; rfl), hbel⟩
      · have hf' : inB f 0 xs.length = false := by simpa using hf
        rw [lrF_no (.inr (.inr hf'))]
        have hq : f < 0 ∨ (xs.length : Int) < f := Classical.byContradiction (fun h : ¬ (f < 0 ∨ (xs.length : Int) < f) => by rw [inB_yes (by omega) (by omega)] at hf'; cases hf')
        clear hf hc hf'
        rcases Int.lt_or_le f 0 with h0 | h0
        all_goals
          (try have h9 : ¬ f < 0 := by omega)
          (try have h8 : (xs.length : Int) < f := by omega)
          (try clear hq)
          go_enter Try.func67, Try.ntmps67
          go_wp2_with fail
          refine (c_smallTable _ xs _ _ hv0).mono ?_
          rw [hS]
          rintro e wx ⟨rfl, rfl⟩
          go_wp2_with fail
          refine (c_degreeValid _ _).mono ?_
          rw [hd]
          rintro e wx ⟨rfl, rfl⟩
          go_wp2
          go_ret
          exact ⟨rfl, Below.refl _ _⟩
    · have hd' : inB d 0 6 = false := by simpa using hd
      rw [lrF_no (.inr (.inl hd'))]
      clear hd hc
      go_enter Try.func67, Try.ntmps67
      go_wp2_with fail
      refine (c_smallTable _ xs _ _ hv0).mono ?_
      rw [hS]
      rintro e wx ⟨rfl, rfl⟩
      go_wp2_with fail
      refine (c_degreeValid _ _).mono ?_
      rw [hd']
      rintro e wx ⟨rfl, rfl⟩
      go_wp2
      go_ret
      exact ⟨rfl, Below.refl _ _⟩
  · have hS' : SM xs = false := by simpa using hS
    rw [lrF_no (.inl hS')]
    clear hS hc
    go_enter Try.func67, Try.ntmps67
    go_wp2_with fail
    refine (c_smallTable _ xs _ _ hv0).mono ?_
    rw [hS']
    rintro e wx ⟨rfl, rfl⟩
    go_wp2
    go_ret
    exact ⟨rfl, Below.refl _ _⟩
end Go.Proofs.Ytkiebajggombiaa
