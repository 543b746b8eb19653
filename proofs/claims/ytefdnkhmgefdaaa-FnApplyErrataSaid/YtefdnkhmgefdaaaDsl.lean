/- What is proved here: contracts of DiagnoseSlip (impl and spec) and of what it calls. -/
import Derived.Test.YtefdnkhmgefdaaaSlc
import Derived.Test.YtefdnkhmgefdaaaErr2
import Derived.Test.YtefdnkhmgefdaaaDsM
set_option linter.unusedVariables false
set_option linter.unusedSimpArgs false
namespace Go.Proofs.Ytefdnkhmgefdaaa
open Go.RowKit

theorem c_EqualI (v u : Value) (xs ys : List Int) (B B' : Nat) (w : World) (hv : IsI w B v xs) (hu : IsI w B' u ys) :
    Calls Try.prog 101 #[v, u] w fun e w' => e = .returned (.bool (eqL xs ys)) ∧ Chg 0 0 w w' := by
  obtain ⟨a, cap, rfl, hm, hr, hc⟩ := hv
  obtain ⟨a', cap', rfl, hm', hr', hc'⟩ := hu
  unfold maxLen at hm hm'
  by_cases hl : xs.length = ys.length
  · have hl1 : ((xs.length : Int) != (ys.length : Int)) = false := by simp [hl]
    have HL : Hid (xs.length = ys.length) := hl
    clear hl hr hr'
    go_enter Try.func101, Try.ntmps101
    go_wp2
    go_loopw [13] (fun i wr => ∃ j : Nat, j ≤ xs.length ∧ i = .int .i64 j ∧ xs.take j = ys.take j ∧ ∃ n, wr = w.drewN n) (fun i wr => xs.length - (intOf i).toNat)
    case atStart => exact ⟨0, Nat.zero_le _, rfl, by simp, 0, rfl⟩
    case round =>
      obtain ⟨j, hj, rfl, HT, n, rfl⟩ := hrel
      have HT' : Hid (xs.take j = ys.take j) := HT
      clear HT
      by_cases hlt : j < xs.length
      · have hlt' : j < ys.length := by have := HL.out; omega
        obtain ⟨b, off, rfl, hb, hcell⟩ := hc j hlt
        obtain ⟨b', off', rfl, hb', hcell'⟩ := hc' j hlt'
        have hce := hcell j hlt
        have hce' := hcell' j hlt'
        clear hc hc' hcell hcell'
        by_cases he : el xs j = el ys j
        · have he1 : (el xs j != el ys j) = false := by simpa using he
          have HE : Hid (el xs j = el ys j) := he
          clear he
          go_wp2
          go_quiet (fail)
          go_wp2
          go_roundw
          case rel => exact ⟨j + 1, by omega, by go_num, take_eq_succ hlt hlt' HT'.out HE.out, n + nq, rfl⟩
          case measure => simp [intOf]; omega
        · have he1 : (el xs j != el ys j) = true := by simpa using he
          have HE : Hid (el xs j ≠ el ys j) := he
          clear he
          go_wp2
          go_quiet (fail)
          go_wp2
          go_ret
          exact ⟨retB (eqL_at HE.out).symm, ((Chg.refl 0 0 w).drewN n).drewN nq⟩
      · clear hc hc'
        go_wp2
        go_ret
        exact ⟨retB (eqL_all HL.out (by omega) HT'.out).symm, (Chg.refl 0 0 w).drewN n⟩
  · have hl1 : ((xs.length : Int) != (ys.length : Int)) = true := by simpa using (by omega : ¬ (xs.length : Int) = ys.length)
    have HL : Hid (xs.length ≠ ys.length) := hl
    clear hl hr hr' hc hc'
    go_enter Try.func101, Try.ntmps101
    go_wp2
    go_ret
    exact ⟨retB (eqL_len HL.out).symm, Chg.refl _ _ _⟩

/-- Whether two lists are tables of one length. -/
def alike2 (xs ys : List Int) : Bool := TB xs && (TB ys && decide (xs.length = ys.length))
theorem c_tablesAlike (v u : Value) (xs ys : List Int) (B B' : Nat) (w : World) (hv : IsI w B v xs) (hu : IsI w B' u ys) :
    Calls Try.prog 60 #[v, u] w fun e w' => e = .returned (.bool (alike2 xs ys)) ∧ w = w' := by
  obtain ⟨a, cap, hva⟩ : ∃ a cap, v = .slice a xs.length cap := ⟨_, _, hv.choose_spec.choose_spec.1⟩
  subst hva
  obtain ⟨a', cap', hua⟩ : ∃ a cap, u = .slice a ys.length cap := ⟨_, _, hu.choose_spec.choose_spec.1⟩
  subst hua
  by_cases hT : TB xs = true
  · by_cases hT' : TB ys = true
    · have h1 := (TB_iff.1 hT).2.1
      have h2 := (TB_iff.1 hT').2.1
      by_cases hl : xs.length = ys.length
      · have H : Hid (alike2 xs ys = true) := by show alike2 xs ys = true; simp [alike2, hT, hT', hl]
        have hl1 : ((xs.length : Int) == (ys.length : Int)) = true := by simp [hl]
        clear hl
        go_enter Try.func60, Try.ntmps60
        go_wp2_with fail
        refine (c_iTableValid _ xs _ _ hv).mono ?_
        rintro e w' ⟨rfl, rfl⟩
        go_wp2_with fail
        refine (c_iTableValid _ ys _ _ hu).mono ?_
        rintro e w' ⟨rfl, rfl⟩
        go_wp2_with fail
        go_ret
        exact ⟨retB H.out.symm, rfl⟩
      · have H : Hid (alike2 xs ys = false) := by show alike2 xs ys = false; simp [alike2, hl]
        have hl1 : ((xs.length : Int) == (ys.length : Int)) = false := by simp; omega
        clear hl
        go_enter Try.func60, Try.ntmps60
        go_wp2_with fail
        refine (c_iTableValid _ xs _ _ hv).mono ?_
        rintro e w' ⟨rfl, rfl⟩
        go_wp2_with fail
        refine (c_iTableValid _ ys _ _ hu).mono ?_
        rintro e w' ⟨rfl, rfl⟩
        go_wp2_with fail
        go_ret
        exact ⟨retB H.out.symm, rfl⟩
    · have hT2 : TB ys = false := by simpa using hT'
      have H : Hid (alike2 xs ys = false) := by show alike2 xs ys = false; simp [alike2, hT2]
      clear hT'
      go_enter Try.func60, Try.ntmps60
      go_wp2_with fail
      refine (c_iTableValid _ xs _ _ hv).mono ?_
      rintro e w' ⟨rfl, rfl⟩
      go_wp2_with fail
      refine (c_iTableValid _ ys _ _ hu).mono ?_
      rintro e w' ⟨rfl, rfl⟩
      go_wp2_with fail
      go_ret
      exact ⟨retB H.out.symm, rfl⟩
  · have hT2 : TB xs = false := by simpa using hT
    have H : Hid (alike2 xs ys = false) := by show alike2 xs ys = false; simp [alike2, hT2]
    clear hT
    go_enter Try.func60, Try.ntmps60
    go_wp2_with fail
    refine (c_iTableValid _ xs _ _ hv).mono ?_
    rintro e w' ⟨rfl, rfl⟩
    go_wp2_with fail
    go_ret
    exact ⟨retB H.out.symm, rfl⟩

theorem firstF_at {xs ys : List Int} {j : Nat} (hj : j < xs.length) (h : ∀ k, k < j → el xs k = el ys k) (hd : el xs j ≠ el ys j) : firstF xs ys = j := by
  unfold firstF
  rcases fdF_spec xs ys xs.length 0 with ⟨h1, h2⟩ | ⟨f, h1, h2, h3, h4, h5⟩
  · exact absurd (h2 j (Nat.zero_le _) (by omega)) hd
  · rw [h1]
    rcases Nat.lt_trichotomy f j with h | h | h
    · exact absurd (‹∀ k, k < j → el xs k = el ys k› f h) h4
    · rw [h]
    · exact absurd (h5 j (Nat.zero_le _) h) hd
theorem firstF_none {xs ys : List Int} (h : ∀ k, k < xs.length → el xs k = el ys k) : firstF xs ys = -1 := by
  unfold firstF
  rcases fdF_spec xs ys xs.length 0 with ⟨h1, h2⟩ | ⟨f, h1, h2, h3, h4, h5⟩
  · exact h1
  · exact absurd (h f (by omega)) h4
theorem c_l4Wrong (v u : Value) (xs ys : List Int) (B B' : Nat) (w : World) (hv : IsI w B v xs) (hu : IsI w B' u ys) (hl : xs.length = ys.length) :
    Calls Try.prog 102 #[v, u] w fun e w' => e = .returned (.int .i64 (firstF xs ys)) ∧ Chg 0 0 w w' := by
  obtain ⟨a, cap, rfl, hm, hr, hc⟩ := hv
  obtain ⟨a', cap', rfl, hm', hr', hc'⟩ := hu
  unfold maxLen at hm hm'
  have HL : Hid (xs.length = ys.length) := hl
  clear hl hr hr'
  go_enter Try.func102, Try.ntmps102
  go_wp2
  go_loopw [5] (fun i wr => ∃ j : Nat, j ≤ xs.length ∧ i = .int .i64 j ∧ (∀ k, k < j → el xs k = el ys k) ∧ ∃ n, wr = w.drewN n) (fun i wr => xs.length - (intOf i).toNat)
  case atStart => exact ⟨0, Nat.zero_le _, rfl, fun k hk => by omega, 0, rfl⟩
  case round =>
    obtain ⟨j, hj, rfl, HT, n, rfl⟩ := hrel
    have HT' := hid HT
    clear HT
    by_cases hlt : j < xs.length
    · have hlt' : j < ys.length := by have := HL.out; omega
      obtain ⟨b, off, rfl, hb, hcell⟩ := hc j hlt
      obtain ⟨b', off', rfl, hb', hcell'⟩ := hc' j hlt'
      have hce := hcell j hlt
      have hce' := hcell' j hlt'
      clear hc hc' hcell hcell'
      by_cases he : el xs j = el ys j
      · have he1 : (el xs j != el ys j) = false := by simpa using he
        have HE : Hid (el xs j = el ys j) := he
        clear he
        go_wp2
        go_quiet (fail)
        go_wp2
        go_roundw
        case rel => exact ⟨j + 1, by omega, by go_num, fun k hk => if e : k = j then e ▸ HE.out else HT'.out k (by omega), n + nq, rfl⟩
        case measure => simp [intOf]; omega
      · have he1 : (el xs j != el ys j) = true := by simpa using he
        have HE : Hid (el xs j ≠ el ys j) := he
        clear he
        go_wp2
        go_quiet (fail)
        go_wp2
        go_ret
        exact ⟨retI (firstF_at hlt HT'.out HE.out).symm, ((Chg.refl 0 0 w).drewN n).drewN nq⟩
    · clear hc hc'
      go_wp2
      go_ret
      exact ⟨retI (firstF_none fun k hk => HT'.out k (by omega)).symm, (Chg.refl 0 0 w).drewN n⟩

theorem same_no {xs ys : List Int} {c : Nat} {t a : Int} {j : Nat} (hok : slipOk c t a xs.length = true) (hj : j < xs.length) (h : el ys j - el xs j ≠ effF c t a j) : eqL (slipF c t a xs.length) (wrF xs ys) = false := by
  refine eqL_at (k := j) fun e => h ?_
  rw [slipF_el hok (by omega), wrF_el hj] at e
  exact e.symm
theorem same_yes {xs ys : List Int} {c : Nat} {t a : Int} (hok : slipOk c t a xs.length = true) (h : ∀ j, j < xs.length → el ys j - el xs j = effF c t a j) : eqL (slipF c t a xs.length) (wrF xs ys) = true := by
  simp only [eqL, decide_eq_true_eq]
  have hl : (slipF c t a xs.length).length = xs.length := by rw [slipF_ok hok]; simp
  refine list_ext (by rw [hl, wrF_len]) fun k hk => ?_
  rw [hl] at hk
  rw [slipF_el hok (by omega), wrF_el hk, h k hk]; rfl
theorem c_l4Same (v u : Value) (xs ys : List Int) (c : Nat) (t a : Int) (B B' : Nat) (w : World) (hv : IsI w B v xs) (hu : IsI w B' u ys) (hl : xs.length = ys.length) (hx : Bd 1000000000 xs) (hy : Bd 1000000000 ys) (hl60 : xs.length ≤ 60) (hok : slipOk c t a xs.length = true) :
    Calls Try.prog 104 #[v, u, .int .i64 c, .int .i64 t, .int .i64 a] w fun e w' => e = .returned (.bool (eqL (slipF c t a xs.length) (wrF xs ys))) ∧ Chg 0 0 w w' := by
  obtain ⟨ad, cap, rfl, hm, hr, hc⟩ := hv
  obtain ⟨ad', cap', rfl, hm', hr', hc'⟩ := hu
  unfold maxLen at hm hm'
  have HL : Hid (xs.length = ys.length) := hl
  have HOK := hid hok
  have hok' := hok
  simp only [slipOk, Bool.and_eq_true, inB_iff, slipB_iff] at hok'
  obtain ⟨⟨⟨hc0, hc1⟩, ht, ha⟩, _⟩ := hok'
  have HT := hid ht
  have HA := hid ha
  have HX := hid hx
  have HY := hid hy
  clear hl hr hr' hok ht ha hx hy
  go_enter Try.func104, Try.ntmps104
  go_wp2
  go_loopw [11] (fun i wr => ∃ j : Nat, j ≤ xs.length ∧ i = .int .i64 j ∧ (∀ k, k < j → el ys k - el xs k = effF c t a k) ∧ ∃ n, wr = w.drewN n) (fun i wr => xs.length - (intOf i).toNat)
  case atStart => exact ⟨0, Nat.zero_le _, rfl, fun k hk => by omega, 0, rfl⟩
  case round =>
    obtain ⟨j, hj, rfl, HTT, n, hwr⟩ := hrel
    have HW := hid hwr
    clear hwr
    have HT' := hid HTT
    clear HTT
    by_cases hlt : j < xs.length
    · have hlt' : j < ys.length := by have := HL.out; omega
      obtain ⟨b, off, rfl, hb, hcell⟩ := hc j hlt
      obtain ⟨b', off', rfl, hb', hcell'⟩ := hc' j hlt'
      have hce : wr.cell? ⟨b, off + j, none⟩ = some (.int .i64 (el xs j)) := by rw [HW.out]; exact hcell j hlt
      have hce' : wr.cell? ⟨b', off' + j, none⟩ = some (.int .i64 (el ys j)) := by rw [HW.out]; exact hcell' j hlt'
      obtain ⟨x0, x1⟩ := HX.out j hlt
      obtain ⟨y0, y1⟩ := HY.out j hlt'
      have k1 : IntKind.i64.wrap (el ys j - el xs j) = el ys j - el xs j := IntWalk.i64_in _ (by omega)
      clear hc hc' hcell hcell'
      by_cases he : el ys j - el xs j = effF c t a j
      · have he1 : ((el ys j - el xs j) != effF c t a j) = false := by simpa using he
        have HE := hid he
        clear he
        go_wp2
        go_quiet ((go_at_call 113; exact cq (c_l4Effect _ _ _ _ _ (by omega) HT.out HA.out (by omega))))
        clear k1
        go_wp2
        go_roundw
        case rel => exact ⟨j + 1, by omega, by go_num, fun k hk => if e : k = j then e ▸ HE.out else HT'.out k (by omega), n + nq, by rw [HW.out, World.drewN_drewN]⟩
        case measure => simp [intOf]; omega
      · have he1 : ((el ys j - el xs j) != effF c t a j) = true := by simpa using he
        have HE := hid he
        clear he
        go_wp2
        go_quiet ((go_at_call 113; exact cq (c_l4Effect _ _ _ _ _ (by omega) HT.out HA.out (by omega))))
        clear k1
        go_wp2
        go_ret
        exact ⟨retB (same_no HOK.out hlt HE.out).symm, by rw [HW.out]; exact ((Chg.refl 0 0 w).drewN n).drewN nq⟩
    · clear hc hc'
      go_wp2
      go_ret
      exact ⟨retB (same_yes HOK.out fun k hk => HT'.out k (by omega)).symm, by rw [HW.out]; exact (Chg.refl 0 0 w).drewN n⟩
end Go.Proofs.Ytefdnkhmgefdaaa
