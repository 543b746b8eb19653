/- What is proved here: the walk of laws.FnApplyErrata. -/
import Derived.Test.YtefdnkhmgefdaaaDraw5
import Derived.Test.YtefdnkhmgefdaaaApl2
import Derived.Test.YtefdnkhmgefdaaaLaws1
set_option linter.unusedVariables false
set_option linter.unusedSimpArgs false
namespace Go.Proofs.Ytefdnkhmgefdaaa
open Go.RowKit

theorem ev_lt {zs : List Int} {n : Nat} (h : evB zs n = true) : ∀ d k, k + 1 + d < n → el zs (k * 3) < el zs ((k + 1 + d) * 3) := by
  intro d
  induction d with
  | zero =>
    intro k hk
    have := (e1B_iff.1 (evB_at h hk)).2.1
    rw [show (k + 1 + 0) * 3 - 3 = k * 3 by omega] at this
    omega
  | succ d ih =>
    intro k hk
    have h1 := ih k (by omega)
    have := (e1B_iff.1 (evB_at h hk)).2.1
    rw [show (k + 1 + (d + 1)) * 3 - 3 = (k + 1 + d) * 3 by omega] at this
    omega
theorem ev_lt' {zs : List Int} {n : Nat} (h : evB zs n = true) {k k' : Nat} (h1 : k < k') (h2 : k' < n) : el zs (k * 3) < el zs (k' * 3) := by
  have := ev_lt h (k' - (k + 1)) k (by omega)
  rwa [show k + 1 + (k' - (k + 1)) = k' by omega] at this
theorem ap_inv {ps zs : List Int} {n : Nat} (h : evB zs n = true) : ∀ {m out}, m ≤ n → apT ps zs m = some out →
    (∀ k, k < m → el zs (k * 3) < ps.length ∧ el ps (el zs (k * 3)).toNat = el zs (k * 3 + 1) ∧ el out (el zs (k * 3)).toNat = el zs (k * 3 + 2)) ∧ (∀ i : Nat, (∀ k, k < m → el zs (k * 3) ≠ i) → el out i = el ps i) := by
  intro m
  induction m with
  | zero =>
    intro out _ ho
    simp only [apT, Option.some.injEq] at ho
    subst ho
    exact ⟨fun k hk => by omega, fun i _ => rfl⟩
  | succ m ih =>
    intro out hm ho
    cases h1 : apT ps zs m with
    | none => rw [apT, h1] at ho; cases ho
    | some o =>
      obtain ⟨i1, i2⟩ := ih (by omega) h1
      have hp := (e1B_iff.1 (evB_at h (show m < n by omega))).1
      rw [apT, h1] at ho
      simp only at ho
      split at ho
      · cases ho
      · rename_i hc
        simp only [Option.some.injEq] at ho
        subst ho
        have hl := apT_len h1
        obtain ⟨c1, c2⟩ : ¬ (o.length : Int) ≤ el zs (m * 3) ∧ el o (el zs (m * 3)).toNat = el zs (m * 3 + 1) :=
          ⟨fun e => hc (.inl e), Classical.byContradiction fun e => hc (.inr e)⟩
        have hne : ∀ k, k < m → (el zs (m * 3)).toNat ≠ (el zs (k * 3)).toNat := by
          intro k hk
          have := ev_lt' h hk (by omega)
          have := (e1B_iff.1 (evB_at h (show k < n by omega))).1
          omega
        refine ⟨fun k hk => ?_, fun i hi => ?_⟩
        · by_cases e : k = m
          · subst e
            refine ⟨by omega, ?_, ?_⟩
            · rw [← c2]
              refine (i2 _ fun k' hk' => ?_).symm
              have := ev_lt' h hk' (by omega)
              omega
            · rw [el_set_same (by omega)]
          · obtain ⟨a1, a2, a3⟩ := i1 k (by omega)
            exact ⟨a1, a2, by rw [el_set_other (hne k (by omega))]; exact a3⟩
        · have := hi m (by omega)
          rw [el_set_other (by omega)]
          exact i2 i fun k hk => hi k (by omega)
theorem ap_ok {ps zs : List Int} {n : Nat} (hn : zs.length = n * 3) (h : apOk ps zs = true) : TB ps = true ∧ evB zs n = true ∧ apT ps zs n = some (apF ps zs) := by
  simp only [apOk, Bool.and_eq_true] at h
  obtain ⟨h1, h2, h3⟩ := h
  have h4 : zs.length / 3 = n := by omega
  rw [h4] at h3
  refine ⟨h1, ?_, ?_⟩
  · unfold EV at h2; rwa [h4] at h2
  · cases h5 : apT ps zs n with
    | none => rw [h5] at h3; cases h3
    | some o => rw [(ap_some hn h1 h2 h5).1]

set_option maxRecDepth 100000 in
set_option maxHeartbeats 3200000 in
theorem w_FnApplyErrata (w : World) (v : Value) (nb : Nat) (hv : IsBy w w.heap.size v nb) :
    Calls Try.prog 9 #[v] w fun e w' => e = .returned (.bool true) ∧ Below w.heap.size w w' := by
  obtain ⟨a, cap, hva, hm, hc⟩ := id hv
  subst hva
  unfold maxLen at hm
  clear hc
  by_cases hbig : 1048576 < nb
  · clear hv
    go_enter Try.func9, Try.ntmps9
    go_wp2_with fail
    go_ret
    exact ⟨rfl, Below.refl _ _⟩
  · go_enter Try.func9, Try.ntmps9
    go_wp2_with fail
    refine (c_DrawApplyErrata _ _ _ hv).mono ?_
    rintro e w1 ⟨vx, vz, ps, zs, rfl, hx, hz, b⟩
    have s1 := b.size
    clear hv
    go_wp2_with fail
    refine (c_iApplyErrata _ _ ps hx _ zs hz).mono ?_
    rintro e w3 ⟨v2, rfl, r2, c⟩
    have s3 := c.size
    replace hx := hx.below c (by omega)
    replace hz := hz.below c (by omega)
    replace b := b.trans (c.mono (by omega))
    clear c
    go_wp2_with fail
    refine (c_sApplyErrata _ _ ps (hx.up (by omega)) _ zs (hz.up (by omega))).mono ?_
    rintro e w4 ⟨v3, rfl, r3, c⟩
    have s4 := c.size
    replace hx := hx.below c (by omega)
    replace hz := hz.below c (by omega)
    replace b := b.trans (c.mono (by omega))
    replace r2 := r2.below c (by omega)
    clear c
    go_wp2_with fail
    refine (deSmC _ _ _ _ _ _ r2.isI r3.isI).mono ?_
    rintro e w5 ⟨rfl, c⟩
    have s5 := c.size
    replace hx := hx.chg c (by omega) (by omega)
    replace hz := hz.chg c (by omega) (by omega)
    replace b := b.trans (c.below (by omega) (by omega))
    replace r2 := r2.keep c (by omega)
    replace r3 := r3.keep c (by omega)
    clear c
    by_cases hok : apOk ps zs = true
    · have HOK := hid hok
      rw [hok]
      have t1 : (true != true) = false := rfl
      obtain ⟨n, az, capz, rfl, HL, hmz, -, hcz⟩ := hz
      obtain ⟨hT, hE, hA⟩ := ap_ok HL.out hok
      obtain ⟨i1, i2⟩ := ap_inv hE (Nat.le_refl _) hA
      have HLO := hid (apT_len hA)
      have HI1 := hid i1
      have HI2 := hid i2
      have HLT := hid (fun k k' => @ev_lt' zs n hE k k')
      have HE := hid (fun k (hk : k < n) => (e1B_iff.1 (evB_at hE hk)).1)
      have h60 := (TB_iff.1 hT).2.1
      have hi2 := r2.isI
      clear hok hT hE hA i1 i2 r2 r3
      generalize apF ps zs = out at *
      obtain ⟨ax, capx, rfl, hmx, -, hcx⟩ := hx
      obtain ⟨ao, capo, rfl, hmo, -, hco⟩ := hi2
      unfold maxLen at hmx hmo hmz
      have hlo := HLO.out
      generalize hnl : ps.length = m at *
      rw [hlo] at hco hmo ⊢
      have HNL := hid hnl
      clear hnl hlo
      have t2 : ((m : Int) == (m : Int)) = true := by simp
      have t3 : ((n : Int) == (n : Int)) = true := by simp
      go_wp2
      go_loopw [9, 10] (fun kc i wr => ∃ (j k : Nat), j ≤ m ∧ i = .int .i64 j ∧ k ≤ n ∧ kc = .int .i64 k ∧ Hid (∀ q, q < k → el zs (q * 3) < j) ∧ Hid (k < n → (j : Int) ≤ el zs (k * 3)) ∧ ∃ d, wr = w5.drewN d) (fun _ i _ => m - (intOf i).toNat)
      case atStart => exact ⟨0, 0, Nat.zero_le _, rfl, Nat.zero_le _, rfl, fun q hq => by omega, fun h => (HE.out 0 h).1, 0, rfl⟩
      case round =>
        obtain ⟨j, k, hj, rfl, hk, rfl, HA, HB, d, rfl⟩ := hrel
        by_cases hlt : j < m
        · obtain ⟨b1, o1, rfl, hb1, hcell1⟩ := hcx j hlt
          obtain ⟨b2, o2, rfl, hb2, hcell2⟩ := hco j hlt
          have g1 := hcell1 j hlt
          have g2 := hcell2 j hlt
          have q0 : 0 ≤ (j : Int) := by omega
          have q1 : (j : Int) < m := by omega
          clear hcx hco hcell1 hcell2
          by_cases hkn : k < n
          · obtain ⟨b3, o3, rfl, hb3, hcell3⟩ := hcz k hkn
            have g3 := hcell3 (k * 3) (by omega)
            have g4 : w5.cell? ⟨b3, o3 + k * 3 + 1, none⟩ = _ := hcell3 (k * 3 + 1) (by omega)
            have g5 : w5.cell? ⟨b3, o3 + k * 3 + 2, none⟩ = _ := hcell3 (k * 3 + 2) (by omega)
            have q2 : (k : Int) < n := by omega
            have q3 : 0 ≤ (k : Int) := by omega
            have HP := hid (HE.out k hkn)
            obtain ⟨e1, e2, e3⟩ := HI1.out k hkn
            have HBk := hid (HB.out hkn)
            clear hcz hcell3
            by_cases hp : el zs (k * 3) = j
            · rw [hp] at e2 e3
              rw [Int.toNat_natCast] at e2 e3
              rw [hp] at g3
              rw [← e2] at g4
              rw [← e3] at g5
              have HN1 := hid (show ∀ q, q < k + 1 → el zs (q * 3) < ((j + 1 : Nat) : Int) from fun q hq => by
                by_cases e : q = k
                · subst e; omega
                · have := HA.out q (by omega); omega)
              have HN2 := hid (show k + 1 < n → ((j + 1 : Nat) : Int) ≤ el zs ((k + 1) * 3) from fun h => by
                have := HLT.out k (k + 1) (by omega) h; omega)
              have t4 : ((j : Int) == (j : Int)) = true := by simp
              have t5 : (el out j != el out j) = false := by simp
              have t6 : (el ps j != el ps j) = false := by simp
              clear hp e1 e2 e3
              go_wp2_with fail
              go_quiet (fail)
              go_wp2
              go_roundw
              case rel => exact ⟨j + 1, k + 1, by omega, by go_num, by omega, by go_num, HN1, HN2, d + nq, rfl⟩
              case measure => simp [intOf]; omega
            · have t4 : (el zs (k * 3) == (j : Int)) = false := by simpa using hp
              have hout := HI2.out j (fun q hq => by
                rcases Nat.lt_trichotomy q k with h | h | h
                · have := HA.out q h; omega
                · subst h; exact hp
                · have := HLT.out k q h hq; have := HBk.out; omega)
              rw [hout] at g2
              have HN1 := hid (show ∀ q, q < k → el zs (q * 3) < ((j + 1 : Nat) : Int) from fun q hq => by have := HA.out q hq; omega)
              have HN2 := hid (show k < n → ((j + 1 : Nat) : Int) ≤ el zs (k * 3) from fun h => by have := HBk.out; omega)
              have t5 : (el ps j != el ps j) = false := by simp
              clear hp hout e1 e2 e3
              go_wp2_with fail
              go_quiet (fail)
              go_wp2
              go_roundw
              case rel => exact ⟨j + 1, k, by omega, by go_num, by omega, by go_num, HN1, HN2, d + nq, rfl⟩
              case measure => simp [intOf]; omega
          · obtain rfl : k = n := by omega
            have hout := HI2.out j (fun q hq => by have := HA.out q hq; omega)
            rw [hout] at g2
            have HN1 := hid (show ∀ q, q < k → el zs (q * 3) < ((j + 1 : Nat) : Int) from fun q hq => by have := HA.out q hq; omega)
            have HN2 := hid (show k < k → ((j + 1 : Nat) : Int) ≤ el zs (k * 3) from fun h => by omega)
            have t5 : (el ps j != el ps j) = false := by simp
            clear hout hcz
            go_wp2_with fail
            go_quiet (fail)
            go_wp2
            go_roundw
            case rel => exact ⟨j + 1, k, by omega, by go_num, by omega, by go_num, HN1, HN2, d + nq, rfl⟩
            case measure => simp [intOf]; omega
        · obtain rfl : j = m := by omega
          have hkn : k = n := by
            by_cases e : k < n
            · have := HB.out e
              have := (HI1.out k e).1
              have := HNL.out
              omega
            · omega
          subst hkn
          clear hcx hco hcz
          go_wp2
          go_ret
          exact ⟨rfl, bel_drewN b _⟩
    · have hok' : apOk ps zs = false := by simpa using hok
      have t1 : (false != false) = false := rfl
      rw [hok']
      clear hok
      go_wp2_with fail
      refine (deSmC _ _ _ _ _ _ r2.isI r3.isI).mono ?_
      rintro e w6 ⟨rfl, c⟩
      have s6 := c.size
      replace hx := hx.chg c (by omega) (by omega)
      replace hz := hz.chg c (by omega) (by omega)
      replace b := b.trans (c.below (by omega) (by omega))
      replace r2 := r2.keep c (by omega)
      replace r3 := r3.keep c (by omega)
      clear c
      go_wp2_with fail
      go_ret
      exact ⟨rfl, b⟩
end Go.Proofs.Ytefdnkhmgefdaaa
