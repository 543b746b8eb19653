/- What is proved here: the walk of laws.FnSlipRun. -/
import Derived.Test.YtkaanlldjkflaaaSlM
import Derived.Test.YtkaanlldjkflaaaSlr2
import Derived.Test.YtkaanlldjkflaaaRws
import Derived.Test.YtkaanlldjkflaaaRws2
import Derived.Test.YtkaanlldjkflaaaErr2
import Derived.Test.YtkaanlldjkflaaaLaws1
set_option linter.unusedVariables false
set_option linter.unusedSimpArgs false
set_option maxRecDepth 100000
namespace Go.Proofs.Ytkaanlldjkflaaa
open Go.RowKit

theorem eff_bd {c : Nat} {t a n : Int} (hc : c ≤ 6) (ht : 0 ≤ t ∧ t ≤ 59) (hn : 0 ≤ n ∧ n ≤ 60) (ha : -100000 ≤ a ∧ a ≤ 100000) : -200000000000000000 ≤ effF c t a n ∧ effF c t a n ≤ 200000000000000000 := by
  unfold effF; split
  · omega
  · have h := ch_bd6 (n := n - t) (k := c) (by omega) hc
    obtain ⟨C, hC⟩ : ∃ C, chF (n - t) c = C := ⟨_, rfl⟩
    rw [hC] at h ⊢
    have h1 : a * C ≤ 100000 * 1064089721800 := by
      rcases Int.le_total 0 C with h0 | h0
      · exact Int.le_trans (Int.mul_le_mul_of_nonneg_right ha.2 h0) (Int.mul_le_mul_of_nonneg_left h.2 (by omega))
      · have : a * C = (-a) * (-C) := by rw [Int.neg_mul_neg]
        rw [this]
        exact Int.le_trans (Int.mul_le_mul_of_nonneg_right (show -a ≤ 100000 by omega) (by omega)) (Int.mul_le_mul_of_nonneg_left (show -C ≤ 1064089721800 by omega) (by omega))
    have h2 : -(100000 * 1064089721800) ≤ a * C := by
      have h3 : (-a) * C ≤ 100000 * 1064089721800 := by
        rcases Int.le_total 0 C with h0 | h0
        · exact Int.le_trans (Int.mul_le_mul_of_nonneg_right (show -a ≤ 100000 by omega) h0) (Int.mul_le_mul_of_nonneg_left h.2 (by omega))
        · have : (-a) * C = a * (-C) := by rw [Int.neg_mul, Int.mul_neg]
          rw [this]
          exact Int.le_trans (Int.mul_le_mul_of_nonneg_right ha.2 (show 0 ≤ -C by omega)) (Int.mul_le_mul_of_nonneg_left (show -C ≤ 1064089721800 by omega) (by omega))
      rw [Int.neg_mul] at h3; omega
    omega
set_option maxHeartbeats 3200000 in
theorem w_FnSlipRun (w : World) (v : Value) (nb : Nat) (hv : IsBy w w.heap.size v nb) :
    Calls Try.prog 6 #[v] w fun e w' => e = .returned (.bool true) ∧ Below w.heap.size w w' := by
  obtain ⟨a, cap, hva, hm, hc⟩ := id hv
  subst hva
  unfold maxLen at hm
  clear hc
  by_cases hbig : 1048576 < nb
  · clear hv
    go_enter Try.func6, Try.ntmps6
    go_wp2_with fail
    go_ret
    exact ⟨rfl, Below.refl _ _⟩
  · go_enter Try.func6, Try.ntmps6
    go_wp2_with fail
    refine (c_DrawRunWithSlip _ _ _ hv).mono ?_
    rintro e w1 ⟨ax, cx, cs, cnt, t, c, am, rfl, ⟨I1, I2, I3, I4⟩, hx, hcl, b1⟩
    have s1 := b1.size
    clear hv I1 I2 I3 I4
    have bX := RetRow.e1 w1 (.cells #[.slice ax cs.length cx] 27)
    have x0 := eng_cell w1 (.slice ax cs.length cx) 27
    have hxB := (hx.below bX (Nat.le_refl _)).up bX.size
    have b5 := b1.trans (bX.mono s1)
    obtain ⟨wB, hwB⟩ : ∃ y, w1.alloc (.cells #[.slice ax cs.length cx] 27) = y := ⟨_, rfl⟩
    rw [hwB] at x0 hxB b5
    have l0 := World.block_lt_of_cell? _ _ x0
    have HK := hid (fun (w' : World) (hb : Below wB.heap.size wB w') => (hb.cell (p := ⟨w1.heap.size, 0, none⟩) l0).trans x0)
    have HI := hid (fun (w' : World) (hb : Below wB.heap.size wB w') => (hxB.below hb (Nat.le_refl _)).up hb.size)
    have hlc : cs.length ≤ 1048576 := by omega
    have s5 := b5.size
    have b := Below.refl wB.heap.size wB
    have HOKD : Hid (rsOk cs cnt t c am = (EGV cs && (inB cnt 0 60 && (slipB c t am && decide (c < cs.length))))) := rfl
    have t1 : (rsOk cs cnt t c am != rsOk cs cnt t c am) = false := by simp
    have t9 : (rsOk cs cnt t c am == rsOk cs cnt t c am) = true := by simp
    clear hx bX l0
    go_wp2_with fail
    clear hwB x0
    refine (c_iRunWithSlip _ cs cnt t c am _ (HI.out _ b)).mono ?_
    rintro e wp ⟨vL, rfl, rL, cx2⟩
    have sp := cx2.size
    replace b := b.trans (cx2.mono b.size)
    clear cx2
    have x0 := HK.out _ b
    go_wp2_with fail
    clear x0
    refine (c_sRunWithSlip _ cs cnt t c am _ (HI.out _ b) hlc).mono ?_
    rintro e wq ⟨vW, rfl, rW, cx3⟩
    have sq := cx3.size
    replace b := b.trans (cx3.mono b.size)
    replace rL := rL.below cx3 (Nat.le_refl _)
    clear cx3
    obtain ⟨L, hL⟩ : ∃ L, rsF cs cnt t c am = L := ⟨_, rfl⟩
    have HL := hid hL
    rw [hL] at rL rW
    clear hL
    go_wp2_with fail
    refine (deSmC _ _ _ _ _ _ rL.isI rW.isI).mono ?_
    rintro e w3 ⟨rfl, cx⟩
    have s3 := cx.size
    replace rL := rL.keep cx (by omega)
    replace rW := rW.keep cx (by omega)
    replace b := b.trans (cx.below (by omega) (by omega))
    clear cx
    by_cases hok : rsOk cs cnt t c am = true
    · have hok1 := hok
      rw [HOKD.out] at hok1
      simp only [Bool.and_eq_true, decide_eq_true_eq] at hok1
      obtain ⟨hE, hC, hS, hL⟩ := hok1
      obtain ⟨hn0, hn1⟩ := inB_iff.1 hC
      obtain ⟨⟨c0, c1⟩, ⟨t0, t59⟩, a0, a1⟩ := slipB_iff.1 hS
      obtain ⟨n, rfl⟩ : ∃ n : Nat, cnt = n := ⟨cnt.toNat, by omega⟩
      obtain ⟨k, rfl⟩ : ∃ k : Nat, c = k := ⟨c.toNat, by omega⟩
      have HLE := hid (rsF_yes hok)
      have HSO := hid (show slipOk k t am n = true by simp [slipOk, hS, hC])
      have HSF := hid (show slipF k t am n = (List.range n).map fun i => effF k t am (i : Nat) by simp [slipF, hS, hC])
      have HE := hid hE
      have HPB := hid (plR_bd hE)
      have HRB := hid (rsR_bd (t := t) (c := k) (a := am) hE (show (k : Int).toNat < cs.length by simpa using hL))
      have HEB := hid (fun j (hj : j < n) => eff_bd (c := k) (t := t) (a := am) (n := ((j : Nat) : Int)) (by omega) ⟨t0, t59⟩ (by omega) ⟨a0, a1⟩)
      have HLAW := hid (fun j (hj : j < n) => slip_law (a := am) (t := t) (c := k) hE (by omega) (by omega) t0 (n := j) (by omega))
      have HZ := hid ((EGV_iff.1 hE).2 0 (by have := (EGV_iff.1 hE).1; omega)).1
      obtain ⟨n1, n7⟩ := (EGV_iff.1 hE).1
      have hz12 := (CV_iff.1 HZ.out).1
      obtain ⟨hz1, hz12⟩ := hz12
      have HLL := hid (show L.length = n by rw [← HL.out, HLE.out]; simp)
      have HLJ := hid (fun j (hj : j < n) => (show el L j = rsR cs t k am j by rw [← HL.out, HLE.out, el_map _ _ _ (by simpa using hj)]; simp))
      obtain ⟨P, hP⟩ : ∃ P, (List.range n).map (plR cs) = P := ⟨_, rfl⟩
      obtain ⟨F, hF⟩ : ∃ F, slipF k t am n = F := ⟨_, rfl⟩
      have HPL := hid (show P.length = n by rw [← hP]; simp)
      have HPJ := hid (fun j (hj : j < n) => (show el P j = plR cs j by rw [← hP, el_map _ _ _ (by simpa using hj)]; simp))
      have HFL := hid (show F.length = n by rw [← hF, HSF.out]; simp)
      have HFJ := hid (fun j (hj : j < n) => (show el F j = effF k t am (j : Nat) by rw [← hF, HSF.out, el_map _ _ _ (by simpa using hj)]; simp))
      have HCP := hid (fun W v (h : IsT W W.heap.size v cs) => (show Calls Try.prog 24 #[.agg #[v], .int .i64 n] W (RetRowB W P true) by rw [← hP]; exact c_iRunEngine v cs n W hE (by omega) h))
      have HCF := hid (fun W => (show Calls Try.prog 25 #[.int .i64 k, .int .i64 t, .int .i64 am, .int .i64 n] W (RetRowB W F true) by rw [← hF, ← HSO.out]; exact c_iSlipEffect W k t am n))
      rw [hok] at t1 t9
      rw [hok]
      have x0 := HK.out _ b
      clear hok hE hC hS hL hP hF t9
      go_wp2_with fail
      clear x0
      refine (HCP.out _ _ (HI.out _ b)).mono ?_
      rintro e wr ⟨vP, rfl, rP, cx⟩
      have sr := cx.size
      replace rL := rL.below cx (by omega)
      replace rW := rW.below cx (by omega)
      replace b := b.trans (cx.mono (by omega))
      clear cx
      go_wp2_with fail
      refine (HCF.out _).mono ?_
      rintro e wt ⟨vF, rfl, rF, cx⟩
      have st := cx.size
      replace rL := rL.below cx (by omega)
      replace rW := rW.below cx (by omega)
      replace b := b.trans (cx.mono (by omega))
      replace rP := rP.below cx (by omega)
      clear cx
      have hLI := rL.isI
      have hPI := rP.isI
      have hFI := rF.isI
      obtain ⟨aL, pL', rfl, -, -, hcL⟩ := hLI
      obtain ⟨aP, pP', rfl, -, -, hcP⟩ := hPI
      obtain ⟨aF, pF', rfl, -, -, hcF⟩ := hFI
      have HCL := hid hcL
      have HCPP := hid hcP
      have HCFF := hid hcF
      rw [HLL.out, HPL.out, HFL.out]
      have x0 := HK.out _ b
      obtain ⟨av, pv, hav, -, hcv⟩ := HI.out _ b
      simp only [Value.slice.injEq, true_and] at hav
      obtain ⟨rfl, rfl⟩ := hav
      obtain ⟨b0, o0, rfl, -, d0, -⟩ := hcv 0 (by omega)
      rw [Nat.add_zero] at d0
      have n2 : (0 : Int) < cs.length := by omega
      have n3 : 0 < cs.length := by omega
      clear hcL hcP hcF rL rP rF rW hcv
      go_wp2
      go_loopw [16, 17] (fun x i wx => ∃ j : Nat, j ≤ (tC cs 0).size ∧ i = .int .i64 j ∧ x = .int .i64 (ten j) ∧ wt = wx) (fun _ i _ => (tC cs 0).size - (intOf i).toNat)
      case atStart => exact ⟨0, Nat.zero_le _, rfl, rfl, rfl⟩
      case round =>
        obtain ⟨j, hj, rfl, rfl, rfl⟩ := hrel
        by_cases hlt : j < (tC cs 0).size
        · have hb : ten j ≤ 100000000000 := ten_mono (show j ≤ 11 by omega)
          have hp := ten_pos j
          go_wp2
          go_roundw
          case rel => exact ⟨j + 1, by omega, by go_num, by rw [ten_succ], trivial⟩
          case measure => simp [intOf]; omega
        · obtain rfl : j = (tC cs 0).size := by omega
          have hb := ten12 hz12
          have hp := ten_pos (tC cs 0).size
          go_wp2
          clear x0 d0
          go_loopw [18] (fun i wx => ∃ j : Nat, j ≤ n ∧ i = .int .i64 j ∧ Chg 0 0 wt wx) (fun i _ => n - (intOf i).toNat)
          case atStart => exact ⟨0, Nat.zero_le _, rfl, Chg.refl _ _ _⟩
          case round =>
            obtain ⟨j, hj, rfl, cr⟩ := hrel
            by_cases hlt : j < n
            · have cb := cr.below (B := wt.heap.size) (by omega) (Nat.le_refl _)
              obtain ⟨b1', o1, rfl, hb1, hc1⟩ := HCL.out j (by rw [HLL.out]; exact hlt)
              obtain ⟨b2', o2, rfl, hb2, hc2⟩ := HCPP.out j (by rw [HPL.out]; exact hlt)
              obtain ⟨b3', o3, rfl, hb3, hc3⟩ := HCFF.out j (by rw [HFL.out]; exact hlt)
              have f1 := (cb.cell (p := ⟨b1', o1 + j, none⟩) (show b1' < wt.heap.size by omega)).trans (hc1 j (by rw [HLL.out]; exact hlt))
              have f2 := (cb.cell (p := ⟨b2', o2 + j, none⟩) (show b2' < wt.heap.size by omega)).trans (hc2 j (by rw [HPL.out]; exact hlt))
              have f3 := (cb.cell (p := ⟨b3', o3 + j, none⟩) (show b3' < wt.heap.size by omega)).trans (hc3 j (by rw [HFL.out]; exact hlt))
              rw [HLJ.out j hlt] at f1
              rw [HPJ.out j hlt] at f2
              rw [HFJ.out j hlt] at f3
              obtain ⟨⟨q, hq⟩, hlow⟩ := HLAW.out j hlt
              obtain ⟨u0, u1⟩ := HRB.out j
              obtain ⟨v0, v1⟩ := HPB.out j
              obtain ⟨w0, w1'⟩ := HEB.out j hlt
              obtain ⟨U, hU⟩ : ∃ U, rsR cs t k am j = U := ⟨_, rfl⟩
              obtain ⟨V, hV⟩ : ∃ V, plR cs j = V := ⟨_, rfl⟩
              obtain ⟨E, hE⟩ : ∃ E, effF k t am (j : Nat) = E := ⟨_, rfl⟩
              rw [hU] at f1 hq hlow u0 u1
              rw [hV] at f2 hq hlow v0 v1
              rw [hE] at f3 hq w0 w1'
              have k1 : IntKind.i64.wrap (U - V) = U - V := IntWalk.i64_in _ (by omega)
              have k2 : IntKind.i64.wrap (U - V - E) = U - V - E := IntWalk.i64_in _ (by omega)
              have k3 : (U - V - E).tmod (ten (tC cs 0).size) = 0 := by rw [hq]; exact Int.mul_tmod_left _ _
              have q0 : (0 : Int) ≤ j := by omega
              have q1 : (j : Int) < n := by omega
              have hT0 : (ten (tC cs 0).size == 0) = false := by simp; omega
              clear hU hV hE hq hc1 hc2 hc3
              by_cases hjt : (j : Int) < t
              · have hUV : U = V := hlow hjt
                have k4 : (U != V) = false := by rw [hUV]; simp
                clear hUV hlow
                go_wp2_with fail
                go_quiet (fail)
                go_wp2
                go_roundw
                case rel => exact ⟨j + 1, by omega, by go_num, cr.drewN _⟩
                case measure => simp [intOf]; omega
              · have hjt2 : decide ((j : Int) < t) = false := by simpa using hjt
                have hjt3 : t ≤ (j : Int) := by omega
                clear hlow
                go_wp2_with fail
                go_quiet (fail)
                go_wp2
                go_roundw
                case rel => exact ⟨j + 1, by omega, by go_num, cr.drewN _⟩
                case measure => simp [intOf]; omega
            · obtain rfl : j = n := by omega
              have hng : ¬ (j : Int) < j := by omega
              go_wp2
              go_ret
              exact ⟨rfl, b5.trans ((b.trans ((cr.below (B := wB.heap.size) (by omega) (by omega)))).mono s5)⟩
    · have hok' : rsOk cs cnt t c am = false := by simpa using hok
      rw [hok'] at t1 t9
      rw [hok']
      clear hok
      go_wp2_with fail
      refine (deSmC _ _ _ _ _ _ rL.isI rW.isI).mono ?_
      rintro e w6 ⟨rfl, cx⟩
      have s6 := cx.size
      replace rL := rL.keep cx (by omega)
      replace rW := rW.keep cx (by omega)
      replace b := b.trans (cx.below (by omega) (by omega))
      clear cx
      go_wp2_with fail
      go_ret
      exact ⟨rfl, b5.trans (b.mono s5)⟩
end Go.Proofs.Ytkaanlldjkflaaa
