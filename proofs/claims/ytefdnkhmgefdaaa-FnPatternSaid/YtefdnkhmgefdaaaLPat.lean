/- What is proved here: the walk of laws.FnPattern. -/
import Derived.Test.YtefdnkhmgefdaaaDraw3
import Derived.Test.YtefdnkhmgefdaaaPatM
import Derived.Test.YtefdnkhmgefdaaaDt
import Derived.Test.YtefdnkhmgefdaaaLaws1
set_option linter.unusedVariables false
set_option linter.unusedSimpArgs false
namespace Go.Proofs.Ytefdnkhmgefdaaa
open Go.RowKit

theorem epF_yes {o : Nat} {m : Int} (h : o ≤ 7) (h1 : -1000000000 ≤ m ∧ m ≤ 1000000000) : epF o m = patF o m := by
  unfold epF; rw [inB_yes (by omega) (by omega), inB_yes h1.1 h1.2]; rfl
theorem dN_bd8' {xs : List Int} (h : TB xs = true) {n : Nat} (hn : n ≤ 7) : Bd 1000000000000 (dN xs n) := by
  refine (dN_bd (TB_Bd h) n).mono ?_
  have : (2 : Int) ^ n ≤ 2 ^ 7 := by
    have h1 : (2 : Nat) ^ n ≤ 2 ^ 7 := Nat.pow_le_pow_right (by omega) hn
    exact_mod_cast h1
  omega

set_option maxRecDepth 100000 in
set_option maxHeartbeats 3200000 in
theorem w_FnPattern (w : World) (v : Value) (nb : Nat) (hv : IsBy w w.heap.size v nb) (u : Value) (mb : Nat) (hu : IsBy w w.heap.size u mb) :
    Calls Try.prog 11 #[v, u] w fun e w' => e = .returned (.bool true) ∧ Below w.heap.size w w' := by
  obtain ⟨a, cap, hva, hm, hc⟩ := id hv
  obtain ⟨a', cap', hua, hm', hc'⟩ := id hu
  subst hva
  subst hua
  unfold maxLen at hm hm'
  clear hc hc' hu
  by_cases hbig : 1048576 < nb
  · clear hv
    go_enter Try.func11, Try.ntmps11
    go_wp2_with fail
    go_ret
    exact ⟨rfl, Below.refl _ _⟩
  by_cases hbig2 : 1048576 < mb
  · clear hv
    go_enter Try.func11, Try.ntmps11
    go_wp2_with fail
    go_ret
    exact ⟨rfl, Below.refl _ _⟩
  go_enter Try.func11, Try.ntmps11
  go_wp2_with fail
  refine (c_DrawPutError _ _ _ hv).mono ?_
  rintro e w1 ⟨vx, xs, p, am, rfl, ⟨-, -⟩, hx, b⟩
  have s1 := b.size
  clear hv
  go_wp2_with fail
  refine (c_iPutError _ _ xs hx p am).mono ?_
  rintro e w4 ⟨v2, rfl, r2, c⟩
  have s4 := c.size
  replace hx := hx.below c (by omega)
  replace b := b.trans (c.mono (by omega))
  clear c
  go_wp2_with fail
  refine (c_sPutError _ _ xs (hx.up (by omega)) p am).mono ?_
  rintro e w5 ⟨v3, rfl, r3, c⟩
  have s5 := c.size
  replace hx := hx.below c (by omega)
  replace b := b.trans (c.mono (by omega))
  replace r2 := r2.below c (by omega)
  clear c
  go_wp2_with fail
  refine (deSmC _ _ _ _ _ _ r2.isI r3.isI).mono ?_
  rintro e w6 ⟨rfl, c⟩
  have s6 := c.size
  replace hx := hx.chg c (by omega) (by omega)
  replace b := b.trans (c.below (by omega) (by omega))
  replace r2 := r2.keep c (by omega)
  replace r3 := r3.keep c (by omega)
  clear c
  obtain ⟨ax, capx, hvx⟩ : ∃ a cap, vx = .slice a xs.length cap := ⟨_, _, hx.choose_spec.choose_spec.1⟩
  subst hvx
  by_cases hok : putOk xs p am = true
  · obtain ⟨hT, ⟨p0, p1⟩, ⟨a0, a1⟩, hpb⟩ := putOk_iff.1 hok
    obtain ⟨k, rfl⟩ : ∃ k : Nat, p = k := ⟨p.toNat, by omega⟩
    have t1 : (true != true) = false := rfl
    rw [hok]
    by_cases h30 : 30 < xs.length
    · have h30' : (30 : Int) < xs.length := by omega
      clear hok h30 hT hpb
      go_wp2_with fail
      refine (deSmC _ _ _ _ _ _ r2.isI r3.isI).mono ?_
      rintro e w7 ⟨rfl, c⟩
      have s7 := c.size
      replace hx := hx.chg c (by omega) (by omega)
      replace b := b.trans (c.below (by omega) (by omega))
      replace r2 := r2.keep c (by omega)
      replace r3 := r3.keep c (by omega)
      clear c
      go_wp2_with fail
      go_ret
      exact ⟨rfl, b⟩
    · have hka : k < xs.length := by omega
      have HF := hid (putF_ok hok)
      have hT2 : TB (putF xs k am) = true := by rw [HF.out, Int.toNat_natCast, TB_set hT hka]; exact inB_iff.2 hpb
      have HT := hid hT
      have HT2 := hid hT2
      have HFL := hid (show (putF xs k am).length = xs.length by rw [HF.out]; simp)
      have HP := hid (fun o ho j hj => show el (dN (putF xs k am) o) j = el (dN xs o) j + am * co o k j by rw [HF.out]; exact dN_put hka o ho j hj)
      have HD1 := hid (show dtN xs = xs.length by unfold dtN; rw [hT, decide_eq_true (by omega)]; rfl)
      have HD2 := hid (show dtN (putF xs k am) = xs.length by unfold dtN; rw [hT2, HFL.out, decide_eq_true (by omega)]; rfl)
      clear hok hT hT2 hpb r3 HF
      generalize putF xs k am = ys at *
      obtain ⟨o, ho⟩ : ∃ o, mb % 8 = o := ⟨_, rfl⟩
      have ho7 : o ≤ 7 := by omega
      have hmod : (mb : Int) % 8 = (o : Int) := by omega
      have HEP := hid (epF_yes (m := am) ho7 ⟨a0, a1⟩)
      have HPL := hid (patF_len o am)
      clear ho
      go_wp2_with fail
      refine (c_iErrorPattern o am _).mono ?_
      rintro e w8 ⟨v6, rfl, r6, c⟩
      have s8 := c.size
      replace hx := hx.below c (by omega)
      replace b := b.trans (c.mono (by omega))
      replace r2 := r2.below c (by omega)
      clear c
      rw [HEP.out] at r6
      go_wp2_with fail
      refine (c_iDiffTable _ _ xs (hx.up (by omega))).mono ?_
      rw [HD1.out]
      rintro e wA ⟨v7, rfl, r7, c⟩
      have s7 := c.size
      replace hx := hx.below c (by omega)
      replace b := b.trans (c.mono (by omega))
      replace r2 := r2.below c (by omega)
      replace r6 := r6.below c (by omega)
      clear c
      go_wp2_with fail
      refine (c_iDiffTable _ _ ys (r2.isI.up (by omega))).mono ?_
      rw [HD2.out]
      rintro e wB ⟨v8, rfl, r8, c⟩
      have s8 := c.size
      replace hx := hx.below c (by omega)
      replace b := b.trans (c.mono (by omega))
      replace r2 := r2.below c (by omega)
      replace r6 := r6.below c (by omega)
      replace r7 := r7.below c (by omega)
      clear c
      have i6 := r6.isI
      obtain ⟨a6, cap6, h6, hm6, -, hc6⟩ := r6.isI
      subst h6
      rw [HPL.out] at hc6 hm6 ⊢
      unfold maxLen at hm6
      have t6 : (((o + 1 : Nat) : Int) == (o : Int) + 1) = true := by simp
      obtain ⟨a7, cap7, rfl, hm7, hc7⟩ := r7
      obtain ⟨a8, cap8, rfl, hm8, hc8⟩ := r8
      unfold maxLen at hm7 hm8
      by_cases hno : xs.length ≤ o
      · have hno' : (xs.length : Int) ≤ o := by omega
        clear hc6 hc7 hc8
        go_wp2_with fail
        go_ret
        exact ⟨rfl, b⟩
      · have hno' : ¬ (xs.length : Int) ≤ o := by omega
        have hno2 : o < xs.length := by omega
        have hno3 : (o : Int) < xs.length := by omega
        obtain ⟨b7, o7, u7, ha7, hb7, hcell7, hi7⟩ := hc7 o hno2
        obtain ⟨b8, o8, u8, ha8, hb8, hcell8, hi8⟩ := hc8 o hno2
        subst ha7
        subst ha8
        have HL7 := hid (dN_len xs o)
        have HL8 := hid (show (dN ys o).length = xs.length - o by rw [dN_len, HFL.out])
        have HB7 := hid (dN_bd8' HT.out ho7)
        have HB8 := hid (dN_bd8' HT2.out ho7)
        obtain ⟨c7a, c7c, rfl, hcm7, -, hcc7⟩ := hi7
        obtain ⟨c8a, c8c, rfl, hcm8, -, hcc8⟩ := hi8
        rw [HL7.out] at hcell7 hcc7 hcm7
        rw [HL8.out] at hcell8 hcc8 hcm8
        unfold maxLen at hcm7 hcm8
        have q0 : 0 ≤ (o : Int) := by omega
        clear hc7 hc8
        obtain ⟨n, hn⟩ : ∃ n, xs.length - o = n := ⟨_, rfl⟩
        rw [hn] at hcell7 hcc7 hcm7 hcell8 hcc8 hcm8
        have HN := hid hn
        have hn30 : (n : Int) ≤ 30 := by omega
        have hk30 : (k : Int) ≤ 30 := by omega
        clear hn
        go_wp2
        go_loopw [16] (fun i wr => ∃ j : Nat, j ≤ n ∧ i = .int .i64 j ∧ ∃ m, wr = wB.drewN m) (fun i _ => n - (intOf i).toNat)
        case atStart => exact ⟨0, Nat.zero_le _, rfl, 0, rfl⟩
        case round =>
          obtain ⟨j, hj, rfl, m, rfl⟩ := hrel
          by_cases hlt : j < n
          · obtain ⟨b1, o1, rfl, hb1, hce1⟩ := hcc7 j hlt
            obtain ⟨b2, o2, rfl, hb2, hce2⟩ := hcc8 j hlt
            have g1 := hce1 j hlt
            have g2 := hce2 j hlt
            have hP := HP.out o ho7 j (by have := HN.out; omega)
            obtain ⟨x0, x1⟩ := HB7.out j (by rw [HL7.out, HN.out]; exact hlt)
            obtain ⟨y0, y1⟩ := HB8.out j (by rw [HL8.out, HN.out]; exact hlt)
            have q1 : 0 ≤ (j : Int) := by omega
            have q2 : (j : Int) < n := by omega
            clear hcc7 hcc8 hce1 hce2
            by_cases hin : j ≤ k ∧ k ≤ j + o
            · obtain ⟨i1, i2⟩ := hin
              obtain ⟨b6, o6, rfl, hb6, hce6⟩ := hc6 (j + o - k) (by omega)
              have g6 := hce6 (j + o - k) (by omega)
              rw [pat_co ho7 i1 i2] at g6
              generalize am * co o k j = D at *
              generalize el (dN ys o) j = Y at *
              generalize el (dN xs o) j = X at *
              have kk : IntKind.i64.wrap (Y - X) = D := by rw [show Y - X = D by omega]; exact IntWalk.i64_in _ (by omega)
              have k1 : 0 ≤ (j : Int) - k + o := by omega
              have k2 : (j : Int) - k + o ≤ o := by omega
              have k3 : (j : Int) ≤ k := by omega
              have k4 : ((j : Int) - k + o).toNat = j + o - k := by omega
              have k5 : (j : Int) - k + o < ((o + 1 : Nat) : Int) := by omega
              have k6 : (D != D) = false := by simp
              clear hc6 hce6 hP
              go_wp2_with fail
              go_quiet (fail)
              go_wp2
              go_roundw
              case rel => exact ⟨j + 1, by omega, by go_num, m + nq, rfl⟩
              case measure => simp [intOf]; omega
            · have hP0 : el (dN ys o) j = el (dN xs o) j := by rw [hP, co_out (by omega), Int.mul_zero, Int.add_zero]
              rw [hP0] at g2
              generalize el (dN xs o) j = X at *
              have kk : IntKind.i64.wrap (X - X) = 0 := by rw [Int.sub_self]; rfl
              have hsp : ((j : Int) - k + o < 0 ∧ (j : Int) + o < k) ∨ (0 ≤ (j : Int) - k + o ∧ (o : Int) < (j : Int) - k + o ∧ (k : Int) < j) := by omega
              clear hc6 hP hP0 hin
              rcases hsp with ⟨k1, k2⟩ | ⟨k1, k2, k3⟩
              all_goals
                go_wp2_with fail
                go_quiet (fail)
                go_wp2
                go_roundw
                case rel => exact ⟨j + 1, by omega, by go_num, m + nq, rfl⟩
                case measure => simp [intOf]; omega
          · obtain rfl : j = n := by omega
            clear hc6 hcc7 hcc8
            go_wp2_with fail
            refine (c_sErrorPattern o am _).mono ?_
            rw [HEP.out]
            rintro e w9 ⟨v9, rfl, r9, c9⟩
            have s9 : wB.heap.size ≤ w9.heap.size := c9.size
            have bm := bel_drewN b m
            have i66 : IsI w9 wB.heap.size (.slice a6 (o + 1) cap6) (patF o am) := by
              have := ((i6.up (B' := wB.heap.size) (by omega)).drewN m).below c9 (Nat.le_refl _)
              rw [HPL.out] at this
              exact this
            have sB := b.size
            replace bm := bm.trans (c9.mono (by show w.heap.size ≤ wB.heap.size; omega))
            go_wp2_with fail
            refine (deSmC _ _ _ _ _ _ i66 r9.isI).mono ?_
            rintro e w10 ⟨rfl, c10⟩
            replace bm := bm.trans (c10.below (by omega) (by omega))
            go_wp2_with fail
            go_ret
            exact ⟨rfl, bm⟩
  · have hok' : putOk xs p am = false := by simpa using hok
    have t1 : (false != false) = false := rfl
    rw [hok']
    clear hok
    go_wp2_with fail
    refine (deSmC _ _ _ _ _ _ r2.isI r3.isI).mono ?_
    rintro e w11 ⟨rfl, c⟩
    have s11 := c.size
    replace hx := hx.chg c (by omega) (by omega)
    replace b := b.trans (c.below (by omega) (by omega))
    replace r2 := r2.keep c (by omega)
    replace r3 := r3.keep c (by omega)
    clear c
    go_wp2_with fail
    go_ret
    exact ⟨rfl, b⟩
end Go.Proofs.Ytefdnkhmgefdaaa
