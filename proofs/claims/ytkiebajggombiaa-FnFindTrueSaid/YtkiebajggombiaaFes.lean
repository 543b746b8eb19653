/- What is proved here: contracts of spec's l4Coefficient, l4Guess, l4Explains and FindError. -/
import Derived.Test.YtkiebajggombiaaFe
set_option linter.unusedVariables false
set_option linter.unusedSimpArgs false
namespace Go.Proofs.Ytkiebajggombiaa
open Go.RowKit

theorem c_l4SignZ (k : Nat) (z : Int) (w : World) (hz : z = (k : Nat)) (hk : k ≤ 4611686018427387904) :
    Calls Try.prog 111 #[.int .i64 z] w fun e w' => e = .returned (.int .i64 (sgn k)) ∧ w = w' := by subst hz; exact c_l4Sign k w hk
theorem c_l2ChooseZ (n : Int) (k : Nat) (z : Int) (w : World) (hz : z = (k : Nat)) (hn : -300 ≤ n ∧ n ≤ 300) (hk : k ≤ 7) :
    Calls Try.prog 112 #[.int .i64 n, .int .i64 z] w fun e w' => e = .returned (.int .i64 (chF n k)) ∧ w = w' := by subst hz; exact c_l2Choose n k w hn hk
theorem c_l4Coefficient (o a j : Nat) (w : World) (ho : o ≤ 7) (ha : a ≤ 100) (hj : j ≤ 100) :
    Calls Try.prog 102 #[.int .i64 o, .int .i64 a, .int .i64 j] w fun e w' => e = .returned (.int .i64 (co o a j)) ∧ w = w' := by
  have HI := hid (fun h1 h2 => @co_in o a j h1 h2)
  have HO := hid (@co_out o a j)
  by_cases h1 : j ≤ a
  · by_cases h2 : a ≤ j + o
    · have HV := hid (HI.out h1 h2)
      have hs := ch_small o (by omega) (a - j) (by omega)
      obtain ⟨s0, s1⟩ := hs
      have hsg : -1 ≤ sgn (j + o - a) ∧ sgn (j + o - a) ≤ 1 := by rcases sgn_cases (j + o - a) with e | e <;> rw [e] <;> omega
      have hm := mul_bd (a := sgn (j + o - a)) (b := chF o (a - j)) (A := 1) (B := 100) (by omega) hsg.1 hsg.2 s0 s1
      obtain ⟨m0, m1⟩ := hm
      clear hsg
      go_enter Try.func102, Try.ntmps102
      go_wp2_with fail
      refine (c_l4SignZ (j + o - a) _ _ (by omega) (by omega)).mono ?_
      rintro e w' ⟨rfl, rfl⟩
      go_wp2_with fail
      refine (c_l2ChooseZ _ (a - j) _ _ (by omega) (by omega) (by omega)).mono ?_
      rintro e w' ⟨rfl, rfl⟩
      go_wp2
      go_ret
      exact ⟨retI HV.out.symm, rfl⟩
    · have HV := hid (HO.out (by omega))
      have h3 : (j : Int) + o < a := by omega
      go_enter Try.func102, Try.ntmps102
      go_wp2
      go_ret
      exact ⟨retI HV.out.symm, rfl⟩
  · have HV := hid (HO.out (by omega))
    have h3 : (a : Int) < j := by omega
    go_enter Try.func102, Try.ntmps102
    go_wp2
    go_ret
    exact ⟨retI HV.out.symm, rfl⟩
set_option maxHeartbeats 800000 in
theorem c_l4Guess (v : Value) (row : List Int) (o a : Nat) (z : Int) (w : World) (hzo : z = (o : Nat)) (hv : IsI w w.heap.size v row) (ho : o ≤ 7) (hb : Bd 1000000000000 row) (hf : a - o < row.length) (hl : row.length ≤ 60) (ha : a ≤ 100) :
    Calls Try.prog 80 #[v, .int .i64 z, .int .i64 a] w fun e w' => e = .returned (.int .i64 (gsS row o a)) ∧ w = w' := by
  subst hzo
  have hbd := gs_bd hb hf ho (by omega)
  have HCN := hid (co_ne (o := o) (a := a) (j := a - o) ho (by omega) (by omega))
  have HG : Hid (gsF row o a = (el row (a - o)).tdiv (co o a (a - o))) := rfl
  have HS0 := hid (fun h : (el row (a - o)).tmod (co o a (a - o)) ≠ 0 => show gsS row o a = 0 by unfold gsS; rw [if_pos h])
  have HS1 := hid (fun h : (el row (a - o)).tmod (co o a (a - o)) = 0 => show gsS row o a = gsF row o a by unfold gsS; rw [if_neg (by omega)])
  have HOUT := hid (fun j (hj : j < a - o) => co_out (o := o) (a := a) (j := j) (by omega))
  have hcb := co_bd (o := o) (a := a) (j := a - o) ho
  obtain ⟨cb0, cb1⟩ := hcb
  obtain ⟨A0, A1⟩ := hbd
  have hx := hb (a - o) hf
  obtain ⟨x0, x1⟩ := hx
  obtain ⟨F, hF⟩ : ∃ F, a - o = F := ⟨_, rfl⟩
  rw [hF] at HCN HG HS0 HS1 HOUT hf cb0 cb1 x0 x1
  generalize gsF row o a = A at *
  generalize gsS row o a = S at *
  have HF := hid hF
  obtain ⟨ad, cap, rfl, hm, -, hc⟩ := hv
  unfold maxLen at hm
  clear hb hF
  go_enter Try.func80, Try.ntmps80
  go_wp2
  go_loop [7] (fun i => ∃ j : Nat, j ≤ F ∧ i = .int .i64 j) (fun i => row.length - (intOf i).toNat)
  case atStart => exact ⟨0, Nat.zero_le _, rfl⟩
  case round =>
    obtain ⟨j, hj, rfl⟩ := hrel
    by_cases hlt : j < F
    · have hco := HOUT.out j hlt
      have hc0 : (co o a j != 0) = false := by rw [hco]; rfl
      have hjl : (j : Int) < row.length := by omega
      clear hco hc
      go_wp2_with (go_at_call 102; refine (c_l4Coefficient o a j _ ho ha (by omega)).mono ?_; rintro e w' ⟨rfl, rfl⟩)
      go_round
      case rel => exact ⟨j + 1, by omega, by go_num⟩
      case measure => simp [intOf]; omega
    · obtain rfl : j = F := by omega
      obtain ⟨b, off, rfl, hbb, hcell⟩ := hc j hf
      have g1 := hcell j hf
      have hc0 : (co o a j != 0) = true := by simpa using HCN.out
      have hc1 : ¬ co o a j = 0 := HCN.out
      have hjl : (j : Int) < row.length := by omega
      have hq : (el row j).tdiv (co o a j) = A := HG.out.symm
      have hq0 : IntKind.i64.wrap ((el row j).tdiv (co o a j)) = A := by rw [hq]; exact IntWalk.i64_in _ (by omega)
      have HQ := hid hq
      clear hc hcell hq
      by_cases hm0 : (el row j).tmod (co o a j) = 0
      · have hm1 : ((el row j).tmod (co o a j) != 0) = false := by rw [hm0]; rfl
        have HR := hid (HS1.out hm0)
        clear hm0
        go_wp2_with (go_at_call 102; refine (c_l4Coefficient o a j _ ho ha (by omega)).mono ?_; rintro e w' ⟨rfl, rfl⟩)
        go_ret
        exact ⟨retI HR.out.symm, rfl⟩
      · have hm1 : ((el row j).tmod (co o a j) != 0) = true := by simpa using hm0
        have HR := hid (HS0.out hm0)
        clear hm0
        go_wp2_with (go_at_call 102; refine (c_l4Coefficient o a j _ ho ha (by omega)).mono ?_; rintro e w' ⟨rfl, rfl⟩)
        go_ret
        exact ⟨retI HR.out.symm, rfl⟩

theorem c_l4Explains (v : Value) (row : List Int) (o a : Nat) (m z : Int) (w : World) (hzo : z = (o : Nat)) (hv : IsI w w.heap.size v row) (ho : o ≤ 7) (hl : row.length ≤ 60) (ha : a ≤ 100) (hm0 : -1000000000000 ≤ m) (hm1 : m ≤ 1000000000000) :
    Calls Try.prog 81 #[v, .int .i64 z, .int .i64 a, .int .i64 m] w fun e w' => e = .returned (.bool (exA row o a m)) ∧ Chg 0 0 w w' := by
  subst hzo
  have HXI := hid (exA_iff (row := row) (o := o) (a := a) (m := m))
  have HXN := hid (fun j (hj : j < row.length) => exA_no (row := row) (o := o) (a := a) (m := m) hj)
  obtain ⟨ad, cap, rfl, hm, -, hc⟩ := hv
  unfold maxLen at hm
  go_enter Try.func81, Try.ntmps81
  go_wp2
  go_loopw [9] (fun i wr => ∃ j : Nat, j ≤ row.length ∧ i = .int .i64 j ∧ Hid (∀ q, q < j → el row q = m * co o a q) ∧ Chg 0 0 w wr) (fun i _ => row.length - (intOf i).toNat)
  case atStart => exact ⟨0, Nat.zero_le _, rfl, fun q hq => by omega, Chg.refl _ _ _⟩
  case round =>
    obtain ⟨j, hj, rfl, HA, cr⟩ := hrel
    by_cases hlt : j < row.length
    · obtain ⟨b, off, rfl, hbb, hcell⟩ := hc j hlt
      have g1 := ((cr.below (B := w.heap.size) (by omega) (Nat.le_refl _)).cell (p := ⟨b, off + j, none⟩) hbb).trans (hcell j hlt)
      have hj100 : j ≤ 100 := by omega
      have hcb := co_bd (o := o) (a := a) (j := j) ho
      have hmb := mul_bd (a := m) (b := co o a j) (A := 1000000000000) (B := 100) (by omega) hm0 hm1 hcb.1 hcb.2
      have k1 : IntKind.i64.wrap (m * co o a j) = m * co o a j := IntWalk.i64_in _ (by omega)
      have q0 : 0 ≤ (j : Int) := by omega
      have q1 : (j : Int) < row.length := by omega
      clear hc hcell hmb hcb
      by_cases hq : el row j = m * co o a j
      · have hq' : (el row j != m * co o a j) = false := by rw [hq]; simp
        have HN := hid (show ∀ q, q < j + 1 → el row q = m * co o a q from fun q hq2 => by
          by_cases e : q = j
          · subst e; exact hq
          · exact HA.out q (by omega))
        clear hq
        go_wp2_with fail
        go_quiet ((go_at_call 102; exact cq (c_l4Coefficient o a j _ ho ha hj100)))
        go_wp2
        go_roundw
        case rel => exact ⟨j + 1, by omega, by go_num, HN, cr.drewN nq⟩
        case measure => simp [intOf]; omega
      · have hq' : (el row j != m * co o a j) = true := by simpa using hq
        have HN := hid (HXN.out j hlt hq)
        clear hq
        go_wp2_with fail
        go_quiet ((go_at_call 102; exact cq (c_l4Coefficient o a j _ ho ha hj100)))
        go_wp2
        go_ret
        refine ⟨retB HN.out.symm, ?_⟩
        exact cr.drewN nq
    · obtain rfl : j = row.length := by omega
      have HN := hid (HXI.out.2 HA.out)
      clear hc
      go_wp2
      go_ret
      exact ⟨retB HN.out.symm, cr⟩
theorem gsS_bd {row : List Int} {o a : Nat} (hb : Bd 1000000000000 row) (hf : a - o < row.length) (ho : o ≤ 7) : -1000000000000 ≤ gsS row o a ∧ gsS row o a ≤ 1000000000000 := by
  have := gs_bd hb hf ho (by omega)
  unfold gsS; split <;> omega
theorem gsS_eq {row : List Int} {o a : Nat} (h : exB row o a = true) (hz : az row = false) (hf : a - o < row.length) (ho : o ≤ 7) : gsS row o a = gsF row o a := by
  have h1 := ((ex_same hz hf ho).2 h).1
  unfold gsS at h1 ⊢; split
  · rename_i h2; rw [if_pos h2] at h1; exact absurd rfl h1
  · rfl
theorem c_l4RowZ (v : Value) (xs : List Int) (n : Nat) (z : Int) (w : World) (hz : z = (n : Nat)) (hv : IsI w w.heap.size v xs) (hT : TB xs = true) (hn : n ≤ 7) :
    Calls Try.prog 78 #[v, .int .i64 z] w (RetI w (dN xs n)) := by subst hz; exact c_l4Row v xs n w hv hT hn
set_option maxHeartbeats 800000 in
theorem c_sFindError (w : World) (v : Value) (xs : List Int) (hv : IsI w w.heap.size v xs) (d : Int) :
    Calls Try.prog 37 #[v, .int .i64 d] w (RetFe w (feF xs d)) := by
  obtain ⟨a, cap, hva⟩ : ∃ a cap, v = .slice a xs.length cap := ⟨_, _, hv.choose_spec.choose_spec.1⟩
  subst hva
  by_cases hok : feOk xs d = true
  · obtain ⟨hT, ⟨d0, d1⟩, hl⟩ := feOk_iff.1 hok
    obtain ⟨k, rfl⟩ : ∃ k : Nat, d = k := ⟨d.toNat, by omega⟩
    have h60 := (TB_iff.1 hT).2.1
    have HT := hid hT
    have HOK := hid hok
    have hd1 : inB (k : Int) 0 6 = true := inB_yes d0 d1
    have hlen : (dN xs (k + 1)).length = xs.length - (k + 1) := dN_len _ _
    have HLEN := hid hlen
    have HB := hid (dN_bd8 hT (show k + 1 ≤ 7 by omega))
    clear hT hok hlen
    go_enter Try.func37, Try.ntmps37
    go_wp2_with fail
    refine (c_sTableValid _ xs _ _ hv).mono ?_
    rw [HT.out]
    rintro e wx ⟨rfl, rfl⟩
    go_wp2_with fail
    refine (c_l4Degree _ _).mono ?_
    rw [hd1]
    rintro e wx ⟨rfl, rfl⟩
    go_wp2_with fail
    refine (c_l4RowZ _ xs (k + 1) _ _ (by omega) hv HT.out (by omega)).mono ?_
    rintro e w1 ⟨v1, rfl, hi1, b1⟩
    have s1 := b1.size
    by_cases hz : az (dN xs (k + 1)) = true
    · have HR := hid (feF_none HOK.out hz)
      go_wp2_with fail
      refine (c_l2Zero _ _ _ _ hi1).mono ?_
      rw [hz]
      rintro e wx ⟨rfl, rfl⟩
      clear hz
      go_wp2
      go_ret3
      exact retFe HR.out rfl b1
    · have hz' : az (dN xs (k + 1)) = false := by simpa using hz
      have HZ := hid hz'
      go_wp2_with fail
      refine (c_l2Zero _ _ _ _ hi1).mono ?_
      rw [hz']
      rintro e wx ⟨rfl, rfl⟩
      clear hz hz'
      go_wp2
      go_loopw [8] (fun i wr => ∃ j : Nat, j ≤ xs.length ∧ i = .int .i64 j ∧ Hid (feS (dN xs (k + 1)) (k + 1) 0 xs.length = feS (dN xs (k + 1)) (k + 1) j (xs.length - j)) ∧ Chg 0 0 w1 wr) (fun i _ => xs.length - (intOf i).toNat)
      case atStart => exact ⟨0, Nat.zero_le _, rfl, rfl, Chg.refl _ _ _⟩
      case round =>
        obtain ⟨j, hj, rfl, HS, hch⟩ := hrel
        have hws := hch.size
        have hi := hi1.chg hch (by omega) (Nat.le_refl _)
        have hbel := b1.trans (hch.below (B := w.heap.size) (by omega) s1)
        by_cases hlt : j < xs.length
        · have HDN := hid (show xs.length - j = (xs.length - (j + 1)) + 1 by omega)
          have hf : j - (k + 1) < (dN xs (k + 1)).length := by rw [HLEN.out]; omega
          have hl6 : (dN xs (k + 1)).length ≤ 60 := by rw [HLEN.out]; omega
          have hgb := gsS_bd (o := k + 1) (a := j) HB.out hf (by omega)
          obtain ⟨gb0, gb1⟩ := hgb
          have HSAME := hid (ex_same (o := k + 1) (a := j) HZ.out hf (by omega))
          have HGE := hid (fun h : exB (dN xs (k + 1)) (k + 1) j = true => gsS_eq h HZ.out hf (by omega))
          have hjl : (j : Int) < xs.length := by omega
          go_wp2_with fail
          refine (c_l4Guess _ _ (k + 1) j _ _ (by omega) (hi.up hws) (by omega) HB.out hf hl6 (by omega)).mono ?_
          rintro e wx ⟨rfl, rfl⟩
          generalize hg : gsS (dN xs (k + 1)) (k + 1) j = G at *
          have HG := hid hg
          clear hg
          by_cases hE : exB (dN xs (k + 1)) (k + 1) j = true
          · have HR := hid (feF_one HOK.out HZ.out (by rw [HS.out, HDN.out]; exact feS_hit hE))
            obtain ⟨hn0, hex⟩ := HSAME.out.2 hE
            have HV := hid (HGE.out hE)
            have hn1 : (G != 0) = true := by simpa using hn0
            clear hn0 hE HSAME HGE
            go_wp2_with fail
            refine (c_l4Explains _ _ (k + 1) j G _ _ (by omega) (hi.up hws) (by omega) hl6 (by omega) gb0 gb1).mono ?_
            rw [hex]
            rintro e w2 ⟨rfl, c2⟩
            clear hex
            go_wp2
            go_ret3
            exact retFe HR.out (by rw [← HV.out]; rfl) (hbel.trans (c2.below (by omega) (by omega)))
          · have hE' : exB (dN xs (k + 1)) (k + 1) j = false := by simpa using hE
            have HM := hid (feS_miss (n := xs.length - (j + 1)) hE')
            by_cases hn0 : G = 0
            · have hn1 : (G != 0) = false := by rw [hn0]; rfl
              clear hn0 hE hE' HSAME HGE HG
              go_wp2
              go_roundw
              case rel => exact ⟨j + 1, by omega, by go_num, by show _ = _; rw [HS.out, HDN.out]; exact HM.out, hch⟩
              case measure => simp [intOf]; omega
            · have hn1 : (G != 0) = true := by simpa using hn0
              have hex : exA (dN xs (k + 1)) (k + 1) j G = false := by
                by_cases h : exA (dN xs (k + 1)) (k + 1) j G = true
                · exact absurd (HSAME.out.1 ⟨hn0, h⟩) hE
                · simpa using h
              clear hn0 hE hE' HSAME HGE HG
              go_wp2_with fail
              refine (c_l4Explains _ _ (k + 1) j G _ _ (by omega) (hi.up hws) (by omega) hl6 (by omega) gb0 gb1).mono ?_
              rw [hex]
              rintro e w2 ⟨rfl, c2⟩
              clear hex
              go_wp2
              go_roundw
              case rel => exact ⟨j + 1, by omega, by go_num, by show _ = _; rw [HS.out, HDN.out]; exact HM.out, hch.trans c2⟩
              case measure => simp [intOf]; omega
        · obtain rfl : j = xs.length := by omega
          have HR := hid (feF_many HOK.out HZ.out (by rw [HS.out, Nat.sub_self]; rfl))
          go_wp2
          go_ret3
          exact retFe HR.out rfl hbel
  · have hok' : feOk xs d = false := by simpa using hok
    have HR := hid (feF_bad hok')
    by_cases hT : TB xs = true
    · by_cases hd : inB d 0 6 = true
      · have hd' := inB_iff.1 hd
        have hl : ¬ d + 3 ≤ xs.length := fun h => hok (feOk_iff.2 ⟨hT, hd', h⟩)
        obtain ⟨d0, d1⟩ := hd'
        have hl2 : (xs.length : Int) < d + 3 := by omega
        clear hok hok' hl
        go_enter Try.func37, Try.ntmps37
        go_wp2_with fail
        refine (c_sTableValid _ xs _ _ hv).mono ?_
        rw [hT]
        rintro e wx ⟨rfl, rfl⟩
        go_wp2_with fail
        refine (c_l4Degree _ _).mono ?_
        rw [hd]
        rintro e wx ⟨rfl, rfl⟩
        go_wp2
        go_ret3
        exact retFe HR.out rfl (Below.refl _ _)
      · have hd' : inB d 0 6 = false := by simpa using hd
        clear hok hok' hd
        go_enter Try.func37, Try.ntmps37
        go_wp2_with fail
        refine (c_sTableValid _ xs _ _ hv).mono ?_
        rw [hT]
        rintro e wx ⟨rfl, rfl⟩
        go_wp2_with fail
        refine (c_l4Degree _ _).mono ?_
        rw [hd']
        rintro e wx ⟨rfl, rfl⟩
        go_wp2
        go_ret3
        exact retFe HR.out rfl (Below.refl _ _)
    · have hT' : TB xs = false := by simpa using hT
      clear hok hok' hT
      go_enter Try.func37, Try.ntmps37
      go_wp2_with fail
      refine (c_sTableValid _ xs _ _ hv).mono ?_
      rw [hT']
      rintro e wx ⟨rfl, rfl⟩
      go_wp2
      go_ret3
      exact retFe HR.out rfl (Below.refl _ _)
end Go.Proofs.Ytkiebajggombiaa
