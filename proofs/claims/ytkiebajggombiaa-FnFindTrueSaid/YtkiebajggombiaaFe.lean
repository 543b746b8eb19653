/- What is proved here: contracts of errorAt, FindError (impl) and l4Coefficient, l4Guess, l4Explains, FindError (spec). -/
import Derived.Test.YtkiebajggombiaaFeM
import Derived.Test.YtkiebajggombiaaSlc
set_option linter.unusedVariables false
set_option linter.unusedSimpArgs false
namespace Go.Proofs.Ytkiebajggombiaa
open Go.RowKit

/-- The amount that errorAt hands back. -/
def eaV (row : List Int) (o a : Nat) : Int := if exB row o a then gsF row o a else 0
theorem eaV_yes {row : List Int} {o a : Nat} (h : exB row o a = true) : eaV row o a = gsF row o a := by simp [eaV, h]
theorem eaV_no {row : List Int} {o a : Nat} (h : exB row o a = false) : eaV row o a = 0 := by simp [eaV, h]
set_option maxHeartbeats 1600000 in
theorem c_errorAt (v : Value) (row : List Int) (o a : Nat) (w : World) (hv : IsI w w.heap.size v row) (ho : o ≤ 7) (hb : Bd 1000000000000 row) (hf : a - o < row.length) (hl : row.length ≤ 60) (ha : a ≤ 100) :
    Calls Try.prog 77 #[v, .int .i64 o, .int .i64 a] w fun e w' => e = .returned (.tuple #[.int .i64 (eaV row o a), .bool (exB row o a)]) ∧ Below w.heap.size w w' := by
  have hbd := gs_bd hb hf ho (by omega)
  have HCN := hid (co_ne (o := o) (a := a) (j := a - o) ho (by omega) (by omega))
  have HCP := hid (co_pat (o := o) (a := a) (j := a - o) ho (by omega) (by omega))
  have HXI := hid (exA_iff (row := row) (o := o) (a := a) (m := gsF row o a))
  have HXN := hid (fun j (hj : j < row.length) => exA_no (row := row) (o := o) (a := a) (m := gsF row o a) hj)
  have HG : Hid (gsF row o a = (el row (a - o)).tdiv (co o a (a - o))) := rfl
  have HEB : Hid (exB row o a = exA row o a (gsF row o a)) := rfl
  have HEY := hid (fun h : exB row o a = true => eaV_yes h)
  have HEN := hid (fun h : exB row o a = false => eaV_no h)
  rw [HCP.out] at HCN HG
  have HUL := hid (patF_len o 1)
  have HUB := hid (fun k (hk : k ≤ o) => show -100 ≤ el (patF o 1) k ∧ el (patF o 1) k ≤ 100 by
    rw [patF_el _ _ _ hk, Int.mul_one]
    have := ch_small o (by omega) k (by omega)
    rcases sgn_cases k with e | e <;> rw [e] <;> omega)
  have HCO := hid (fun j (h1 : j ≤ a) (h2 : a ≤ j + o) => co_pat (o := o) (a := a) (j := j) ho h1 h2)
  have HCX := hid (fun j => @co_out o a j)
  have HBR := hid hb
  obtain ⟨F, hF⟩ : ∃ F, a - o = F := ⟨_, rfl⟩
  obtain ⟨KF, hKF⟩ : ∃ KF, F + o - a = KF := ⟨_, rfl⟩
  rw [hF] at HG HCN hf
  rw [hKF] at HG HCN
  have HF := hid hF
  have HKF := hid hKF
  generalize gsF row o a = A at *
  generalize hunit : patF o 1 = unit at *
  have HUN := hid hunit
  obtain ⟨A0, A1⟩ := hbd
  have hKo : KF ≤ o := by omega
  have n4 : (F : Int) < row.length := by omega
  have n5 : 0 ≤ (F : Int) := by omega
  have n6 : IntKind.i64.wrap ((a : Int) - o) = (a : Int) - o := IntWalk.i64_in _ (by omega)
  obtain ⟨ad, cap, rfl, hm, -, hc⟩ := hv
  unfold maxLen at hm
  clear hb hF hKF hunit
  go_enter Try.func77, Try.ntmps77
  go_wp2_with fail
  refine (c_pattern o 1 _ ho (by omega)).mono ?_
  rw [HUN.out]
  rintro e w1 ⟨v1, rfl, r1, b1⟩
  obtain ⟨gu, capu, rfl, -, -, -, hcu, -⟩ := r1.split (by rw [HUL.out]; omega)
  rw [HUL.out] at hcu ⊢
  have hcap : o + 1 ≤ capu := by
    obtain ⟨aa, cap', he, hx, -⟩ := r1.isI
    simp only [Value.slice.injEq] at he
    rw [HUL.out] at hx
    omega
  obtain ⟨b, off, rfl, hbb, hcell⟩ := hc F hf
  have g1 := (b1.cell (p := ⟨b, off + F, none⟩) hbb).trans (hcell F hf)
  have g2 := hcu KF (by omega)
  have hcn : ¬ el unit KF = 0 := HCN.out
  have kq : IntKind.i64.wrap ((el row F).tdiv (el unit KF)) = A := by rw [← HG.out]; exact IntWalk.i64_in _ (by omega)
  clear r1
  by_cases hoa : o < a
  · have m0 : 0 < (F : Int) := by have := HF.out; omega
    have m1 : (a : Int) - o = (F : Int) := by have := HF.out; omega
    obtain rfl : KF = 0 := by have := HKF.out; have := HF.out; omega
    have n3 : 0 < o + 1 := by omega
    go_wp2_with fail
    go_quiet (fail)
    clear kq n6 g1 g2 hcn HCN HG hcell
    go_wp2
    go_loopw [36] (fun i wr => ∃ j : Nat, j ≤ row.length ∧ i = .int .i64 j ∧ Hid (∀ q, q < j → el row q = A * co o a q) ∧ ∃ m, wr = w1.drewN m) (fun i _ => row.length - (intOf i).toNat)
    case atStart => exact ⟨0, Nat.zero_le _, rfl, fun q hq => by omega, nq, rfl⟩
    case round =>
      obtain ⟨j, hj, rfl, HA, m, rfl⟩ := hrel
      by_cases hlt : j < row.length
      · obtain ⟨bb, oo, he, hb2, hcell2⟩ := hc j hlt
        simp only [Option.some.injEq, Addr.mk.injEq, and_true] at he
        obtain ⟨rfl, rfl⟩ := he
        have g3 := (b1.cell (p := ⟨b, off + j, none⟩) hb2).trans (hcell2 j hlt)
        clear hc hcell2
        by_cases hin : j ≤ a ∧ a ≤ j + o
        · obtain ⟨i1, i2⟩ := hin
          have g4 := hcu (j + o - a) (by omega)
          have hce := HCO.out j i1 i2
          rw [← hce] at g4
          have hcb := co_bd (o := o) (a := a) (j := j) ho
          have hmb := mul_bd (a := A) (b := co o a j) (A := 1000000000000) (B := 100) (by omega) A0 A1 hcb.1 hcb.2
          obtain ⟨hmb0, hmb1⟩ := hmb
          have k1 : 0 ≤ (j : Int) - (F : Int) := by have := HF.out; omega
          have k2 : (j : Int) - (F : Int) ≤ o := by have := HF.out; omega
          have k3 : ((j : Int) - (F : Int)).toNat = j + o - a := by have := HF.out; omega
          have k4 : (F : Int) ≤ j := by omega
          have k5 : F ≤ j := by omega
          have k6 : (j : Int) - (F : Int) < ((o + 1 : Nat) : Int) := by omega
          by_cases hq : el row j = A * co o a j
          · have hq' : (A * co o a j != el row j) = false := by rw [hq]; simp
            have HN := hid (show ∀ q, q < j + 1 → el row q = A * co o a q from fun q hq2 => by
              by_cases e : q = j
              · subst e; exact hq
              · exact HA.out q (by omega))
            clear hq hce hcb
            go_wp2
            go_roundw
            case rel => exact ⟨j + 1, by omega, by go_num, HN, m, rfl⟩
            case measure => simp [intOf]; omega
          · have hq' : (A * co o a j != el row j) = true := by simpa using fun e => hq e.symm
            have HN := hid (HXN.out j hlt hq)
            clear hq hce hcb
            go_wp2
            go_ret2
            exact ⟨by rw [HEN.out (by rw [HEB.out, HN.out]), HEB.out, HN.out]; rfl, bel_drewN b1 _⟩
        · have hce := HCX.out j (by omega)
          have HIN := hid hin
          have hsp : ((j : Int) - (F : Int) < 0 ∧ (j : Int) < (F : Int)) ∨ (0 ≤ (j : Int) - (F : Int) ∧ (o : Int) < (j : Int) - (F : Int) ∧ (F : Int) ≤ (j : Int)) := by have := HF.out; omega
          rcases hsp with ⟨k1, k2⟩ | ⟨k1, k2, k3⟩
          all_goals
            by_cases hq : el row j = 0
            · have hq' : ((0 : Int) != el row j) = false := by rw [hq]; simp
              have HN := hid (show ∀ q, q < j + 1 → el row q = A * co o a q from fun q hq2 => by
                by_cases e : q = j
                · subst e; rw [hq, hce, Int.mul_zero]
                · exact HA.out q (by omega))
              clear hq hce hin
              go_wp2
              go_roundw
              case rel => exact ⟨j + 1, by omega, by go_num, HN, m, rfl⟩
              case measure => simp [intOf]; omega
            · have hq' : ((0 : Int) != el row j) = true := by simpa using fun e => hq e.symm
              have HN := hid (HXN.out j hlt (by rw [hce, Int.mul_zero]; exact hq))
              clear hq hce hin
              go_wp2
              go_ret2
              exact ⟨by rw [HEN.out (by rw [HEB.out, HN.out]), HEB.out, HN.out]; rfl, bel_drewN b1 _⟩
      · obtain rfl : j = row.length := by omega
        have HN := hid (HXI.out.2 HA.out)
        clear hc
        go_wp2
        go_ret2
        exact ⟨by rw [HEY.out (by rw [HEB.out, HN.out]), HEB.out, HN.out]; rfl, bel_drewN b1 _⟩
  · obtain rfl : F = 0 := by have := HF.out; omega
    have m2 : (a : Int) - o ≤ 0 := by omega
    have m6 : ¬ 0 < (a : Int) - o := by omega
    rw [Nat.add_zero] at g1
    have m3 : IntKind.i64.wrap (0 - ((a : Int) - o)) = (KF : Int) := by rw [show 0 - ((a : Int) - o) = (KF : Int) by have := HKF.out; omega]; exact IntWalk.i64_in _ (by omega)
    have m9 : IntKind.i64.wrap (-((a : Int) - o)) = (KF : Int) := by rw [show -((a : Int) - o) = (KF : Int) by have := HKF.out; omega]; exact IntWalk.i64_in _ (by omega)
    have m5 : (KF : Int) < o + 1 := by omega
    have m7 : KF < o + 1 := by omega
    have m8 : 0 ≤ (KF : Int) := by omega
    go_wp2_with fail
    go_quiet (fail)
    clear m3 m9 kq n6 g1 g2 hcn HCN HG hcell
    go_wp2
    go_loopw [36] (fun i wr => ∃ j : Nat, j ≤ row.length ∧ i = .int .i64 j ∧ Hid (∀ q, q < j → el row q = A * co o a q) ∧ ∃ m, wr = w1.drewN m) (fun i _ => row.length - (intOf i).toNat)
    case atStart => exact ⟨0, Nat.zero_le _, rfl, fun q hq => by omega, nq, rfl⟩
    case round =>
      obtain ⟨j, hj, rfl, HA, m, rfl⟩ := hrel
      by_cases hlt : j < row.length
      · obtain ⟨bb, oo, he, hb2, hcell2⟩ := hc j hlt
        simp only [Option.some.injEq, Addr.mk.injEq, and_true] at he
        obtain ⟨rfl, rfl⟩ := he
        have g3 := (b1.cell (p := ⟨b, off + j, none⟩) hb2).trans (hcell2 j hlt)
        clear hc hcell2
        by_cases hin : j ≤ a ∧ a ≤ j + o
        · obtain ⟨i1, i2⟩ := hin
          have g4 := hcu (j + o - a) (by omega)
          have hce := HCO.out j i1 i2
          rw [← hce] at g4
          have hcb := co_bd (o := o) (a := a) (j := j) ho
          have hmb := mul_bd (a := A) (b := co o a j) (A := 1000000000000) (B := 100) (by omega) A0 A1 hcb.1 hcb.2
          obtain ⟨hmb0, hmb1⟩ := hmb
          have k1 : 0 ≤ (j : Int) - ((a : Int) - o) := by omega
          have k2 : (j : Int) - ((a : Int) - o) ≤ o := by omega
          have k3 : ((j : Int) - ((a : Int) - o)).toNat = j + o - a := by omega
          have k4 : (a : Int) - o ≤ j := by omega
          have k6 : (j : Int) - ((a : Int) - o) < ((o + 1 : Nat) : Int) := by omega
          by_cases hq : el row j = A * co o a j
          · have hq' : (A * co o a j != el row j) = false := by rw [hq]; simp
            have HN := hid (show ∀ q, q < j + 1 → el row q = A * co o a q from fun q hq2 => by
              by_cases e : q = j
              · subst e; exact hq
              · exact HA.out q (by omega))
            clear hq hce hcb
            go_wp2
            go_roundw
            case rel => exact ⟨j + 1, by omega, by go_num, HN, m, rfl⟩
            case measure => simp [intOf]; omega
          · have hq' : (A * co o a j != el row j) = true := by simpa using fun e => hq e.symm
            have HN := hid (HXN.out j hlt hq)
            clear hq hce hcb
            go_wp2
            go_ret2
            exact ⟨by rw [HEN.out (by rw [HEB.out, HN.out]), HEB.out, HN.out]; rfl, bel_drewN b1 _⟩
        · have hce := HCX.out j (by omega)
          have HIN := hid hin
          obtain ⟨k1, k2, k3⟩ : (0 ≤ (j : Int) - ((a : Int) - o) ∧ (o : Int) < (j : Int) - ((a : Int) - o) ∧ ((a : Int) - o) ≤ (j : Int)) := by have := HF.out; omega
          all_goals
            by_cases hq : el row j = 0
            · have hq' : ((0 : Int) != el row j) = false := by rw [hq]; simp
              have HN := hid (show ∀ q, q < j + 1 → el row q = A * co o a q from fun q hq2 => by
                by_cases e : q = j
                · subst e; rw [hq, hce, Int.mul_zero]
                · exact HA.out q (by omega))
              clear hq hce hin
              go_wp2
              go_roundw
              case rel => exact ⟨j + 1, by omega, by go_num, HN, m, rfl⟩
              case measure => simp [intOf]; omega
            · have hq' : ((0 : Int) != el row j) = true := by simpa using fun e => hq e.symm
              have HN := hid (HXN.out j hlt (by rw [hce, Int.mul_zero]; exact hq))
              clear hq hce hin
              go_wp2
              go_ret2
              exact ⟨by rw [HEN.out (by rw [HEB.out, HN.out]), HEB.out, HN.out]; rfl, bel_drewN b1 _⟩
      · obtain rfl : j = row.length := by omega
        have HN := hid (HXI.out.2 HA.out)
        clear hc
        go_wp2
        go_ret2
        exact ⟨by rw [HEY.out (by rw [HEB.out, HN.out]), HEB.out, HN.out]; rfl, bel_drewN b1 _⟩

/-- What is left by a call that answers what a search for an error finds. -/
def RetFe (w : World) (f : Int × Int × Int) (e : Ending) (w' : World) : Prop := e = .returned (.tuple #[.int .i64 f.1, .int .i64 f.2.1, .int .i64 f.2.2]) ∧ Below w.heap.size w w'
theorem retFe {w w' : World} {f : Int × Int × Int} {a b c : Int} {e : Ending} (h : f = (a, b, c)) (he : e = .returned (.tuple #[.int .i64 a, .int .i64 b, .int .i64 c])) (hb : Below w.heap.size w w') : RetFe w f e w' := by
  subst h; exact ⟨he, hb⟩
theorem dN_bd8 {xs : List Int} (h : TB xs = true) {n : Nat} (hn : n ≤ 7) : Bd 1000000000000 (dN xs n) := by
  refine (dN_bd (TB_Bd h) n).mono ?_
  have : (2 : Int) ^ n ≤ 2 ^ 7 := by
    have h1 : (2 : Nat) ^ n ≤ 2 ^ 7 := Nat.pow_le_pow_right (by omega) hn
    exact_mod_cast h1
  omega
theorem c_errorAtZ (v : Value) (row : List Int) (o a : Nat) (z : Int) (w : World) (hz : z = (o : Nat)) (hv : IsI w w.heap.size v row) (ho : o ≤ 7) (hb : Bd 1000000000000 row) (hf : a - o < row.length) (hl : row.length ≤ 60) (ha : a ≤ 100) :
    Calls Try.prog 77 #[v, .int .i64 z, .int .i64 a] w fun e w' => e = .returned (.tuple #[.int .i64 (eaV row o a), .bool (exB row o a)]) ∧ Below w.heap.size w w' := by
  subst hz; exact c_errorAt v row o a w hv ho hb hf hl ha
theorem c_differencesZ (v : Value) (xs : List Int) (n : Nat) (z : Int) (w : World) (hz : z = (n : Nat)) (hv : IsI w w.heap.size v xs) (hT : TB xs = true) (hn : n ≤ 7) :
    Calls Try.prog 72 #[v, .int .i64 z] w (RetI w (dN xs n)) := by subst hz; exact c_differences v xs n w hv hT hn
set_option maxHeartbeats 800000 in
theorem c_iFindError (w : World) (v : Value) (xs : List Int) (hv : IsI w w.heap.size v xs) (d : Int) :
    Calls Try.prog 34 #[v, .int .i64 d] w (RetFe w (feF xs d)) := by
  obtain ⟨a, cap, hva⟩ : ∃ a cap, v = .slice a xs.length cap := ⟨_, _, hv.choose_spec.choose_spec.1⟩
  subst hva
  by_cases hok : feOk xs d = true
  · obtain ⟨hT, ⟨d0, d1⟩, hl⟩ := feOk_iff.1 hok
    obtain ⟨k, rfl⟩ : ∃ k : Nat, d = k := ⟨d.toNat, by omega⟩
    have h60 := (TB_iff.1 hT).2.1
    have HT := hid hT
    have HOK := hid hok
    have hd1 : inB (k : Int) 0 6 = true := inB_yes d0 d1
    have hlen : (dN xs (k + 1)).length = xs.length - (k + 1) := dN_len _ _
    have HLEN := hid hlen
    have HB := hid (dN_bd8 hT (show k + 1 ≤ 7 by omega))
    clear hT hok hlen
    go_enter Try.func34, Try.ntmps34
    go_wp2_with fail
    refine (c_iTableValid _ xs _ _ hv).mono ?_
    rw [HT.out]
    rintro e wx ⟨rfl, rfl⟩
    go_wp2_with fail
    refine (c_degreeValid _ _).mono ?_
    rw [hd1]
    rintro e wx ⟨rfl, rfl⟩
    go_wp2_with fail
    refine (c_differencesZ _ xs (k + 1) _ _ (by omega) hv HT.out (by omega)).mono ?_
    rintro e w1 ⟨v1, rfl, hi1, b1⟩
    have s1 := b1.size
    by_cases hz : az (dN xs (k + 1)) = true
    · have HR := hid (feF_none HOK.out hz)
      go_wp2_with fail
      refine (c_allZero _ _ _ _ hi1).mono ?_
      rw [hz]
      rintro e wx ⟨rfl, rfl⟩
      clear hz
      go_wp2
      go_ret3
      exact retFe HR.out rfl b1
    · have hz' : az (dN xs (k + 1)) = false := by simpa using hz
      have HZ := hid hz'
      go_wp2_with fail
      refine (c_allZero _ _ _ _ hi1).mono ?_
      rw [hz']
      rintro e wx ⟨rfl, rfl⟩
      clear hz hz'
      go_wp2
      go_loopw [34] (fun i wr => ∃ j : Nat, j ≤ xs.length ∧ i = .int .i64 j ∧ Hid (feS (dN xs (k + 1)) (k + 1) 0 xs.length = feS (dN xs (k + 1)) (k + 1) j (xs.length - j)) ∧ IsI wr w1.heap.size v1 (dN xs (k + 1)) ∧ Below w.heap.size w wr ∧ w1.heap.size ≤ wr.heap.size) (fun i _ => xs.length - (intOf i).toNat)
      case atStart => exact ⟨0, Nat.zero_le _, rfl, rfl, hi1, b1, Nat.le_refl _⟩
      case round =>
        clear hi1 b1
        obtain ⟨j, hj, rfl, HS, hi, hbel, hws⟩ := hrel
        by_cases hlt : j < xs.length
        · have HDN := hid (show xs.length - j = (xs.length - (j + 1)) + 1 by omega)
          have hf : j - (k + 1) < (dN xs (k + 1)).length := by rw [HLEN.out]; omega
          have hl6 : (dN xs (k + 1)).length ≤ 60 := by rw [HLEN.out]; omega
          go_wp2_with fail
          refine (c_errorAtZ _ _ (k + 1) j _ _ (by omega) (hi.up hws) (by omega) HB.out hf hl6 (by omega)).mono ?_
          by_cases hE : exB (dN xs (k + 1)) (k + 1) j = true
          · have HR := hid (feF_one HOK.out HZ.out (by rw [HS.out, HDN.out]; exact feS_hit hE))
            have HV := hid (eaV_yes hE)
            rw [hE]
            rintro e w2 ⟨rfl, b2⟩
            clear hE
            go_wp2
            go_ret3
            exact retFe HR.out (by rw [HV.out]; rfl) (hbel.trans (b2.mono hbel.size))
          · have hE' : exB (dN xs (k + 1)) (k + 1) j = false := by simpa using hE
            have HM := hid (feS_miss (n := xs.length - (j + 1)) hE')
            rw [hE']
            rintro e w2 ⟨rfl, b2⟩
            have s2 := b2.size
            clear hE hE'
            go_wp2
            go_roundw
            case rel => exact ⟨j + 1, by omega, by go_num, by show _ = _; rw [HS.out, HDN.out]; exact HM.out, hi.below b2 hws, hbel.trans (b2.mono hbel.size), by omega⟩
            case measure => simp [intOf]; omega
        · obtain rfl : j = xs.length := by omega
          have HR := hid (feF_many HOK.out HZ.out (by rw [HS.out, Nat.sub_self]; rfl))
          go_wp2
          go_ret3
          exact retFe HR.out rfl hbel
  · have hok' : feOk xs d = false := by simpa using hok
    have HR := hid (feF_bad hok')
    by_cases hT : TB xs = true
    · by_cases hd : inB d 0 6 = true
      · have hd' := inB_iff.1 hd
        have hl : ¬ d + 3 ≤ xs.length := fun h => hok (feOk_iff.2 ⟨hT, hd', h⟩)
        obtain ⟨d0, d1⟩ := hd'
        have hl2 : (xs.length : Int) < d + 3 := by omega
        clear hok hok' hl
        go_enter Try.func34, Try.ntmps34
        go_wp2_with fail
        refine (c_iTableValid _ xs _ _ hv).mono ?_
        rw [hT]
        rintro e wx ⟨rfl, rfl⟩
        go_wp2_with fail
        refine (c_degreeValid _ _).mono ?_
        rw [hd]
        rintro e wx ⟨rfl, rfl⟩
        go_wp2
        go_ret3
        exact retFe HR.out rfl (Below.refl _ _)
      · have hd' : inB d 0 6 = false := by simpa using hd
        clear hok hok' hd
        go_enter Try.func34, Try.ntmps34
        go_wp2_with fail
        refine (c_iTableValid _ xs _ _ hv).mono ?_
        rw [hT]
        rintro e wx ⟨rfl, rfl⟩
        go_wp2_with fail
        refine (c_degreeValid _ _).mono ?_
        rw [hd']
        rintro e wx ⟨rfl, rfl⟩
        go_wp2
        go_ret3
        exact retFe HR.out rfl (Below.refl _ _)
    · have hT' : TB xs = false := by simpa using hT
      clear hok hok' hT
      go_enter Try.func34, Try.ntmps34
      go_wp2_with fail
      refine (c_iTableValid _ xs _ _ hv).mono ?_
      rw [hT']
      rintro e wx ⟨rfl, rfl⟩
      go_wp2
      go_ret3
      exact retFe HR.out rfl (Below.refl _ _)
end Go.Proofs.Ytkiebajggombiaa
