/- What is proved here: the walk of laws.FnExchange. -/
import Derived.Test.YthjcolddnbcniaaDrawEx
import Derived.Test.YthjcolddnbcniaaErr3
set_option linter.unusedVariables false
set_option linter.unusedSimpArgs false
namespace Go.Proofs.Ythjcolddnbcniaa
open Go.RowKit

theorem ten_mod11 (k : Nat) : ten k % 11 = 1 ∨ ten k % 11 = 10 := by
  induction k with
  | zero => left; rfl
  | succ k ih => rw [ten_succ]; omega
theorem exF_sub (n : Int) (k : Nat) : exF n k - n = 9 * ((n / ten k % 10 - n / ten k / 10 % 10) * ten k) := by
  unfold exF; generalize n / ten k % 10 = a; generalize n / ten k / 10 % 10 = b
  have e : (b - a) * ten k = -((a - b) * ten k) := by rw [← Int.neg_mul]; congr 1; omega
  rw [e]; omega
theorem exF_eq {n : Int} {k : Nat} : exF n k = n ↔ n / ten k % 10 = n / ten k / 10 % 10 := by
  have h := exF_sub n k
  have ht := ten_pos k
  constructor
  · intro e
    have h0 : (n / ten k % 10 - n / ten k / 10 % 10) * ten k = 0 := by omega
    rcases Int.mul_eq_zero.1 h0 with h1 | h1 <;> omega
  · intro e
    rw [e, Int.sub_self, Int.zero_mul] at h; omega
theorem exF_11 {n : Int} {k : Nat} (hn : 0 ≤ n) : (exF n k - n) % 11 = 0 ↔ n / ten k % 10 = n / ten k / 10 % 10 := by
  have h := exF_sub n k
  have ht := ten_mod11 k
  constructor
  · intro e
    rw [h] at e
    generalize ha : n / ten k % 10 = a at *
    generalize hb : n / ten k / 10 % 10 = b at *
    have a0 : 0 ≤ a := by rw [← ha]; exact Int.emod_nonneg _ (by omega)
    have a1 : a < 10 := by rw [← ha]; exact Int.emod_lt_of_pos _ (by omega)
    have b0 : 0 ≤ b := by rw [← hb]; exact Int.emod_nonneg _ (by omega)
    have b1 : b < 10 := by rw [← hb]; exact Int.emod_lt_of_pos _ (by omega)
    have e2 : ((a - b) * ten k) % 11 = ((a - b) * (ten k % 11)) % 11 := by rw [Int.mul_emod, Int.mul_emod (a - b) (ten k % 11), Int.emod_emod]
    have e3 : ((a - b) * ten k) % 11 = 0 := by omega
    rw [e2] at e3
    rcases ht with t | t <;> rw [t] at e3 <;> omega
  · intro e
    rw [exF_eq.2 e]; simp
theorem two_digits {q : Int} (h : 0 ≤ q) : (q + 9 * (q % 10 - q / 10 % 10)) % 10 = q / 10 % 10 ∧ (q + 9 * (q % 10 - q / 10 % 10)) / 10 % 10 = q % 10 ∧ 0 ≤ q + 9 * (q % 10 - q / 10 % 10) := by
  obtain ⟨a, b, c, e1, e2, e3, e4, e5, e6, e7⟩ : ∃ a b c : Int, q = 100 * c + 10 * b + a ∧ 0 ≤ a ∧ a < 10 ∧ 0 ≤ b ∧ b < 10 ∧ q % 10 = a ∧ q / 10 % 10 = b :=
    ⟨q % 10, q / 10 % 10, q / 10 / 10, by omega, by omega, by omega, by omega, by omega, rfl, rfl⟩
  rw [e6, e7, show q + 9 * (a - b) = 100 * c + 10 * a + b by omega]
  omega
/-- Digits of a number that is put together of them. -/
theorem exF_digits {n : Int} {k : Nat} (hn : 0 ≤ n) : exF n k / ten k % 10 = n / ten k / 10 % 10 ∧ exF n k / ten k / 10 % 10 = n / ten k % 10 ∧ 0 ≤ exF n k := by
  have ht := ten_pos k
  have h := exF_sub n k
  have d : n = ten k * (n / ten k) + n % ten k := (Int.mul_ediv_add_emod n (ten k)).symm
  have r0 := Int.emod_nonneg n (show ten k ≠ 0 by omega)
  have r1 := Int.emod_lt_of_pos n (show 0 < ten k by omega)
  have q0 : 0 ≤ n / ten k := Int.ediv_nonneg hn (by omega)
  generalize n / ten k = q at *
  generalize n % ten k = r at *
  generalize hT : ten k = T at *
  have hx : exF n k = T * (q + 9 * (q % 10 - q / 10 % 10)) + r := by
    have e1 : exF n k = n + 9 * ((q % 10 - q / 10 % 10) * T) := by omega
    rw [e1, d, Int.mul_add]
    have e2 : T * (9 * (q % 10 - q / 10 % 10)) = 9 * ((q % 10 - q / 10 % 10) * T) := by
      rw [Int.mul_comm T, Int.mul_assoc]
    rw [e2]; omega
  have hq : exF n k / T = q + 9 * (q % 10 - q / 10 % 10) := by
    rw [hx, Int.add_comm, Int.add_mul_ediv_left _ _ (by omega), Int.ediv_eq_zero_of_lt r0 r1]; omega
  obtain ⟨d1, d2, d3⟩ := two_digits q0
  refine ⟨by rw [hq]; exact d1, by rw [hq]; exact d2, ?_⟩
  rw [hx]
  have : 0 ≤ T * (q + 9 * (q % 10 - q / 10 % 10)) := Int.mul_nonneg (by omega) (by omega)
  omega
theorem exF_back {n : Int} {k : Nat} (hn : 0 ≤ n) : exF (exF n k) k = n := by
  obtain ⟨h1, h2, h3⟩ := exF_digits (k := k) hn
  have a := exF_sub (exF n k) k
  have b := exF_sub n k
  rw [h1, h2] at a
  have e : (n / ten k / 10 % 10 - n / ten k % 10) * ten k = -((n / ten k % 10 - n / ten k / 10 % 10) * ten k) := by rw [← Int.neg_mul]; congr 1; omega
  rw [e] at a; omega
theorem exF_le {n : Int} {k : Nat} (hn : 0 ≤ n) (hN : n ≤ 1000000000) (hk : k ≤ 8) : exF n k ≤ 20000000000 := by
  have b := exF_sub n k
  have t1 := ten_pos k
  have t2 : ten k ≤ 100000000 := ten_mono (show k ≤ 8 by omega)
  have m := mul_bd (a := n / ten k % 10 - n / ten k / 10 % 10) (b := ten k) (A := 10) (B := 100000000) (by omega) (by omega) (by omega) (by omega) (by omega)
  omega

theorem w_FnExchange (w : World) (v : Value) (nb : Nat) (hv : IsBy w w.heap.size v nb) :
    Calls Try.prog 4 #[v] w fun e w' => e = .returned (.bool true) ∧ Below w.heap.size w w' := by
  obtain ⟨a, cap, hva, hm, hc⟩ := id hv
  subst hva
  unfold maxLen at hm
  clear hc
  by_cases hbig : 1048576 < nb
  · clear hv
    go_enter Try.func4, Try.ntmps4
    go_wp2_with fail
    go_ret
    exact ⟨rfl, Below.refl _ _⟩
  · go_enter Try.func4, Try.ntmps4
    go_wp2_with fail
    refine (c_DrawExchangeDigits _ _ _ hv).mono ?_
    rintro e w1 ⟨n, p, rfl, ⟨hn, hp⟩, b⟩
    clear hv hn hp
    go_wp2_with fail
    refine (c_iExchangeDigits _ _ _).mono ?_
    rintro e wx ⟨rfl, rfl⟩
    go_wp2_with fail
    refine (c_sExchangeDigits _ _ _).mono ?_
    rintro e wx ⟨rfl, rfl⟩
    by_cases hok : exOk n p = true
    · have hok' := hok
      simp only [exOk, Bool.and_eq_true, inB_iff] at hok'
      obtain ⟨⟨hn0, hn1⟩, hp0, hp1⟩ := hok'
      obtain ⟨k, rfl⟩ : ∃ k : Nat, p = k := ⟨p.toNat, by omega⟩
      have hM : exV n k = exF n k := by simp [exV, hok]
      have HEQ := hid (@exF_eq n k)
      have H11 := hid (@exF_11 n k hn0)
      have HSUB := hid (exF_sub n k)
      have HB := hid (@exF_back n k hn0)
      have h0 := (exF_digits (k := k) hn0).2.2
      have h1 := exF_le (k := k) hn0 hn1 (by omega)
      rw [hM, hok]
      clear hM
      generalize exF n k = M at *
      have t1 := ten_pos k
      have t2 : ten k ≤ 100000000 := ten_mono (show k ≤ 8 by omega)
      have HF : Hid (exOk M k = true → exV M k = n) := fun h => by show exV M k = n; simp only [exV, h, if_true]; exact HB.out
      have g1 : (M != M) = false := by simp
      have g2 : (true != true) = false := rfl
      obtain ⟨g3⟩ : Nonempty (((M - n).tmod 9 == 0) = true) := ⟨by
        have := HSUB.out
        simp only [beq_iff_eq]; rw [this, Int.mul_comm, Int.mul_tmod_left]⟩
      have H9 := hid (show (M - n) % 11 = 0 ↔ n / ten k % 10 = n / ten k / 10 % 10 from H11.out)
      clear hok
      go_wp2_with fail
      go_loop [9, 10] (fun s i => ∃ j : Nat, j ≤ k ∧ i = .int .i64 j ∧ s = .int .i64 (ten j)) (fun _ i => k - (intOf i).toNat)
      case atStart => exact ⟨0, Nat.zero_le _, rfl, rfl⟩
      case round =>
        obtain ⟨j, hj, rfl, rfl⟩ := hrel
        by_cases hlt : j < k
        · have hb : ten j ≤ 100000000000000000 := ten_mono (show j ≤ 17 by omega)
          have hp := ten_pos j
          go_wp2
          go_round
          case rel => exact ⟨j + 1, by omega, by go_num, by rw [ten_succ]⟩
          case measure => simp [intOf]; omega
        · obtain rfl : j = k := by omega
          have d0 : 0 ≤ n / ten j := Int.ediv_nonneg hn0 (by omega)
          have d1 : n / ten j ≤ 1000000000 := Int.le_trans (Int.ediv_le_self _ hn0) hn1
          have d2 : 0 ≤ n / ten j / 10 := Int.ediv_nonneg d0 (by omega)
          have z0 : ¬ ten j = 0 := by omega
          have z1 : n.tdiv (ten j) = n / ten j := Int.tdiv_eq_ediv_of_nonneg hn0
          have z2 : IntKind.i64.wrap (n / ten j) = n / ten j := IntWalk.i64_in _ (by omega)
          have z3 : (n / ten j).tmod 10 = n / ten j % 10 := Int.tmod_eq_emod_of_nonneg d0
          have z4 : (n / ten j).tdiv 10 = n / ten j / 10 := Int.tdiv_eq_ediv_of_nonneg d0
          have z5 : IntKind.i64.wrap (n / ten j / 10) = n / ten j / 10 := IntWalk.i64_in _ (by omega)
          have z6 : (n / ten j / 10).tmod 10 = n / ten j / 10 % 10 := Int.tmod_eq_emod_of_nonneg d2
          by_cases hs : n / ten j % 10 = n / ten j / 10 % 10
          · have s1 : (n / ten j % 10 == n / ten j / 10 % 10) = true := by simpa using hs
            have s2 : (M == n) = true := by simpa using HEQ.out.2 hs
            have s3 : ((M - n).tmod 11 == 0) = true := by
              simp only [beq_iff_eq]; exact Int.tmod_eq_zero_of_dvd (Int.dvd_of_emod_eq_zero (H9.out.2 hs))
            clear hs
            go_wp2_with fail
            go_quiet (fail)
            clear z0 z1 z2 z3 z4 z5 z6
            replace b := bel_drewN b nq
            go_wp2_with fail
            refine (c_iExchangeDigits _ _ _).mono ?_
            rintro e wx ⟨rfl, rfl⟩
            by_cases hf : exOk M j = true
            · have f1 : (exV M j == n) = true := by simpa using HF.out hf
              go_wp2_with fail
              go_ret
              exact ⟨rfl, b⟩
            · have hf' : exOk M j = false := by simpa using hf
              clear hf
              go_wp2_with fail
              go_ret
              exact ⟨rfl, b⟩
          · have s1 : (n / ten j % 10 == n / ten j / 10 % 10) = false := by simpa using hs
            have s2 : (M == n) = false := by simpa using fun h => hs (HEQ.out.1 h)
            have s3 : ((M - n).tmod 11 == 0) = false := by
              simp only [beq_eq_false_iff_ne, ne_eq]; intro h; exact hs (H9.out.1 (Int.emod_eq_zero_of_dvd (Int.dvd_of_tmod_eq_zero h)))
            clear hs
            go_wp2_with fail
            go_quiet (fail)
            clear z0 z1 z2 z3 z4 z5 z6
            replace b := bel_drewN b nq
            go_wp2_with fail
            refine (c_iExchangeDigits _ _ _).mono ?_
            rintro e wx ⟨rfl, rfl⟩
            by_cases hf : exOk M j = true
            · have f1 : (exV M j == n) = true := by simpa using HF.out hf
              go_wp2_with fail
              go_ret
              exact ⟨rfl, b⟩
            · have hf' : exOk M j = false := by simpa using hf
              clear hf
              go_wp2_with fail
              go_ret
              exact ⟨rfl, b⟩
    · have hok' : exOk n p = false := by simpa using hok
      rw [hok']
      clear hok
      have t1 : (exV n p != exV n p) = false := by simp
      have t2 : (exV n p == exV n p) = true := by simp
      go_wp2_with fail
      go_ret
      exact ⟨rfl, b⟩
end Go.Proofs.Ythjcolddnbcniaa
