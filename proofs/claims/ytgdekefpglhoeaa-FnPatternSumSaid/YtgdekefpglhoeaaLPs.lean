/- What is proved here: the walk of laws.FnPatternSum. -/
import Derived.Test.YtgdekefpglhoeaaErr1
import Derived.Test.YtgdekefpglhoeaaLaws1
import Derived.Test.YtgdekefpglhoeaaDraw1
import Derived.Test.YtgdekefpglhoeaaSlc
set_option linter.unusedVariables false
set_option linter.unusedSimpArgs false
namespace Go.Proofs.Ytgdekefpglhoeaa
open Go.RowKit

theorem epF_len (o a : Int) : (epF o a).length ≤ 8 := by
  unfold epF; split
  · rename_i h; rw [patF_len]; simp only [Bool.and_eq_true, inB_iff] at h; omega
  · simp
/-- The sum of the first j numbers. -/
def sumT (xs : List Int) : Nat → Int
  | 0 => 0
  | j + 1 => sumT xs j + el xs j
def csum (o : Nat) : Nat → Int
  | 0 => 0
  | j + 1 => csum o j + sgn j * chF o j
theorem sumT_pat (o : Nat) (a : Int) : ∀ j, j ≤ o + 1 → sumT (patF o a) j = csum o j * a := by
  intro j
  induction j with
  | zero => intro _; simp [sumT, csum]
  | succ j ih => intro h; rw [sumT, csum, ih (by omega), patF_el _ _ _ (by omega), Int.add_mul]
theorem csum_all : ∀ o, o < 8 → csum o (o + 1) = if o = 0 then 1 else 0 := by decide
theorem csum_bd : ∀ o, o < 8 → ∀ j, j < 9 → -1000 ≤ csum o j ∧ csum o j ≤ 1000 := by decide
theorem ch_sym : ∀ o, o < 8 → ∀ k, k < 8 → k ≤ o → (sgn k * chF o k = sgn (o - k) * chF o (o - k) ∨ sgn k * chF o k = -(sgn (o - k) * chF o (o - k))) := by decide
theorem pat_sym {o : Nat} {a : Int} (ho : o ≤ 7) {k : Nat} (hk : k ≤ o) : el (patF o a) k = el (patF o a) (o - k) ∨ el (patF o a) k = -el (patF o a) (o - k) := by
  rw [patF_el _ _ _ hk, patF_el _ _ _ (by omega)]
  rcases ch_sym o (by omega) k (by omega) hk with h | h
  · left; rw [h]
  · right; rw [h, Int.neg_mul]

theorem w_FnPatternSum (w : World) (v : Value) (nb : Nat) (hv : IsBy w w.heap.size v nb) :
    Calls Try.prog 5 #[v] w fun e w' => e = .returned (.bool true) ∧ Below w.heap.size w w' := by
  obtain ⟨a, cap, hva, hm, hc⟩ := id hv
  subst hva
  unfold maxLen at hm
  clear hc
  by_cases hbig : 1048576 < nb
  · clear hv
    go_enter Try.func5, Try.ntmps5
    go_wp2_with fail
    go_ret
    exact ⟨rfl, Below.refl _ _⟩
  · go_enter Try.func5, Try.ntmps5
    go_wp2_with fail
    refine (c_DrawErrorPattern _ _ _ hv).mono ?_
    rintro e w1 ⟨o, m, rfl, ⟨ho, hmm⟩, b⟩
    have s1 := b.size
    clear hv
    by_cases hok : (inB o 0 7 && inB m (-1000000000) 1000000000) = true
    · have hok' := hok
      simp only [Bool.and_eq_true, inB_iff] at hok'
      obtain ⟨⟨o0, o1⟩, m0, m1⟩ := hok'
      obtain ⟨k, rfl⟩ : ∃ k : Nat, o = k := ⟨o.toNat, by omega⟩
      have HL := hid (show epF k m = patF k m by simp [epF, hok])
      have HLen := hid (patF_len k m)
      have HBd := hid (patF_range (o := k) (a := m) (by omega) ⟨m0, m1⟩)
      clear hok ho hmm
      go_wp2_with fail
      refine (c_iErrorPattern _ _ _).mono ?_
      rw [HL.out]
      rintro e w2 ⟨v2, rfl, r2, b2⟩
      have s2 := b2.size
      replace b := b.trans (b2.mono (by omega))
      clear b2
      go_wp2_with fail
      refine (c_sErrorPattern _ _ _).mono ?_
      rw [HL.out]
      rintro e w3 ⟨v3, rfl, r3, b3⟩
      have s3 := b3.size
      replace r2 := r2.below b3 (by omega)
      replace b := b.trans (b3.mono (by omega))
      clear b3
      obtain ⟨g, cap2, hv2, hg1, hg2, hg3, hgc, hgf⟩ := r2.split (by rw [HLen.out]; omega)
      subst hv2
      go_wp2_with fail
      refine (deSmC _ _ _ _ _ _ r2.isI r3.isI).mono ?_
      rintro e w4 ⟨rfl, c4⟩
      have s4 := c4.size
      replace b := b.trans (c4.below (by omega) (by omega))
      have HC : Hid (∀ j, j < k + 1 → w4.cell? ⟨g, j, none⟩ = some (.int .i64 (el (patF k m) j))) := by
        intro j hj
        rw [World.cell?_of_block (w := w3) (c4.block g hg3 (by omega))]
        exact hgc j (by rw [HLen.out]; exact hj)
      clear r2 r3 c4 hgc hgf hg1 hg2 hg3
      rw [HLen.out]
      go_wp2_with fail
      have HS := hid (sumT_pat k m)
      go_loopw [6, 7] (fun s i wr => ∃ j : Nat, j ≤ k + 1 ∧ i = .int .i64 j ∧ s = .int .i64 (sumT (patF k m) j) ∧ ∃ n, wr = w4.drewN n) (fun _ i _ => k + 1 - (intOf i).toNat)
      case atStart => exact ⟨0, Nat.zero_le _, rfl, rfl, 0, rfl⟩
      case round =>
        obtain ⟨j, hj, rfl, rfl, n, rfl⟩ := hrel
        by_cases hlt : j < k + 1
        · have hce := HC.out j hlt
          have hce' := HC.out (k - j) (by omega)
          obtain ⟨e0, e1⟩ := HBd.out j (by rw [HLen.out]; omega)
          obtain ⟨e2, e3⟩ := HBd.out (k - j) (by rw [HLen.out]; omega)
          obtain ⟨u0, u1⟩ := csum_bd k (by omega) j (by omega)
          obtain ⟨q0, q1⟩ := mul_bd (a := csum k j) (b := m) (A := 1000) (B := 1000000000) (by omega) u0 u1 m0 m1
          have hsm := HS.out j (by omega)
          have q2 : -1000000000000 ≤ sumT (patF k m) j := by omega
          have q3 : sumT (patF k m) j ≤ 1000000000000 := by omega
          clear hsm q0 q1 u0 u1
          have k1 : IntKind.i64.wrap ((k : Int) + 1 - 1) = (k : Int) := by rw [show (k : Int) + 1 - 1 = k by omega]; exact IntWalk.i64_in _ (by omega)
          have k2 : IntKind.i64.wrap (k : Int) = (k : Int) := IntWalk.i64_in _ (by omega)
          have k3 : IntKind.i64.wrap ((k : Int) - j) = (k : Int) - j := IntWalk.i64_in _ (by omega)
          have k4 : ((k : Int) - j).toNat = k - j := by omega
          have k5 : (j : Int) ≤ (k : Int) := by omega
          have k5' : j ≤ k := by omega
          have k6 : (k : Int) - j < (k : Int) + 1 := by omega
          have k7 : (j : Int) < (k : Int) + 1 := by omega
          have k8 : IntKind.i64.wrap (-el (patF k m) (k - j)) = -el (patF k m) (k - j) := IntWalk.i64_in _ (by omega)
          by_cases hs : el (patF k m) j = el (patF k m) (k - j)
          · have hs1 : (el (patF k m) j != el (patF k m) (k - j)) = false := by simpa using hs
            have HSs := hid hs
            clear hs
            go_wp2_with fail
            go_quiet (fail)
            clear k1 k2 k3 k4 k5 k6 k7 k8
            go_wp2
            go_roundw
            case rel => exact ⟨j + 1, by omega, by go_num, rfl, n + nq, rfl⟩
            case measure => simp [intOf]; omega
          · have hs2 : el (patF k m) j = -el (patF k m) (k - j) := by
              rcases pat_sym (o := k) (a := m) (by omega) k5' with h | h
              · exact absurd h hs
              · exact h
            have hs1 : (el (patF k m) j != el (patF k m) (k - j)) = true := by simpa using hs
            have hs3 : (el (patF k m) j != -el (patF k m) (k - j)) = false := by simpa using hs2
            have HSs := hid hs
            clear hs hs2
            go_wp2_with fail
            go_quiet (fail)
            clear k1 k2 k3 k4 k5 k6 k7 k8
            go_wp2
            go_roundw
            case rel => exact ⟨j + 1, by omega, by go_num, rfl, n + nq, rfl⟩
            case measure => simp [intOf]; omega
        · obtain rfl : j = k + 1 := by omega
          have hsum : sumT (patF k m) (k + 1) = (if k = 0 then 1 else 0) * m := by rw [HS.out _ (by omega), csum_all k (by omega)]
          have hfirst : el (patF k m) 0 = m := by rw [patF_el _ _ _ (by omega)]; simp [sgn, chF]
          have hce := HC.out 0 (by omega)
          rw [hfirst] at hce
          by_cases hk0 : k = 0
          · subst hk0
            have hs0 : sumT (patF 0 m) 1 = m := by rw [hsum]; simp
            have hs1 : (sumT (patF 0 m) 1 == m) = true := by simpa using hs0
            clear hsum hfirst hs0
            go_wp2_with fail
            go_ret
            exact ⟨rfl, bel_drewN b _⟩
          · have hs0 : sumT (patF k m) (k + 1) = 0 := by rw [hsum, if_neg hk0]; simp
            have hs1 : (sumT (patF k m) (k + 1) == 0) = true := by simpa using hs0
            have hk1 : ((k : Int) == 0) = false := by simpa using hk0
            have hk2 : 0 < k := by omega
            clear hsum hfirst hs0 hk0
            go_wp2_with fail
            go_ret
            exact ⟨rfl, bel_drewN b _⟩
    · have hE := hid (show epF o m = [] by simp only [epF]; rw [if_neg hok])
      clear hok ho hmm
      go_wp2_with fail
      refine (c_iErrorPattern _ _ _).mono ?_
      rw [hE.out]
      rintro e w2 ⟨v2, rfl, r2, b2⟩
      have s2 := b2.size
      replace b := b.trans (b2.mono (by omega))
      clear b2
      go_wp2_with fail
      refine (c_sErrorPattern _ _ _).mono ?_
      rw [hE.out]
      rintro e w3 ⟨v3, rfl, r3, b3⟩
      have s3 := b3.size
      replace r2 := r2.below b3 (by omega)
      replace b := b.trans (b3.mono (by omega))
      clear b3
      obtain ⟨a2, cap2, hv2⟩ : ∃ a cap, v2 = .slice a 0 cap := by obtain ⟨a, c, h, _⟩ := r2.isI; exact ⟨a, c, h⟩
      subst hv2
      go_wp2_with fail
      refine (deSmC _ _ _ _ _ _ r2.isI r3.isI).mono ?_
      rintro e w4 ⟨rfl, c4⟩
      have s4 := c4.size
      replace r2 := r2.keep c4 (by omega)
      replace b := b.trans (c4.below (by omega) (by omega))
      clear r3
      go_wp2_with fail
      refine (c_sErrorPattern _ _ _).mono ?_
      rw [hE.out]
      rintro e w5 ⟨v5, rfl, r5, b5⟩
      have s5 := b5.size
      replace r2 := r2.below b5 (by omega)
      replace b := b.trans (b5.mono (by omega))
      clear b5
      go_wp2_with fail
      refine (deSmC _ _ _ _ _ _ r2.isI r5.isI).mono ?_
      rintro e w6 ⟨rfl, c6⟩
      replace b := b.trans (c6.below (by omega) (by omega))
      go_wp2_with fail
      go_ret
      exact ⟨rfl, b⟩
end Go.Proofs.Ytgdekefpglhoeaa
