/- What is proved here: a single error of a clean table is found, and what is found is a single error. No program in sight. -/
import Derived.Test.YtkiebajggombiaaPatM
import Derived.Test.YtkiebajggombiaaCt
set_option linter.unusedVariables false
set_option linter.unusedSimpArgs false
namespace Go.Proofs.Ytkiebajggombiaa
open Go.RowKit

theorem co_cross' : ((List.range 8).all fun o => (List.range 8).all fun a => (List.range 8).all fun b => !(decide (a ≤ o) && decide (b < a)) || (co o a 0 * co o b 1 != co o a 1 * co o b 0)) = true := by decide
theorem co_cross (o : Nat) (h1 : o < 8) (a : Nat) (h2 : a < 8) (b : Nat) (h3 : b < 8) (h4 : a ≤ o) (h5 : b < a) : co o a 0 * co o b 1 ≠ co o a 1 * co o b 0 := by
  have h := co_cross'
  rw [List.all_eq_true] at h
  have h := h o (List.mem_range.2 h1)
  rw [List.all_eq_true] at h
  have h := h a (List.mem_range.2 h2)
  rw [List.all_eq_true] at h
  have h := h b (List.mem_range.2 h3)
  simpa [h4, h5] using h
/-- Two entries' errors do not change the same differences in the same way. -/
theorem ex_uniq {row : List Int} {o a b : Nat} {m : Int} (ho : o ≤ 7) (hL : 2 ≤ row.length) (hm : m ≠ 0) (hf : a - o < row.length) (hr : ∀ j, j < row.length → el row j = m * co o a j) (hb : b < a) : exB row o b = false := by
  rw [← Bool.not_eq_true]
  intro h
  have hg := exA_iff.1 h
  generalize gsF row o b = g at hg
  have key : ∀ j, j < row.length → m * co o a j = g * co o b j := fun j hj => by rw [← hr j hj, hg j hj]
  have fin : g = 0 → False := by
    intro g0
    have h1 := key (a - o) hf
    rw [g0, Int.zero_mul] at h1
    rcases Int.mul_eq_zero.1 h1 with h2 | h2
    · exact hm h2
    · exact co_ne ho (by omega) (by omega) h2
  by_cases h1 : a < row.length
  · have h2 := key a h1
    rw [co_out (o := o) (a := b) (j := a) (by omega), Int.mul_zero] at h2
    rcases Int.mul_eq_zero.1 h2 with h3 | h3
    · exact hm h3
    · exact co_ne ho (by omega) (by omega) h3
  · by_cases h2 : o ≤ b
    · have h3 := key (b - o) (by omega)
      rw [co_out (o := o) (a := a) (j := b - o) (by omega), Int.mul_zero] at h3
      rcases Int.mul_eq_zero.1 h3.symm with h4 | h4
      · exact fin h4
      · exact co_ne ho (by omega) (by omega) h4
    · by_cases h3 : o < a
      · have h4 := key 0 (by omega)
        rw [co_out (o := o) (a := a) (j := 0) (by omega), Int.mul_zero] at h4
        rcases Int.mul_eq_zero.1 h4.symm with h5 | h5
        · exact fin h5
        · exact co_ne ho (by omega) (by omega) h5
      · have h4 := key 0 (by omega)
        have h5 := key 1 (by omega)
        have hg0 : g ≠ 0 := fun e => fin e
        have h6 : m * g * (co o a 0 * co o b 1) = m * g * (co o a 1 * co o b 0) := by
          have e1 : m * g * (co o a 0 * co o b 1) = (m * co o a 0) * (g * co o b 1) := by
            rw [Int.mul_assoc, Int.mul_assoc, Int.mul_left_comm g]
          have e2 : m * g * (co o a 1 * co o b 0) = (m * co o a 1) * (g * co o b 0) := by
            rw [Int.mul_assoc, Int.mul_assoc, Int.mul_left_comm g]
          rw [e1, e2, h4, h5, Int.mul_comm]
        have h7 := Int.eq_of_mul_eq_mul_left (Int.mul_ne_zero hm hg0) h6
        exact co_cross o (by omega) a (by omega) b (by omega) (by omega) hb h7
theorem feS_first {row : List Int} {o a : Nat} (h : exB row o a = true) : ∀ {n i}, i ≤ a → a < i + n → (∀ b, i ≤ b → b < a → exB row o b = false) → feS row o i n = some a := by
  intro n
  induction n with
  | zero => intro i h1 h2; omega
  | succ n ih =>
    intro i h1 h2 h3
    by_cases e : i = a
    · subst e; exact feS_hit h
    · rw [feS_miss (h3 i (Nat.le_refl _) (by omega))]
      exact ih (by omega) (by omega) (fun b hb1 hb2 => h3 b (by omega) hb2)
/-- The single error of a clean table. -/
theorem find_single {xs : List Int} {k a : Nat} {m : Int} (hc : cleanF xs k = true) (hl : k + 3 ≤ xs.length) (hp : putOk xs a m = true) (hm : m ≠ 0) :
    feF (putF xs a m) k = ((a : Int), m, 1) ∧ ctF (putF xs a m) k = xs ∧ ctOk (putF xs a m) k = true := by
  have hF : putF xs a m = xs.set a (el xs a + m) := putF_ok hp
  obtain ⟨hT, ⟨p0, p1⟩, ⟨a0, a1⟩, hpb⟩ := putOk_iff.1 hp
  have ha : a < xs.length := by omega
  have hT2 : TB (xs.set a (el xs a + m)) = true := by rw [TB_set hT ha]; exact inB_iff.2 hpb
  have hk : k ≤ 6 ∧ az (dN xs (k + 1)) = true := by
    unfold cleanF at hc
    simp only [Bool.and_eq_true, inB_iff, Int.toNat_natCast] at hc
    exact ⟨by omega, hc.2.2⟩
  rw [hF]
  have hz := az_iff.1 hk.2
  have hlen : (dN (xs.set a (el xs a + m)) (k + 1)).length = xs.length - (k + 1) := by rw [dN_len, List.length_set]
  have hlen0 := dN_len xs (k + 1)
  have hrow : ∀ j, j < (dN (xs.set a (el xs a + m)) (k + 1)).length → el (dN (xs.set a (el xs a + m)) (k + 1)) j = m * co (k + 1) a j := by
    intro j hj
    rw [dN_put ha (k + 1) (by omega) j (by omega), hz j (by omega), Int.zero_add]
  have hfok : feOk (xs.set a (el xs a + m)) k = true := feOk_iff.2 ⟨hT2, by omega, by rw [List.length_set]; omega⟩
  generalize hR : dN (xs.set a (el xs a + m)) (k + 1) = row at *
  have hf : a - (k + 1) < row.length := by omega
  have hcn := co_ne (o := k + 1) (a := a) (j := a - (k + 1)) (by omega) (by omega) (by omega)
  have hgs : gsF row (k + 1) a = m := by
    unfold gsF; rw [hrow _ hf, Int.mul_tdiv_cancel _ hcn]
  have hex : exB row (k + 1) a = true := by unfold exB; rw [hgs, exA_iff]; exact hrow
  have haz : az row = false := by
    refine az_no hf ?_
    rw [hrow _ hf]; exact Int.mul_ne_zero hm hcn
  have hfs := feS_first hex (n := xs.length) (i := 0) (Nat.zero_le _) (by omega) (fun b _ hb => ex_uniq (by omega) (by omega) hm hf hrow hb)
  have hfe : feF (xs.set a (el xs a + m)) k = ((a : Int), m, 1) := by
    have := feF_one (a := a) hfok (by rw [hR]; exact haz) (by rw [hR, List.length_set]; exact hfs)
    rw [this, hR, hgs]
  refine ⟨hfe, ?_, ?_⟩
  · unfold ctF; rw [hfe]
    simp only [Int.toNat_natCast]
    rw [if_neg (by decide), if_pos trivial, el_set_same ha, set_set, show el xs a + m - m = el xs a by omega]
    refine list_ext (by simp) fun j hj => ?_
    by_cases e : a = j
    · subst e; rw [el_set_same ha]
    · rw [el_set_other e]
  · unfold ctOk; rw [hfe]; rfl
theorem find_nothing {xs : List Int} {k : Nat} (hc : cleanF xs k = true) (hl : k + 3 ≤ xs.length) : feF xs k = (0, 0, 0) ∧ ctF xs k = xs ∧ ctOk xs k = true := by
  unfold cleanF at hc
  simp only [Bool.and_eq_true, inB_iff, Int.toNat_natCast] at hc
  have hfe : feF xs k = (0, 0, 0) := feF_none (feOk_iff.2 ⟨hc.1, by omega, by omega⟩) hc.2.2
  refine ⟨hfe, ?_, ?_⟩
  · unfold ctF; rw [hfe]; rfl
  · unfold ctOk; rw [hfe]; rfl
/-- What is found is an error, and without it the table is clean. -/
theorem find_true {xs : List Int} {d : Int} {a : Nat} (ha : a < xs.length) (hok : feOk xs d = true) (hz : az (dN xs (d.toNat + 1)) = false) (hex : exB (dN xs (d.toNat + 1)) (d.toNat + 1) a = true) :
    gsF (dN xs (d.toNat + 1)) (d.toNat + 1) a ≠ 0 ∧ cleanF xs d = false ∧
    (TB (xs.set a (el xs a - gsF (dN xs (d.toNat + 1)) (d.toNat + 1) a)) = true → cleanF (xs.set a (el xs a - gsF (dN xs (d.toNat + 1)) (d.toNat + 1) a)) d = true) := by
  obtain ⟨hT, hd, hl⟩ := feOk_iff.1 hok
  have hlen := dN_len xs (d.toNat + 1)
  have hx := exA_iff.1 hex
  refine ⟨fun e => ?_, ?_, fun hT2 => ?_⟩
  · have : az (dN xs (d.toNat + 1)) = true := by
      rw [az_iff]; intro j hj; rw [hx j hj, e, Int.zero_mul]
    rw [this] at hz; cases hz
  · unfold cleanF; rw [hz, Bool.and_false, Bool.and_false]
  · unfold cleanF
    rw [hT2, inB_yes hd.1 hd.2, Bool.true_and, Bool.true_and, az_iff]
    intro j hj
    rw [dN_len, List.length_set] at hj
    have h1 := dN_put (xs := xs) (m := -gsF (dN xs (d.toNat + 1)) (d.toNat + 1) a) ha (d.toNat + 1) (by omega) j (by omega)
    rw [show el xs a + -gsF (dN xs (d.toNat + 1)) (d.toNat + 1) a = el xs a - gsF (dN xs (d.toNat + 1)) (d.toNat + 1) a by omega] at h1
    rw [h1, hx j (by omega), Int.neg_mul]
    omega
end Go.Proofs.Ytkiebajggombiaa
