/- What is proved here: contracts of the functions on patterns of errors. -/
import Derived.Test.YtkiebajggombiaaNum
set_option linter.unusedVariables false
set_option linter.unusedSimpArgs false
namespace Go.Proofs.Ytkiebajggombiaa
open Go.RowKit

theorem patF_odd {o j : Nat} {a : Int} (h1 : j ≤ o) (h : j % 2 = 1) : -(a * chF o j) = el (patF o a) j := by
  rw [patF_el _ _ _ h1]; simp only [sgn, h]; simp [Int.mul_comm, Int.mul_neg]
theorem patF_even {o j : Nat} {a : Int} (h1 : j ≤ o) (h : ¬ j % 2 = 1) : a * chF o j = el (patF o a) j := by
  rw [patF_el _ _ _ h1]; simp only [sgn, show j % 2 = 0 by omega]; simp [Int.mul_comm]
theorem patF_range {o : Nat} {a : Int} (ho : o ≤ 7) (ha : -1000000000 ≤ a ∧ a ≤ 1000000000) : ∀ k, k < (patF o a).length → -100000000000 ≤ el (patF o a) k ∧ el (patF o a) k ≤ 100000000000 := by
  intro k hk
  rw [patF_len] at hk
  have hc := ch_small o (by omega) k (by omega)
  have hm := mul_bd (a := chF o k) (b := a) (A := 100) (B := 1000000000) (by omega) hc.1 hc.2 ha.1 ha.2
  by_cases e : k % 2 = 1
  · rw [← patF_odd (by omega) e, Int.mul_comm]; omega
  · rw [← patF_even (by omega) e, Int.mul_comm]; omega

theorem c_pattern (o : Nat) (a : Int) (w : World) (ho : o ≤ 7) (ha : -1000000000 ≤ a ∧ a ≤ 1000000000) :
    Calls Try.prog 100 #[.int .i64 o, .int .i64 a] w (RetRow w (patF o a)) := by
  have hR := patF_range ho ha
  have hlen := patF_len o a
  have HM := made_zero (o + 1)
  have hmk := mk_ints Try.underlying23 Try.infoInt (o + 1) (by omega)
  obtain ⟨ha1, ha2⟩ := ha
  generalize madeCells #[Value.int .i64 0] (o + 1) = mc at *
  have HM' : Hid (mc = ((List.replicate (o + 1) (0 : Int)).map (Value.int .i64)).toArray) := HM
  have HL0 : Hid ((patF o a).length = o + 1) := hlen
  have HR : Hid (∀ k, k < (patF o a).length → -100000000000 ≤ el (patF o a) k ∧ el (patF o a) k ≤ 100000000000) := hR
  clear HM hlen hR
  rw [show ((o + 1 : Nat) : Int) = (o : Int) + 1 from by omega] at hmk
  go_enter Try.func100, Try.ntmps100
  go_wp2
  go_loopw [12] (fun i wr => ∃ (j : Nat) (ys : List Int), j ≤ o + 1 ∧ i = .int .i64 j ∧ Blk wr w.heap.size ys ∧ ys.length = o + 1 ∧ ys.take j = (patF o a).take j ∧ Below w.heap.size w wr) (fun i _ => o + 1 - (intOf i).toNat)
  case atStart => exact ⟨0, List.replicate (o + 1) 0, Nat.zero_le _, rfl, Blk.new HM'.out, by simp, by simp, (Below.refl _ _).alloc (Nat.le_refl _) _⟩
  case round =>
    obtain ⟨j, ys, hj, rfl, HB, hlen, HT, hbel⟩ := hrel
    have HT' : Hid (ys.take j = (patF o a).take j) := HT
    have HL : Hid (ys.length = o + 1) := hlen
    clear HT hlen hmk
    by_cases hlt : j < o + 1
    · have hd := HB.cell j (by rw [HL.out]; exact hlt)
      have hf := HB.free j
      obtain ⟨hc1, hc2⟩ := ch_small o (by omega) j (by omega)
      obtain ⟨hm1, hm2⟩ := mul_bd (a := a) (b := chF o j) (A := 1000000000) (B := 100) (by omega) ha1 ha2 hc1 hc2
      by_cases hp : j % 2 = 1
      · have hp1 : ((j : Int) % 2 == 1) = true := by simp; omega
        have HP : Hid (-(a * chF o j) = el (patF o a) j) := patF_odd (by omega) hp
        clear hp
        go_wp2_with (go_at_call 109; refine (c_choose _ _ _ (by omega) (by omega)).mono ?_; rintro e w' ⟨rfl, rfl⟩)
        go_roundw
        case rel => exact ⟨j + 1, _, by omega, by go_num, (HB.set _ _).set _ _, by rw [set_set]; simpa using HL.out, by rw [set_set]; exact take_set (by rw [HL0.out]; exact hlt) (by rw [HL.out, HL0.out]) HP.out HT'.out, (hbel.setCell (Nat.le_refl _) _).setCell (Nat.le_refl _) _⟩
        case measure => simp [intOf]; omega
      · have hp1 : ((j : Int) % 2 == 1) = false := by simp; omega
        have HP : Hid (a * chF o j = el (patF o a) j) := patF_even (by omega) hp
        clear hp
        go_wp2_with (go_at_call 109; refine (c_choose _ _ _ (by omega) (by omega)).mono ?_; rintro e w' ⟨rfl, rfl⟩)
        go_roundw
        case rel => exact ⟨j + 1, _, by omega, by go_num, HB.set _ _, by simpa using HL.out, take_set (by rw [HL0.out]; exact hlt) (by rw [HL.out, HL0.out]) HP.out HT'.out, hbel.setCell (Nat.le_refl _) _⟩
        case measure => simp [intOf]; omega
    · go_wp2
      go_ret
      obtain rfl : j = o + 1 := by omega
      have e1 := HL.out
      have e2 := HL0.out
      have e3 := HT'.out
      rw [List.take_of_length_le (by omega), List.take_of_length_le (by omega)] at e3
      subst e3
      have hlt' := HB.lt
      have hw := HB.rw (Nat.le_refl _) hlt' (by unfold maxLen; omega) (R64.of_el fun k hk => by have := HR.out k hk; omega)
      rw [e1] at hw
      exact ⟨_, rfl, hw, hbel⟩


end Go.Proofs.Ytkiebajggombiaa
