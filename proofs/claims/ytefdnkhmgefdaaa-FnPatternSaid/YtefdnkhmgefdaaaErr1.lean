/- What is proved here: contracts of the functions on patterns of errors. -/
import Derived.Test.YtefdnkhmgefdaaaNum
set_option linter.unusedVariables false
set_option linter.unusedSimpArgs false
namespace Go.Proofs.Ytefdnkhmgefdaaa
open Go.RowKit

theorem patF_odd {o j : Nat} {a : Int} (h1 : j ≤ o) (h : j % 2 = 1) : -(a * chF o j) = el (patF o a) j := by
  rw [patF_el _ _ _ h1]; simp only [sgn, h]; simp [Int.mul_comm, Int.mul_neg]
theorem patF_even {o j : Nat} {a : Int} (h1 : j ≤ o) (h : ¬ j % 2 = 1) : a * chF o j = el (patF o a) j := by
  rw [patF_el _ _ _ h1]; simp only [sgn, show j % 2 = 0 by omega]; simp [Int.mul_comm]
theorem patF_range {o : Nat} {a : Int} (ho : o ≤ 7) (ha : -1000000000 ≤ a ∧ a ≤ 1000000000) : ∀ k, k < (patF o a).length → -100000000000 ≤ el (patF o a) k ∧ el (patF o a) k ≤ 100000000000 := by
  intro k hk
  rw [patF_len] at hk
  have hc := ch_small o (by omega) k (by omega)
  have hm := mul_bd (a := chF o k) (b := a) (A := 100) (B := 1000000000) (by omega) hc.1 hc.2 ha.1 ha.2
  by_cases e : k % 2 = 1
  · rw [← patF_odd (by omega) e, Int.mul_comm]; omega
  · rw [← patF_even (by omega) e, Int.mul_comm]; omega

theorem c_pattern (o : Nat) (a : Int) (w : World) (ho : o ≤ 7) (ha : -1000000000 ≤ a ∧ a ≤ 1000000000) :
    Calls Try.prog 96 #[.int .i64 o, .int .i64 a] w (RetRow w (patF o a)) := by
  have hR := patF_range ho ha
  have hlen := patF_len o a
  have HM := made_zero (o + 1)
  have hmk := mk_ints Try.underlying22 Try.infoInt (o + 1) (by omega)
  obtain ⟨ha1, ha2⟩ := ha
  generalize madeCells #[Value.int .i64 0] (o + 1) = mc at *
  have HM' : Hid (mc = ((List.replicate (o + 1) (0 : Int)).map (Value.int .i64)).toArray) := HM
  have HL0 : Hid ((patF o a).length = o + 1) := hlen
  have HR : Hid (∀ k, k < (patF o a).length → -100000000000 ≤ el (patF o a) k ∧ el (patF o a) k ≤ 100000000000) := hR
  clear HM hlen hR
  rw [show ((o + 1 : Nat) : Int) = (o : Int) + 1 from by omega] at hmk
  go_enter Try.func96, Try.ntmps96
  go_wp2
  go_loopw [12] (fun i wr => ∃ (j : Nat) (ys : List Int), j ≤ o + 1 ∧ i = .int .i64 j ∧ Blk wr w.heap.size ys ∧ ys.length = o + 1 ∧ ys.take j = (patF o a).take j ∧ Below w.heap.size w wr) (fun i _ => o + 1 - (intOf i).toNat)
  case atStart => exact ⟨0, List.replicate (o + 1) 0, Nat.zero_le _, rfl, Blk.new HM'.out, by simp, by simp, (Below.refl _ _).alloc (Nat.le_refl _) _⟩
  case round =>
    obtain ⟨j, ys, hj, rfl, HB, hlen, HT, hbel⟩ := hrel
    have HT' : Hid (ys.take j = (patF o a).take j) := HT
    have HL : Hid (ys.length = o + 1) := hlen
    clear HT hlen hmk
    by_cases hlt : j < o + 1
    · have hd := HB.cell j (by rw [HL.out]; exact hlt)
      have hf := HB.free j
      obtain ⟨hc1, hc2⟩ := ch_small o (by omega) j (by omega)
      obtain ⟨hm1, hm2⟩ := mul_bd (a := a) (b := chF o j) (A := 1000000000) (B := 100) (by omega) ha1 ha2 hc1 hc2
      by_cases hp : j % 2 = 1
      · have hp1 : ((j : Int) % 2 == 1) = true := by simp; omega
        have HP : Hid (-(a * chF o j) = el (patF o a) j) := patF_odd (by omega) hp
        clear hp
        go_wp2_with (go_at_call 107; refine (c_choose _ _ _ (by omega) (by omega)).mono ?_; rintro e w' ⟨rfl, rfl⟩)
        go_roundw
        case rel => exact ⟨j + 1, _, by omega, by go_num, (HB.set _ _).set _ _, by rw [set_set]; simpa using HL.out, by rw [set_set]; exact take_set (by rw [HL0.out]; exact hlt) (by rw [HL.out, HL0.out]) HP.out HT'.out, (hbel.setCell (Nat.le_refl _) _).setCell (Nat.le_refl _) _⟩
        case measure => simp [intOf]; omega
      · have hp1 : ((j : Int) % 2 == 1) = false := by simp; omega
        have HP : Hid (a * chF o j = el (patF o a) j) := patF_even (by omega) hp
        clear hp
        go_wp2_with (go_at_call 107; refine (c_choose _ _ _ (by omega) (by omega)).mono ?_; rintro e w' ⟨rfl, rfl⟩)
        go_roundw
        case rel => exact ⟨j + 1, _, by omega, by go_num, HB.set _ _, by simpa using HL.out, take_set (by rw [HL0.out]; exact hlt) (by rw [HL.out, HL0.out]) HP.out HT'.out, hbel.setCell (Nat.le_refl _) _⟩
        case measure => simp [intOf]; omega
    · go_wp2
      go_ret
      obtain rfl : j = o + 1 := by omega
      have e1 := HL.out
      have e2 := HL0.out
      have e3 := HT'.out
      rw [List.take_of_length_le (by omega), List.take_of_length_le (by omega)] at e3
      subst e3
      have hlt' := HB.lt
      have hw := HB.rw (Nat.le_refl _) hlt' (by unfold maxLen; omega) (R64.of_el fun k hk => by have := HR.out k hk; omega)
      rw [e1] at hw
      exact ⟨_, rfl, hw, hbel⟩

/-- What ErrorPattern hands back. -/
def epF (order amount : Int) : List Int := if inB order 0 7 && inB amount (-1000000000) 1000000000 then patF order.toNat amount else []
theorem c_iErrorPattern (o a : Int) (w : World) :
    Calls Try.prog 48 #[.int .i64 o, .int .i64 a] w (RetRow w (epF o a)) := by
  by_cases h1 : 0 ≤ o ∧ o ≤ 7
  · obtain ⟨k, rfl⟩ : ∃ k : Nat, o = k := ⟨o.toNat, by omega⟩
    obtain ⟨h1a, h1b⟩ := h1
    by_cases h2 : inB a (-1000000000) 1000000000 = true
    · have e : epF k a = patF k a := by simp [epF, h2, inB_yes h1a h1b]
      rw [e]
      have h2' := inB_iff.1 h2
      clear e
      go_enter Try.func48, Try.ntmps48
      go_wp2_with (first | (go_at_call 78; refine (c_within _ _ _ (by omega) (by omega)).mono ?_; rintro e w' ⟨rfl, rfl⟩) | (go_at_call 96; refine (c_pattern _ _ _ (by omega) h2').mono ?_; rintro e w' ⟨v, rfl, hrw, hbel⟩))
      go_ret
      exact ⟨_, rfl, hrw, hbel⟩
    · have h2' : inB a (-1000000000) 1000000000 = false := by simpa using h2
      have e : epF k a = [] := by simp [epF, h2']
      rw [e]
      clear e h2
      go_enter Try.func48, Try.ntmps48
      go_wp2_with (go_at_call 78; refine (c_within _ _ _ (by omega) (by omega)).mono ?_; rintro e w' ⟨rfl, rfl⟩)
      go_ret
      exact ⟨_, rfl, Rw.nil _ _ _, Below.refl _ _⟩
  · have e : epF o a = [] := by simp [epF, inB_no (n := o) (lo := 0) (hi := 7) (by omega)]
    rw [e]
    clear e
    by_cases h3 : o < 0
    · go_enter Try.func48, Try.ntmps48
      go_wp2
      go_ret
      exact ⟨_, rfl, Rw.nil _ _ _, Below.refl _ _⟩
    · have h4 : 7 < o := by omega
      go_enter Try.func48, Try.ntmps48
      go_wp2
      go_ret
      exact ⟨_, rfl, Rw.nil _ _ _, Below.refl _ _⟩

theorem c_sErrorPattern (o a : Int) (w : World) :
    Calls Try.prog 50 #[.int .i64 o, .int .i64 a] w (RetRow w (epF o a)) := by
  by_cases h1 : inB o 0 7 = true
  · have h1' := inB_iff.1 h1
    obtain ⟨k, rfl⟩ : ∃ k : Nat, o = k := ⟨o.toNat, by omega⟩
    by_cases h2 : inB a (-1000000000) 1000000000 = true
    · have e : epF k a = patF k a := by simp [epF, h2, h1]
      rw [e]
      obtain ⟨ha1, ha2⟩ := inB_iff.1 h2
      have HR : Hid (∀ j, j < (patF k a).length → -100000000000 ≤ el (patF k a) j ∧ el (patF k a) j ≤ 100000000000) := patF_range (by omega) ⟨ha1, ha2⟩
      have HL0 : Hid ((patF k a).length = k + 1) := patF_len k a
      clear e
      go_enter Try.func50, Try.ntmps50
      go_wp2_with (first | (go_at_call 79; refine (c_l1In _ _ _ _).mono ?_; rintro e w' ⟨rfl, rfl⟩) | (go_at_call 80; refine (c_l4Amount _ _).mono ?_; rintro e w' ⟨rfl, rfl⟩))
      go_loopw [5, 6] (fun v i wr => ∃ j : Nat, j ≤ k + 1 ∧ i = .int .i64 j ∧ OwnI wr w.heap.size v ((patF k a).take j) ∧ Below w.heap.size w wr) (fun _ i _ => k + 1 - (intOf i).toNat)
      case atStart => exact ⟨0, Nat.zero_le _, rfl, OwnI.empty _ (Nat.le_refl _) rfl, (Below.refl _ _).alloc (Nat.le_refl _) _⟩
      case round =>
        obtain ⟨j, hj, rfl, hown, hbel⟩ := hrel
        have hsz := hbel.size
        by_cases hlt : j < k + 1
        · obtain ⟨hc1, hc2⟩ := ch_small k (by omega) j (by omega)
          have hs1 : -1 ≤ sgn j ∧ sgn j ≤ 1 := by unfold sgn; split <;> omega
          obtain ⟨hs1, hs2⟩ := hs1
          obtain ⟨hm1, hm2⟩ := mul_bd (a := sgn j) (b := chF k j) (A := 1) (B := 100) (by omega) hs1 hs2 hc1 hc2
          obtain ⟨hm3, hm4⟩ := mul_bd (a := sgn j * chF k j) (b := a) (A := 100) (B := 1000000000) (by omega) (by omega) (by omega) ha1 ha2
          have HP : Hid ((patF k a).take (j + 1) = (patF k a).take j ++ [sgn j * chF k j * a]) := by
            show (patF k a).take (j + 1) = _
            rw [take_el (by rw [HL0.out]; exact hlt), patF_el _ _ _ (by omega)]
          go_wp2_with (first | (go_at_call 97; refine (c_l4Sign _ _ (by omega)).mono ?_; rintro e w' ⟨rfl, rfl⟩) | (go_at_call 98; refine (c_l2Choose _ _ _ (by omega) (by omega)).mono ?_; rintro e w' ⟨rfl, rfl⟩) | (at_builtin; refine wpList_appI rfl _ _ _ rfl Try.underlying22 Try.infoInt w.heap.size _ _ rfl rfl hown (by have := List.length_take_le j (patF k a); omega) hsz ?_; intro v1 w1 hown1 hb1))
          go_roundw
          case rel => exact ⟨j + 1, by omega, by go_num, by rw [HP.out]; exact hown1, hbel.trans hb1⟩
          case measure => simp [intOf]; omega
        · go_wp2
          go_ret
          obtain rfl : j = k + 1 := by omega
          rw [List.take_of_length_le (by rw [HL0.out]; omega)] at hown
          exact ⟨_, rfl, hown.rw (R64.of_el fun k hk => by have := HR.out k hk; omega) (Nat.le_refl _), hbel⟩
    · have h2' : inB a (-1000000000) 1000000000 = false := by simpa using h2
      have e : epF k a = [] := by simp [epF, h2']
      rw [e]
      clear e h2 h1'
      go_enter Try.func50, Try.ntmps50
      go_wp2_with (first | (go_at_call 79; refine (c_l1In _ _ _ _).mono ?_; rintro e w' ⟨rfl, rfl⟩) | (go_at_call 80; refine (c_l4Amount _ _).mono ?_; rintro e w' ⟨rfl, rfl⟩))
      go_ret
      exact ⟨_, rfl, RetRow.e0 _ rfl, RetRow.e1 _ _⟩
  · have h1' : inB o 0 7 = false := by simpa using h1
    have e : epF o a = [] := by simp [epF, h1']
    rw [e]
    clear e h1
    go_enter Try.func50, Try.ntmps50
    go_wp2_with (go_at_call 79; refine (c_l1In _ _ _ _).mono ?_; rintro e w' ⟨rfl, rfl⟩)
    go_ret
    exact ⟨_, rfl, RetRow.e0 _ rfl, RetRow.e1 _ _⟩
end Go.Proofs.Ytefdnkhmgefdaaa
