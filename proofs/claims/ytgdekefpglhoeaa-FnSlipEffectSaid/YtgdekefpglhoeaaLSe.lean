/- What is proved here: the walk of laws.FnSlipEffect. -/
import Derived.Test.YtgdekefpglhoeaaErr2
import Derived.Test.YtgdekefpglhoeaaLaws1
import Derived.Test.YtgdekefpglhoeaaDraw1
import Derived.Test.YtgdekefpglhoeaaSlc
set_option linter.unusedVariables false
set_option linter.unusedSimpArgs false
namespace Go.Proofs.Ytgdekefpglhoeaa
open Go.RowKit

theorem pascal : ∀ m, m < 60 → ∀ c, c < 6 → chF ((m : Nat) + 1 : Int) (c + 1) - chF ((m : Nat) : Int) (c + 1) = chF ((m : Nat) : Int) c := by decide
theorem ch_zero : ∀ c, c < 6 → chF 0 (c + 1) = 0 := by decide
/-- The row after k rounds, at place n. -/
def gF (c : Nat) (t a : Int) (k : Nat) (n : Int) : Int := if k ≤ c then effF (c - k) (t + k) a n else if n = t + c then a else 0
def gL (c : Nat) (t a : Int) (cnt k : Nat) : List Int := (List.range cnt).map fun (i : Nat) => gF c t a k i
/-- The row in the middle of round k: the first j places are done. -/
def hL (c : Nat) (t a : Int) (cnt k j : Nat) : List Int := (List.range cnt).map fun i => if i < j then gF c t a (k + 1) i else gF c t a k i
def lastF (c : Nat) (t a : Int) (k : Nat) : Nat → Int
  | 0 => 0
  | j + 1 => gF c t a k j
theorem gL_len (c : Nat) (t a : Int) (cnt k : Nat) : (gL c t a cnt k).length = cnt := by simp [gL]
theorem hL_len (c : Nat) (t a : Int) (cnt k j : Nat) : (hL c t a cnt k j).length = cnt := by simp [hL]
theorem gL_el {c : Nat} {t a : Int} {cnt k i : Nat} (h : i < cnt) : el (gL c t a cnt k) i = gF c t a k i := by
  unfold gL; rw [el_map _ _ _ (by simpa using h)]; simp
theorem hL_el {c : Nat} {t a : Int} {cnt k j i : Nat} (h : i < cnt) : el (hL c t a cnt k j) i = if i < j then gF c t a (k + 1) i else gF c t a k i := by
  unfold hL; rw [el_map _ _ _ (by simpa using h)]; simp
theorem hL_zero (c : Nat) (t a : Int) (cnt k : Nat) : hL c t a cnt k 0 = gL c t a cnt k := by simp [hL, gL]
theorem hL_full (c : Nat) (t a : Int) (cnt k : Nat) : hL c t a cnt k cnt = gL c t a cnt (k + 1) := by
  refine list_ext (by simp [hL, gL]) fun i hi => ?_
  rw [hL_len] at hi
  rw [hL_el hi, gL_el hi, if_pos hi]
theorem gF_bd {c : Nat} {t a : Int} {k : Nat} {n : Int} (hc : c ≤ 6) (ht : 0 ≤ t ∧ t ≤ 59) (ha : -100000 ≤ a ∧ a ≤ 100000) (hn : 0 ≤ n ∧ n ≤ 60) : -1000000000000000000 ≤ gF c t a k n ∧ gF c t a k n ≤ 1000000000000000000 := by
  unfold gF; split
  · unfold effF; split
    · omega
    · have h := ch_bd6 (n := n - (t + k)) (k := c - k) (by omega) (by omega)
      have := mul_bd (a := a) (b := chF (n - (t + k)) (c - k)) (A := 100000) (B := 1064089721800) (by omega) ha.1 ha.2 h.1 h.2
      omega
  · split <;> omega
theorem gF_step {c : Nat} {t a : Int} {k j : Nat} (hc : c ≤ 6) (ht : 0 ≤ t) (hk : k ≤ c) (hj : j < 60) : gF c t a k j - lastF c t a k j = gF c t a (k + 1) j := by
  have hl : lastF c t a k j = if (j : Int) - 1 < t + k then 0 else a * chF ((j : Int) - 1 - (t + k)) (c - k) := by
    cases j with
    | zero => rw [if_pos (by omega)]; rfl
    | succ j =>
      show gF c t a k j = _
      unfold gF effF; rw [if_pos hk]
      rw [show ((j + 1 : Nat) : Int) - 1 = (j : Int) by omega]
  rw [hl]
  unfold gF
  rw [if_pos hk]
  unfold effF
  by_cases hkc : k + 1 ≤ c
  · rw [if_pos hkc]
    obtain ⟨d, hd⟩ : ∃ d, c - k = d + 1 := ⟨c - k - 1, by omega⟩
    have hd' : c - (k + 1) = d := by omega
    rw [hd, hd']
    by_cases h1 : (j : Int) < t + k
    · rw [if_pos h1, if_pos (by omega), if_pos (by omega)]; rfl
    · by_cases h2 : (j : Int) = t + k
      · rw [if_neg h1, if_pos (by omega), if_pos (by omega), h2]
        rw [Int.sub_self, ch_zero d (by omega)]; simp
      · rw [if_neg h1, if_neg (by omega), if_neg (by omega)]
        obtain ⟨m, hm⟩ : ∃ m : Nat, (j : Int) - 1 - (t + k) = m := ⟨((j : Int) - 1 - (t + k)).toNat, by omega⟩
        have e1 : (j : Int) - (t + k) = (m : Int) + 1 := by omega
        have e2 : (j : Int) - (t + (k + 1 : Nat)) = (m : Int) := by omega
        have hp := pascal m (by omega) d (by omega)
        rw [hm, e1, e2, ← hp, Int.mul_sub]
  · rw [if_neg hkc]
    have hd : c - k = 0 := by omega
    rw [hd]
    by_cases h1 : (j : Int) < t + k
    · rw [if_pos h1, if_pos (by omega), if_neg (by omega)]; rfl
    · by_cases h2 : (j : Int) = t + k
      · rw [if_neg h1, if_pos (by omega), if_pos (by omega)]; simp [chF]
      · rw [if_neg h1, if_neg (by omega), if_neg (by omega)]; simp [chF]
theorem hL_step {c : Nat} {t a : Int} {cnt k j : Nat} (hj : j < cnt) : (hL c t a cnt k j).set j (gF c t a (k + 1) j) = hL c t a cnt k (j + 1) := by
  refine list_ext (by simp [hL]) fun i hi => ?_
  rw [List.length_set, hL_len] at hi
  by_cases e : j = i
  · subst e; rw [el_set_same (by rw [hL_len]; exact hj), hL_el hj, if_pos (by omega)]
  · rw [el_set_other e, hL_el hi, hL_el hi]
    by_cases h : i < j
    · rw [if_pos h, if_pos (by omega)]
    · rw [if_neg h, if_neg (by omega)]
theorem slip_gL {c : Nat} {t a : Int} {cnt : Nat} (h : slipOk c t a cnt = true) : slipF c t a cnt = gL c t a cnt 0 := by
  rw [slipF_ok h]; unfold gL
  rw [Int.toNat_natCast]
  congr 1
  funext i; unfold gF; simp

theorem w_FnSlipEffect (w : World) (v : Value) (nb : Nat) (hv : IsBy w w.heap.size v nb) :
    Calls Try.prog 7 #[v] w fun e w' => e = .returned (.bool true) ∧ Below w.heap.size w w' := by
  obtain ⟨ad, cap, hva, hm, hc⟩ := id hv
  subst hva
  unfold maxLen at hm
  clear hc
  by_cases hbig : 1048576 < nb
  · clear hv
    go_enter Try.func7, Try.ntmps7
    go_wp2_with fail
    go_ret
    exact ⟨rfl, Below.refl _ _⟩
  · go_enter Try.func7, Try.ntmps7
    go_wp2_with fail
    refine (c_DrawSlipEffect _ _ _ hv).mono ?_
    rintro e w1 ⟨c, t, a, cnt, rfl, ⟨hc, ht, ha, hcnt⟩, b⟩
    have s1 := b.size
    clear hv
    go_wp2_with fail
    refine (c_iSlipEffect _ _ _ _ _).mono ?_
    rintro e w2 ⟨v2, rfl, r2, b2⟩
    have s2 := b2.size
    replace b := b.trans (b2.mono (by omega))
    clear b2
    go_wp2_with fail
    refine (c_sSlipEffect _ _ _ _ _).mono ?_
    rintro e w3 ⟨v3, rfl, r3, b3⟩
    have s3 := b3.size
    replace r2 := r2.below b3 (by omega)
    replace b := b.trans (b3.mono (by omega))
    clear b3
    have hlen := slipF_len (c := c) (t := t) (a := a) (cnt := cnt)
    obtain ⟨a2, cap2, hv2⟩ : ∃ a' cap', v2 = .slice a' (slipF c t a cnt).length cap' := ⟨_, _, r2.isI.choose_spec.choose_spec.1⟩
    subst hv2
    go_wp2_with fail
    refine (deSmC _ _ _ _ _ _ r2.isI r3.isI).mono ?_
    rintro e w4 ⟨rfl, c4⟩
    have s4 := c4.size
    replace r2 := r2.keep c4 (by omega)
    replace r3 := r3.keep c4 (by omega)
    replace b := b.trans (c4.below (by omega) (by omega))
    clear c4
    by_cases hok : slipOk c t a cnt = true
    · have hok' := hok
      simp only [slipOk, Bool.and_eq_true, inB_iff, slipB_iff] at hok'
      obtain ⟨⟨⟨hc0, hc1⟩, ⟨ht0, ht1⟩, ha0, ha1⟩, hn0, hn1⟩ := hok'
      obtain ⟨k, rfl⟩ : ∃ k : Nat, c = k := ⟨c.toNat, by omega⟩
      obtain ⟨n, rfl⟩ : ∃ n : Nat, cnt = n := ⟨cnt.toNat, by omega⟩
      have hG := slip_gL hok
      have hln := gL_len k t a n 0
      rw [hok]
      have hne : (true != true) = false := rfl
      rw [hG] at r2 ⊢
      clear r3 hok hlen hG hc ht ha hcnt
      have hi2 := r2.isI.up (show w2.heap.size ≤ w4.heap.size by omega)
      rw [hln] at hi2 ⊢
      have hi3 := hi2.below (RetRow.e1 w4 (.cells #[] 3)) (Nat.le_refl _)
      have hln' : (gL k t a n 0).length ≤ 60 := by rw [hln]; omega
      have HLN := hid hln
      have HG64 := hid hi2.range
      clear hln hi2 r2
      go_wp2_with (at_builtin; refine wpList_appIs rfl _ _ _ rfl Try.underlying22 Try.infoInt w4.heap.size (.slice (some ⟨w4.heap.size, 0, none⟩) 0 0) [] (by rfl) (OwnI.empty w4 (Nat.le_refl _) rfl) _ _ (gL k t a n 0) hi3 (by rfl) (by simp; omega) (by simp) ?_; intro v5 w5 hown5 hb5)
      have hR5 : Rw w5 w4.heap.size w5.heap.size v5 (gL k t a n 0) := OwnI.rw hown5 HG64.out (Nat.le_refl _)
      have b5 := b.trans (((RetRow.e1 w4 (.cells #[] 3)).trans hb5).mono (show w.heap.size ≤ w4.heap.size by omega))
      obtain ⟨a5, cap5, hv5⟩ : ∃ a' cap', v5 = .slice a' n cap' := by
        obtain ⟨x, y, h, _⟩ := hR5.isI; rw [HLN.out] at h; exact ⟨x, y, h⟩
      have hs5 := hb5.size
      simp at hs5
      subst hv5
      clear hown5 hb5 hi3 b
      go_loopw [12] (fun kk wr => ∃ q : Nat, q ≤ k + 1 ∧ kk = .int .i64 q ∧ Rw wr w4.heap.size w5.heap.size (.slice a5 n cap5) (gL k t a n q) ∧ Below w.heap.size w wr) (fun kk _ => k + 1 - (intOf kk).toNat)
      case atStart => exact ⟨0, Nat.zero_le _, rfl, hR5, b5⟩
      case round =>
        obtain ⟨q, hq, rfl, hRq, bq⟩ := hrel
        obtain ⟨wo, rfl⟩ : ∃ wo : World, wo = wr := ⟨_, rfl⟩
        by_cases hqk : q < k + 1
        · go_wp2_with fail
          go_loopw [13, 14] (fun l i wi => ∃ j : Nat, j ≤ n ∧ i = .int .i64 j ∧ l = .int .i64 (lastF k t a q j) ∧ Rw wi w4.heap.size w5.heap.size (.slice a5 n cap5) (hL k t a n q j) ∧ Below w.heap.size w wi) (fun _ i _ => n - (intOf i).toNat)
          case atStart => exact ⟨0, Nat.zero_le _, rfl, rfl, by rw [hL_zero]; exact hRq, bq⟩
          case round =>
            obtain ⟨j, hj, rfl, rfl, hRj, bj⟩ := hrel
            by_cases hlt : j < n
            · obtain ⟨g, cap', hv', hg1, hg2, hg3, hgc, hgf⟩ := hRj.split (by rw [hL_len]; omega)
              simp only [Value.slice.injEq] at hv'
              obtain ⟨rfl, -, rfl⟩ := hv'
              have hcj : wr.cell? ⟨g, j, none⟩ = some (.int .i64 (gF k t a q j)) := by
                rw [hgc j (by rw [hL_len]; exact hlt), hL_el hlt, if_neg (by omega)]
              have hfj := hgf j
              have HE := hid (gF_step (c := k) (t := t) (a := a) (k := q) (j := j) (by omega) ht0 (by omega) (by omega))
              obtain ⟨z0, z1⟩ := gF_bd (c := k) (t := t) (a := a) (k := q + 1) (n := j) (by omega) ⟨ht0, ht1⟩ ⟨ha0, ha1⟩ (by omega)
              rw [← HE.out] at z0 z1
              have HRn := hid (hRj.set (j := j) (by rw [hL_len]; exact hlt) (x := gF k t a q j - lastF k t a q j) (by omega))
              have Hb := hid (bj.setCell (p := ⟨g, j, none⟩) (show w.heap.size ≤ g by omega) (.int .i64 (gF k t a q j - lastF k t a q j)))
              clear hgc hgf hRj bj
              go_wp2
              go_roundw
              case rel => exact ⟨j + 1, by omega, by go_num, rfl, by rw [← hL_step hlt, ← HE.out]; exact HRn.out, Hb.out⟩
              case measure => simp [intOf]; omega
            · obtain rfl : j = n := by omega
              rw [hL_full] at hRj
              go_wp2
              go_roundw
              case rel => exact ⟨q + 1, by omega, by go_num, hRj, bj⟩
              case measure => simp [intOf]; omega
        · obtain rfl : q = k + 1 := by omega
          have HRq := hid hRq
          clear hRq hR5
          go_wp2_with fail
          go_loop [16] (fun i => ∃ j : Nat, j ≤ n ∧ i = .int .i64 j) (fun i => n - (intOf i).toNat)
          case atStart => exact ⟨0, Nat.zero_le _, rfl⟩
          case round =>
            obtain ⟨j, hj, rfl⟩ := hrel
            by_cases hlt : j < n
            · obtain ⟨g, cap', hv', hg1, hg2, hg3, hgc, hgf⟩ := HRq.out.split (by rw [gL_len]; omega)
              simp only [Value.slice.injEq] at hv'
              obtain ⟨rfl, -, rfl⟩ := hv'
              have hcj := hgc j (by rw [gL_len]; exact hlt)
              rw [gL_el hlt] at hcj
              unfold gF at hcj
              rw [if_neg (by omega)] at hcj
              clear hgc hgf
              by_cases hjt : (j : Int) = t + k
              · rw [if_pos hjt] at hcj
                have e1 : ((j : Int) != t + k) = false := by simpa using hjt
                have e2 : ((j : Int) == t + k) = true := by simpa using hjt
                have e3 : (a != a) = false := by simp
                clear hjt
                go_wp2
                go_round
                case rel => exact ⟨j + 1, by omega, by go_num⟩
                case measure => simp [intOf]; omega
              · rw [if_neg hjt] at hcj
                have e1 : ((j : Int) != t + k) = true := by simpa using hjt
                have e2 : ((j : Int) == t + k) = false := by simpa using hjt
                clear hjt
                go_wp2
                go_round
                case rel => exact ⟨j + 1, by omega, by go_num⟩
                case measure => simp [intOf]; omega
            · have e0 : ((n : Int) == (n : Int)) = true := by simp
              go_wp2
              go_ret
              exact ⟨rfl, bq⟩
    · have hok' : slipOk c t a cnt = false := by simpa using hok
      rw [hok']
      have hne : (false != false) = false := rfl
      clear hok hc ht ha hcnt
      go_wp2_with fail
      refine (deSmC _ _ _ _ _ _ r2.isI r3.isI).mono ?_
      rintro e w5 ⟨rfl, c5⟩
      replace b := b.trans (c5.below (by omega) (by omega))
      go_wp2_with fail
      go_ret
      exact ⟨rfl, b⟩
end Go.Proofs.Ytgdekefpglhoeaa
