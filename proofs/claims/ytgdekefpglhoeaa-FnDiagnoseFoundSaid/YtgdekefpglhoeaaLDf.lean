/- What is proved here: the walk of laws.FnDiagnoseFound. -/
import Derived.Test.YtgdekefpglhoeaaDsl2
import Derived.Test.YtgdekefpglhoeaaDfM
import Derived.Test.YtgdekefpglhoeaaLaws1
import Derived.Test.YtgdekefpglhoeaaDraw1
set_option linter.unusedVariables false
set_option linter.unusedSimpArgs false
namespace Go.Proofs.Ytgdekefpglhoeaa
open Go.RowKit

theorem w_FnDiagnoseFound (w : World) (v : Value) (nb : Nat) (hv : IsBy w w.heap.size v nb) :
    Calls Try.prog 10 #[v] w fun e w' => e = .returned (.bool true) ∧ Below w.heap.size w w' := by
  obtain ⟨ad, cap, hva, hm, hc⟩ := id hv
  subst hva
  unfold maxLen at hm
  clear hc
  by_cases hbig : 1048576 < nb
  · clear hv
    go_enter Try.func10, Try.ntmps10
    go_wp2_with fail
    go_ret
    exact ⟨rfl, Below.refl _ _⟩
  · go_enter Try.func10, Try.ntmps10
    go_wp2_with fail
    refine (c_DrawSlipEffect _ _ _ hv).mono ?_
    rintro e w1 ⟨c, t, a, cnt, rfl, ⟨hc, ht, ha, hcnt⟩, b⟩
    have s1 := b.size
    clear hv
    go_wp2_with fail
    refine (c_iSlipEffect _ _ _ _ _).mono ?_
    rintro e w2 ⟨v2, rfl, r2, b2⟩
    have s2 := b2.size
    replace b := b.trans (b2.mono (by omega))
    clear b2
    go_wp2_with fail
    refine (c_sSlipEffect _ _ _ _ _).mono ?_
    rintro e w3 ⟨v3, rfl, r3, b3⟩
    have s3 := b3.size
    replace r2 := r2.below b3 (by omega)
    replace b := b.trans (b3.mono (by omega))
    clear b3
    have hlen := slipF_len (c := c) (t := t) (a := a) (cnt := cnt)
    obtain ⟨a2, cap2, hv2⟩ : ∃ a' cap', v2 = .slice a' (slipF c t a cnt).length cap' := ⟨_, _, r2.isI.choose_spec.choose_spec.1⟩
    subst hv2
    go_wp2_with fail
    refine (deSmC _ _ _ _ _ _ r2.isI r3.isI).mono ?_
    rintro e w4 ⟨rfl, c4⟩
    have s4 := c4.size
    replace r2 := r2.keep c4 (by omega)
    replace r3 := r3.keep c4 (by omega)
    replace b := b.trans (c4.below (by omega) (by omega))
    clear c4
    by_cases hok : slipOk c t a cnt = true
    · have hok' := hok
      simp only [slipOk, Bool.and_eq_true, inB_iff, slipB_iff] at hok'
      obtain ⟨⟨⟨hc0, hc1⟩, ⟨ht0, ht1⟩, ha0, ha1⟩, hn0, hn1⟩ := hok'
      obtain ⟨n, rfl⟩ : ∃ n : Nat, cnt = n := ⟨cnt.toNat, by omega⟩
      rw [hok]
      have HOK := hid hok
      have hln : (slipF c t a n).length = n := by rw [slipF_ok hok]; simp
      have HLN := hid hln
      have hne : (true != true) = false := rfl
      clear hc ht ha hcnt hok hln
      by_cases hn : n = 0
      · have hn' : (((n : Nat) : Int) == 0) = true := by simp [hn]
        clear hn
        go_wp2_with fail
        refine (deSmC _ _ _ _ _ _ r2.isI r3.isI).mono ?_
        rintro e w5 ⟨rfl, c5⟩
        replace b := b.trans (c5.below (by omega) (by omega))
        go_wp2_with fail
        go_ret
        exact ⟨rfl, b⟩
      · have hn' : (((n : Nat) : Int) == 0) = false := by simpa using hn
        by_cases hT : TB (slipF c t a n) = true
        · go_wp2_with fail
          refine (c_iTableValid _ (slipF c t a n) _ _ r2.isI).mono ?_
          rw [hT]
          rintro e wx ⟨rfl, rfl⟩
          have HT := hid hT
          have HM := made_zero n
          have hmk := mk_ints Try.underlying22 Try.infoInt n (by omega)
          generalize madeCells #[Value.int .i64 0] n = mc at *
          have HB : Blk (w4.alloc (.cells mc 3)) w4.heap.size (List.replicate n 0) := Blk.new HM
          have hs5 : (w4.alloc (.cells mc 3)).heap.size = w4.heap.size + 1 := by simp
          have b4 : Below w.heap.size w (w4.alloc (.cells mc 3)) := b.alloc (by omega) _
          have r22 := r2.below (RetRow.e1 w4 (.cells mc 3)) (show w2.heap.size ≤ w4.heap.size by omega)
          have hz := HB.isI (hi := (w4.alloc (.cells mc 3)).heap.size) (by omega) (by simp; unfold maxLen; omega) (R64.of_el fun k _ => by rw [zeros_el]; omega)
          simp only [List.length_replicate] at hz
          clear hT r3 r2 b HM
          go_wp2_with fail
          refine (c_iDiagnoseSlip _ _ _ hz _ _ (r22.isI.up (by omega))).mono ?_
          by_cases h1 : a = 0 ∨ (n : Int) ≤ t + c
          · rw [diag_hidden HOK.out HT.out h1]
            rintro e w6 ⟨rfl, b6⟩
            have b7 := b4.trans (b6.mono (by omega))
            have k1 : IntKind.i64.wrap (t + c) = t + c := IntWalk.i64_in _ (by omega)
            clear b6 hz HB HT
            by_cases h2 : a = 0
            · subst h2
              go_wp2_with fail
              go_ret
              exact ⟨rfl, b7⟩
            · have h2' : (a == 0) = false := by simpa using h2
              have h3 : (n : Int) ≤ t + c := h1.resolve_left h2
              go_wp2_with fail
              go_ret
              exact ⟨rfl, b7⟩
          · have h2 : a ≠ 0 := fun h => h1 (.inl h)
            have h3 : t + c < n := by omega
            obtain ⟨c', hd, g1, g2, g3, g4⟩ := diag_shown HOK.out HT.out h2 h3
            rw [hd]
            have hok2 : slipOk c' (t + c - c') a n = true := by unfold slipOk; rw [g2, inB_yes hn0 hn1]; rfl
            rintro e w6 ⟨rfl, b6⟩
            have s6 := b6.size
            have b7 := b4.trans (b6.mono (by omega))
            have r6 := r22.below b6 (by omega)
            have k1 : IntKind.i64.wrap (t + c) = t + c := IntWalk.i64_in _ (by omega)
            have h2' : (a == 0) = false := by simpa using h2
            have h4 : ¬ (n : Int) ≤ t + c := by omega
            clear b6 hz HB HT hd g2 h1 b4 r22
            go_wp2_with fail
            refine (c_iSlipEffect _ _ _ _ _).mono ?_
            rw [hok2, g3]
            rintro e w7 ⟨v7, rfl, r7, b8⟩
            have s7 := b8.size
            replace r6 := r6.below b8 (by omega)
            replace b7 := b7.trans (b8.mono (by omega))
            obtain ⟨a7, cap7, hv7⟩ : ∃ a' cap', v7 = .slice a' (slipF c t a n).length cap' := ⟨_, _, r7.isI.choose_spec.choose_spec.1⟩
            subst hv7
            clear b8 hok2 g3
            go_wp2_with fail
            refine (deSmC _ _ _ _ _ _ r7.isI r6.isI).mono ?_
            rintro e w8 ⟨rfl, c8⟩
            replace b7 := b7.trans (c8.below (by omega) (by omega))
            clear c8 r6 r7
            have m1 : IntKind.i64.wrap ((c' : Int) + (t + c - c')) = t + c := by rw [show (c' : Int) + (t + c - c') = t + c by omega]; exact k1
            have m2 : IntKind.i64.wrap (c + t) = t + c := by rw [show c + t = t + c by omega]; exact k1
            have m3 : IntKind.i64.wrap (t + c + 1) = t + c + 1 := IntWalk.i64_in _ (by omega)
            by_cases h5 : (n : Int) ≤ t + c + 1
            · go_wp2_with fail
              go_ret
              exact ⟨rfl, b7⟩
            · have h6 : ((c' : Int) == c) = true := by simpa using g4 (by omega)
              go_wp2_with fail
              go_ret
              exact ⟨rfl, b7⟩
        · have hT' : TB (slipF c t a n) = false := by simpa using hT
          go_wp2_with fail
          refine (c_iTableValid _ (slipF c t a n) _ _ r2.isI).mono ?_
          rw [hT']
          rintro e wx ⟨rfl, rfl⟩
          clear hT hT'
          go_wp2_with fail
          refine (deSmC _ _ _ _ _ _ r2.isI r3.isI).mono ?_
          rintro e w5 ⟨rfl, c5⟩
          replace b := b.trans (c5.below (by omega) (by omega))
          go_wp2_with fail
          go_ret
          exact ⟨rfl, b⟩
    · have hok' : slipOk c t a cnt = false := by simpa using hok
      rw [hok']
      clear hok
      go_wp2_with fail
      refine (deSmC _ _ _ _ _ _ r2.isI r3.isI).mono ?_
      rintro e w5 ⟨rfl, c5⟩
      replace b := b.trans (c5.below (by omega) (by omega))
      go_wp2_with fail
      go_ret
      exact ⟨rfl, b⟩
end Go.Proofs.Ytgdekefpglhoeaa
