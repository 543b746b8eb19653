/- What is proved here: the walk of laws.FnEngineText. -/
import Derived.Test.YtkaanlldjkflaaaDoorEt4
set_option linter.unusedVariables false
set_option linter.unusedSimpArgs false
set_option maxRecDepth 100000
namespace Go.Proofs.YtkaanlldjkflaaaDoor
open Go.RowKit

set_option maxHeartbeats 6400000 in
theorem w_FnEngineText (w : World) (v : Value) (nb : Nat) (hv : IsBy w w.heap.size v nb) (u : Value) (mb : Nat) (hu : IsBy w w.heap.size u mb) (hm : ∃ m, w.cell? ⟨0, 0, none⟩ = some (.int .i64 m)) :
    Calls Tryd.prog 3 #[v, u] w fun e w' => e = .returned (.bool true) ∧ Below w.heap.size w w' := by
  obtain ⟨m, hm⟩ := hm
  have hm0 := World.block_lt_of_cell? _ _ hm
  have HM := hid hm
  clear hm
  obtain ⟨a, cap, hva, hm1, hc⟩ := id hv
  obtain ⟨a2, cap2, hua, hm2, hc2⟩ := id hu
  subst hva hua
  unfold maxLen at hm1 hm2
  clear hc hc2
  by_cases hbig : 1048576 < nb
  · clear hv hu
    go_enter Tryd.func3, Tryd.ntmps3
    go_wp2_with fail
    go_ret
    exact ⟨rfl, Below.refl _ _⟩
  by_cases hbig2 : 1048576 < mb
  · clear hv hu
    go_enter Tryd.func3, Tryd.ntmps3
    go_wp2_with fail
    go_ret
    exact ⟨rfl, Below.refl _ _⟩
  · have HU := hid hu
    clear hu
    go_enter Tryd.func3, Tryd.ntmps3
    go_wp2_with fail
    refine (c_DrawFormatEngine _ _ _ hv).mono ?_
    rintro e w1 ⟨ax, cx, cs, rfl, hx, hcl, b1⟩
    have s1 := b1.size
    clear hv
    have bX := RetRow.e1 w1 (.cells #[.slice ax cs.length cx] 25)
    have x0 := eng_cell w1 (.slice ax cs.length cx) 25
    have hxB := (hx.below bX (Nat.le_refl _)).up bX.size
    have b5 := b1.trans (bX.mono s1)
    obtain ⟨wB, hwB⟩ : ∃ y, w1.alloc (.cells #[.slice ax cs.length cx] 25) = y := ⟨_, rfl⟩
    rw [hwB] at x0 hxB b5
    have l0 := World.block_lt_of_cell? _ _ x0
    have HK := hid (fun (w' : World) (hb : Below wB.heap.size wB w') => (hb.cell (p := ⟨w1.heap.size, 0, none⟩) l0).trans x0)
    have HI := hid (fun (w' : World) (hb : Below wB.heap.size wB w') => (hxB.below hb (Nat.le_refl _)).up hb.size)
    have hlc : cs.length ≤ 1048576 := by omega
    have s5 := b5.size
    have HB5 := hid b5
    have b := Below.refl wB.heap.size wB
    have HMB := hid (fun (w' : World) (hb : Below wB.heap.size wB w') => (((HB5.out.trans (hb.mono s5)).cell (p := ⟨0, 0, none⟩) hm0).trans HM.out))
    clear hx bX l0 b1 hxB b5 hcl
    cases he : EGV cs with
    | true =>
      have HE := hid he
      have HT := hid (FE_yes he)
      have hjs := JB_size he
      have HPE := hid (show PE (JB cs) = cs by rw [PE, cB_JB he, if_pos he])
      have HCB := hid (show EGV (cB (JB cs)) = true by rw [cB_JB he]; exact he)
      obtain ⟨T, hT⟩ : ∃ T, JB cs = T := ⟨_, rfl⟩
      rw [hT] at hjs HPE HCB HT
      have te := str_some hjs.1
      have t1 : (T.toList == T.toList) = true := by simp
      clear he hT
      go_wp2_with fail
      clear hwB x0
      refine (c_iFormatEngine _ cs _ (HI.out _ b)).mono ?_
      rw [HT.out]
      rintro e w2 ⟨rfl, c⟩
      replace b := b.trans (c.mono b.size)
      clear c
      have x0 := HK.out _ b
      go_wp2_with fail
      clear x0
      refine (c_sFormatEngine _ cs _ hlc (HI.out _ b)).mono ?_
      rw [HT.out]
      rintro e w3 ⟨rfl, c⟩
      replace b := b.trans (c.mono b.size)
      clear c
      have x0 := HK.out _ b
      go_wp2_with fail
      clear x0
      refine (c_iEngineValid _ cs _ (HI.out _ b)).mono ?_
      rw [HE.out]
      rintro e w4 ⟨rfl, c⟩
      replace b := b.trans (c.mono b.size)
      clear c
      go_wp2_with fail
      refine (c_iParseEngine T m _ (by omega) (by have := b.size; omega) (HMB.out _ b)).mono ?_
      rintro e w5 ⟨ab, capb, rfl, ib, c⟩
      rw [HPE.out] at ib ⊢
      rw [HCB.out]
      replace b := b.trans (c.mono b.size)
      clear c
      have q1 := RetRow.e1 w5 (.cells #[.slice ab cs.length capb] 25)
      have x1 := eng_cell w5 (.slice ab cs.length capb) 25
      replace ib := (ib.below q1 (Nat.le_refl _)).up q1.size
      replace b := b.trans (q1.mono b.size)
      obtain ⟨wC, hwC⟩ : ∃ y, w5.alloc (.cells #[.slice ab cs.length capb] 25) = y := ⟨_, rfl⟩
      rw [hwC] at x1 ib b
      have x0 := HK.out _ b
      clear q1
      go_wp2_with fail
      clear hwC x0 x1
      refine (deSameE _ _ cs cs _ ib (HI.out _ b)).mono ?_
      rw [show decide (cs = cs) = true from by simp]
      rintro e w6 ⟨rfl, c⟩
      replace b := b.trans (c.mono b.size)
      clear c ib
      have hu1 := (HU.out.below (HB5.out.trans (b.mono s5)) (Nat.le_refl _)).upE ((HB5.out.trans (b.mono s5)).size)
      go_wp2_with fail
      refine (c_DrawParseEngine _ _ _ hu1).mono ?_
      rintro e w7 ⟨s, rfl, hs, c⟩
      replace b := b.trans (c.mono b.size)
      clear c hu1
      go_wp2_with fail
      refine (c_iParseEngine s m _ hs (by have := b.size; omega) (HMB.out _ b)).mono ?_
      rintro e w8 ⟨ag, cg, rfl, ig, c⟩
      replace b := b.trans (c.mono b.size)
      clear c
      have q1 := RetRow.e1 w8 (.cells #[.slice ag (PE s).length cg] 25)
      have x1 := eng_cell w8 (.slice ag (PE s).length cg) 25
      replace ig := (ig.below q1 (Nat.le_refl _)).up q1.size
      replace b := b.trans (q1.mono b.size)
      obtain ⟨wD, hwD⟩ : ∃ y, w8.alloc (.cells #[.slice ag (PE s).length cg] 25) = y := ⟨_, rfl⟩
      rw [hwD] at x1 ig b
      clear q1
      go_wp2_with fail
      clear hwD
      refine (c_sParseEngine s _ hs).mono ?_
      rintro e w9 ⟨ah, ch, rfl, ih, c⟩
      have s9 := c.size
      have l1 := World.block_lt_of_cell? _ _ x1
      replace x1 := (c.cell (p := ⟨w8.heap.size, 0, none⟩) l1).trans x1
      replace ig := (ig.below c (Nat.le_refl _)).up s9
      replace b := b.trans (c.mono b.size)
      clear c
      have q1 := RetRow.e1 w9 (.cells #[.slice ah (PE s).length ch] 25)
      have x2 := eng_cell w9 (.slice ah (PE s).length ch) 25
      replace x1 := (q1.cell (p := ⟨w8.heap.size, 0, none⟩) (Nat.lt_of_lt_of_le l1 s9)).trans x1
      replace ig := (ig.below q1 (Nat.le_refl _)).up q1.size
      replace ih := (ih.below q1 (Nat.le_refl _)).up q1.size
      replace b := b.trans (q1.mono b.size)
      obtain ⟨wE, hwE⟩ : ∃ y, w9.alloc (.cells #[.slice ah (PE s).length ch] 25) = y := ⟨_, rfl⟩
      rw [hwE] at x1 x2 ig ih b
      have l3 := World.block_lt_of_cell? _ _ x1
      clear q1
      cases hk : EGV (cB s) with
      | true =>
        have HF := hid (show FE (PE s) = s by rw [PE, if_pos hk, FE_yes hk, JB_cB])
        have HKK := hid hk
        have t5 : (s.toList == s.toList) = true := by simp
        clear hk
        go_wp2_with fail
        clear hwE
        refine (deSameE _ _ (PE s) (PE s) _ ig ih).mono ?_
        rw [show decide (PE s = PE s) = true from by simp]
        rintro e w10 ⟨rfl, c⟩
        replace x1 := (c.cell (p := ⟨w8.heap.size, 0, none⟩) l3).trans x1
        replace ig := (ig.below c (Nat.le_refl _)).up c.size
        replace b := b.trans (c.mono b.size)
        clear c
        go_wp2_with fail
        refine (c_iFormatEngine _ (PE s) _ ig).mono ?_
        rw [HF.out]
        rintro e w11 ⟨rfl, c⟩
        replace b := b.trans (c.mono b.size)
        clear c
        go_wp2
        go_ret
        exact ⟨rfl, HB5.out.trans (b.mono s5)⟩
      | false =>
        clear hk
        go_wp2_with fail
        clear hwE
        refine (deSameE _ _ (PE s) (PE s) _ ig ih).mono ?_
        rw [show decide (PE s = PE s) = true from by simp]
        rintro e w10 ⟨rfl, c⟩
        replace b := b.trans (c.mono b.size)
        clear c
        go_wp2
        go_ret
        exact ⟨rfl, HB5.out.trans (b.mono s5)⟩
    | false =>
      have HE := hid he
      have HT := hid (FE_no he)
      have te := str_empty
      clear he
      go_wp2_with fail
      clear hwB x0
      refine (c_iFormatEngine _ cs _ (HI.out _ b)).mono ?_
      rw [HT.out]
      rintro e w2 ⟨rfl, c⟩
      replace b := b.trans (c.mono b.size)
      clear c
      have x0 := HK.out _ b
      go_wp2_with fail
      clear x0
      refine (c_sFormatEngine _ cs _ hlc (HI.out _ b)).mono ?_
      rw [HT.out]
      rintro e w3 ⟨rfl, c⟩
      replace b := b.trans (c.mono b.size)
      clear c
      have x0 := HK.out _ b
      go_wp2_with fail
      clear x0
      refine (c_iEngineValid _ cs _ (HI.out _ b)).mono ?_
      rw [HE.out]
      rintro e w4 ⟨rfl, c⟩
      replace b := b.trans (c.mono b.size)
      clear c
      have hu1 := (HU.out.below (HB5.out.trans (b.mono s5)) (Nat.le_refl _)).upE ((HB5.out.trans (b.mono s5)).size)
      go_wp2_with fail
      refine (c_DrawParseEngine _ _ _ hu1).mono ?_
      rintro e w7 ⟨s, rfl, hs, c⟩
      replace b := b.trans (c.mono b.size)
      clear c hu1
      go_wp2_with fail
      refine (c_iParseEngine s m _ hs (by have := b.size; omega) (HMB.out _ b)).mono ?_
      rintro e w8 ⟨ag, cg, rfl, ig, c⟩
      replace b := b.trans (c.mono b.size)
      clear c
      have q1 := RetRow.e1 w8 (.cells #[.slice ag (PE s).length cg] 25)
      have x1 := eng_cell w8 (.slice ag (PE s).length cg) 25
      replace ig := (ig.below q1 (Nat.le_refl _)).up q1.size
      replace b := b.trans (q1.mono b.size)
      obtain ⟨wD, hwD⟩ : ∃ y, w8.alloc (.cells #[.slice ag (PE s).length cg] 25) = y := ⟨_, rfl⟩
      rw [hwD] at x1 ig b
      clear q1
      go_wp2_with fail
      clear hwD
      refine (c_sParseEngine s _ hs).mono ?_
      rintro e w9 ⟨ah, ch, rfl, ih, c⟩
      have s9 := c.size
      have l1 := World.block_lt_of_cell? _ _ x1
      replace x1 := (c.cell (p := ⟨w8.heap.size, 0, none⟩) l1).trans x1
      replace ig := (ig.below c (Nat.le_refl _)).up s9
      replace b := b.trans (c.mono b.size)
      clear c
      have q1 := RetRow.e1 w9 (.cells #[.slice ah (PE s).length ch] 25)
      have x2 := eng_cell w9 (.slice ah (PE s).length ch) 25
      replace x1 := (q1.cell (p := ⟨w8.heap.size, 0, none⟩) (Nat.lt_of_lt_of_le l1 s9)).trans x1
      replace ig := (ig.below q1 (Nat.le_refl _)).up q1.size
      replace ih := (ih.below q1 (Nat.le_refl _)).up q1.size
      replace b := b.trans (q1.mono b.size)
      obtain ⟨wE, hwE⟩ : ∃ y, w9.alloc (.cells #[.slice ah (PE s).length ch] 25) = y := ⟨_, rfl⟩
      rw [hwE] at x1 x2 ig ih b
      have l3 := World.block_lt_of_cell? _ _ x1
      clear q1
      cases hk : EGV (cB s) with
      | true =>
        have HF := hid (show FE (PE s) = s by rw [PE, if_pos hk, FE_yes hk, JB_cB])
        have HKK := hid hk
        have t5 : (s.toList == s.toList) = true := by simp
        clear hk
        go_wp2_with fail
        clear hwE
        refine (deSameE _ _ (PE s) (PE s) _ ig ih).mono ?_
        rw [show decide (PE s = PE s) = true from by simp]
        rintro e w10 ⟨rfl, c⟩
        replace x1 := (c.cell (p := ⟨w8.heap.size, 0, none⟩) l3).trans x1
        replace ig := (ig.below c (Nat.le_refl _)).up c.size
        replace b := b.trans (c.mono b.size)
        clear c
        go_wp2_with fail
        refine (c_iFormatEngine _ (PE s) _ ig).mono ?_
        rw [HF.out]
        rintro e w11 ⟨rfl, c⟩
        replace b := b.trans (c.mono b.size)
        clear c
        go_wp2
        go_ret
        exact ⟨rfl, HB5.out.trans (b.mono s5)⟩
      | false =>
        clear hk
        go_wp2_with fail
        clear hwE
        refine (deSameE _ _ (PE s) (PE s) _ ig ih).mono ?_
        rw [show decide (PE s = PE s) = true from by simp]
        rintro e w10 ⟨rfl, c⟩
        replace b := b.trans (c.mono b.size)
        clear c
        go_wp2
        go_ret
        exact ⟨rfl, HB5.out.trans (b.mono s5)⟩
end Go.Proofs.YtkaanlldjkflaaaDoor
