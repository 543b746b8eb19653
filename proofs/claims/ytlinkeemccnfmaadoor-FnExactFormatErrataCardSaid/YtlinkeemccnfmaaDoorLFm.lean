/- What is proved here: the walk of laws.FnExactFormatErrata. -/
import Derived.Test.YtlinkeemccnfmaaDoorFmt3
set_option linter.unusedVariables false
set_option linter.unusedSimpArgs false
set_option maxRecDepth 100000
namespace Go.Proofs.YtlinkeemccnfmaaDoor
open Go.RowKit
set_option maxHeartbeats 1600000 in
theorem w_FnExactFormatErrata (w : World) (v : Value) (zs : List Int) (hv : IsE w w.heap.size v zs) (htab : Lib.TabIs Tryd.prog w "internal/strconv.uint64pow10" .u64 Lib.pow10Tab) :
    Calls Tryd.prog 3 #[v] w fun e w' => e = .returned (.bool true) ∧ Below w.heap.size w w' := by
  have HT := hid (Lib.tabBelow_of_tabIs htab)
  have HV := hid hv
  clear hv htab
  go_enter Tryd.func3, Tryd.ntmps3
  go_wp2_with fail
  refine (szErr v zs w w.heap.size 1048576 (by omega) (by omega) HV.out).mono ?_
  rintro e w1 ⟨rfl, rfl⟩
  by_cases hl : (1048576 : Int) * 3 < (zs.length : Int)
  · rw [if_pos hl]
    go_wp2
    go_ret
    exact ⟨rfl, Below.refl _ _⟩
  · rw [if_neg hl]
    have hl2 : zs.length ≤ 3145728 := by omega
    have hl3 : ¬ (1048576 : Int) - (zs.length / 3 : Nat) < 0 := by omega
    generalize (1048576 : Int) - (zs.length / 3 : Nat) = m at *
    clear hl
    go_wp2_with fail
    refine (toErr v zs w hl2 HV.out).mono ?_
    rintro e w2 ⟨v2, rfl, r2, b2⟩
    have HR2 := hid r2
    clear r2
    have HB2 := hid b2
    go_wp2_with fail
    refine (c_FormatErrata v2 zs _ _ (Nat.le_refl _) hl2 HR2.out.isI).mono ?_
    rintro e w3 ⟨rfl, b3⟩
    have bb3 := HB2.out.trans (b3.mono HB2.out.size)
    have HB3 := hid bb3
    clear b2 b3
    go_wp2_with fail
    refine (toErr v zs w3 hl2 ((HV.out.below HB3.out (Nat.le_refl _)).up HB3.out.size)).mono ?_
    rintro e w4 ⟨v4, rfl, r4, b4⟩
    have HR4 := hid r4
    have bb4 := HB3.out.trans (b4.mono HB3.out.size)
    have HB4 := hid bb4
    clear r4 b4 bb3
    go_wp2_with fail
    refine (c_iFormatErrata v4 zs _ _ (Nat.le_refl _) hl2 HR4.out.isI (HT.out.on HB4.out).here).mono ?_
    rintro e w5 ⟨rfl, b5⟩
    have HR5 := hid (HR4.out.isI.below b5 (Nat.le_refl _))
    have HS5 := hid b5.size
    have bb5 := HB4.out.trans (b5.mono HB4.out.size)
    have HB5 := hid bb5
    clear b5 bb4
    go_wp2_with fail
    refine (toErr v zs w5 hl2 ((HV.out.below HB5.out (Nat.le_refl _)).up HB5.out.size)).mono ?_
    rintro e w6 ⟨v6, rfl, r6, b6⟩
    have HR6 := hid r6
    have HI6 := hid ((HR5.out.up HS5.out).below b6 (Nat.le_refl _))
    have HS6 := hid b6.size
    have bb6 := HB5.out.trans (b6.mono HB5.out.size)
    have HB6 := hid bb6
    clear r6 b6 bb5
    go_wp2_with fail
    refine (eqSameErr v4 v6 zs _ _ _ HS6.out (Nat.le_refl _) HI6.out HR6.out.isI).mono ?_
    rintro e w7 ⟨rfl, c7⟩
    go_wp2
    go_ret
    exact ⟨rfl, HB6.out.trans (c7.below (Or.inr (Nat.le_refl _)) HB6.out.size)⟩
end Go.Proofs.YtlinkeemccnfmaaDoor
