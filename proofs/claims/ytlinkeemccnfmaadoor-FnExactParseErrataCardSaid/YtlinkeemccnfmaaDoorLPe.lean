/- What is proved here: the walk of laws.FnExactParseErrata. -/
import Derived.Test.YtlinkeemccnfmaaDoorPeS
import Derived.Test.YtlinkeemccnfmaaDoorPeI
set_option linter.unusedVariables false
set_option linter.unusedSimpArgs false
set_option maxRecDepth 100000
namespace Go.Proofs.YtlinkeemccnfmaaDoor
open Go.RowKit

theorem w_FnExactParseErrata (w : World) (s : ByteArray) (hs0 : s.size ≤ maxLen) (hL : LibV w.heap.size w) :
    Calls Tryd.prog 4 #[.string s] w fun e w' => e = .returned (.bool true) ∧ Below w.heap.size w w' := by
  unfold maxLen at hs0
  by_cases hbig : 1048576 < s.size
  · go_enter Tryd.func4, Tryd.ntmps4
    go_wp2_with fail
    go_ret
    exact ⟨rfl, Below.refl _ _⟩
  · have HL := hid hL
    have b := Below.refl w.heap.size w
    have HE := hid (fun zs (h : EP s = some zs) => EP_len h)
    obtain ⟨zs, hzs⟩ : ∃ zs, (EP s).getD [] = zs := ⟨_, rfl⟩
    have hzl : zs.length ≤ 3145731 := by
      rw [← hzs]
      cases hp : EP s with
      | none => simp
      | some M => have := HE.out M hp; simp; omega
    obtain ⟨ok, hok⟩ : ∃ ok, (EP s).isSome = ok := ⟨_, rfl⟩
    have HI := hid (fun W (hW : w.heap.size ≤ W.heap.size) (hLW : LibV w.heap.size W) => c_iParseErrata s W w.heap.size (by omega) hW hLW)
    have HS := hid (fun W => c_sParseErrata s W (by omega))
    rw [hzs, hok] at HI HS
    have ht1 : (ok != ok) = false := by simp
    clear hL hzs hok HE
    go_enter Tryd.func4, Tryd.ntmps4
    go_wp2_with fail
    refine (HS.out _).mono ?_
    rintro e w1 ⟨v1, rfl, r1, c1⟩
    have s1 := c1.size
    replace b := b.trans (c1.mono (by omega))
    clear c1
    go_wp2_with fail
    refine (HI.out _ (by omega) (HL.out.on b)).mono ?_
    rintro e w2 ⟨v2, rfl, r2, c2⟩
    have s2 := c2.size
    replace r1 := r1.below c2 (by omega)
    replace b := b.trans (c2.mono (by omega))
    clear c2
    go_wp2_with fail
    refine (eqSameErr _ _ _ _ _ _ (by omega) (by omega) r2.isI r1.isI).mono ?_
    rintro e w3 ⟨rfl, c3⟩
    have s3 := c3.size
    replace r1 := r1.keep c3 (by omega)
    replace r2 := r2.keep c3 (by omega)
    replace b := b.trans (c3.below (by omega) (by omega))
    clear c3
    go_wp2_with fail
    refine (markErr _ _ 1 _ _ _ (by omega) (by omega) r2).mono ?_
    clear r2
    rintro e w4 ⟨rfl, r2, c4⟩
    have s4 := c4.size
    replace r1 := r1.keep c4 (by omega)
    replace b := b.trans (c4.below (by omega) (by omega))
    clear c4
    obtain ⟨N, hN⟩ : ∃ N, zs.length = N := ⟨_, rfl⟩
    rw [hN] at r2 hzl ⊢
    have q1 : ¬ (1 + (N : Int)) < 0 := by omega
    have q2 : ((1 + (N : Int)) != (1 + (N : Int))) = false := by simp
    have HN := hid hN
    clear hN
    go_wp2_with fail
    refine (heldErr _ 1 (1 + (N : Int)) N _ _ _ (by omega) (by omega) rfl r2).mono ?_
    rintro e wx ⟨rfl, rfl⟩
    go_wp2_with fail
    refine (HI.out _ (by omega) (HL.out.on b)).mono ?_
    rintro e w5 ⟨v5, rfl, r5, c5⟩
    have s5 := c5.size
    replace r1 := r1.below c5 (by omega)
    replace r2 := r2.below c5 (by omega)
    replace b := b.trans (c5.mono (by omega))
    clear c5
    go_wp2_with fail
    refine (eqSameErr _ _ _ _ _ _ (by omega) (by omega) r5.isI r1.isI).mono ?_
    rintro e w6 ⟨rfl, c6⟩
    have s6 := c6.size
    replace r2 := r2.keep c6 (by omega)
    replace b := b.trans (c6.below (by omega) (by omega))
    clear c6
    go_wp2_with fail
    refine (heldErr _ 1 (1 + (N : Int)) N _ _ _ (by omega) (by omega) rfl r2).mono ?_
    rintro e wx ⟨rfl, rfl⟩
    go_wp2
    go_ret
    exact ⟨rfl, b⟩
end Go.Proofs.YtlinkeemccnfmaaDoor
