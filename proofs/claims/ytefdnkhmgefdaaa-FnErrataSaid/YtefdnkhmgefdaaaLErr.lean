/- What is proved here: the walk of laws.FnErrata. -/
import Derived.Test.YtefdnkhmgefdaaaDraw4
import Derived.Test.YtefdnkhmgefdaaaEof
import Derived.Test.YtefdnkhmgefdaaaApl2
import Derived.Test.YtefdnkhmgefdaaaLaws1
set_option linter.unusedVariables false
set_option linter.unusedSimpArgs false
namespace Go.Proofs.Ytefdnkhmgefdaaa
open Go.RowKit

theorem e1B_app {zs r : List Int} {i : Nat} (h : (i + 1) * 3 ≤ zs.length) : e1B (zs ++ r) i = e1B zs i := by
  unfold e1B
  rw [el_append_left (by omega), el_append_left (by omega), el_append_left (by omega), el_append_left (by omega)]
theorem evB_app {zs r : List Int} {n : Nat} (h : n * 3 ≤ zs.length) : evB (zs ++ r) n = evB zs n := by
  induction n with
  | zero => rfl
  | succ n ih => rw [evB, evB, ih (by omega), e1B_app h]
theorem apT_app {ps zs r : List Int} {n : Nat} (h : n * 3 ≤ zs.length) : apT ps (zs ++ r) n = apT ps zs n := by
  induction n with
  | zero => rfl
  | succ n ih => rw [apT, apT, ih (by omega), el_append_left (by omega), el_append_left (by omega), el_append_left (by omega)]
theorem er_fit {xs ys : List Int} (hx : TB xs = true) (hy : TB ys = true) (hl : xs.length = ys.length) : ∀ j, j ≤ xs.length →
    evB (erT xs ys j) (erN xs ys j) = true ∧ (erN xs ys j = 0 ∨ el (erT xs ys j) (erN xs ys j * 3 - 3) < j) ∧
    ∃ out, apT ys (erT xs ys j) (erN xs ys j) = some out ∧ out.length = xs.length ∧ ∀ i, i < xs.length → el out i = if i < j then el xs i else el ys i := by
  intro j
  induction j with
  | zero => intro _; exact ⟨rfl, .inl rfl, ys, rfl, hl.symm, fun i hi => by rw [if_neg (by omega)]⟩
  | succ j ih =>
    intro hj
    obtain ⟨h1, h2, out, h3, h4, h5⟩ := ih (by omega)
    have bx := (TB_iff.1 hx).2.2 j (by omega)
    have by' := (TB_iff.1 hy).2.2 j (by omega)
    have h60 := (TB_iff.1 hx).2.1
    by_cases e : el xs j = el ys j
    · rw [erT_same e, erN_same e]
      refine ⟨h1, by omega, out, h3, h4, fun i hi => ?_⟩
      rw [h5 i hi]
      by_cases e2 : i = j
      · subst e2; rw [if_neg (by omega), if_pos (by omega), e]
      · by_cases e3 : i < j
        · rw [if_pos e3, if_pos (by omega)]
        · rw [if_neg e3, if_neg (by omega)]
    · have hL := erT_len xs ys j
      rw [erT_new e, erN_new e]
      have g0 : el (erT xs ys j ++ [(j : Int), el ys j, el xs j]) (erN xs ys j * 3) = j := by rw [el_append_right (by omega), hL, Nat.sub_self]; rfl
      have g1 : el (erT xs ys j ++ [(j : Int), el ys j, el xs j]) (erN xs ys j * 3 + 1) = el ys j := by
        rw [el_append_right (by omega), hL, show erN xs ys j * 3 + 1 - erN xs ys j * 3 = 1 by omega]; rfl
      have g2 : el (erT xs ys j ++ [(j : Int), el ys j, el xs j]) (erN xs ys j * 3 + 2) = el xs j := by
        rw [el_append_right (by omega), hL, show erN xs ys j * 3 + 2 - erN xs ys j * 3 = 2 by omega]; rfl
      refine ⟨?_, .inr ?_, ?_⟩
      · rw [evB, evB_app (by omega), h1, Bool.true_and, e1B_iff, g0, g1, g2]
        refine ⟨by omega, ?_, by omega, by omega, fun h => e h.symm⟩
        rcases h2 with h2 | h2
        · exact .inl h2
        · by_cases e0 : erN xs ys j = 0
          · exact .inl e0
          · right; rw [el_append_left (by omega)]; exact h2
      · rw [show (erN xs ys j + 1) * 3 - 3 = erN xs ys j * 3 by omega, g0]; omega
      · have h6 := apT_fit (ps := ys) (zs := erT xs ys j ++ [(j : Int), el ys j, el xs j]) (j := erN xs ys j) (out := out) (by rw [apT_app (by omega)]; exact h3) (by
          rw [g0, g1, Int.toNat_natCast, h5 j (by omega), if_neg (by omega)]; omega)
        rw [g0, g2, Int.toNat_natCast] at h6
        refine ⟨_, h6, by simpa using h4, fun i hi => ?_⟩
        by_cases e2 : j = i
        · subst e2; rw [el_set_same (by omega), if_pos (by omega)]
        · rw [el_set_other e2, h5 i hi]
          by_cases e3 : i < j
          · rw [if_pos e3, if_pos (by omega)]
          · rw [if_neg e3, if_neg (by omega)]
theorem er_right {xs ys : List Int} (h : alike2 xs ys = true) : apF ys (erF xs ys) = xs ∧ apOk ys (erF xs ys) = true := by
  obtain ⟨hx, hy, hl⟩ := al_len h
  obtain ⟨h1, _, out, h3, h4, h5⟩ := er_fit hx hy hl xs.length (Nat.le_refl _)
  have hL := erT_len xs ys xs.length
  rw [erF_yes h]
  have ho : out = xs := list_ext h4 fun k hk => by rw [h5 k (by omega), if_pos (by omega)]
  subst ho
  exact ap_some hL hy (by unfold EV; rw [hL, Nat.mul_div_cancel _ (by omega)]; exact h1) h3
theorem er_self {xs : List Int} : erF xs xs = [] := by
  have : ∀ j, erT xs xs j = [] := fun j => by induction j with
    | zero => rfl
    | succ j ih => rw [erT_same rfl, ih]
  unfold erF; split
  · exact this _
  · rfl
theorem erN_swap (xs ys : List Int) (j : Nat) : erN ys xs j = erN xs ys j := by
  induction j with
  | zero => rfl
  | succ j ih =>
    by_cases e : el xs j = el ys j
    · rw [erN_same e, erN_same e.symm, ih]
    · rw [erN_new e, erN_new (fun h => e h.symm), ih]
theorem er_head (xs ys : List Int) : ∀ j, erN xs ys j = 0 ∨ el (erT ys xs j) 1 = el (erT xs ys j) 2 := by
  intro j
  induction j with
  | zero => exact .inl rfl
  | succ j ih =>
    by_cases e : el xs j = el ys j
    · rw [erN_same e, erT_same e, erT_same e.symm]; exact ih
    · rw [erT_new e, erT_new (fun h => e h.symm), erN_new e]
      right
      have h1 := erT_len xs ys j
      have h2 := erT_len ys xs j
      rw [erN_swap] at h2
      by_cases e0 : erN xs ys j = 0
      · have n1 : erT xs ys j = [] := List.eq_nil_of_length_eq_zero (by omega)
        have n2 : erT ys xs j = [] := List.eq_nil_of_length_eq_zero (by omega)
        rw [n1, n2]; rfl
      · rw [el_append_left (by omega), el_append_left (by omega)]
        exact ih.resolve_left e0
theorem al_swap {xs ys : List Int} (h : alike2 xs ys = true) : alike2 ys xs = true := by
  obtain ⟨h1, h2, h3⟩ := al_len h
  simp [alike2, h1, h2, h3]
theorem al_self {xs ys : List Int} (h : alike2 xs ys = true) : alike2 xs xs = true := by
  obtain ⟨h1, h2, h3⟩ := al_len h
  simp [alike2, h1]
theorem deSmErr (v u : Value) (xs : List Int) (B B' : Nat) (w : World) (hB : B ≤ w.heap.size) (hB' : B' ≤ w.heap.size) (hv : IsE w B v xs) (hu : IsE w B' u xs) :
    Calls Try.prog 54 #[v, u] w fun e w' => e = .returned (.bool true) ∧ Chg 0 0 w w' :=
  (deErrs v u xs xs B B' w hB hB' hv hu).mono fun e w' ⟨he, n, hw⟩ => ⟨by rw [he, eqL_self], hw ▸ drewN_chg _ _ _ _⟩
theorem cqd {P : Program} {f : FuncId} {args : Array Value} {w : World} {n : Nat} {v : Value} (h : Calls P f args (w.drewN n) fun e w' => e = .returned v ∧ ∃ m, w' = (w.drewN n).drewN m) :
    Calls P f args (w.drewN n) fun e w'' => e = .returned v ∧ ∃ m, w'' = w.drewN m := h.mono fun _ _ ⟨he, m, hw⟩ => ⟨he, n + m, by rw [hw]; simp⟩

set_option maxRecDepth 100000 in
set_option maxHeartbeats 1600000 in
theorem w_FnErrata (w : World) (v : Value) (nb : Nat) (hv : IsBy w w.heap.size v nb) :
    Calls Try.prog 13 #[v] w fun e w' => e = .returned (.bool true) ∧ Below w.heap.size w w' := by
  obtain ⟨a, cap, hva, hm, hc⟩ := id hv
  subst hva
  unfold maxLen at hm
  clear hc
  by_cases hbig : 1048576 < nb
  · clear hv
    go_enter Try.func13, Try.ntmps13
    go_wp2_with fail
    go_ret
    exact ⟨rfl, Below.refl _ _⟩
  · go_enter Try.func13, Try.ntmps13
    go_wp2_with fail
    refine (c_DrawErrataOf _ _ _ hv).mono ?_
    rintro e w1 ⟨vx, vy, xs, ys, rfl, hx, hy, b⟩
    have s1 := b.size
    clear hv
    go_wp2_with fail
    refine (c_iErrataOf _ _ xs hx _ ys hy).mono ?_
    rintro e w3 ⟨v2, rfl, r2, c⟩
    have s3 := c.size
    replace hx := hx.below c (by omega)
    replace hy := hy.below c (by omega)
    replace b := b.trans (c.mono (by omega))
    clear c
    go_wp2_with fail
    refine (c_sErrataOf _ _ xs (hx.up (by omega)) _ ys (hy.up (by omega))).mono ?_
    rintro e w4 ⟨v3, rfl, r3, c⟩
    have s4 := c.size
    replace hx := hx.below c (by omega)
    replace hy := hy.below c (by omega)
    replace b := b.trans (c.mono (by omega))
    replace r2 := r2.below c (by omega)
    clear c
    go_wp2_with fail
    refine (deSmErr _ _ _ _ _ _ (by omega) (by omega) r2.isI r3.isI).mono ?_
    rintro e w5 ⟨rfl, c⟩
    have s5 := c.size
    replace hx := hx.chg c (by omega) (by omega)
    replace hy := hy.chg c (by omega) (by omega)
    replace b := b.trans (c.below (by omega) (by omega))
    replace r2 := r2.keep c (by omega)
    replace r3 := r3.keep c (by omega)
    clear c
    by_cases hA : alike2 xs ys = true
    · have HA := hid hA
      have HR := hid (er_right hA)
      have HE1 := hid (erF_yes hA)
      have HE2 := hid (erF_yes (al_swap hA))
      have HLN := hid (erT_len xs ys xs.length)
      have HLN2 := hid (erT_len ys xs ys.length)
      have HH := hid (er_head xs ys xs.length)
      have HSW := hid (erN_swap xs ys xs.length)
      have HLL := hid (al_len hA).2.2
      have t1 : (true != true) = false := rfl
      rw [hA]
      clear hA r3
      have HL2 := hid (show (erF xs ys).length = erN xs ys xs.length * 3 by rw [HE1.out, HLN.out])
      have HL3 := hid (show (erF ys xs).length = erN xs ys xs.length * 3 by rw [HE2.out, HLN2.out, ← HLL.out, HSW.out])
      have HH2 := hid (show erN xs ys xs.length = 0 ∨ el (erF ys xs) 1 = el (erF xs ys) 2 by rw [HE1.out, HE2.out, ← HLL.out]; exact HH.out)
      have HA2 := hid (al_swap HA.out)
      have HA3 := hid (al_self HA.out)
      go_wp2_with fail
      refine (c_iApplyErrata _ _ ys (hy.up (by omega)) _ (erF xs ys) (r2.isI.up (by omega))).mono ?_
      rintro e w6 ⟨v6, rfl, r6, c⟩
      have s6 := c.size
      replace hx := hx.below c (by omega)
      replace hy := hy.below c (by omega)
      replace b := b.trans (c.mono (by omega))
      replace r2 := r2.below c (by omega)
      clear c
      rw [HR.out.2]
      rw [HR.out.1] at r6
      go_wp2_with fail
      refine (c_iErrataOf _ _ xs (hx.up (by omega)) _ xs (hx.up (by omega))).mono ?_
      rintro e w7 ⟨v7, rfl, r7, c⟩
      have s7 := c.size
      replace hx := hx.below c (by omega)
      replace hy := hy.below c (by omega)
      replace b := b.trans (c.mono (by omega))
      replace r2 := r2.below c (by omega)
      replace r6 := r6.below c (by omega)
      clear c
      rw [HA3.out]
      rw [er_self] at r7
      go_wp2_with fail
      refine (c_iErrataOf _ _ ys (hy.up (by omega)) _ xs (hx.up (by omega))).mono ?_
      rintro e w8 ⟨v8, rfl, r8, c⟩
      have s8 := c.size
      replace hx := hx.below c (by omega)
      replace hy := hy.below c (by omega)
      replace b := b.trans (c.mono (by omega))
      replace r2 := r2.below c (by omega)
      replace r6 := r6.below c (by omega)
      replace r7 := r7.below c (by omega)
      clear c
      rw [HA2.out]
      obtain ⟨n7, a7, cap7, rfl, HL7, -, -, -⟩ := r7.isI
      have hn7 : n7 = 0 := by have := HL7.out; simp at this; omega
      subst hn7
      obtain ⟨n8, a8, cap8, rfl, HL8, hm8, -, hc8⟩ := r8.isI
      obtain ⟨n2, a2, cap2, rfl, HL22, hm2, -, hc2⟩ := r2.isI
      have hn8 : n8 = erN xs ys xs.length := by have := HL8.out; rw [HL3.out] at this; omega
      have hn2 : n2 = erN xs ys xs.length := by have := HL22.out; rw [HL2.out] at this; omega
      unfold maxLen at hm8 hm2
      subst hn8
      subst hn2
      have i6 := r6.isI
      generalize erN xs ys xs.length = m at *
      clear r2 r7 r8 r6
      by_cases h0 : m = 0
      · have t2 : ((m : Int) == 0) = true := by simpa using h0
        have t3 : ((m : Int) == (m : Int)) = true := by simp
        clear h0 hc2 hc8
        go_wp2_with fail
        go_quiet ((go_at_call 25; exact cqd (deSm _ _ _ _ _ _ (i6.drewN _) (hx.drewN _))))
        go_wp2
        go_ret
        exact ⟨rfl, bel_drewN b _⟩
      · have t2 : ((m : Int) == 0) = false := by simpa using h0
        have t3 : ((m : Int) == (m : Int)) = true := by simp
        have t4 := HH2.out.resolve_left h0
        obtain ⟨b8, o8, rfl, hb8, hcell8⟩ := hc8 0 (by omega)
        obtain ⟨b2, o2, rfl, hb2, hcell2⟩ := hc2 0 (by omega)
        have g8 := hcell8 1 (by omega)
        have g2 := hcell2 2 (by omega)
        rw [t4] at g8
        have t5 : (el (erF xs ys) 2 == el (erF xs ys) 2) = true := by simp
        have t6 : 0 < m := by omega
        have t7 : (0 : Int) < m := by omega
        clear hc8 hc2 hcell8 hcell2 t4 h0
        go_wp2_with fail
        go_quiet ((go_at_call 25; exact cqd (deSm _ _ _ _ _ _ (i6.drewN _) (hx.drewN _))))
        go_wp2
        go_ret
        exact ⟨rfl, bel_drewN b _⟩
    · have hA' : alike2 xs ys = false := by simpa using hA
      have t1 : (false != false) = false := rfl
      rw [hA']
      clear hA
      go_wp2_with fail
      refine (deSmErr _ _ _ _ _ _ (by omega) (by omega) r2.isI r3.isI).mono ?_
      rintro e w9 ⟨rfl, c⟩
      have s9 := c.size
      replace hx := hx.chg c (by omega) (by omega)
      replace hy := hy.chg c (by omega) (by omega)
      replace b := b.trans (c.below (by omega) (by omega))
      replace r2 := r2.keep c (by omega)
      replace r3 := r3.keep c (by omega)
      clear c
      go_wp2_with fail
      go_ret
      exact ⟨rfl, b⟩
end Go.Proofs.Ytefdnkhmgefdaaa
