/- What is proved here: dePlans of two equal plans, draws of tables with costs, and the walks of laws.FnGreedyFewest and laws.FnCheapestParts. -/
import Derived.Test.YtkiebajggombiaaPlnG
import Derived.Test.YtkiebajggombiaaDfs
set_option linter.unusedVariables false
set_option linter.unusedSimpArgs false
namespace Go.Proofs.Ytkiebajggombiaa
open Go.RowKit

theorem cqD {P : Program} {f : FuncId} {args : Array Value} {w : World} {n : Nat} {v : Value} (h : Calls P f args (w.drewN n) fun e w' => e = .returned v ∧ ∃ m, w' = (w.drewN n).drewN m) :
    Calls P f args (w.drewN n) fun e w'' => e = .returned v ∧ ∃ m, w'' = w.drewN m := h.mono fun _ _ ⟨he, m, hm⟩ => ⟨he, n + m, by rw [hm]; simp⟩
theorem deSmPC (v u : Value) (L : List (Int × List Int)) (B B' : Nat) (w : World) (hv : IsS w B v L) (hu : IsS w B' u L) (hB : B ≤ w.heap.size) (hB' : B' ≤ w.heap.size) :
    Calls Try.prog 26 #[v, u] w fun e w' => e = .returned (.bool true) ∧ Chg 0 0 w w' := by
  obtain ⟨a, cap, rfl, hm, hc⟩ := hv
  obtain ⟨a', cap', rfl, hm', hc'⟩ := hu
  unfold maxLen at hm hm'
  obtain ⟨n, hn⟩ : ∃ n, L.length = n := ⟨_, rfl⟩
  have HN := hid hn
  rw [hn] at hm hc hm' hc' ⊢
  have hl1 : ((n : Int) != (n : Int)) = false := by simp
  clear hn
  go_enter Try.func26, Try.ntmps26
  go_wp2
  go_loopw [5] (fun i wr => ∃ j : Nat, j ≤ n ∧ i = .int .i64 j ∧ Chg 0 0 w wr) (fun i wr => n - (intOf i).toNat)
  case atStart => exact ⟨0, Nat.zero_le _, rfl, Chg.refl _ _ _⟩
  case round =>
    obtain ⟨j, hj, rfl, cr⟩ := hrel
    by_cases hlt : j < n
    · obtain ⟨b, off, x, rfl, hb, g0, g1, hx, h64⟩ := hc j hlt
      obtain ⟨b', off', y, rfl, hb', d0, d1, hy, -⟩ := hc' j hlt
      have cb := cr.below (B := w.heap.size) (by omega) (Nat.le_refl _)
      replace g0 := (cb.cell (p := ⟨b, off + j * 2, none⟩) (show b < w.heap.size by omega)).trans g0
      replace g1 := (cb.cell (p := ⟨b, off + j * 2 + 1, none⟩) (show b < w.heap.size by omega)).trans g1
      replace d0 := (cb.cell (p := ⟨b', off' + j * 2, none⟩) (show b' < w.heap.size by omega)).trans d0
      replace d1 := (cb.cell (p := ⟨b', off' + j * 2 + 1, none⟩) (show b' < w.heap.size by omega)).trans d1
      replace hx := hx.below cb hB
      replace hy := hy.below cb hB'
      have q0 : 0 ≤ (j : Int) := by omega
      have q1 : (j : Int) < n := by omega
      have t1 : (pC L j != pC L j) = false := by simp
      clear hc hc' h64 cb
      go_wp2_with fail
      go_quiet ((go_at_call 20; exact cqD (deSm _ _ (pP L j) B B' _ (hx.drewN _) (hy.drewN _))))
      go_wp2
      go_roundw
      case rel => exact ⟨j + 1, by omega, by go_num, cr.drewN _⟩
      case measure => simp [intOf]; omega
    · obtain rfl : j = n := by omega
      clear hc hc'
      go_wp2
      go_ret
      exact ⟨rfl, cr⟩
theorem c_DrawGreedyPlan (w : World) (v : Value) (k : Nat) (hv : IsBy w w.heap.size v k) :
    Calls Try.prog 27 #[v] w (TabD w) := by
  go_enter Try.func27, Try.ntmps27
  go_wp2_with fail
  refine (c_l9Open _ _ _ hv).mono ?_
  rintro e w0 ⟨rfl, r, b, sz⟩
  clear hv
  go_wp2_with fail
  refine (c_l5Some _ _ _ _ (by omega) r).mono ?_
  clear r
  rintro e w1 ⟨g, off, cap, xs, d, rfl, ⟨d0, d1⟩, hg, hne, hw, r, bb⟩
  have s1 := bb.size
  replace b := b.trans bb
  go_wp2
  go_ret2
  exact ⟨_, xs, _, rfl, ⟨d0, d1⟩, hw.isI hw.lt, b⟩
set_option maxRecDepth 100000 in
set_option maxHeartbeats 1600000 in
theorem w_FnGreedyFewest (w : World) (v : Value) (nb : Nat) (hv : IsBy w w.heap.size v nb) :
    Calls Try.prog 8 #[v] w fun e w' => e = .returned (.bool true) ∧ Below w.heap.size w w' := by
  have hD := c_DrawGreedyPlan w v nb hv
  obtain ⟨a, cap, hva, hm, hc⟩ := id hv
  subst hva
  unfold maxLen at hm
  clear hc
  by_cases hbig : 1048576 < nb
  · clear hv hD
    go_enter Try.func8, Try.ntmps8
    go_wp2_with fail
    go_ret
    exact ⟨rfl, Below.refl _ _⟩
  · go_enter Try.func8, Try.ntmps8
    go_wp2_with fail
    refine hD.mono ?_
    rintro e w1 ⟨vx, xs, d, rfl, hd, hx, b⟩
    have s1 := b.size
    clear hv hD
    go_wp2_with fail
    refine (c_iGreedyPlan _ _ xs hx d).mono ?_
    rintro e w3 ⟨v2, rfl, r2, c⟩
    have s3 := c.size
    replace hx := hx.below c (by omega)
    replace b := b.trans (c.mono (by omega))
    clear c
    go_wp2_with fail
    refine (c_sGreedyPlan _ _ xs (hx.up (by omega)) d).mono ?_
    rintro e w4 ⟨v3, rfl, r3, c⟩
    have s4 := c.size
    replace hx := hx.below c (by omega)
    replace b := b.trans (c.mono (by omega))
    replace r2 := r2.below c (by omega)
    clear c
    go_wp2_with fail
    refine (c_iFewestSegments _ _ xs (hx.up (by omega)) d).mono ?_
    rintro e w5 ⟨rfl, c⟩
    have s5 := c.size
    replace hx := hx.below c (by omega)
    replace b := b.trans (c.mono (by omega))
    replace r2 := r2.below c (by omega)
    replace r3 := r3.below c (by omega)
    clear c
    obtain ⟨a2, c2, hv2⟩ := r2.len
    subst hv2
    go_wp2_with fail
    refine (deSmPC _ _ _ _ _ _ r2.isS r3.isS (by omega) (by omega)).mono ?_
    rintro e w6 ⟨rfl, c⟩
    have s6 := c.size
    replace hx := hx.chg c (by omega) (by omega)
    replace b := b.trans (c.below (by omega) (by omega))
    replace r2 := r2.keep c (by omega)
    replace r3 := r3.keep c (by omega)
    clear c
    by_cases hG : grB xs d = true
    · obtain ⟨hS, d0, d1⟩ := grB_iff.1 hG
      obtain ⟨dn, rfl⟩ : ∃ dn : Nat, d = dn := ⟨d.toNat, by omega⟩
      have HF := hid (show ((grL xs dn).length : Int) = fsF xs dn by rw [grL_yes hG, fsF_H hS (by omega)]; exact gr_few (by omega) _ xs (Nat.le_refl _) (.inr hS))
      have hp := fsH_pos hS (show dn ≤ 6 by omega)
      rw [hG]
      clear hd hS hG
      rw [← HF.out] at hp
      rw [← HF.out]
      have t1 : (((grL xs dn).length : Int) != ((grL xs dn).length : Int)) = false := by simp
      have t2 : (((grL xs dn).length : Int) == ((grL xs dn).length : Int)) = true := by simp
      have hp2 : 1 ≤ (grL xs dn).length := by omega
      go_wp2_with fail
      refine (c_sFewestSegments _ _ xs (hx.up (by omega)) (dn : Int)).mono ?_
      rintro e w7 ⟨rfl, c⟩
      have s7 := c.size
      replace hx := hx.below c (by omega)
      replace b := b.trans (c.mono (by omega))
      replace r2 := r2.below c (by omega)
      replace r3 := r3.below c (by omega)
      clear c
      rw [← HF.out]
      go_wp2
      go_ret
      exact ⟨rfl, b⟩
    · have hG' : grB xs d = false := by simpa using hG
      have hf : fsF xs d = -1 := by
        rcases fsF_cases xs d hd with h | ⟨hS, dn, rfl, hdn⟩
        · exact h
        · exact absurd (grB_iff.2 ⟨hS, by omega, by omega⟩) hG
      have HF := hid hf
      rw [hG', hf]
      clear hd hG hG' hf
      go_wp2_with fail
      refine (c_sFewestSegments _ _ xs (hx.up (by omega)) d).mono ?_
      rintro e w8 ⟨rfl, c⟩
      have s8 := c.size
      replace hx := hx.below c (by omega)
      replace b := b.trans (c.mono (by omega))
      replace r2 := r2.below c (by omega)
      replace r3 := r3.below c (by omega)
      clear c
      rw [HF.out]
      go_wp2_with fail
      refine (deSmPC _ _ _ _ _ _ r2.isS r3.isS (by omega) (by omega)).mono ?_
      rintro e w9 ⟨rfl, c⟩
      have s9 := c.size
      replace hx := hx.chg c (by omega) (by omega)
      replace b := b.trans (c.below (by omega) (by omega))
      replace r2 := r2.keep c (by omega)
      replace r3 := r3.keep c (by omega)
      clear c
      go_wp2_with fail
      refine (c_sFewestSegments _ _ xs (hx.up (by omega)) d).mono ?_
      rintro e w10 ⟨rfl, c⟩
      have s10 := c.size
      replace hx := hx.below c (by omega)
      replace b := b.trans (c.mono (by omega))
      replace r2 := r2.below c (by omega)
      replace r3 := r3.below c (by omega)
      clear c
      rw [HF.out]
      go_wp2
      go_ret
      exact ⟨rfl, b⟩
end Go.Proofs.Ytkiebajggombiaa
