/- What is proved here: contract of DrawFewestSegments, and the walk of laws.FnGreedyDegree. -/
import Derived.Test.YtkiebajggombiaaDraw7
import Derived.Test.YtkiebajggombiaaFws
import Derived.Test.YtkiebajggombiaaGdm
import Derived.Test.YtkiebajggombiaaLaws1
set_option linter.unusedVariables false
set_option linter.unusedSimpArgs false
namespace Go.Proofs.Ytkiebajggombiaa
open Go.RowKit

/-- A draw of a table and a degree. -/
def TabD (w : World) (e : Ending) (w' : World) : Prop := ∃ (v : Value) (xs : List Int) (m : Int), e = .returned (.tuple #[v, .int .i64 m]) ∧ (-1 ≤ m ∧ m ≤ 7) ∧ IsI w' w'.heap.size v xs ∧ Below w.heap.size w w'
theorem fsF_cases (xs : List Int) (d : Int) (h : -1 ≤ d ∧ d ≤ 7) : fsF xs d = -1 ∨ SM xs = true ∧ ∃ dn : Nat, d = dn ∧ dn ≤ 6 := by
  by_cases hS : SM xs = true
  · by_cases hd : inB d 0 6 = true
    · have := inB_iff.1 hd
      exact .inr ⟨hS, d.toNat, by omega, by omega⟩
    · exact .inl (fsF_no (.inr (by simpa using hd)))
  · exact .inl (fsF_no (.inl (by simpa using hS)))
theorem c_DrawFewestSegments (w : World) (v : Value) (k : Nat) (hv : IsBy w w.heap.size v k) :
    Calls Try.prog 11 #[v] w (TabD w) := by
  go_enter Try.func11, Try.ntmps11
  go_wp2_with fail
  refine (c_l9Open _ _ _ hv).mono ?_
  rintro e w0 ⟨rfl, r, b, sz⟩
  clear hv
  go_wp2_with fail
  refine (c_l5Some _ _ _ _ (by omega) r).mono ?_
  clear r
  rintro e w1 ⟨g, off, cap, xs, d, rfl, ⟨d0, d1⟩, hg, hne, hw, r, bb⟩
  have s1 := bb.size
  replace b := b.trans bb
  go_wp2
  go_ret2
  exact ⟨_, xs, _, rfl, ⟨d0, d1⟩, hw.isI hw.lt, b⟩
set_option maxRecDepth 100000 in
set_option maxHeartbeats 800000 in
theorem w_FnGreedyDegree (w : World) (v : Value) (nb : Nat) (hv : IsBy w w.heap.size v nb) :
    Calls Try.prog 4 #[v] w fun e w' => e = .returned (.bool true) ∧ Below w.heap.size w w' := by
  have hD := c_DrawFewestSegments w v nb hv
  obtain ⟨a, cap, hva, hm, hc⟩ := id hv
  subst hva
  unfold maxLen at hm
  clear hc
  by_cases hbig : 1048576 < nb
  · clear hv hD
    go_enter Try.func4, Try.ntmps4
    go_wp2_with fail
    go_ret
    exact ⟨rfl, Below.refl _ _⟩
  · go_enter Try.func4, Try.ntmps4
    go_wp2_with fail
    refine hD.mono ?_
    rintro e w1 ⟨vx, xs, d, rfl, hd, hx, b⟩
    have s1 := b.size
    clear hv hD
    have hcase := fsF_cases xs d hd
    clear hd
    go_wp2_with fail
    refine (c_iFewestSegments _ _ xs hx d).mono ?_
    rintro e w3 ⟨rfl, c⟩
    have s3 := c.size
    replace hx := hx.below c (by omega)
    replace b := b.trans (c.mono (by omega))
    clear c
    go_wp2_with fail
    refine (c_sFewestSegments _ _ xs (hx.up (by omega)) d).mono ?_
    rintro e w4 ⟨rfl, c⟩
    have s4 := c.size
    replace hx := hx.below c (by omega)
    replace b := b.trans (c.mono (by omega))
    clear c
    rcases hcase with hr | ⟨hS, dn, rfl, hdn⟩
    · rw [hr]
      have HR := hid hr
      clear hr
      go_wp2_with fail
      refine (c_sFewestSegments _ _ xs (hx.up (by omega)) d).mono ?_
      rintro e w5 ⟨rfl, c⟩
      have s5 := c.size
      replace hx := hx.below c (by omega)
      replace b := b.trans (c.mono (by omega))
      clear c
      rw [HR.out]
      go_wp2
      go_ret
      exact ⟨rfl, b⟩
    · by_cases h6 : dn = 6
      · subst h6
        have h01 := fsH_pos hS (show 6 ≤ 6 by omega)
        generalize hK : fsF xs ((6 : Nat) : Int) = K at *
        have HK := hid hK
        have k1 : ¬ K < 0 := by omega
        have k2 : (K != K) = false := by simp
        clear hK h01
        go_wp2_with fail
        refine (c_sFewestSegments _ _ xs (hx.up (by omega)) ((6 : Nat) : Int)).mono ?_
        rintro e w6 ⟨rfl, c⟩
        have s6 := c.size
        replace hx := hx.below c (by omega)
        replace b := b.trans (c.mono (by omega))
        clear c
        rw [HK.out]
        go_wp2
        go_ret
        exact ⟨by simp, b⟩
      · obtain ⟨g1, g2, g3⟩ := fs_law hS (show dn < 6 by omega)
        generalize hK : fsF xs (dn : Int) = K at *
        have k1 : ¬ K < 0 := by omega
        have k2 : (K != K) = false := by simp
        have k3 : ((dn : Int) == 6) = false := by simp; omega
        clear hK
        go_wp2_with fail
        refine (c_iFewestSegments _ _ xs (hx.up (by omega)) ((dn : Int) + 1)).mono ?_
        rintro e w7 ⟨rfl, c⟩
        have s7 := c.size
        replace hx := hx.below c (by omega)
        replace b := b.trans (c.mono (by omega))
        clear c
        generalize hM : fsF xs ((dn : Int) + 1) = M at *
        clear hM
        obtain ⟨ax, capx, hvx, -⟩ := id hx
        subst hvx
        go_wp2
        go_ret
        exact ⟨rfl, b⟩
end Go.Proofs.Ytkiebajggombiaa
