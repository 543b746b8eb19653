/- What is proved here: the walk of laws.FnDiagnoseTrue. -/
import Derived.Test.YtefdnkhmgefdaaaDraw4
import Derived.Test.YtefdnkhmgefdaaaDsl2
import Derived.Test.YtefdnkhmgefdaaaLaws1
set_option linter.unusedVariables false
set_option linter.unusedSimpArgs false
namespace Go.Proofs.Ytefdnkhmgefdaaa
open Go.RowKit

theorem dgF_some {W : List Int} {f : Nat} : ∀ {n c c' : Nat}, dgF W f c n = some c' → expl W c' ((f : Int) - c') (el W f) = true := by
  intro n
  induction n with
  | zero => intro c c' h; cases h
  | succ n ih =>
    intro c c' h
    rw [dgF] at h
    by_cases e : expl W c ((f : Int) - c) (el W f) = true
    · rw [if_pos e] at h; simp only [Option.some.injEq] at h; rw [← h]; exact e
    · rw [if_neg e] at h; exact ih h
theorem diag_true {xs ys : List Int} {c t a : Int} (h : diag xs ys = (c, t, a, true)) : alike2 xs ys = true ∧ slipOk c t a xs.length = true ∧ slipF c t a xs.length = wrF xs ys ∧ a ≠ 0 := by
  by_cases hA : alike2 xs ys = true
  · refine ⟨hA, ?_⟩
    rcases firstF_cases xs ys with hf | ⟨f, hf, hfl⟩
    · rw [diag_none hA hf] at h; simp at h
    · cases hd : dgF (wrF xs ys) f 0 (dgN f) with
      | none => rw [diag_not hA hf hd] at h; simp at h
      | some c' =>
        rw [diag_some hA hf hd] at h
        simp only [Prod.mk.injEq, and_true] at h
        obtain ⟨rfl, rfl, rfl⟩ := h
        have he := dgF_some hd
        rw [expl, wrF_len, Bool.and_eq_true] at he
        have hT : TB xs = true := by simp only [alike2, Bool.and_eq_true] at hA; exact hA.1
        have h60 := (TB_iff.1 hT).2.1
        refine ⟨slipOk_of he.1 h60, ?_, ?_⟩
        · have := he.2; simp only [eqL, decide_eq_true_eq] at this; exact this
        · rw [wrF_el hfl]
          rcases fdF_spec xs ys xs.length 0 with ⟨h1, _⟩ | ⟨f', h1, _, h3, h4, _⟩
          · have : firstF xs ys = -1 := h1; omega
          · have : firstF xs ys = f' := h1
            obtain rfl : f' = f := by omega
            omega
  · rw [diag_no (by simpa using hA)] at h; simp at h

set_option maxRecDepth 100000 in
set_option maxHeartbeats 1600000 in
theorem w_FnDiagnoseTrue (w : World) (v : Value) (nb : Nat) (hv : IsBy w w.heap.size v nb) :
    Calls Try.prog 14 #[v] w fun e w' => e = .returned (.bool true) ∧ Below w.heap.size w w' := by
  obtain ⟨a, cap, hva, hm, hc⟩ := id hv
  subst hva
  unfold maxLen at hm
  clear hc
  by_cases hbig : 1048576 < nb
  · clear hv
    go_enter Try.func14, Try.ntmps14
    go_wp2_with fail
    go_ret
    exact ⟨rfl, Below.refl _ _⟩
  · go_enter Try.func14, Try.ntmps14
    go_wp2_with fail
    refine (c_DrawDiagnoseSlip _ _ _ hv).mono ?_
    rintro e w1 ⟨vx, vy, xs, ys, rfl, hx, hy, b⟩
    have s1 := b.size
    clear hv
    go_wp2_with fail
    refine (c_iDiagnoseSlip _ _ xs hx _ ys hy).mono ?_
    rintro e w3 ⟨rfl, c⟩
    have s3 := c.size
    replace hx := hx.below c (by omega)
    replace hy := hy.below c (by omega)
    replace b := b.trans (c.mono (by omega))
    clear c
    go_wp2_with fail
    refine (c_sDiagnoseSlip _ _ xs (hx.up (by omega)) _ ys (hy.up (by omega))).mono ?_
    rintro e w4 ⟨rfl, c⟩
    have s4 := c.size
    replace hx := hx.below c (by omega)
    replace hy := hy.below c (by omega)
    replace b := b.trans (c.mono (by omega))
    clear c
    have HD := hid (show ∀ c t a : Int, diag xs ys = (c, t, a, true) → _ from fun c t a h => diag_true h)
    generalize diag xs ys = D at *
    obtain ⟨co, tu, am, ok⟩ := D
    have t1 : (co != co) = false := by simp
    have t2 : (tu != tu) = false := by simp
    have t3 : (am != am) = false := by simp
    have t4 : (ok != ok) = false := by simp
    have t5 : (co == co) = true := by simp
    have t6 : (tu == tu) = true := by simp
    have t7 : (am == am) = true := by simp
    have t8 : (ok == ok) = true := by simp
    cases ok with
    | false =>
      go_wp2
      go_ret
      exact ⟨rfl, b⟩
    | true =>
      obtain ⟨hA, hok, hS, ha⟩ := HD.out _ _ _ rfl
      have hA2 := hA
      simp only [alike2, Bool.and_eq_true, decide_eq_true_eq] at hA2
      obtain ⟨hT, hT2, hl⟩ := hA2
      have ha' : (am != 0) = true := by simpa using ha
      have HS := hid hS
      have HOK := hid hok
      have HX := hid (TB_Bd hT)
      have HY := hid (TB_Bd hT2)
      have h60 := (TB_iff.1 hT).2.1
      obtain ⟨ax, capx, rfl, hmx, -, hcx⟩ := hx
      obtain ⟨ay, capy, rfl, hmy, -, hcy⟩ := hy
      unfold maxLen at hmx hmy
      clear HD hA hok hS ha hT hT2
      generalize hn : xs.length = n at *
      have HN := hid hn
      rw [← hl] at hcy hmy ⊢
      have HLY := hid hl.symm
      clear hl hn
      go_wp2_with fail
      refine (c_iSlipEffect _ co tu am n).mono ?_
      rw [HOK.out, HS.out]
      rintro e w5 ⟨v5, rfl, r5, c5⟩
      have s5 := c5.size
      replace b := b.trans (c5.mono (by omega))
      obtain ⟨a5, cap5, rfl, hm5, -, hc5⟩ := r5.isI
      have HW := hid (wrF_len xs ys)
      unfold maxLen at hm5
      rw [HW.out, HN.out] at hm5 hc5 ⊢
      clear r5
      go_wp2
      go_loopw [15] (fun i wr => ∃ j : Nat, j ≤ n ∧ i = .int .i64 j ∧ ∃ m, wr = w5.drewN m) (fun i _ => n - (intOf i).toNat)
      case atStart => exact ⟨0, Nat.zero_le _, rfl, 0, rfl⟩
      case round =>
        obtain ⟨j, hj, rfl, m, rfl⟩ := hrel
        by_cases hlt : j < n
        · obtain ⟨b1, o1, rfl, hb1, hcell1⟩ := hcx j hlt
          obtain ⟨b2, o2, rfl, hb2, hcell2⟩ := hcy j hlt
          obtain ⟨b3, o3, rfl, hb3, hcell3⟩ := hc5 j hlt
          have g1 := (c5.cell (p := ⟨b1, o1 + j, none⟩) (show b1 < _ by omega)).trans (hcell1 j hlt)
          have g2 := (c5.cell (p := ⟨b2, o2 + j, none⟩) (show b2 < _ by omega)).trans (hcell2 j hlt)
          have g3 := hcell3 j hlt
          rw [wrF_el (by rw [HN.out]; exact hlt)] at g3
          obtain ⟨x0, x1⟩ := HX.out j (by rw [HN.out]; exact hlt)
          obtain ⟨y0, y1⟩ := HY.out j (by rw [HLY.out]; exact hlt)
          have k1 : IntKind.i64.wrap (el xs j + (el ys j - el xs j)) = el ys j := by rw [show el xs j + (el ys j - el xs j) = el ys j by omega]; exact IntWalk.i64_in _ (by omega)
          have k2 : (el ys j != el ys j) = false := by simp
          have q0 : 0 ≤ (j : Int) := by omega
          have q1 : (j : Int) < n := by omega
          clear hcx hcy hc5 hcell1 hcell2 hcell3
          go_wp2_with fail
          go_quiet (fail)
          go_wp2
          go_roundw
          case rel => exact ⟨j + 1, by omega, by go_num, m + nq, rfl⟩
          case measure => simp [intOf]; omega
        · obtain rfl : j = n := by omega
          clear hcx hcy hc5
          go_wp2
          go_ret
          exact ⟨rfl, bel_drewN b _⟩
end Go.Proofs.Ytefdnkhmgefdaaa
