/- What is proved here: the walk of laws.FnCheapestParts. -/
import Derived.Test.YtkiebajggombiaaDpl
import Derived.Test.YtkiebajggombiaaPlnD
set_option linter.unusedVariables false
set_option linter.unusedSimpArgs false
namespace Go.Proofs.Ytkiebajggombiaa
open Go.RowKit

/-- A part of a slice of segments. -/
theorem IsS.sub {w : World} {B n b off cap : Nat} {L : List (Int × List Int)} (h : IsS w B (.slice (some ⟨b, off, none⟩) n cap) L) {lo m : Nat} (hm : lo + m ≤ L.length) : IsS w B (.slice (some ⟨b, off + lo * 2, none⟩) m (cap - lo)) ((L.drop lo).take m) := by
  obtain ⟨a', cap', he, hmm, hc⟩ := h
  simp only [Value.slice.injEq] at he
  obtain ⟨rfl, rfl, rfl⟩ := he
  have hl : ((L.drop lo).take m).length = m := by rw [List.length_take, List.length_drop]; omega
  refine ⟨_, cap - lo, by rw [hl], ⟨by omega, by omega, fun h => by cases h⟩, fun i hi => ?_⟩
  rw [hl] at hi
  obtain ⟨b', off', u, ha, hb, g0, g1, hu, h64⟩ := hc (lo + i) (by omega)
  simp only [Option.some.injEq, Addr.mk.injEq, and_true] at ha
  obtain ⟨rfl, rfl⟩ := ha
  obtain ⟨e1, e2⟩ := p_take (L := L.drop lo) hi
  obtain ⟨e3, e4⟩ := p_drop (L := L) (n := lo) (i := i)
  exact ⟨b, off + lo * 2, u, rfl, hb, by rw [e1, e3, show off + lo * 2 + i * 2 = off + (lo + i) * 2 by omega]; exact g0, by rw [show off + lo * 2 + i * 2 + 1 = off + (lo + i) * 2 + 1 by omega]; exact g1, by rw [e2, e4]; exact hu, by rw [e1, e3]; exact h64⟩
def Cst (w : World) (B g L : Nat) (e : Ending) (w' : World) : Prop := ∃ x y : Int, e = .returned (.tuple #[.int .i64 x, .int .i64 y]) ∧ Rd w' B g L ∧ Chg g (g + 1) w w'
theorem c_l5Costs (w : World) (B g L : Nat) (hL : L ≤ 50000) (r : Rd w B g L) :
    Calls Try.prog 50 #[.pointer (some ⟨g, 0, none⟩)] w (Cst w B g (L + 3)) := by
  have hgl := r.lt
  have hge := r.ge
  go_enter Try.func50, Try.ntmps50
  have cc := Chg.refl g (g + 1) w
  go_wp2_with fail
  refine (c_pick _ _ _ _ _ (by omega) (by omega) r).mono ?_
  clear r
  rintro e w2 ⟨x, rfl, xq, r, c⟩
  have s2 := c.size
  obtain ⟨x0, x1⟩ := xq.1 (by omega)
  clear xq
  replace cc := cc.trans c
  clear c
  by_cases hx : x = 0
  · subst hx
    go_wp2_with fail
    refine (c_numLit _ _ _ _ _ [(-1), 1000, 1001] rfl (by intro x hx; simp at hx; omega) (by omega) (by simp) (by simp) _ rfl r).mono ?_
    clear r
    rintro e w3 ⟨y, rfl, yq, r, c⟩
    have s3 := c.size
    simp only [List.mem_cons, List.not_mem_nil, or_false] at yq
    replace cc := cc.trans c
    clear c
    go_wp2_with fail
    refine (c_numLit _ _ _ _ _ [0, 1000, 1001] rfl (by intro x hx; simp at hx; omega) (by omega) (by simp) (by simp) _ rfl r).mono ?_
    clear r
    rintro e w4 ⟨z, rfl, zq, r, c⟩
    have s4 := c.size
    simp only [List.mem_cons, List.not_mem_nil, or_false] at zq
    replace cc := cc.trans c
    clear c
    go_wp2
    go_ret2
    exact ⟨_, _, rfl, r.up (by omega), cc⟩
  · have hx' : (x == 0) = false := by simpa using hx
    clear hx
    go_wp2_with fail
    refine (c_numLit _ _ _ _ _ [5, 1, 0, 20, 3] rfl (by intro x hx; simp at hx; omega) (by omega) (by simp) (by simp) _ rfl r).mono ?_
    clear r
    rintro e w5 ⟨y, rfl, yq, r, c⟩
    have s5 := c.size
    simp only [List.mem_cons, List.not_mem_nil, or_false] at yq
    replace cc := cc.trans c
    clear c
    go_wp2_with fail
    refine (c_numLit _ _ _ _ _ [1, 0, 2, 7] rfl (by intro x hx; simp at hx; omega) (by omega) (by simp) (by simp) _ rfl r).mono ?_
    clear r
    rintro e w6 ⟨z, rfl, zq, r, c⟩
    have s6 := c.size
    simp only [List.mem_cons, List.not_mem_nil, or_false] at zq
    replace cc := cc.trans c
    clear c
    go_wp2
    go_ret2
    exact ⟨_, _, rfl, r.up (by omega), cc⟩
/-- A draw of a table and three numbers. -/
def TabI3 (w : World) (e : Ending) (w' : World) : Prop := ∃ (v : Value) (xs : List Int) (d s c : Int), e = .returned (.tuple #[v, .int .i64 d, .int .i64 s, .int .i64 c]) ∧ IsI w' w'.heap.size v xs ∧ Below w.heap.size w w'
theorem c_DrawCheapestPlan (w : World) (v : Value) (k : Nat) (hv : IsBy w w.heap.size v k) :
    Calls Try.prog 23 #[v] w (TabI3 w) := by
  go_enter Try.func23, Try.ntmps23
  go_wp2_with fail
  refine (c_l9Open _ _ _ hv).mono ?_
  rintro e w0 ⟨rfl, r, b, sz⟩
  clear hv
  go_wp2_with fail
  refine (c_l5Some _ _ _ _ (by omega) r).mono ?_
  clear r
  rintro e w1 ⟨g, off, cap, xs, d, rfl, ⟨d0, d1⟩, hg, hne, hw, r, bb⟩
  have s1 := bb.size
  replace b := b.trans bb
  go_wp2_with fail
  refine (c_l5Costs _ _ _ _ (by omega) r).mono ?_
  clear r
  rintro e w2 ⟨x, y, rfl, r, c2⟩
  have hw2 := hw.chg c2 (by omega)
  replace b := b.trans (c2.below (by omega) (by omega))
  go_wp2
  refine bodyPost_ret (v := .tuple #[.slice (some ⟨g, off, none⟩) xs.length cap, .int .i64 d, .int .i64 x, .int .i64 y]) (by simp [results, Try.results23, go_sem]) rfl ?_
  exact ⟨_, xs, _, _, _, rfl, hw2.isI hw2.lt, b⟩
set_option maxRecDepth 100000 in
set_option maxHeartbeats 1600000 in
theorem w_FnCheapestParts (w : World) (v : Value) (nb : Nat) (hv : IsBy w w.heap.size v nb) :
    Calls Try.prog 7 #[v] w fun e w' => e = .returned (.bool true) ∧ Below w.heap.size w w' := by
  have hD := c_DrawCheapestPlan w v nb hv
  obtain ⟨a, cap, hva, hm, hc⟩ := id hv
  subst hva
  unfold maxLen at hm
  clear hc
  by_cases hbig : 1048576 < nb
  · clear hv hD
    go_enter Try.func7, Try.ntmps7
    go_wp2_with fail
    go_ret
    exact ⟨rfl, Below.refl _ _⟩
  · go_enter Try.func7, Try.ntmps7
    go_wp2_with fail
    refine hD.mono ?_
    rintro e w1 ⟨vx, xs, d, s, c0, rfl, hx, b⟩
    have s1 := b.size
    clear hv hD
    go_wp2_with fail
    refine (c_iCheapestPlan _ _ xs hx d s c0).mono ?_
    rintro e w3 ⟨v2, rfl, r2, c⟩
    have s3 := c.size
    replace hx := hx.below c (by omega)
    replace b := b.trans (c.mono (by omega))
    clear c
    go_wp2_with fail
    refine (c_sCheapestPlan _ _ xs (hx.up (by omega)) d s c0).mono ?_
    rintro e w4 ⟨v3, rfl, r3, c⟩
    have s4 := c.size
    replace hx := hx.below c (by omega)
    replace b := b.trans (c.mono (by omega))
    replace r2 := r2.below c (by omega)
    clear c
    go_wp2_with fail
    refine (deSmPC _ _ _ _ _ _ r2.isS r3.isS (by omega) (by omega)).mono ?_
    rintro e w5 ⟨rfl, c⟩
    have s5 := c.size
    replace hx := hx.chg c (by omega) (by omega)
    replace b := b.trans (c.below (by omega) (by omega))
    replace r2 := r2.keep c (by omega)
    replace r3 := r3.keep c (by omega)
    clear c
    by_cases hG : ckB xs d s c0 = true
    · obtain ⟨hS, ⟨d0, d1⟩, hs, hc⟩ := ckB_iff.1 hG
      obtain ⟨dn, rfl⟩ : ∃ dn : Nat, d = dn := ⟨d.toNat, by omega⟩
      have hdn : dn ≤ 6 := by omega
      have hck := ck_cons hS hdn hs hc
      obtain ⟨n1, n2, -⟩ := chN_spec hS hdn hs hc
      have HCK := hid hck
      have hl1 := SM_iff.1 hS
      have hl60 := hl1.2.1
      have HTL := hid (SM_tail hS (chN xs dn s c0))
      rw [ckL_yes hG] at r2 r3
      rw [hG]
      have HB2 := hid (fun (h : SM (xs.drop (chN xs dn s c0)) = true) => (show ckB (xs.drop (chN xs dn s c0)) dn s c0 = true from ckB_iff.2 ⟨h, ⟨d0, d1⟩, hs, hc⟩))
      clear hG hck hl1
      generalize hN : chN xs dn s c0 = N at *
      rw [HCK.out] at r2 r3
      generalize hps : rnL (xs.take N) dn = ps at *
      clear hps hN HCK
      have hi2 := r2.isS
      obtain ⟨a2, c2, hv2⟩ := r2.len
      subst hv2
      obtain ⟨a2', c2', he2, hm2, hc2⟩ := id hi2
      simp only [Value.slice.injEq, true_and] at he2
      obtain ⟨rfl, rfl⟩ := he2
      obtain ⟨b2, o2, u2, rfl, hb2, g0, g1, hu2, h64⟩ := hc2 0 (by simp)
      unfold maxLen at hm2
      have hm2a := hm2.1
      have hm2b := hm2.2.1
      rw [show pC (((N : Int), ps) :: ck (xs.drop N) dn s c0) 0 = (N : Int) from rfl] at g0
      rw [Nat.zero_mul, Nat.add_zero] at g0
      clear hc2 hm2 h64 hu2 g1
      obtain ⟨a1, c1, hv1⟩ : ∃ a cap, vx = .slice a xs.length cap := ⟨_, _, hx.choose_spec.choose_spec.1⟩
      subst hv1
      obtain ⟨a1', c1', he1, hm1, -, hc1⟩ := id hx
      simp only [Value.slice.injEq, true_and] at he1
      obtain ⟨rfl, rfl⟩ := he1
      obtain ⟨b1, o1, rfl, hb1, -⟩ := hc1 0 (by omega)
      unfold maxLen at hm1
      have hm1a := hm1.1
      have hm1b := hm1.2.1
      clear hc1 hm1
      have hlc : (((N : Int), ps) :: ck (xs.drop N) dn s c0).length = (ck (xs.drop N) dn s c0).length + 1 := rfl
      rw [hlc] at hm2a hi2 ⊢
      have k1 : ((N : Int) == (xs.length : Int)) = decide (N = xs.length) := by by_cases e : N = xs.length <;> simp [e]; omega
      by_cases hNl : N = xs.length
      · have HNIL := hid (show ck (xs.drop N) dn s c0 = [] by rw [List.drop_eq_nil_of_le (by omega)]; rfl)
        have k2 : ((N : Int) == (xs.length : Int)) = true := by rw [k1]; simpa using hNl
        rw [HNIL.out] at hm2a hi2 ⊢
        clear hNl k1
        go_wp2
        go_ret
        exact ⟨by simp, b⟩
      · have k2 : ((N : Int) == (xs.length : Int)) = false := by rw [k1]; simpa using hNl
        have hNlt : N < xs.length := by omega
        have hSM : SM (xs.drop N) = true := by
          rcases HTL.out with h | h
          · exact absurd (congrArg List.length h) (by rw [List.length_drop]; simp; omega)
          · exact h
        have hB2 := HB2.out hSM
        have hR1 : 1 ≤ (ck (xs.drop N) dn s c0).length := by rw [ck_cons hSM hdn hs hc]; simp
        have HL2 := hid (ckL_yes hB2)
        have HB3 := hid hB2
        clear hNl k1 hSM hB2 HB2 HTL hs hc hdn
        generalize ck (xs.drop N) dn s c0 = R at *
        have hsub := hx.sub (lo := N) (m := xs.length - N) (by omega)
        rw [List.take_of_length_le (by rw [List.length_drop]; omega)] at hsub
        have q1 : (N : Int) < c1 := by omega
        have q2 : ¬ c1 = N := by omega
        have q3 : (N : Int) ≤ xs.length := by omega
        have q4 : (1 : Int) < c2 := by omega
        have q5 : ¬ c2 = 1 := by omega
        have q6 : (0 : Int) ≤ (N : Int) := by omega
        go_wp2_with fail
        refine (c_iCheapestPlan _ _ (xs.drop N) (hsub.up (by omega)) dn s c0).mono ?_
        rintro e w6 ⟨v6, rfl, r6, c⟩
        have s6 := c.size
        replace hx := hx.below c (by omega)
        replace b := b.trans (c.mono (by omega))
        replace r2 := r2.below c (by omega)
        replace r3 := r3.below c (by omega)
        replace hi2 := hi2.below c (by omega)
        clear c
        rw [HB3.out]
        rw [HL2.out] at r6
        have hi3 := hi2.sub (lo := 1) (m := R.length) (by simp; omega)
        have HTT := hid (show (((N : Int), ps) :: R).drop 1 = R from rfl)
        rw [HTT.out, List.take_of_length_le (Nat.le_refl _)] at hi3
        go_wp2_with fail
        refine (deSmPC _ _ _ _ _ _ r6.isS hi3 (by omega) (by omega)).mono ?_
        rintro e w7 ⟨rfl, c⟩
        have s7 := c.size
        replace hx := hx.chg c (by omega) (by omega)
        replace b := b.trans (c.below (by omega) (by omega))
        replace r2 := r2.keep c (by omega)
        replace r3 := r3.keep c (by omega)
        replace hi2 := hi2.chg c (by omega) (by omega)
        replace r6 := r6.keep c (by omega)
        clear c
        go_wp2
        go_ret
        exact ⟨rfl, b⟩
    · have hG' : ckB xs d s c0 = false := by simpa using hG
      rw [hG']
      clear hG hG'
      go_wp2_with fail
      refine (deSmPC _ _ _ _ _ _ r2.isS r3.isS (by omega) (by omega)).mono ?_
      rintro e w8 ⟨rfl, c⟩
      have s8 := c.size
      replace hx := hx.chg c (by omega) (by omega)
      replace b := b.trans (c.below (by omega) (by omega))
      replace r2 := r2.keep c (by omega)
      replace r3 := r3.keep c (by omega)
      clear c
      go_wp2
      go_ret
      exact ⟨rfl, b⟩
end Go.Proofs.Ytkiebajggombiaa
