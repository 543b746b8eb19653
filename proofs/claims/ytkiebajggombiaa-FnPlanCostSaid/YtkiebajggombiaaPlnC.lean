/- What is proved here: contract of spec's CheapestPlan. -/
import Derived.Test.YtkiebajggombiaaPlnG
import Derived.Test.YtkiebajggombiaaPlnQ
import Derived.Test.YtkiebajggombiaaChM
import Derived.Test.YtkiebajggombiaaFws
set_option linter.unusedVariables false
set_option linter.unusedSimpArgs false
namespace Go.Proofs.Ytkiebajggombiaa
open Go.RowKit

theorem Wc.same {w w' : World} {g off cap : Nat} {xs : List Int} (h : Wc w g off cap xs) (hb : w'.heap[g]? = w.heap[g]?) : Wc w' g off cap xs := by
  obtain ⟨cur, h1, h2, h3, h4⟩ := h
  exact ⟨cur, by rw [hb]; exact h1, h2, h3, h4⟩
theorem OwnS.neI {w : World} {B M g off cap : Nat} {v : Value} {L : List (Int × List Int)} {xs : List Int} (h : OwnS w B M v L) (hw : Wc w g off cap xs) : v.ownBlock ≠ some g := by
  obtain ⟨vals, h1, h2, h3⟩ := h
  obtain ⟨cur, hg, -⟩ := hw
  intro hk
  rcases h2.2 with ⟨rfl, _⟩ | ⟨g', cap', cur', rfl, hbg, hgg, rest⟩
  · simp [Value.ownBlock] at hk
  · simp only [Value.ownBlock, Option.some.injEq] at hk
    subst hk
    rw [hgg] at hg
    simp only [Option.some.injEq, Obj.cells.injEq] at hg
    exact absurd hg.2.1 (by decide)
theorem ck_cost {xs : List Int} {d s c : Int} {f t : Nat} (ht : f + t ≤ xs.length) : el (bst xs d s c xs.length) (f + t) = ctH ((xs.drop f).drop t) d s c := by
  rw [ctH_el ht, List.drop_drop]
set_option maxRecDepth 100000 in
set_option maxHeartbeats 1600000 in
theorem c_l5RawCheapestY (w : World) (v : Value) (xs : List Int) (hv : IsI w w.heap.size v xs) (dn : Nat) (s c : Int) (hS : SM xs = true) (hd : dn ≤ 6) (hs : 0 ≤ s ∧ s ≤ 1000) (hc : 0 ≤ c ∧ c ≤ 1000) :
    Calls Try.prog 65 #[v, .int .i64 dn, .int .i64 s, .int .i64 c] w (RetSB w (ck xs dn s c) true) := by
  have hE : OwnS (w.alloc (.cells #[] 36)) w.heap.size (w.alloc (.cells #[] 36)).heap.size (.slice (some ⟨w.heap.size, 0, none⟩) 0 0) [] := OwnS.empty w (Nat.le_refl _) rfl
  have bE := RetRow.e1 w (.cells #[] 36)
  have hsE : (w.alloc (.cells #[] 36)).heap.size = w.heap.size + 1 := by simp
  have hvE := (hv.below bE (Nat.le_refl _))
  have HE := hid hE
  have h60 := SM_iff.1 hS
  have h61 := h60.2.1
  have h62 := h60.1
  have HS := hid hS
  have HD := hid (show inB (dn : Int) 0 6 = true from inB_yes (by omega) (by omega))
  have HC := hid (show csB s c = true from csB_iff.2 ⟨hs, hc⟩)
  have HSTEP := hid (fun f hf L h => @ck_step xs dn f s c hS hd hs hc hf L h)
  have HSD := hid (fun f (hf : f < xs.length) => SM_drop hS hf)
  obtain ⟨a0, cap0, hva⟩ : ∃ a cap, v = .slice a xs.length cap := ⟨_, _, hv.choose_spec.choose_spec.1⟩
  subst hva
  obtain ⟨a', cap', hva, hmc, -, hcl⟩ := id hv
  simp only [Value.slice.injEq, true_and] at hva
  obtain ⟨rfl, rfl⟩ := hva
  obtain ⟨b, off, rfl, hb, -⟩ := hcl 0 (by omega)
  unfold maxLen at hmc
  obtain ⟨hmc1, hmc2, -⟩ := hmc
  obtain ⟨s0, s1⟩ := hs
  obtain ⟨c0, c1⟩ := hc
  have HBD := hid (fun k => bst_bd (xs := xs) (d := dn) s0 c0 xs.length k)
  have HLB := hid (bst_len (xs := xs) (d := dn) (s := s) (c := c) xs.length)
  clear hE hS h60 hcl
  go_enter Try.func65, Try.ntmps65
  go_wp2_with fail
  refine (c_l5Small _ xs _ _ hvE).mono ?_
  rw [HS.out]
  rintro e wx ⟨rfl, rfl⟩
  go_wp2_with fail
  refine (c_l4Degree _ _).mono ?_
  rw [HD.out]
  rintro e wx ⟨rfl, rfl⟩
  go_wp2_with fail
  refine (c_l5Cost _ _ _).mono ?_
  rw [HC.out]
  rintro e wx ⟨rfl, rfl⟩
  go_wp2_with fail
  refine (c_l5Best _ _ xs (hvE.up (by omega)) dn s c ⟨h62, h61⟩ ⟨s0, s1⟩ ⟨c0, c1⟩).mono ?_
  rintro e w1 ⟨rfl, hw1, b1⟩
  have hs1 := b1.size
  have hown1 := HE.out.below b1 (Nat.le_refl _) (Nat.le_refl _)
  have bb := bE.trans (b1.mono (by omega))
  rw [hsE] at hw1 hown1 ⊢
  clear b1 bE hvE
  go_wp2
  go_loopw [10, 12] (fun o i wr => ∃ (f : Nat) (L : List (Int × List Int)), f ≤ xs.length ∧ i = .int .i64 f ∧ OwnS wr w.heap.size wr.heap.size o L ∧ L.length ≤ f ∧ Hid (L ++ ck (xs.drop f) dn s c = ck xs dn s c) ∧ Wc wr (w.heap.size + 1) 0 (xs.length + 1) (bst xs dn s c xs.length) ∧ Below w.heap.size w wr) (fun _ i _ => xs.length - (intOf i).toNat)
  case atStart => exact ⟨0, [], Nat.zero_le _, rfl, hown1.up (by omega), Nat.le_refl _, rfl, hw1, bb⟩
  case round =>
    clear bb hown1 hw1 hs1
    obtain ⟨f, L, hf, rfl, hown, hLf, HL2, hw, hbel⟩ := hrel
    have hbs := hbel.size
    by_cases hlt : f < xs.length
    · have hSD := HSD.out f hlt
      have HU := hid (lgN_U hSD hd)
      have hspec := chN_spec hSD hd (s := s) (c := c) ⟨s0, s1⟩ ⟨c0, c1⟩
      have HCH := hid (chD_from hSD hd (s := s) (c := c))
      have hlg := lgN_spec hSD hd
      have HHEAD := hid (fun j (hj : 1 ≤ j ∧ j ≤ lgN (xs.drop f) dn) => rn_head hSD hd hj.1 hj.2 hlg.2.2.1)
      have hlg2 := hlg.2.1
      have hch1 := hspec.1
      rw [List.length_drop] at hlg2
      have HCN := hid hspec.2.2.2.2
      have HST := hid (HSTEP.out f hlt L HL2.out)
      have hyl : (xs.drop f).length = xs.length - f := by rw [List.length_drop]
      have HYL := hid hyl
      obtain ⟨N, hN⟩ : ∃ N, lgN (xs.drop f) dn = N := ⟨_, rfl⟩
      obtain ⟨R, hR⟩ : ∃ R, chN (xs.drop f) dn s c = R := ⟨_, rfl⟩
      rw [hN] at HU HCH HHEAD hlg2
      rw [hR] at HCH hch1 HST HCN
      have k1 : (f : Int) < cap0 := by omega
      have k2 : ¬ cap0 = f := by omega
      have k3 : (f : Int) ≤ xs.length := by omega
      have hvr := hv.below hbel (Nat.le_refl _)
      have hsub := hvr.sub (lo := f) (m := xs.length - f) (by omega)
      rw [List.take_of_length_le (by omega)] at hsub
      clear hspec hlg hSD hyl hN hR
      go_wp2_with fail
      refine (c_l5Longest _ _ (xs.drop f) (hsub.up hbs) _ (by rw [HYL.out]; omega)).mono ?_
      rw [HU.out]
      rintro e w2 ⟨rfl, b2⟩
      have hown2 := hown.below b2 (Nat.le_refl _) (Nat.le_refl _)
      have hw2 := hw.below b2 hw.lt
      have s2 := b2.size
      have bb2 := hbel.trans (b2.mono hbs)
      clear hown hw hbel b2 hvr hsub
      go_wp2
      go_loopw [10, 12, 13] (fun o' i' n' wr' => ∃ t : Nat, t ≤ N ∧ n' = .int .i64 t ∧ i' = .int .i64 f ∧ Hid (chD (xs.drop f) dn s c t = R) ∧ OwnS wr' w.heap.size wr'.heap.size o' L ∧ Wc wr' (w.heap.size + 1) 0 (xs.length + 1) (bst xs dn s c xs.length) ∧ Below w.heap.size w wr') (fun _ _ n _ => (intOf n).toNat)
      case atStart => exact ⟨N, Nat.le_refl _, rfl, rfl, HCH.out.symm, hown2.up s2, hw2, bb2⟩
      case round =>
        clear hown2 hw2 bb2 s2 hbs
        obtain ⟨t, htN, rfl, rfl, HCD, hown, hw, hbel⟩ := hrel
        have hbs := hbel.size
        by_cases ht : 0 < t
        · have HRN := hid (HHEAD.out t ⟨by omega, htN⟩)
          have hvr := hv.below hbel (Nat.le_refl _)
          have hsub := hvr.sub (lo := f) (m := t) (by omega)
          have k4 : (f : Int) + t ≤ xs.length := by omega
          have k5 : (f : Int) + t ≤ cap0 := by omega
          have k6 : (0 : Int) < t := by omega
          go_wp2_with fail
          refine (c_l5Run _ _ _ (hsub.up hbs) dn).mono ?_
          rw [HRN.out]
          rintro e w3 ⟨v3, rfl, r3, b3⟩
          have s3 := b3.size
          have hL := rnL_len (ys := (xs.drop f).take t) (d := dn)
          have HSC := hid (show chC (xs.drop f) dn s c t = s + c * ((rnL ((xs.drop f).take t) dn).length : Nat) + el (bst xs dn s c xs.length) (f + t) by rw [ck_cost (by omega)]; rfl)
          have HSE := hid (show ctH (xs.drop f) dn s c = el (bst xs dn s c xs.length) f by rw [ctH_el hf])
          obtain ⟨a3, c3, hv3⟩ := r3.len
          subst hv3
          have HY := hid (fun q (hq : t = q + 1) (h : chC (xs.drop f) dn s c t = ctH (xs.drop f) dn s c) => (show chD (xs.drop f) dn s c t = t by subst hq; exact chD_yes HRN.out h))
          have HNO := hid (fun q (hq : t = q + 1) (h : chC (xs.drop f) dn s c t ≠ ctH (xs.drop f) dn s c) => (show chD (xs.drop f) dn s c t = chD (xs.drop f) dn s c q by subst hq; exact chD_no (.inr h)))
          rw [HSC.out, HSE.out] at HY HNO
          have hown3 := hown.below b3 (Nat.le_refl _) (Nat.le_refl _)
          have hw3 := hw.below b3 hw.lt
          have bb3 := hbel.trans (b3.mono hbs)
          have g0 := hw3.cell0 f (by rw [HLB.out]; omega)
          have g1 := hw3.cell0 (f + t) (by rw [HLB.out]; omega)
          obtain ⟨e0, e1⟩ := HBD.out (f + t)
          obtain ⟨e2, e3⟩ := HBD.out f
          clear hown hw hbel b3 hvr hsub
          generalize hps : rnL ((xs.drop f).take t) dn = ps at *
          have HPS := hid hps
          clear hps HSC HSE
          obtain ⟨Lp, hLp⟩ : ∃ Lp, ps.length = Lp := ⟨_, rfl⟩
          have HLP := hid hLp
          rw [hLp] at HY HNO hL r3 ⊢
          have hP0 : 0 ≤ c * (Lp : Int) := Int.mul_nonneg c0 (by omega)
          have hP1 : c * (Lp : Int) ≤ 1000 * 7 := Int.mul_le_mul c1 (by omega) (by omega) (by omega)
          clear hLp
          generalize hE1 : el (bst xs dn s c xs.length) (f + t) = E1 at *
          generalize hE0 : el (bst xs dn s c xs.length) f = E0 at *
          clear hE1 hE0
          have q1 : IntKind.i64.wrap (c * (Lp : Int)) = c * (Lp : Int) := IntWalk.i64_in _ (by omega)
          have q2 : IntKind.i64.wrap (s + c * (Lp : Int)) = s + c * (Lp : Int) := IntWalk.i64_in _ (by omega)
          have q3 : IntKind.i64.wrap (s + c * (Lp : Int) + E1) = s + c * (Lp : Int) + E1 := IntWalk.i64_in _ (by omega)
          have q4 : IntKind.i64.wrap ((f : Int) + t) = (f : Int) + t := IntWalk.i64_in _ (by omega)
          have q5 : ((f : Int) + t).toNat = f + t := by omega
          have q6 : (0 : Int) ≤ (f : Int) + t := by omega
          have q7 : (f : Int) + t < (xs.length : Int) + 1 := by omega
          have q8 : f + t < xs.length + 1 := by omega
          have q9 : (0 : Int) ≤ (f : Int) := by omega
          have q10 : (f : Int) < (xs.length : Int) + 1 := by omega
          have q11 : f < xs.length + 1 := by omega
          obtain ⟨q, hq⟩ : ∃ q, t = q + 1 := ⟨t - 1, by omega⟩
          have HQ := hid hq
          clear hq
          by_cases hSE : s + c * (Lp : Int) + E1 = E0
          · have k7 : (s + c * (Lp : Int) + E1 == E0) = true := by simpa using hSE
            have HRT := hid (show R = t by rw [← HCD.out]; exact HY.out q HQ.out hSE)
            clear hSE
            go_wp2_with fail
            go_quiet (fail)
            have e := HLP.out
            subst e
            have hownq : OwnS (w3.drewN nq) w.heap.size wr.heap.size _ L := hown3
            have hwq : Wc (w3.drewN nq) (w.heap.size + 1) 0 (xs.length + 1) (bst xs dn s c xs.length) := hw3
            have r3q : Rw (w3.drewN nq) wr.heap.size w3.heap.size (.slice a3 ps.length c3) ps := r3
            have bbq : Below w.heap.size w (w3.drewN nq) := bel_drewN bb3 nq
            have HSQ := hid (show (w3.drewN nq).heap.size = w3.heap.size from rfl)
            clear hown3 hw3 r3 bb3 g0 g1 q1 q2 q3 q4
            generalize w3.drewN nq = wq at *
            have HNE := hid (hownq.neI hwq)
            have hbq := bbq.size
            have p8 : I64 (t : Int) := by constructor <;> omega
            have p9 : L.length ≤ 1099511627776 := by omega
            have H8 := hid p8
            have H9 := hid p9
            clear p8 p9
            go_wp2_with (at_builtin; refine wpList_appS rfl _ _ rfl w.heap.size wr.heap.size w3.heap.size _ L _ _ ps _ (by rfl) hownq _ rfl (by rfl) r3q hbs s3 H8.out H9.out hbq ?_; intro v11 w11 hown11 hb11 hk11; have hw11 := hwq.same (hk11 _ hwq.lt HNE.out); clear hk11)
            have s11 := hb11.size
            go_roundw
            case rel => exact ⟨f + t, _, by omega, by go_num, hown11.up (by have := HSQ.out; omega), by rw [List.length_append, List.length_singleton]; omega, by rw [HRT.out, HPS.out] at HST; exact HST, hw11, bbq.trans hb11⟩
            case measure => simp [intOf]; omega
          · have k7 : (s + c * (Lp : Int) + E1 == E0) = false := by simpa using hSE
            have HRT := hid (show chD (xs.drop f) dn s c q = R by rw [← HCD.out]; exact (HNO.out q HQ.out hSE).symm)
            clear hSE
            go_wp2_with fail
            go_quiet (fail)
            clear q1 q2 q3 q4 q5 q6 q7 g0 g1
            have k8 : (t : Int) - 1 = (q : Int) := by have := HQ.out; omega
            go_wp2
            go_roundw
            case rel => exact ⟨q, by have := HQ.out; omega, rfl, rfl, HRT, hown3.up s3, hw3, bel_drewN bb3 _⟩
            case measure => simp [intOf]; omega
        · exfalso
          have := HCD.out
          rw [show t = 0 by omega] at this
          have h0 : chD (xs.drop f) dn s c 0 = 0 := rfl
          omega
    · obtain rfl : f = xs.length := by omega
      have HG := hid (show L = ck xs dn s c by have := HL2.out; rw [List.drop_length, ck_nil, List.append_nil] at this; exact this)
      rw [HG.out] at hown
      go_wp2
      go_ret2
      exact ⟨_, rfl, hown.rw (Nat.le_refl _) (Nat.le_refl _), hbel⟩
theorem c_l5RawCheapestPlan (w : World) (v : Value) (xs : List Int) (hv : IsI w w.heap.size v xs) (d s c : Int) :
    Calls Try.prog 65 #[v, .int .i64 d, .int .i64 s, .int .i64 c] w (RetSB w (ckL xs d s c) (ckB xs d s c)) := by
  have hE : OwnS (w.alloc (.cells #[] 36)) w.heap.size (w.alloc (.cells #[] 36)).heap.size (.slice (some ⟨w.heap.size, 0, none⟩) 0 0) [] := OwnS.empty w (Nat.le_refl _) rfl
  have bE := RetRow.e1 w (.cells #[] 36)
  have hvE := (hv.below bE (Nat.le_refl _))
  have HRW := hid (hE.rw (Nat.le_refl _) (Nat.le_refl _))
  by_cases hG : ckB xs d s c = true
  · obtain ⟨hS, hd, hs, hc⟩ := ckB_iff.1 hG
    obtain ⟨dn, rfl⟩ : ∃ dn : Nat, d = dn := ⟨d.toNat, by omega⟩
    rw [ckL_yes hG, hG]
    exact c_l5RawCheapestY w v xs hv dn s c hS (by omega) hs hc
  · have hG' : ckB xs d s c = false := by simpa using hG
    rw [ckL_no hG', hG']
    have HD : Hid (ckB xs d s c = (SM xs && (inB d 0 6 && csB s c))) := rfl
    clear hE hG
    by_cases hS : SM xs = true
    · by_cases hd : inB d 0 6 = true
      · have hc : csB s c = false := by
          have := HD.out
          rw [hG', hS, hd] at this
          simpa using this.symm
        clear hG'
        go_enter Try.func65, Try.ntmps65
        go_wp2_with fail
        refine (c_l5Small _ xs _ _ hvE).mono ?_
        rw [hS]
        rintro e wx ⟨rfl, rfl⟩
        go_wp2_with fail
        refine (c_l4Degree _ _).mono ?_
        rw [hd]
        rintro e wx ⟨rfl, rfl⟩
        go_wp2_with fail
        refine (c_l5Cost _ _ _).mono ?_
        rw [hc]
        rintro e wx ⟨rfl, rfl⟩
        go_wp2
        go_ret2
        exact ⟨_, rfl, HRW.out, bE⟩
      · have hd' : inB d 0 6 = false := by simpa using hd
        clear hd hG'
        go_enter Try.func65, Try.ntmps65
        go_wp2_with fail
        refine (c_l5Small _ xs _ _ hvE).mono ?_
        rw [hS]
        rintro e wx ⟨rfl, rfl⟩
        go_wp2_with fail
        refine (c_l4Degree _ _).mono ?_
        rw [hd']
        rintro e wx ⟨rfl, rfl⟩
        go_wp2
        go_ret2
        exact ⟨_, rfl, HRW.out, bE⟩
    · have hS' : SM xs = false := by simpa using hS
      clear hS hG'
      go_enter Try.func65, Try.ntmps65
      go_wp2_with fail
      refine (c_l5Small _ xs _ _ hvE).mono ?_
      rw [hS']
      rintro e wx ⟨rfl, rfl⟩
      go_wp2
      go_ret2
      exact ⟨_, rfl, HRW.out, bE⟩
theorem c_sCheapestPlan (w : World) (v : Value) (xs : List Int) (hv : IsI w w.heap.size v xs) (d s c : Int) :
    Calls Try.prog 25 #[v, .int .i64 d, .int .i64 s, .int .i64 c] w (RetSB w (ckL xs d s c) (ckB xs d s c)) := by
  have HF := hid (ckL_facts xs d s c)
  go_enter Try.func25, Try.ntmps25
  go_wp2_with fail
  refine (c_l5RawCheapestPlan _ _ xs hv d s c).mono ?_
  rintro e w1 ⟨v1, rfl, r1, b1⟩
  have s1 := b1.size
  go_wp2_with fail
  refine (c_l9OwnListSegment _ (ckL xs d s c) _ (by have := HF.out.1; omega) (fun i _ => by have := HF.out.2 i; omega) r1.isS).mono ?_
  rintro e w2 ⟨v2, rfl, r2, b2⟩
  go_wp2
  go_ret2
  exact ⟨_, rfl, r2.down s1, b1.trans (b2.mono s1)⟩
end Go.Proofs.Ytkiebajggombiaa
