/- What is proved here: contracts of GreedyPlan (spec and impl). -/
import Derived.Test.YtkiebajggombiaaPlnO
import Derived.Test.YtkiebajggombiaaGrM
import Derived.Test.YtkiebajggombiaaLrn
import Derived.Test.YtkiebajggombiaaSgm
set_option linter.unusedVariables false
set_option linter.unusedSimpArgs false
namespace Go.Proofs.Ytkiebajggombiaa
open Go.RowKit

theorem pO_le7 {L : List (Int × List Int)} (h : ∀ i, (pP L i).length ≤ 7) : ∀ k, pO L k ≤ 8 * k := by
  intro k
  induction k with
  | zero => exact Nat.le_refl _
  | succ k ih => have := h k; rw [pO_succ]; omega
theorem pZ_small {L : List (Int × List Int)} (h1 : L.length ≤ 60) (h : ∀ i, (pP L i).length ≤ 7) : pZ L ≤ 480 := by
  have := pO_le7 h L.length; unfold pZ; omega
theorem gr_step {xs : List Int} {d f : Nat} (hS : SM xs = true) (hd : d ≤ 6) (hf : f < xs.length) {L : List (Int × List Int)} (h : L ++ gr (xs.drop f) d = gr xs d) :
    L ++ [(((lgN (xs.drop f) d : Nat) : Int), rnL ((xs.drop f).take (lgN (xs.drop f) d)) d)] ++ gr (xs.drop (f + lgN (xs.drop f) d)) d = gr xs d := by
  rw [gr_cons (SM_drop hS hf) hd, List.drop_drop] at h
  rw [List.append_assoc]; exact h
set_option maxRecDepth 100000 in
set_option maxHeartbeats 800000 in
theorem c_l5RawGreedyPlan (w : World) (v : Value) (xs : List Int) (hv : IsI w w.heap.size v xs) (d : Int) :
    Calls Try.prog 68 #[v, .int .i64 d] w (RetSB w (grL xs d) (grB xs d)) := by
  have hE : OwnS (w.alloc (.cells #[] 36)) w.heap.size (w.alloc (.cells #[] 36)).heap.size (.slice (some ⟨w.heap.size, 0, none⟩) 0 0) [] := OwnS.empty w (Nat.le_refl _) rfl
  have bE := RetRow.e1 w (.cells #[] 36)
  have hvE := (hv.below bE (Nat.le_refl _))
  have HE := hid hE
  have HRW := hid (hE.rw (Nat.le_refl _) (Nat.le_refl _))
  clear hE
  by_cases hS : SM xs = true
  · by_cases hd : inB d 0 6 = true
    · obtain ⟨d0, d1⟩ := inB_iff.1 hd
      obtain ⟨dn, rfl⟩ : ∃ dn : Nat, d = dn := ⟨d.toNat, by omega⟩
      have hG : grB xs dn = true := grB_iff.2 ⟨hS, d0, d1⟩
      have HL := hid (grL_yes hG)
      have h60 := SM_iff.1 hS
      have h61 := h60.2.1
      have HS := hid hS
      have HD := hid hd
      have hdn : dn ≤ 6 := by omega
      rw [HL.out, hG]
      obtain ⟨a0, cap0, hva⟩ : ∃ a cap, v = .slice a xs.length cap := ⟨_, _, hv.choose_spec.choose_spec.1⟩
      subst hva
      have HSTEP := hid (fun f hf L h => @gr_step xs dn f hS hdn hf L h)
      have HSD := hid (fun f (hf : f < xs.length) => SM_drop hS hf)
      clear hS hd hG h60 hv
      go_enter Try.func68, Try.ntmps68
      go_wp2_with fail
      refine (c_l5Small _ xs _ _ hvE).mono ?_
      rw [HS.out]
      rintro e wx ⟨rfl, rfl⟩
      go_wp2_with fail
      refine (c_l4Degree _ _).mono ?_
      rw [HD.out]
      rintro e wx ⟨rfl, rfl⟩
      go_wp2
      go_loopw [0, 6] (fun v o wr => ∃ (f m : Nat) (a : Option Addr) (cap : Nat) (L : List (Int × List Int)), f + m = xs.length ∧ v = .slice a m cap ∧ IsI wr w.heap.size (.slice a m cap) (xs.drop f) ∧ OwnS wr w.heap.size wr.heap.size o L ∧ L.length ≤ f ∧ Hid (L ++ gr (xs.drop f) dn = gr xs dn) ∧ Below w.heap.size w wr) (fun v _ _ => match v with | .slice _ n _ => n | _ => 0)
      case atStart => exact ⟨0, xs.length, a0, cap0, [], by omega, rfl, hvE, HE.out, Nat.le_refl _, rfl, bE⟩
      case round =>
        clear hvE bE
        obtain ⟨f, m, a, cap, L, hfm, rfl, hvr, hown, hLf, HL2, hbel⟩ := hrel
        have hbs := hbel.size
        have hyl : (xs.drop f).length = m := by rw [List.length_drop]; omega
        by_cases hlt : 0 < m
        · have k1 : 0 < (m : Int) := by omega
          have hSD := HSD.out f (by omega)
          have HU := hid (lgN_U hSD hdn)
          obtain ⟨l1, l2, l3, l4⟩ := lgN_spec hSD hdn
          have HST := hid (HSTEP.out f (by omega) L HL2.out)
          rw [hyl] at l2
          have HYL := hid hyl
          obtain ⟨a', cap', hva, hmc, -, hcl⟩ := id hvr
          simp only [Value.slice.injEq] at hva
          obtain ⟨rfl, -, rfl⟩ := hva
          obtain ⟨b, off, rfl, hb, -⟩ := hcl 0 (by rw [HYL.out]; omega)
          unfold maxLen at hmc
          have hmc1 : m ≤ cap := by have := hmc.1; rw [HYL.out] at this; exact this
          have hmc2 := hmc.2.1
          clear hcl hmc l3 l4 hSD hyl
          go_wp2_with fail
          refine (c_l5Longest _ _ (xs.drop f) (hvr.up hbs) _ (by rw [HYL.out]; omega)).mono ?_
          rw [HU.out]
          rintro e w1 ⟨rfl, b1⟩
          generalize hn : lgN (xs.drop f) dn = n at *
          clear hn
          have s1 := b1.size
          have hv1 := hvr.below b1 (by omega)
          have k2 : (n : Int) ≤ cap := by omega
          have k3 : (n : Int) ≤ m := by omega
          have htk := hv1.take (show n ≤ (xs.drop f).length by rw [HYL.out]; omega)
          go_wp2_with fail
          refine (c_l5Run _ _ _ (htk.up (by omega)) dn).mono ?_
          rintro e w2 ⟨v2, rfl, r2, b2⟩
          have s2 := b2.size
          obtain ⟨a2, c2, hv2⟩ := r2.len
          subst hv2
          have hown2 := (hown.below b1 (Nat.le_refl _) (Nat.le_refl _)).below b2 (Nat.le_refl _) s1
          have bb := (hbel.trans (b1.mono hbs)).trans (b2.mono (by omega))
          have hv2 := hv1.below b2 (by omega)
          have r3 := r2.down s1
          clear htk hv1 hvr hown b1 b2 r2 hbel
          by_cases hcn : cap = n
          · subst hcn
            obtain rfl : m = cap := by omega
            go_wp2_with (at_builtin; refine wpList_appS rfl _ _ rfl w.heap.size wr.heap.size w2.heap.size _ L _ _ (rnL ((xs.drop f).take m) dn) _ (by rfl) hown2 _ rfl (by rfl) r3 (by omega) (by omega) (by constructor <;> omega) (by omega) (by omega) ?_; intro v11 w11 hown11 hb11 _)
            have s11 := hb11.size
            go_roundw
            case rel =>
              refine ⟨f + m, 0, some ⟨b, off, none⟩, 0, _, by omega, rfl, ?_, hown11.up (by omega), by rw [List.length_append, List.length_singleton]; omega, HST, bb.trans hb11⟩
              rw [List.drop_eq_nil_of_le (by omega)]
              exact ⟨_, 0, rfl, ⟨Nat.zero_le _, Nat.zero_le _, fun h => by cases h⟩, R64.nil, fun i hi => by simp at hi⟩
            case measure => simp; omega
          · have q1 : ¬ cap = n := hcn
            have q2 : (n : Int) < cap := by omega
            have hsub := hv2.sub (lo := n) (m := m - n) (by rw [HYL.out]; omega)
            go_wp2_with (at_builtin; refine wpList_appS rfl _ _ rfl w.heap.size wr.heap.size w2.heap.size _ L _ _ (rnL ((xs.drop f).take n) dn) _ (by rfl) hown2 _ rfl (by rfl) r3 (by omega) (by omega) (by constructor <;> omega) (by omega) (by omega) ?_; intro v11 w11 hown11 hb11 _)
            have s11 := hb11.size
            go_roundw
            case rel =>
              refine ⟨f + n, m - n, some ⟨b, off + n, none⟩, cap - n, _, by omega, rfl, ?_, hown11.up (by omega), by rw [List.length_append, List.length_singleton]; omega, HST, bb.trans hb11⟩
              rw [List.drop_drop, List.take_of_length_le (by rw [List.length_drop]; omega)] at hsub
              exact hsub.below hb11 (Nat.le_refl _)
            case measure => simp; omega
        · obtain rfl : m = 0 := by omega
          have HG := hid (show L = gr xs dn by have := HL2.out; rw [List.eq_nil_of_length_eq_zero (show (xs.drop f).length = 0 by omega), gr_nil, List.append_nil] at this; exact this)
          rw [HG.out] at hown
          go_wp2
          go_ret2
          exact ⟨_, rfl, hown.rw (Nat.le_refl _) (Nat.le_refl _), hbel⟩
    · have hd' : inB d 0 6 = false := by simpa using hd
      have hG : grB xs d = false := by simp [grB, hd']
      rw [grL_no hG, hG]
      clear hd
      go_enter Try.func68, Try.ntmps68
      go_wp2_with fail
      refine (c_l5Small _ xs _ _ hvE).mono ?_
      rw [hS]
      rintro e wx ⟨rfl, rfl⟩
      go_wp2_with fail
      refine (c_l4Degree _ _).mono ?_
      rw [hd']
      rintro e wx ⟨rfl, rfl⟩
      go_wp2
      go_ret2
      exact ⟨_, rfl, HRW.out, bE⟩
  · have hS' : SM xs = false := by simpa using hS
    have hG : grB xs d = false := by simp [grB, hS']
    rw [grL_no hG, hG]
    clear hS
    go_enter Try.func68, Try.ntmps68
    go_wp2_with fail
    refine (c_l5Small _ xs _ _ hvE).mono ?_
    rw [hS']
    rintro e wx ⟨rfl, rfl⟩
    go_wp2
    go_ret2
    exact ⟨_, rfl, HRW.out, bE⟩
theorem c_sGreedyPlan (w : World) (v : Value) (xs : List Int) (hv : IsI w w.heap.size v xs) (d : Int) :
    Calls Try.prog 29 #[v, .int .i64 d] w (RetSB w (grL xs d) (grB xs d)) := by
  have hF := grL_facts xs d
  have HF := hid hF
  clear hF
  go_enter Try.func29, Try.ntmps29
  go_wp2_with fail
  refine (c_l5RawGreedyPlan _ _ xs hv d).mono ?_
  rintro e w1 ⟨v1, rfl, r1, b1⟩
  have s1 := b1.size
  go_wp2_with fail
  refine (c_l9OwnListSegment _ (grL xs d) _ (by have := HF.out.1; omega) (fun i _ => by have := HF.out.2 i; omega) r1.isS).mono ?_
  rintro e w2 ⟨v2, rfl, r2, b2⟩
  go_wp2
  go_ret2
  exact ⟨_, rfl, r2.down s1, b1.trans (b2.mono s1)⟩
set_option maxRecDepth 100000 in
set_option maxHeartbeats 800000 in
theorem c_iGreedyPlan (w : World) (v : Value) (xs : List Int) (hv : IsI w w.heap.size v xs) (d : Int) :
    Calls Try.prog 28 #[v, .int .i64 d] w (RetSB w (grL xs d) (grB xs d)) := by
  by_cases hS : SM xs = true
  · by_cases hd : inB d 0 6 = true
    · obtain ⟨d0, d1⟩ := inB_iff.1 hd
      obtain ⟨dn, rfl⟩ : ∃ dn : Nat, d = dn := ⟨d.toNat, by omega⟩
      have hG : grB xs dn = true := grB_iff.2 ⟨hS, d0, d1⟩
      have HL := hid (grL_yes hG)
      have h60 := SM_iff.1 hS
      have h61 := h60.2.1
      have HS := hid hS
      have HD := hid hd
      have hdn : dn ≤ 6 := by omega
      rw [HL.out, hG]
      obtain ⟨a0, cap0, hva⟩ : ∃ a cap, v = .slice a xs.length cap := ⟨_, _, hv.choose_spec.choose_spec.1⟩
      subst hva
      have HSTEP := hid (fun f hf L h => @gr_step xs dn f hS hdn hf L h)
      have HSD := hid (fun f (hf : f < xs.length) => SM_drop hS hf)
      have HLR := hid (fun f (hf : f ≤ xs.length) => (lrF_yes (d := dn) hS hdn hf).1)
      have HSG := hid (fun (f n : Nat) (hf : f < xs.length) (hn : 1 ≤ n ∧ n ≤ xs.length - f) (hr : rnOk ((xs.drop f).take n) dn = true) => sg_yes (xs := xs) (f := f) (c := n) (d := dn) (by
        unfold sgOk; rw [hS, hd, inB_yes (by omega) (by omega), inB_yes (by omega) (by omega)]; simpa using hr))
      have HOK := hid (fun (f n : Nat) (hf : f < xs.length) (hn : 1 ≤ n ∧ n ≤ xs.length - f) (hr : rnOk ((xs.drop f).take n) dn = true) => (show sgOk xs f n dn = true by
        unfold sgOk; rw [hS, hd, inB_yes (by omega) (by omega), inB_yes (by omega) (by omega)]; simpa using hr))
      clear hS hd hG h60
      go_enter Try.func28, Try.ntmps28
      go_wp2_with fail
      refine (c_smallTable _ xs _ _ hv).mono ?_
      rw [HS.out]
      rintro e wx ⟨rfl, rfl⟩
      go_wp2_with fail
      refine (c_degreeValid _ _).mono ?_
      rw [HD.out]
      rintro e wx ⟨rfl, rfl⟩
      go_wp2
      go_loopw [6, 7] (fun o i wr => ∃ (f : Nat) (L : List (Int × List Int)), f ≤ xs.length ∧ i = .int .i64 f ∧ OwnS wr w.heap.size wr.heap.size o L ∧ L.length ≤ f ∧ Hid (L ++ gr (xs.drop f) dn = gr xs dn) ∧ Below w.heap.size w wr) (fun _ i _ => xs.length - (intOf i).toNat)
      case atStart => exact ⟨0, [], Nat.zero_le _, rfl, OwnS.nil _ _ _, Nat.le_refl _, rfl, Below.refl _ _⟩
      case round =>
        obtain ⟨f, L, hf, rfl, hown, hLf, HL2, hbel⟩ := hrel
        have hbs := hbel.size
        by_cases hlt : f < xs.length
        · have hSD := HSD.out f hlt
          obtain ⟨l1, l2, l3, l4⟩ := lgN_spec hSD hdn
          have HST := hid (HSTEP.out f hlt L HL2.out)
          have HLN := hid (show lrF xs f dn = (lgN (xs.drop f) dn : Nat) by rw [HLR.out f hf]; unfold lgN; rw [List.length_drop])
          rw [List.length_drop] at l2
          have HGG := hid (HSG.out f _ hlt ⟨l1, l2⟩ l3)
          have HOO := hid (HOK.out f _ hlt ⟨l1, l2⟩ l3)
          generalize hn : lgN (xs.drop f) dn = n at *
          have HN := hid hn
          have hv1 := (hv.below hbel (Nat.le_refl _)).up hbs
          clear l3 l4 hSD hn
          go_wp2_with fail
          refine (c_iLongestRun _ _ xs hv1 _ _).mono ?_
          rw [HLN.out]
          rintro e w1 ⟨rfl, b1⟩
          have s1 := b1.size
          have hv2 := (hv1.below b1 (Nat.le_refl _)).up s1
          go_wp2_with fail
          refine (c_iSegmentOf _ _ xs hv2 _ _ _).mono ?_
          rw [HGG.out.1, HGG.out.2, HOO.out]
          rintro e w2 ⟨v2, rfl, r2, b2⟩
          have s2 := b2.size
          rw [show (n : Int).toNat = n by omega, show (f : Int).toNat = f by omega] at r2
          obtain ⟨a2, c2, hv2e⟩ := r2.len
          subst hv2e
          have hown2 := (hown.below b1 (Nat.le_refl _) (Nat.le_refl _)).below b2 (Nat.le_refl _) s1
          have hne := fun k h => (hown2.lt k h).2
          have bA := RetRow.e1 w2 (.cells #[.int .i64 (n : Int), .slice a2 (rnL ((xs.drop f).take n) dn).length c2] 36)
          have hG0 := seg_alloc_cells w2 (.int .i64 (n : Int)) (.slice a2 (rnL ((xs.drop f).take n) dn).length c2) 36
          have HG0 := hid hG0
          have HNE := hid hne
          have hown3 := hown2.below bA (Nat.le_refl _) (by omega)
          have r3 := (r2.below bA (Nat.le_refl _)).down s1
          have bb := (hbel.trans (b1.mono hbs)).trans (b2.mono (by omega))
          have b3 := bb.trans (bA.mono (by omega))
          have hsA : (w2.alloc (.cells #[.int .i64 (n : Int), .slice a2 (rnL ((xs.drop f).take n) dn).length c2] 36)).heap.size = w2.heap.size + 1 := by simp
          clear hv1 hv2 hown b1 b2 r2 hbel hG0 hne bA hown2 bb
          go_wp2_with (at_builtin; refine wpList_appS rfl _ _ rfl w.heap.size wr.heap.size w2.heap.size _ L _ _ (rnL ((xs.drop f).take n) dn) _ (by rfl) hown3 _ hsA (by rfl) r3 (by omega) (by omega) (by constructor <;> omega) (by omega) (by omega) ?_; intro v11 w11 hown11 hb11 hk11; have HK := hid (seg_cells ((hk11 w2.heap.size (by omega) (fun h => by have := HNE.out _ h; omega)).trans HG0.out) (.int .i64 0)).1; have hcz := HK.out; clear hk11)
          have s11 := hb11.size
          go_roundw
          case rel => exact ⟨f + n, _, by omega, by go_num, hown11.up (by omega), by rw [List.length_append, List.length_singleton]; omega, by rw [← HN.out] at HST ⊢; exact HST, b3.trans hb11⟩
          case measure => simp [intOf]; omega
        · obtain rfl : f = xs.length := by omega
          have HG := hid (show L = gr xs dn by have := HL2.out; rw [List.drop_length, gr_nil, List.append_nil] at this; exact this)
          rw [HG.out] at hown
          go_wp2
          go_ret2
          exact ⟨_, rfl, hown.rw (Nat.le_refl _) (Nat.le_refl _), hbel⟩
    · have hd' : inB d 0 6 = false := by simpa using hd
      have hG : grB xs d = false := by simp [grB, hd']
      rw [grL_no hG, hG]
      clear hd
      go_enter Try.func28, Try.ntmps28
      go_wp2_with fail
      refine (c_smallTable _ xs _ _ hv).mono ?_
      rw [hS]
      rintro e wx ⟨rfl, rfl⟩
      go_wp2_with fail
      refine (c_degreeValid _ _).mono ?_
      rw [hd']
      rintro e wx ⟨rfl, rfl⟩
      go_wp2
      go_ret2
      exact ⟨_, rfl, RwS.nil _ _ _, Below.refl _ _⟩
  · have hS' : SM xs = false := by simpa using hS
    have hG : grB xs d = false := by simp [grB, hS']
    rw [grL_no hG, hG]
    clear hS
    go_enter Try.func28, Try.ntmps28
    go_wp2_with fail
    refine (c_smallTable _ xs _ _ hv).mono ?_
    rw [hS']
    rintro e wx ⟨rfl, rfl⟩
    go_wp2
    go_ret2
    exact ⟨_, rfl, RwS.nil _ _ _, Below.refl _ _⟩
end Go.Proofs.Ytkiebajggombiaa
